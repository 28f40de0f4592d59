/-
  HxU10a: the program's reader of changes: blanks, words, signs, names.
-/
import Derived.Test.YtifcegbomagcpaaDoorHxU05c
import Derived.Test.YtifcegbomagcpaaDoorHxU06
import Derived.Test.YtifcegbomagcpaaDoorHxU05g
import Derived.Test.YtifcegbomagcpaaDoorHxV05b
import Derived.Test.YtifcegbomagcpaaDoorHxFn10
namespace Hx
open Go
set_option linter.unusedSimpArgs false
set_option linter.unusedVariables false
set_option maxHeartbeats 8000000
variable {E : Env}
attribute [-simp] List.getD_eq_getElem?_getD getElem?_pos
def wInt : List UInt8 := [105, 110, 116]
def wLong : List UInt8 := [108, 111, 110, 103]
def wText : List UInt8 := [116, 101, 120, 116]
def wBytes : List UInt8 := [98, 121, 116, 101, 115]
def kindW (s : List UInt8) : Int := if wInt == s then 1 else if wLong == s then 2 else if wText == s then 3 else if wBytes == s then 4 else 0
structure T06s (E : Env) : Prop where
  right : E.fn 84 = some Fn.f_typ_Right
  long : E.fn 95 = some Fn.f_typ_long
structure X06 (E : Env) : Prop where
  n04 : N04 E
  m05 : M05 E
  t06 : T06s E
  words : E.gl 2 = [.str [], .str [105, 110, 116], .str [108, 111, 110, 103], .str [116, 101, 120, 116], .str [98, 121, 116, 101, 115]]
  kindOf : E.fn 98 = some Fn.f_typ_kindOf
  read : E.fn 89 = some Fn.f_typ_Read
  print : E.fn 93 = some Fn.f_typ_Print
  vdigits : E.fn 39 = some Fn.f_value_Digits
def KInv (s : List UInt8) (i : Nat) (st : St) : Prop := (1 ≤ i ∧ i ≤ 5 ∧ (1 < i → (wInt == s) = false) ∧ (2 < i → (wLong == s) = false) ∧ (3 < i → (wText == s) = false) ∧ (4 < i → (wBytes == s) = false)) ∧ Live Fn.f_typ_kindOf_k0 (Fn.f_typ_kindOf_s0 (.p (.str s)) (.p (.int .i64 i))) [] st
theorem KInv.mk {s : List UInt8} {i : Nat} {st : St} (h : 1 ≤ i ∧ i ≤ 5 ∧ (1 < i → (wInt == s) = false) ∧ (2 < i → (wLong == s) = false) ∧ (3 < i → (wText == s) = false) ∧ (4 < i → (wBytes == s) = false)) (l : Live Fn.f_typ_kindOf_k0 (Fn.f_typ_kindOf_s0 (.p (.str s)) (.p (.int .i64 i))) [] st) : KInv s i st := ⟨h, l⟩
theorem typ_kindOf (u : X06 E) (k : Nat) (hk : 10 ≤ k) (s : List UInt8) (m : Mem) : denF E (k + 1) 98 [.p (.str s)] m = some (.ret (.p (.int .i64 (kindW s))), m) := by
  refine denF_wp u.kindOf rfl (args' := [.p (.str s)]) rfl ?_
  have hg := u.words
  simp [Fn.f_typ_kindOf]
  refine (loop_wp (α := Nat) (I := fun i st => KInv s i st) (meas := fun i => 5 - i)
    (Q := fun e st => st.ds = [] ∧ ((e = .exit 0 ∧ kindW s = 0 ∧ st.ts.length = 14) ∨ (e = .ret ∧ st.ts.getD 2 (.tup []) = .p (.int .i64 (kindW s))))) ?_ k 1 _ (KInv.mk ⟨by omega, by omega, by omega, by omega, by omega, by omega⟩ ⟨rfl, rfl, rfl, rfl⟩) (by omega)).mono ?_
  · rintro i st ⟨⟨h1, h5, a1, a2, a3, a4⟩, hlive⟩
    rw [loopF_live hlive]
    have : i = 1 ∨ i = 2 ∨ i = 3 ∨ i = 4 ∨ i = 5 := by omega
    have w1 : IntKind.i64.wrap (1 + 1) = 2 := rfl
    have w2 : IntKind.i64.wrap (2 + 1) = 3 := rfl
    have w3 : IntKind.i64.wrap (3 + 1) = 4 := rfl
    have w4 : IntKind.i64.wrap (4 + 1) = 5 := rfl
    have v2 : IntKind.i64.wrap 2 = 2 := rfl
    have v3 : IntKind.i64.wrap 3 = 3 := rfl
    have v4 : IntKind.i64.wrap 4 = 4 := rfl
    have v5 : IntKind.i64.wrap 5 = 5 := rfl
    unfold kindW
    rcases this with rfl | rfl | rfl | rfl | rfl
    · cases hz : (wInt == s) with
      | true =>
        have hz' : ([105, 110, 116] == s) = true := hz
        simp [Fn.f_typ_kindOf_b0, Fn.f_typ_kindOf_s0, hg, hz', asNat, asInt]
      | false =>
        have hz' : ([105, 110, 116] == s) = false := hz
        simp [Fn.f_typ_kindOf_b0, Fn.f_typ_kindOf_s0, hg, hz', asNat, asInt, v2]
        exact ⟨2, by omega, KInv.mk ⟨by omega, by omega, fun _ => hz, by omega, by omega, by omega⟩ ⟨rfl, rfl, rfl, rfl⟩⟩
    · have b1 := a1 (by omega)
      cases hz : (wLong == s) with
      | true =>
        have hz' : ([108, 111, 110, 103] == s) = true := hz
        simp [Fn.f_typ_kindOf_b0, Fn.f_typ_kindOf_s0, hg, hz', asNat, asInt, b1]
      | false =>
        have hz' : ([108, 111, 110, 103] == s) = false := hz
        simp [Fn.f_typ_kindOf_b0, Fn.f_typ_kindOf_s0, hg, hz', asNat, asInt, v3]
        exact ⟨3, by omega, KInv.mk ⟨by omega, by omega, fun _ => b1, fun _ => hz, by omega, by omega⟩ ⟨rfl, rfl, rfl, rfl⟩⟩
    · have b1 := a1 (by omega)
      have b2 := a2 (by omega)
      cases hz : (wText == s) with
      | true =>
        have hz' : ([116, 101, 120, 116] == s) = true := hz
        simp [Fn.f_typ_kindOf_b0, Fn.f_typ_kindOf_s0, hg, hz', asNat, asInt, b1, b2]
      | false =>
        have hz' : ([116, 101, 120, 116] == s) = false := hz
        simp [Fn.f_typ_kindOf_b0, Fn.f_typ_kindOf_s0, hg, hz', asNat, asInt, v4]
        exact ⟨4, by omega, KInv.mk ⟨by omega, by omega, fun _ => b1, fun _ => b2, fun _ => hz, by omega⟩ ⟨rfl, rfl, rfl, rfl⟩⟩
    · have b1 := a1 (by omega)
      have b2 := a2 (by omega)
      have b3 := a3 (by omega)
      cases hz : (wBytes == s) with
      | true =>
        have hz' : ([98, 121, 116, 101, 115] == s) = true := hz
        simp [Fn.f_typ_kindOf_b0, Fn.f_typ_kindOf_s0, hg, hz', asNat, asInt, b1, b2, b3]
      | false =>
        have hz' : ([98, 121, 116, 101, 115] == s) = false := hz
        simp [Fn.f_typ_kindOf_b0, Fn.f_typ_kindOf_s0, hg, hz', asNat, asInt, v5]
        exact ⟨5, by omega, KInv.mk ⟨by omega, by omega, fun _ => b1, fun _ => b2, fun _ => b3, fun _ => hz⟩ ⟨rfl, rfl, rfl, rfl⟩⟩
    · have b1 := a1 (by omega)
      have b2 := a2 (by omega)
      have b3 := a3 (by omega)
      have b4 := a4 (by omega)
      simp [Fn.f_typ_kindOf_b0, Fn.f_typ_kindOf_s0, b1, b2, b3, b4]
  · rintro e st ⟨h0, h⟩
    obtain ⟨ts, m', ds⟩ := st
    simp only at h0 h
    subst h0
    rcases h with ⟨rfl, h1, h2⟩ | ⟨rfl, h1⟩
    · rw [h1]
      match ts, h2 with
      | t0 :: t1 :: t2 :: t3 :: t4 :: t5 :: t6 :: t7 :: t8 :: t9 :: t10 :: t11 :: t12 :: t13 :: [], h2 => simp
    · simp [h1]
def rT (k m size e : Int) : AV := .tup [.p (tP k m), .p (.int .i64 size), .p (.int .i64 e)]
def nN : AV → Int
  | .tup [.p (.int _ n), _, _] => n
  | _ => 0
def nS : AV → Int
  | .tup [_, .p (.int _ n), _] => n
  | _ => 0
def nE : AV → Int
  | .tup [_, _, .p (.int _ n)] => n
  | _ => 0
theorem numS_form (s : List UInt8) : ∃ (v e : Int) (z : Nat), numS s = numT v z e ∧ z ≤ s.length := by
  unfold numS
  generalize hb : (s.head? == some 45) = neg
  have hl : ahead neg + (runD neg s).length ≤ s.length := by
    have h1 : ahead neg ≤ s.length := by
      cases neg with
      | false => exact Nat.zero_le _
      | true =>
        cases s with
        | nil => simp at hb
        | cons c r => simp [ahead]
    unfold runD
    have := (List.takeWhile_prefix isDig (l := s.drop (ahead neg))).length_le
    rw [List.length_drop] at this
    omega
  unfold numO
  split
  · exact ⟨0, 5, 0, rfl, Nat.zero_le _⟩
  split
  · exact ⟨_, 0, _, rfl, hl⟩
  · exact ⟨0, 10, 0, rfl, Nat.zero_le _⟩
def readT (s : List UInt8) : AV :=
  if kindW (s.take (nameLen s)) = 1 ∨ kindW (s.take (nameLen s)) = 2 then rT (kindW (s.take (nameLen s))) 0 (nameLen s) 0
  else if kindW (s.take (nameLen s)) = 0 ∨ s[nameLen s]? ≠ some 40 then rT 0 0 0 5
  else if nE (numS (s.drop (nameLen s + 1))) ≠ 0 then rT 0 0 0 (nE (numS (s.drop (nameLen s + 1))))
  else if s[nameLen s + 1 + (nS (numS (s.drop (nameLen s + 1)))).toNat]? ≠ some 41 then rT 0 0 0 5
  else if nN (numS (s.drop (nameLen s + 1))) < 1 ∨ 120 < nN (numS (s.drop (nameLen s + 1))) then rT 0 0 0 10
  else rT (kindW (s.take (nameLen s))) (nN (numS (s.drop (nameLen s + 1)))) ((nameLen s : Int) + 1 + nS (numS (s.drop (nameLen s + 1))) + 1) 0
end Hx

namespace Hx
open Go
set_option linter.unusedSimpArgs false
set_option linter.unusedVariables false
set_option maxHeartbeats 8000000
variable {E : Env}
attribute [-simp] List.getD_eq_getElem?_getD getElem?_pos
theorem head_drop (s : List UInt8) (n : Nat) (c : UInt8) : ((s.drop n).head? == some c) = decide (s[n]? = some c) := by
  rw [Bool.eq_iff_iff, List.head?_drop]
  simp
theorem readT_cases (s : List UInt8) (Q : Prop) {n : Nat} (hn : nameLen s = n) {kd : Int} (hk : kindW (s.take n) = kd) {v e : Int} {z : Nat} (hN : numS (s.drop (n + 1)) = numT v z e)
    (q1 : kd = 1 ∨ kd = 2 → readT s = rT kd 0 n 0 → Q)
    (q0 : ¬ (kd = 1 ∨ kd = 2) → kd = 0 → readT s = rT 0 0 0 5 → Q)
    (q2 : ¬ (kd = 1 ∨ kd = 2) → kd ≠ 0 → s[n]? ≠ some 40 → readT s = rT 0 0 0 5 → Q)
    (q3 : ¬ (kd = 1 ∨ kd = 2) → kd ≠ 0 → s[n]? = some 40 → e ≠ 0 → readT s = rT 0 0 0 e → Q)
    (q4 : ¬ (kd = 1 ∨ kd = 2) → kd ≠ 0 → s[n]? = some 40 → e = 0 → s[n + 1 + z]? ≠ some 41 → readT s = rT 0 0 0 5 → Q)
    (q5 : ¬ (kd = 1 ∨ kd = 2) → kd ≠ 0 → s[n]? = some 40 → e = 0 → s[n + 1 + z]? = some 41 → (v < 1 ∨ 120 < v) → readT s = rT 0 0 0 10 → Q)
    (q6 : ¬ (kd = 1 ∨ kd = 2) → kd ≠ 0 → s[n]? = some 40 → e = 0 → s[n + 1 + z]? = some 41 → ¬ (v < 1 ∨ 120 < v) → readT s = rT kd v (n + 1 + z + 1) 0 → Q) : Q := by
  have hr : readT s = if kd = 1 ∨ kd = 2 then rT kd 0 n 0 else if kd = 0 ∨ s[n]? ≠ some 40 then rT 0 0 0 5 else if e ≠ 0 then rT 0 0 0 e
      else if s[n + 1 + z]? ≠ some 41 then rT 0 0 0 5 else if v < 1 ∨ 120 < v then rT 0 0 0 10 else rT kd v (n + 1 + z + 1) 0 := by
    unfold readT
    rw [hn, hk, hN]
    have e1 : nE (numT v z e) = e := rfl
    have e2 : nS (numT v z e) = z := rfl
    have e3 : nN (numT v z e) = v := rfl
    rw [e1, e2, e3, Int.toNat_natCast]
  by_cases h1 : kd = 1 ∨ kd = 2
  · exact q1 h1 (by rw [hr, if_pos h1])
  rw [if_neg h1] at hr
  by_cases h0 : kd = 0
  · exact q0 h1 h0 (by rw [hr, if_pos (.inl h0)])
  by_cases h2 : s[n]? = some 40
  · rw [if_neg (fun h => h.elim h0 (fun g => g h2))] at hr
    by_cases h3 : e = 0
    · rw [if_neg (by simpa using h3)] at hr
      by_cases h4 : s[n + 1 + z]? = some 41
      · rw [if_neg (by simpa using h4)] at hr
        by_cases h5 : v < 1 ∨ 120 < v
        · exact q5 h1 h0 h2 h3 h4 h5 (by rw [hr, if_pos h5])
        · exact q6 h1 h0 h2 h3 h4 h5 (by rw [hr, if_neg h5])
      · exact q4 h1 h0 h2 h3 h4 (by rw [hr, if_pos h4])
    · exact q3 h1 h0 h2 h3 (by rw [hr, if_pos h3])
  · exact q2 h1 h0 h2 (by rw [hr, if_pos (.inr h2)])
theorem typ_Read (u : X06 E) (s : List UInt8) (hs : (s.length : Int) ≤ 1000000000) (k : Nat) (hk : s.length + 40 ≤ k) (m : Mem) : denF E (k + 1) 89 [.p (.str s)] m = some (.ret (readT s), m) := by
  refine denF_wp u.read rfl (args' := [.p (.str s)]) rfl ?_
  obtain ⟨j, rfl⟩ : ∃ j, k = j + 2 := ⟨k - 2, by omega⟩
  have hA := fun m => name_Read u.n04 s (by omega) (j + 1) (by omega) m
  have hn := nameLen_le s
  obtain ⟨n, hnn⟩ : ∃ n, nameLen s = n := ⟨_, rfl⟩
  rw [hnn] at hA hn
  have hB := fun m => typ_kindOf u (j + 1) (by omega) (s.take n) m
  obtain ⟨kd, hkd⟩ : ∃ kd, kindW (s.take n) = kd := ⟨_, rfl⟩
  rw [hkd] at hB
  have hC := fun m => has_prefix1 u.m05 j (s.drop n) 40 m
  rw [head_drop] at hC
  obtain ⟨v, e, z, hN, hz⟩ := numS_form (s.drop (n + 1))
  have hD := fun m => value_Number u.m05 (s.drop (n + 1)) (by rw [List.length_drop]; omega) (j + 1) (by rw [List.length_drop]; omega) m
  rw [hN] at hD
  rw [List.length_drop] at hz
  have hF := fun m => has_prefix1 u.m05 j (s.drop (n + 1 + z)) 41 m
  rw [head_drop] at hF
  have w1 : IntKind.i64.wrap ((n : Int) + 1) = n + 1 := wrap_i64 (by omega) (by omega)
  have t1 : ((n : Int) + 1).toNat = n + 1 := by omega
  have p1 : (0 : Int) ≤ (n : Int) + 1 := by omega
  unfold numT at hD
  refine readT_cases s _ hnn hkd hN ?_ ?_ ?_ ?_ ?_ ?_ ?_
  · intro h1 hr
    rw [hr]
    rcases h1 with rfl | rfl
    · simp (maxSteps := 1000000) [Fn.f_typ_Read, hA, hB, hn, bounds, asNat, asInt, rT, tP]
    · simp (maxSteps := 1000000) [Fn.f_typ_Read, hA, hB, hn, bounds, asNat, asInt, rT, tP]
  · intro h1 h0 hr
    rw [hr]
    subst h0
    simp (maxSteps := 1000000) [Fn.f_typ_Read, hA, hB, hn, bounds, asNat, asInt, rT, tP]
  all_goals
    intro h1 h0
    have b1 : (kd == 1) = false := by simp; omega
    have b2 : (kd == 2) = false := by simp; omega
    have b0 : (kd == 0) = false := by simpa using h0
  · intro h2 hr
    rw [hr]
    rw [decide_eq_false h2] at hC
    simp (maxSteps := 1000000) [Fn.f_typ_Read, hA, hB, hn, bounds, asNat, asInt, b0, b1, b2, hC, rT, tP]
  all_goals
    intro h2
    have hlt : n < s.length := (List.getElem?_eq_some_iff.1 h2).1
    have hlt' : n + 1 ≤ s.length := hlt
    have hz2 : n + 1 + z ≤ s.length := by omega
    have w2 : IntKind.i64.wrap ((n : Int) + 1 + z) = n + 1 + z := wrap_i64 (by omega) (by omega)
    have t2 : ((n : Int) + 1 + z).toNat = n + 1 + z := by omega
    have p2 : (0 : Int) ≤ (n : Int) + 1 + z := by omega
    have w3 : IntKind.i64.wrap ((n : Int) + 1 + z + 1) = n + 1 + z + 1 := wrap_i64 (by omega) (by omega)
    rw [decide_eq_true h2] at hC
  · intro h3 hr
    rw [hr]
    have e0 : (e == 0) = false := by simpa using h3
    simp (maxSteps := 1000000) [Fn.f_typ_Read, hA, hB, hn, bounds, asNat, asInt, b0, b1, b2, hC, w1, t1, p1, hlt', hD, e0, bne, rT, tP]
  all_goals
    intro h3
    subst h3
  · intro h4 hr
    rw [hr]
    rw [decide_eq_false h4] at hF
    simp (maxSteps := 1000000) [Fn.f_typ_Read, hA, hB, hn, bounds, asNat, asInt, b0, b1, b2, hC, w1, t1, p1, hlt', hD, w2, t2, p2, hz2, hF, bne, rT, tP]
  · intro h4 h5 hr
    rw [hr]
    rw [decide_eq_true h4] at hF
    by_cases g1 : v < 1
    · simp (maxSteps := 1000000) [Fn.f_typ_Read, hA, hB, hn, bounds, asNat, asInt, b0, b1, b2, hC, w1, t1, p1, hlt', hD, w2, t2, p2, hz2, hF, bne, rT, tP, g1]
    · have g2 : 120 < v := by omega
      simp (maxSteps := 1000000) [Fn.f_typ_Read, hA, hB, hn, bounds, asNat, asInt, b0, b1, b2, hC, w1, t1, p1, hlt', hD, w2, t2, p2, hz2, hF, bne, rT, tP, g1, g2]
  · intro h4 h5 hr
    rw [hr]
    rw [decide_eq_true h4] at hF
    have g1 : ¬ v < 1 := by omega
    have g2 : ¬ 120 < v := by omega
    simp (maxSteps := 1000000) [Fn.f_typ_Read, hA, hB, hn, bounds, asNat, asInt, b0, b1, b2, hC, w1, t1, p1, hlt', hD, w2, t2, p2, hz2, hF, bne, rT, tP, g1, g2, w3]
end Hx

namespace Hx
open Go
set_option linter.unusedSimpArgs false
set_option linter.unusedVariables false
set_option maxHeartbeats 8000000
variable {E : Env}
attribute [-simp] List.getD_eq_getElem?_getD getElem?_pos
end Hx

namespace Hx
open Go Go.RowKit
def strData {H : Type} (zs : List (List UInt8)) : DataW H := .agg (zs.map fun z => .lit (.string z))
def strV (z : List UInt8) : Value := .string ⟨z.toArray⟩
theorem cells_of_strs {H : Type} {enc : TypeId × Value → H} {P : Program} {w : World} {base : Nat} {sp : Nat → Bool} {held : Bool} {fuel : Nat} {t e : TypeId} {n : Nat} {cs : List Value} {zs : List (List UInt8)} {p : List MemPlace}
    (ht : P.underlying t = some (.array n e)) (he : P.underlying e = some .string) (hce : P.cellsOf e = 1) (hct : P.cellsOf t = n)
    (h : DataW.trod enc P w base sp held fuel t cs = some (strData zs, p)) : cs = zs.map strV := by
  cases fuel with
  | zero => simp [DataW.trod] at h
  | succ fuel =>
    simp only [DataW.trod, ht, hce, hct, Nat.mul_one] at h
    split at h
    · rename_i hl
      obtain ⟨xs, hm, hx⟩ := Option.map_eq_some_iff.1 h
      have hxs : xs.map (·.1) = zs.map fun z => (DataW.lit (.string z) : DataW H) := by
        have := congrArg Prod.fst hx
        simpa [strData] using this
      have hxl : xs.length = n := by simpa using Lib.mapM_length hm
      have hzl : zs.length = n := by
        have := congrArg List.length hxs
        simp at this
        omega
      apply List.ext_getElem?
      intro i
      by_cases hi : i < n
      · obtain ⟨b, hb, hf⟩ := Lib.mapM_at hm i i (by simp [hi])
        obtain ⟨z, hc, rfl, _⟩ := DataW.trod_string he hf
        have h1 : cs[i]? = some (.string z) := by
          have := congrArg (·[0]?) hc
          simpa [List.getElem?_take, List.getElem?_drop] using this
        have h2 : (xs.map (·.1))[i]? = some (DataW.lit (.string z.data.toList) : DataW H) := by simp [hb]
        rw [hxs] at h2
        simp only [List.getElem?_map, Option.map_eq_some_iff, DataW.lit.injEq, Lit.string.injEq] at h2
        obtain ⟨z', hz', hzz⟩ := h2
        subst hzz
        rw [h1, List.getElem?_map, hz']
        rfl
      · rw [List.getElem?_eq_none (by omega), List.getElem?_eq_none (by simp; omega)]
    · cases h
theorem strs_of {P : Program} {W : World} {name : String} {zs : List (List UInt8)} {rest : List (String × DataW Unit)} {g : Nat} {t e : TypeId} {n : Nat}
    (hg : P.globalNamed name = some g) (hty : (P.globals[g]?).map (·.type) = some t) (ht : P.underlying t = some (.array n e)) (he : P.underlying e = some .string) (hce : P.cellsOf e = 1) (hct : P.cellsOf t = n)
    (h : laidMet P ((name, strData zs) :: rest) W) : W.var? P name = some (zs.map strV).toArray := by
  obtain ⟨ps, ⟨g', t', cs, fuel, p, q, hg', ht', hvar, hd, _, _⟩, _⟩ := h
  obtain rfl := Option.some.inj (hg.symm.trans hg')
  obtain rfl := Option.some.inj (hty.symm.trans ht')
  rw [hvar, ← cells_of_strs ht he hce hct hd]
theorem gl_strs {F : Fix} {W : World} {name : String} {g : Nat} : ∀ {zs : List (List UInt8)} {n : Nat}, (∀ i, i < zs.length → W.cell? ⟨g, n + i, none⟩ = (zs.map strV)[i]?) → RPcells F (cx0 W) g n (zs.map .str)
  | [], n, _ => by simp [RPcells]
  | z :: zs, n, h => by
    simp only [List.map_cons, RPcells]
    have h0 := h 0 (by simp)
    simp only [Nat.add_zero, List.map_cons, List.getElem?_cons_zero] at h0
    refine ⟨⟨cx0_safe.2 ?_, rfl, _, h0, by simp [RP, strV]⟩, gl_strs (name := name) fun i hi => ?_⟩
    · simp only [World.cell?] at h0
      cases hh : W.heap[g]? with
      | none => rw [hh] at h0; cases h0
      | some o => exact (Array.getElem?_eq_some_iff.1 hh).1
    · have := h (i + 1) (by simpa using hi)
      rw [show n + 1 + i = n + (i + 1) by omega]
      simpa using this
end Hx

namespace Hx
open Go
inductive PR (α : Type) where
  | bad (e : Int) (r : List UInt8)
  | ok (v : α) (r : List UInt8)
def PR.bind {α β : Type} (p : PR α) (f : α → List UInt8 → PR β) : PR β := match p with
  | .bad e r => .bad e r
  | .ok v r => f v r
def isBl (c : UInt8) : Bool := (c.toNat : Int) == 32 || ((c.toNat : Int) == 9 || (c.toNat : Int) == 10)
def skipB (r : List UInt8) : List UInt8 := r.dropWhile isBl
def wordOf (r : List UInt8) : List UInt8 := r.take (nameLen r)
def rightN (w : List UInt8) : Bool := !w.isEmpty && (decide (w.length ≤ 16) && decide (nameLen w = w.length))
def pName (r : List UInt8) : PR (List UInt8) :=
  if wordOf (skipB r) = [] then .bad 5 (skipB r) else if rightN (wordOf (skipB r)) then .ok (wordOf (skipB r)) ((skipB r).drop (wordOf (skipB r)).length) else .bad 8 (skipB r)
def pTake (w r : List UInt8) : Bool × List UInt8 := if wordOf (skipB r) = w then (true, (skipB r).drop w.length) else (false, skipB r)
def pWant (w r : List UInt8) : PR Unit := if wordOf (skipB r) = w then .ok () ((skipB r).drop w.length) else .bad 5 (skipB r)
def pSign (c : UInt8) (r : List UInt8) : Bool × List UInt8 := if (skipB r).head? = some c then (true, (skipB r).tail) else (false, skipB r)
def pWantS (c : UInt8) (r : List UInt8) : PR Unit := if (skipB r).head? = some c then .ok () (skipB r).tail else .bad 5 (skipB r)
def placeOf10 (s r : List UInt8) : Nat := s.length - r.length
theorem drop_place {s : List UInt8} {i : Nat} (h : i ≤ s.length) : s.drop (placeOf10 s (skipB (s.drop i))) = skipB (s.drop i) := by
  have hs : skipB (s.drop i) <:+ s := (List.dropWhile_suffix isBl).trans (List.drop_suffix i s)
  obtain ⟨t, ht⟩ := hs
  unfold placeOf10
  generalize skipB (s.drop i) = q at *
  subst ht
  rw [List.length_append, Nat.add_sub_cancel, List.drop_left]
theorem skipB_cons (c : UInt8) (r : List UInt8) : skipB (c :: r) = if isBl c then skipB r else c :: r := by
  unfold skipB
  rw [List.dropWhile_cons]
end Hx

namespace Hx
open Go
set_option linter.unusedSimpArgs false
set_option linter.unusedVariables false
set_option maxHeartbeats 4000000
variable {E : Env}
attribute [-simp] List.getD_eq_getElem?_getD getElem?_pos
def rdCells (s : List UInt8) (i : Nat) : Blk := .cells [.p (.str s), .p (.int .i64 i)]
theorem rd_left (h : E.fn 239 = some Fn.f_ddltext_reader_left) (s : List UInt8) (hs : (s.length : Int) ≤ 1000000000) (i : Nat) (hi : i ≤ s.length) (k : Nat) (hk : s.length + 4 ≤ k) (id : Nat) (m : Mem) (hm : m[id]? = some (rdCells s i)) :
    denF E (k + 1) 239 [.ptr id 0] m = some (.ret (.p (.str (skipB (s.drop i)))), m.set id (rdCells s (placeOf10 s (skipB (s.drop i))))) := by
  refine denF_wp_own h rfl ?_
  have hid : id < m.length := by
    rcases Nat.lt_or_ge id m.length with hl | hl
    · exact hl
    · rw [List.getElem?_eq_none hl] at hm; cases hm
  have hself : ∀ x : Blk, (m.set id x)[id]? = some x := fun x => List.getElem?_set_self hid
  have hset : ∀ x y : Blk, (m.set id x).set id y = m.set id y := fun x y => List.set_set ..
  have hm0 : m = m.set id (rdCells s i) := by
    obtain ⟨h1, h2⟩ := List.getElem?_eq_some_iff.1 hm
    rw [← h2, List.set_getElem_self]
  simp [Fn.f_ddltext_reader_left]
  refine (loop_wp (α := Nat) (I := fun j st => j ≤ s.length ∧ skipB (s.drop j) = skipB (s.drop i) ∧ Live Fn.f_ddltext_reader_left_k0 (Fn.f_ddltext_reader_left_s0 (.ptr id 0)) (m.set id (rdCells s j)) st) (meas := fun j => s.length - j)
    (Q := fun e st => e = .exit 0 ∧ st.ds = [] ∧ st.ts.length = 42 ∧ st.ts.getD 0 (.tup []) = .ptr id 0 ∧ st.m = m.set id (rdCells s (placeOf10 s (skipB (s.drop i))))) ?_ k i _ ⟨hi, rfl, rfl, rfl, hm0, rfl⟩ (by omega)).mono ?_
  · rintro j st ⟨hj, hsk, hlive⟩
    rw [loopF_live hlive]
    unfold rdCells at *
    by_cases hlt : j < s.length
    · have hlt' : (j : Int) < s.length := by omega
      obtain ⟨c, hc⟩ : ∃ c, s[j]? = some c := ⟨_, List.getElem?_eq_getElem hlt⟩
      rw [drop_at hc, skipB_cons] at hsk
      have hw : IntKind.i64.wrap ((j : Int) + 1) = ((j + 1 : Nat) : Int) := by rw [wrap_i64 (by omega) (by omega)]; omega
      unfold isBl at hsk
      have hstop : c :: s.drop (j + 1) = skipB (s.drop i) → j = placeOf10 s (skipB (s.drop i)) := by
        intro h
        unfold placeOf10
        rw [← h, ← drop_at hc, List.length_drop]
        omega
      cases h32 : ((c.toNat : Int) == 32) with
      | true =>
        rw [h32] at hsk
        simp only [Bool.true_or, if_true] at hsk
        simp [Fn.f_ddltext_reader_left_b0, Fn.f_ddltext_reader_left_s0, hid, hself, hset, hlt, hlt', hc, h32, hw, -Int.natCast_add]
        exact ⟨j + 1, by omega, hlt, hsk, rfl, rfl, rfl, rfl⟩
      | false =>
        cases h9 : ((c.toNat : Int) == 9) with
        | true =>
          rw [h32, h9] at hsk
          simp only [Bool.true_or, Bool.or_true, if_true] at hsk
          simp [Fn.f_ddltext_reader_left_b0, Fn.f_ddltext_reader_left_s0, hid, hself, hset, hlt, hlt', hc, h32, h9, hw, -Int.natCast_add]
          exact ⟨j + 1, by omega, hlt, hsk, rfl, rfl, rfl, rfl⟩
        | false =>
          cases h10 : ((c.toNat : Int) == 10) with
          | true =>
            rw [h32, h9, h10] at hsk
            simp only [Bool.or_true, if_true] at hsk
            simp [Fn.f_ddltext_reader_left_b0, Fn.f_ddltext_reader_left_s0, hid, hself, hset, hlt, hlt', hc, h32, h9, h10, hw, -Int.natCast_add]
            exact ⟨j + 1, by omega, hlt, hsk, rfl, rfl, rfl, rfl⟩
          | false =>
            rw [h32, h9, h10] at hsk
            simp only [Bool.or_false, Bool.false_eq_true, if_false] at hsk
            have := hstop hsk
            simp [Fn.f_ddltext_reader_left_b0, Fn.f_ddltext_reader_left_s0, hid, hself, hset, hlt, hlt', hc, h32, h9, h10]
            rw [← this]
    · have hlt' : ¬ (j : Int) < s.length := by omega
      have hnil : s.drop j = [] := List.drop_eq_nil_of_le (by omega)
      rw [hnil] at hsk
      have : j = placeOf10 s (skipB (s.drop i)) := by
        unfold placeOf10
        rw [← hsk]
        simp [skipB]
        omega
      simp [Fn.f_ddltext_reader_left_b0, Fn.f_ddltext_reader_left_s0, hid, hself, hset, hlt, hlt']
      rw [← this]
  · rintro e st ⟨rfl, h1, h2, h3, h4⟩
    obtain ⟨ts, m', ds⟩ := st
    simp only at h1 h2 h3 h4
    subst h1 h4
    have hx : ts = [ts.getD 0 (.tup []), ts.getD 1 (.tup []), ts.getD 2 (.tup []), ts.getD 3 (.tup []), ts.getD 4 (.tup []), ts.getD 5 (.tup []), ts.getD 6 (.tup []), ts.getD 7 (.tup []), ts.getD 8 (.tup []), ts.getD 9 (.tup []), ts.getD 10 (.tup []), ts.getD 11 (.tup []), ts.getD 12 (.tup []), ts.getD 13 (.tup []), ts.getD 14 (.tup []), ts.getD 15 (.tup []), ts.getD 16 (.tup []), ts.getD 17 (.tup []), ts.getD 18 (.tup []), ts.getD 19 (.tup []), ts.getD 20 (.tup []), ts.getD 21 (.tup []), ts.getD 22 (.tup []), ts.getD 23 (.tup []), ts.getD 24 (.tup []), ts.getD 25 (.tup []), ts.getD 26 (.tup []), ts.getD 27 (.tup []), ts.getD 28 (.tup []), ts.getD 29 (.tup []), ts.getD 30 (.tup []), ts.getD 31 (.tup []), ts.getD 32 (.tup []), ts.getD 33 (.tup []), ts.getD 34 (.tup []), ts.getD 35 (.tup []), ts.getD 36 (.tup []), ts.getD 37 (.tup []), ts.getD 38 (.tup []), ts.getD 39 (.tup []), ts.getD 40 (.tup []), ts.getD 41 (.tup [])] := expand_ts 42 ts h2
    have hdp := drop_place hi
    have hle : placeOf10 s (skipB (s.drop i)) ≤ s.length := by unfold placeOf10; omega
    rw [hx]
    unfold rdCells at *
    simp [h3, hid, hself, hle, hdp]
end Hx
