/-
  HxU06g: types as texts.
-/
import Derived.Test.YtifcegbomagcpaaDoorHxV05l
import Derived.Test.YtifcegbomagcpaaDoorHxU05c
import Derived.Test.YtifcegbomagcpaaDoorHxU05b
namespace Hx
open Go
set_option linter.unusedSimpArgs false
set_option linter.unusedVariables false
set_option maxHeartbeats 8000000
set_option maxRecDepth 20000
variable {E : Env}
attribute [-simp] List.getD_eq_getElem?_getD getElem?_pos
def wNull : List UInt8 := [110, 117, 108, 108]
def readR (s : List UInt8) : Rd := match s with
  | [] => badR 5
  | c :: _ => if c = 45 ∨ isDig c = true then cleanR (numN s) else if c = 34 then cleanR (textN s) else if starts s [120, 34] = true then cleanR (hexN s)
    else if s.take (nameLen s) = wNull then (0, 0, [], 4, 0) else badR 5
theorem readR_cons (c : UInt8) (r : List UInt8) : readR (c :: r) = if c = 45 ∨ isDig c = true then cleanR (numN (c :: r)) else if c = 34 then cleanR (textN (c :: r)) else if starts (c :: r) [120, 34] = true then cleanR (hexN (c :: r))
    else if (c :: r).take (nameLen (c :: r)) = wNull then (0, 0, [], 4, 0) else badR 5 := rfl
theorem has_prefix2 (u : M05 E) (k : Nat) (s p : List UInt8) (m : Mem) : denF E (k + 2) 48 [.p (.str s), .p (.str p)] m = some (.ret (.p (.bool (starts s p))), m) := by
  have h : ∀ m, denF E (k + 1) 63 [.p (.str s), .p (.str p)] m = some (.ret (.p (.bool (starts s p))), m) := by
    intro m
    refine denF_wp u.has' rfl (args' := [.p (.str s), .p (.str p)]) rfl ?_
    unfold starts
    by_cases h : p.length ≤ s.length
    · have h1 : (p.length : Int) ≤ s.length := by omega
      simp [Fn.f_internal_stringslite_HasPrefix, h, h1, bounds, asNat, asInt]
    · have h1 : ¬ (p.length : Int) ≤ s.length := by omega
      simp [Fn.f_internal_stringslite_HasPrefix, h, h1]
  refine denF_wp u.has rfl (args' := [.p (.str s), .p (.str p)]) rfl ?_
  simp [Fn.f_strings_HasPrefix, h]
theorem value_Read (u : P05 E) (s : List UInt8) (hs : (s.length : Int) ≤ 1000000000) (k : Nat) (hk : s.length + 60 ≤ k) (m : Mem) : denF E (k + 1) 26 [.p (.str s)] m = some (.ret (rdV (readR s)), m) := by
  refine denF_wp u.read rfl (args' := [.p (.str s)]) rfl ?_
  obtain ⟨j, rfl⟩ : ∃ j, k = j + 2 := ⟨k - 2, by omega⟩
  cases s with
  | nil => simp [Fn.f_value_Read, readR, rdV, rT5, badR]
  | cons c r =>
    rw [readR_cons]
    have hdig := fun m => value_digit u.m.digit (j + 1) c m
    have hN := fun m => value_number u (c :: r) hs (j + 1) (by omega) m
    have hT := fun m => value_text u (c :: r) hs (j + 1) (by omega) m
    have hB := fun m => value_bytes u (c :: r) hs (j + 1) (by omega) m
    have hP := fun m => has_prefix2 u.m j (c :: r) [120, 34] m
    have hM := fun m => name_Read u.n (c :: r) (by omega) (j + 1) (by omega) m
    have hnl := nameLen_le (c :: r)
    have g45 : ((45 : UInt8).toNat : Int) = 45 := rfl
    have g34 : ((34 : UInt8).toNat : Int) = 34 := rfl
    rcases hNr : numN (c :: r) with ⟨n1, n2, n3, n4, n5⟩
    rcases hTr : textN (c :: r) with ⟨t1, t2, t3, t4, t5⟩
    rcases hBr : hexN (c :: r) with ⟨b1, b2, b3, b4, b5⟩
    rw [hNr] at hN
    rw [hTr] at hT
    rw [hBr] at hB
    unfold rdV rT5 at *
    simp only at hN hT hB
    unfold cleanR
    simp only
    generalize hS : (c :: r : List UInt8) = s at *
    have hs0 : s[0]? = some c := by rw [← hS]; rfl
    have hse : (s == []) = false := by rw [← hS]; rfl
    by_cases h45 : c = 45
    · subst h45
      rw [if_pos (.inl rfl)]
      by_cases h0 : n5 = 0
      · subst h0
        simp [Fn.f_value_Read, hse, hs0, hN, bne]
      · have : (n5 == 0) = false := by simpa using h0
        simp [Fn.f_value_Read, hse, hs0, hN, bne, this, h0, badR]
    have b45 := u8ne h45
    rw [g45] at b45
    cases hd : isDig c with
    | true =>
      rw [hd] at hdig
      rw [if_pos (.inr rfl)]
      by_cases h0 : n5 = 0
      · subst h0
        simp [Fn.f_value_Read, hse, hs0, hN, bne, b45, hdig]
      · have : (n5 == 0) = false := by simpa using h0
        simp [Fn.f_value_Read, hse, hs0, hN, bne, b45, hdig, this, h0, badR]
    | false =>
      rw [hd] at hdig
      rw [if_neg (by simp [h45])]
      by_cases h34 : c = 34
      · subst h34
        rw [g34] at hdig
        rw [if_pos rfl]
        by_cases h0 : t5 = 0
        · subst h0
          simp [Fn.f_value_Read, hse, hs0, hT, bne, hdig]
        · have : (t5 == 0) = false := by simpa using h0
          simp [Fn.f_value_Read, hse, hs0, hT, bne, hdig, this, h0, badR]
      have b34 := u8ne h34
      rw [g34] at b34
      rw [if_neg h34]
      cases hp : starts s [120, 34] with
      | true =>
        rw [hp] at hP
        rw [if_pos rfl]
        by_cases h0 : b5 = 0
        · subst h0
          simp [Fn.f_value_Read, hse, hs0, hB, hP, bne, b45, b34, hdig]
        · have : (b5 == 0) = false := by simpa using h0
          simp [Fn.f_value_Read, hse, hs0, hB, hP, bne, b45, b34, hdig, this, h0, badR]
      | false =>
        rw [hp] at hP
        rw [if_neg (by simp)]
        by_cases hz : s.take (nameLen s) = wNull
        · rw [if_pos hz]
          unfold wNull at hz
          simp [Fn.f_value_Read, hse, hs0, hP, bne, b45, b34, hdig, hM, hnl, hz, bounds, asNat, asInt]
        · rw [if_neg hz]
          have hz' : (s.take (nameLen s) == [110, 117, 108, 108]) = false := by simpa [wNull] using hz
          simp [Fn.f_value_Read, hse, hs0, hP, bne, b45, b34, hdig, hM, hnl, hz', bounds, asNat, asInt, badR]
end Hx

namespace Hx
open Go
set_option linter.unusedSimpArgs false
set_option linter.unusedVariables false
set_option maxHeartbeats 8000000
set_option maxRecDepth 20000
variable {E : Env}
attribute [-simp] List.getD_eq_getElem?_getD getElem?_pos
def XCode.fst : XCode → XCode | .seq a _ => a | c => c
def XCode.snd : XCode → XCode | .seq _ b => b | c => c
end Hx

namespace Hx
open Go
set_option linter.unusedSimpArgs false
set_option linter.unusedVariables false
set_option maxHeartbeats 8000000
set_option maxRecDepth 20000
variable {E : Env}
attribute [-simp] List.getD_eq_getElem?_getD getElem?_pos
end Hx

namespace Hx
open Go
set_option linter.unusedSimpArgs false
set_option linter.unusedVariables false
set_option maxHeartbeats 8000000
variable {E : Env}
attribute [-simp] List.getD_eq_getElem?_getD getElem?_pos
def wInt : List UInt8 := [105, 110, 116]
def wLong : List UInt8 := [108, 111, 110, 103]
def wText : List UInt8 := [116, 101, 120, 116]
def wBytes : List UInt8 := [98, 121, 116, 101, 115]
def kindW (s : List UInt8) : Int := if wInt == s then 1 else if wLong == s then 2 else if wText == s then 3 else if wBytes == s then 4 else 0
structure T06s (E : Env) : Prop where
  right : E.fn 84 = some Fn.f_typ_Right
  long : E.fn 95 = some Fn.f_typ_long
structure X06 (E : Env) : Prop where
  n04 : N04 E
  m05 : M05 E
  t06 : T06s E
  words : E.gl 2 = [.str [], .str [105, 110, 116], .str [108, 111, 110, 103], .str [116, 101, 120, 116], .str [98, 121, 116, 101, 115]]
  kindOf : E.fn 98 = some Fn.f_typ_kindOf
  read : E.fn 89 = some Fn.f_typ_Read
  print : E.fn 93 = some Fn.f_typ_Print
  vdigits : E.fn 39 = some Fn.f_value_Digits
def KInv (s : List UInt8) (i : Nat) (st : St) : Prop := (1 ≤ i ∧ i ≤ 5 ∧ (1 < i → (wInt == s) = false) ∧ (2 < i → (wLong == s) = false) ∧ (3 < i → (wText == s) = false) ∧ (4 < i → (wBytes == s) = false)) ∧ Live Fn.f_typ_kindOf_k0 (Fn.f_typ_kindOf_s0 (.p (.str s)) (.p (.int .i64 i))) [] st
theorem KInv.mk {s : List UInt8} {i : Nat} {st : St} (h : 1 ≤ i ∧ i ≤ 5 ∧ (1 < i → (wInt == s) = false) ∧ (2 < i → (wLong == s) = false) ∧ (3 < i → (wText == s) = false) ∧ (4 < i → (wBytes == s) = false)) (l : Live Fn.f_typ_kindOf_k0 (Fn.f_typ_kindOf_s0 (.p (.str s)) (.p (.int .i64 i))) [] st) : KInv s i st := ⟨h, l⟩
theorem typ_kindOf (u : X06 E) (k : Nat) (hk : 10 ≤ k) (s : List UInt8) (m : Mem) : denF E (k + 1) 98 [.p (.str s)] m = some (.ret (.p (.int .i64 (kindW s))), m) := by
  refine denF_wp u.kindOf rfl (args' := [.p (.str s)]) rfl ?_
  have hg := u.words
  simp [Fn.f_typ_kindOf]
  refine (loop_wp (α := Nat) (I := fun i st => KInv s i st) (meas := fun i => 5 - i)
    (Q := fun e st => st.ds = [] ∧ ((e = .exit 0 ∧ kindW s = 0 ∧ st.ts.length = 14) ∨ (e = .ret ∧ st.ts.getD 2 (.tup []) = .p (.int .i64 (kindW s))))) ?_ k 1 _ (KInv.mk ⟨by omega, by omega, by omega, by omega, by omega, by omega⟩ ⟨rfl, rfl, rfl, rfl⟩) (by omega)).mono ?_
  · rintro i st ⟨⟨h1, h5, a1, a2, a3, a4⟩, hlive⟩
    rw [loopF_live hlive]
    have : i = 1 ∨ i = 2 ∨ i = 3 ∨ i = 4 ∨ i = 5 := by omega
    have w1 : IntKind.i64.wrap (1 + 1) = 2 := rfl
    have w2 : IntKind.i64.wrap (2 + 1) = 3 := rfl
    have w3 : IntKind.i64.wrap (3 + 1) = 4 := rfl
    have w4 : IntKind.i64.wrap (4 + 1) = 5 := rfl
    have v2 : IntKind.i64.wrap 2 = 2 := rfl
    have v3 : IntKind.i64.wrap 3 = 3 := rfl
    have v4 : IntKind.i64.wrap 4 = 4 := rfl
    have v5 : IntKind.i64.wrap 5 = 5 := rfl
    unfold kindW
    rcases this with rfl | rfl | rfl | rfl | rfl
    · cases hz : (wInt == s) with
      | true =>
        have hz' : ([105, 110, 116] == s) = true := hz
        simp [Fn.f_typ_kindOf_b0, Fn.f_typ_kindOf_s0, hg, hz', asNat, asInt]
      | false =>
        have hz' : ([105, 110, 116] == s) = false := hz
        simp [Fn.f_typ_kindOf_b0, Fn.f_typ_kindOf_s0, hg, hz', asNat, asInt, v2]
        exact ⟨2, by omega, KInv.mk ⟨by omega, by omega, fun _ => hz, by omega, by omega, by omega⟩ ⟨rfl, rfl, rfl, rfl⟩⟩
    · have b1 := a1 (by omega)
      cases hz : (wLong == s) with
      | true =>
        have hz' : ([108, 111, 110, 103] == s) = true := hz
        simp [Fn.f_typ_kindOf_b0, Fn.f_typ_kindOf_s0, hg, hz', asNat, asInt, b1]
      | false =>
        have hz' : ([108, 111, 110, 103] == s) = false := hz
        simp [Fn.f_typ_kindOf_b0, Fn.f_typ_kindOf_s0, hg, hz', asNat, asInt, v3]
        exact ⟨3, by omega, KInv.mk ⟨by omega, by omega, fun _ => b1, fun _ => hz, by omega, by omega⟩ ⟨rfl, rfl, rfl, rfl⟩⟩
    · have b1 := a1 (by omega)
      have b2 := a2 (by omega)
      cases hz : (wText == s) with
      | true =>
        have hz' : ([116, 101, 120, 116] == s) = true := hz
        simp [Fn.f_typ_kindOf_b0, Fn.f_typ_kindOf_s0, hg, hz', asNat, asInt, b1, b2]
      | false =>
        have hz' : ([116, 101, 120, 116] == s) = false := hz
        simp [Fn.f_typ_kindOf_b0, Fn.f_typ_kindOf_s0, hg, hz', asNat, asInt, v4]
        exact ⟨4, by omega, KInv.mk ⟨by omega, by omega, fun _ => b1, fun _ => b2, fun _ => hz, by omega⟩ ⟨rfl, rfl, rfl, rfl⟩⟩
    · have b1 := a1 (by omega)
      have b2 := a2 (by omega)
      have b3 := a3 (by omega)
      cases hz : (wBytes == s) with
      | true =>
        have hz' : ([98, 121, 116, 101, 115] == s) = true := hz
        simp [Fn.f_typ_kindOf_b0, Fn.f_typ_kindOf_s0, hg, hz', asNat, asInt, b1, b2, b3]
      | false =>
        have hz' : ([98, 121, 116, 101, 115] == s) = false := hz
        simp [Fn.f_typ_kindOf_b0, Fn.f_typ_kindOf_s0, hg, hz', asNat, asInt, v5]
        exact ⟨5, by omega, KInv.mk ⟨by omega, by omega, fun _ => b1, fun _ => b2, fun _ => b3, fun _ => hz⟩ ⟨rfl, rfl, rfl, rfl⟩⟩
    · have b1 := a1 (by omega)
      have b2 := a2 (by omega)
      have b3 := a3 (by omega)
      have b4 := a4 (by omega)
      simp [Fn.f_typ_kindOf_b0, Fn.f_typ_kindOf_s0, b1, b2, b3, b4]
  · rintro e st ⟨h0, h⟩
    obtain ⟨ts, m', ds⟩ := st
    simp only at h0 h
    subst h0
    rcases h with ⟨rfl, h1, h2⟩ | ⟨rfl, h1⟩
    · rw [h1]
      match ts, h2 with
      | t0 :: t1 :: t2 :: t3 :: t4 :: t5 :: t6 :: t7 :: t8 :: t9 :: t10 :: t11 :: t12 :: t13 :: [], h2 => simp
    · simp [h1]
def rT (k m size e : Int) : AV := .tup [.p (tP k m), .p (.int .i64 size), .p (.int .i64 e)]
def nN : AV → Int
  | .tup [.p (.int _ n), _, _] => n
  | _ => 0
def nS : AV → Int
  | .tup [_, .p (.int _ n), _] => n
  | _ => 0
def nE : AV → Int
  | .tup [_, _, .p (.int _ n)] => n
  | _ => 0
theorem numS_form (s : List UInt8) : ∃ (v e : Int) (z : Nat), numS s = numT v z e ∧ z ≤ s.length := by
  unfold numS
  generalize hb : (s.head? == some 45) = neg
  have hl : ahead neg + (runD neg s).length ≤ s.length := by
    have h1 : ahead neg ≤ s.length := by
      cases neg with
      | false => exact Nat.zero_le _
      | true =>
        cases s with
        | nil => simp at hb
        | cons c r => simp [ahead]
    unfold runD
    have := (List.takeWhile_prefix isDig (l := s.drop (ahead neg))).length_le
    rw [List.length_drop] at this
    omega
  unfold numO
  split
  · exact ⟨0, 5, 0, rfl, Nat.zero_le _⟩
  split
  · exact ⟨_, 0, _, rfl, hl⟩
  · exact ⟨0, 10, 0, rfl, Nat.zero_le _⟩
def readT (s : List UInt8) : AV :=
  if kindW (s.take (nameLen s)) = 1 ∨ kindW (s.take (nameLen s)) = 2 then rT (kindW (s.take (nameLen s))) 0 (nameLen s) 0
  else if kindW (s.take (nameLen s)) = 0 ∨ s[nameLen s]? ≠ some 40 then rT 0 0 0 5
  else if nE (numS (s.drop (nameLen s + 1))) ≠ 0 then rT 0 0 0 (nE (numS (s.drop (nameLen s + 1))))
  else if s[nameLen s + 1 + (nS (numS (s.drop (nameLen s + 1)))).toNat]? ≠ some 41 then rT 0 0 0 5
  else if nN (numS (s.drop (nameLen s + 1))) < 1 ∨ 120 < nN (numS (s.drop (nameLen s + 1))) then rT 0 0 0 10
  else rT (kindW (s.take (nameLen s))) (nN (numS (s.drop (nameLen s + 1)))) ((nameLen s : Int) + 1 + nS (numS (s.drop (nameLen s + 1))) + 1) 0
end Hx
