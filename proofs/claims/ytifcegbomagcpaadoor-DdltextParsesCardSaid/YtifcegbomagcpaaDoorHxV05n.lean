/-
  HxV05n: the value that a text begins with, as the document reads it: her pieces; the numbers.
-/
import Derived.Test.YtifcegbomagcpaaDoorHxV05m
namespace Hx
open Go
set_option linter.unusedSimpArgs false
set_option linter.unusedVariables false
set_option maxHeartbeats 8000000
set_option maxRecDepth 20000
variable {E : Env}
attribute [-simp] List.getD_eq_getElem?_getD getElem?_pos
def XCode.fst : XCode → XCode | .seq a _ => a | c => c
def XCode.snd : XCode → XCode | .seq _ b => b | c => c
def r5A : XCode := Fn.f_haulageref05_Read.body.fst
def r5B : XCode := Fn.f_haulageref05_Read.body.snd.fst
def r5C : XCode := Fn.f_haulageref05_Read.body.snd.snd.fst
def r5D : XCode := Fn.f_haulageref05_Read.body.snd.snd.snd.fst
def r5E : XCode := Fn.f_haulageref05_Read.body.snd.snd.snd.snd.fst
def r5F : XCode := Fn.f_haulageref05_Read.body.snd.snd.snd.snd.snd
theorem rd_body : Fn.f_haulageref05_Read.body = .seq r5A (.seq r5B (.seq r5C (.seq r5D (.seq r5E r5F)))) := rfl
def r5M : Mem := [.cells [.p (.int .i64 0), .p (.int .i64 0), .p (.str [])]]
def RdMid (s : List UInt8) (st : St) : Prop := st.ds = [] ∧ st.m = r5M ∧ st.ts.length = 119 ∧ st.ts.getD 0 (.tup []) = .p (.str s) ∧ st.ts.getD 2 (.tup []) = .ptr 0 0
def RdEnd (r : Rd) (st : St) : Prop := st.ds = [] ∧ st.ts.length = 119 ∧ st.ts.getD 2 (.tup []) = .ptr 0 0 ∧ st.m[0]? = some (.cells [.p (.int .i64 r.1), .p (.int .i64 r.2.1), .p (.str r.2.2.1)]) ∧ st.ts.getD 3 (.tup []) = .p (.int .i64 r.2.2.2.1) ∧ st.ts.getD 4 (.tup []) = .p (.int .i64 r.2.2.2.2)
def RdQ (s : List UInt8) (r : Rd) (done : Bool) (e : Ex) (st : St) : Prop := if done then e = .ret ∧ RdEnd r st else e = .norm ∧ RdMid s st
theorem rd_C (u : P05 E) (q : R05 E) (c : UInt8) (r s : List UInt8) (hS : c :: r = s) (hs : (s.length : Int) ≤ 1000000000) (j : Nat) (hk : s.length + 300 ≤ j + 2) (st : St) (hst : RdMid s st) :
    Wp (den E (denF E (j + 2)) (j + 2) r5C st) (RdQ s (cleanR (numN s)) (decide (c = 45 ∨ isDig c = true))) := by
  have hN := fun m => ref_Number u.m q.number s (by omega) (j + 1) (by omega) m
  have g45 : ((45 : UInt8).toNat : Int) = 45 := rfl
  have hs0 : s[0]? = some c := by rw [← hS]; rfl
  have hse : (s == []) = false := by rw [← hS]; rfl
  have hsl : 0 < s.length := by rw [← hS]; simp
  have hdg : isDig c = (decide ((48 : Int) ≤ c.toNat) && decide ((c.toNat : Int) ≤ 57)) := by
    unfold isDig
    have e1 : decide (48 ≤ c.toNat) = decide ((48 : Int) ≤ c.toNat) := by simp; omega
    have e2 : decide (c.toNat ≤ 57) = decide ((c.toNat : Int) ≤ 57) := by simp; omega
    rw [e1, e2]
  obtain ⟨v, e, z, hNn, hzl, hv⟩ := numS_info s
  rw [numN_of hNn]
  rw [hNn] at hN
  unfold numT at hN
  have hF := fun m => ref_Fits u.w.v.f (j - 39) v m
  rw [show j - 39 + 41 = j + 2 by omega] at hF
  have wz : IntKind.i64.wrap ((z : Int) + 1) = z + 1 := wrap_i64 (by omega) (by omega)
  obtain ⟨ts, m', ds⟩ := st
  obtain ⟨h1, h2, h3, g4, g5⟩ := hst
  simp only at h1 h2 h3 g4 g5
  subst h1 h2
  unfold r5M
  have hx : ts = [ts.getD 0 (.tup []), ts.getD 1 (.tup []), ts.getD 2 (.tup []), ts.getD 3 (.tup []), ts.getD 4 (.tup []), ts.getD 5 (.tup []), ts.getD 6 (.tup []), ts.getD 7 (.tup []), ts.getD 8 (.tup []), ts.getD 9 (.tup []), ts.getD 10 (.tup []), ts.getD 11 (.tup []), ts.getD 12 (.tup []), ts.getD 13 (.tup []), ts.getD 14 (.tup []), ts.getD 15 (.tup []), ts.getD 16 (.tup []), ts.getD 17 (.tup []), ts.getD 18 (.tup []), ts.getD 19 (.tup []), ts.getD 20 (.tup []), ts.getD 21 (.tup []), ts.getD 22 (.tup []), ts.getD 23 (.tup []), ts.getD 24 (.tup []), ts.getD 25 (.tup []), ts.getD 26 (.tup []), ts.getD 27 (.tup []), ts.getD 28 (.tup []), ts.getD 29 (.tup []), ts.getD 30 (.tup []), ts.getD 31 (.tup []), ts.getD 32 (.tup []), ts.getD 33 (.tup []), ts.getD 34 (.tup []), ts.getD 35 (.tup []), ts.getD 36 (.tup []), ts.getD 37 (.tup []), ts.getD 38 (.tup []), ts.getD 39 (.tup []), ts.getD 40 (.tup []), ts.getD 41 (.tup []), ts.getD 42 (.tup []), ts.getD 43 (.tup []), ts.getD 44 (.tup []), ts.getD 45 (.tup []), ts.getD 46 (.tup []), ts.getD 47 (.tup []), ts.getD 48 (.tup []), ts.getD 49 (.tup []), ts.getD 50 (.tup []), ts.getD 51 (.tup []), ts.getD 52 (.tup []), ts.getD 53 (.tup []), ts.getD 54 (.tup []), ts.getD 55 (.tup []), ts.getD 56 (.tup []), ts.getD 57 (.tup []), ts.getD 58 (.tup []), ts.getD 59 (.tup []), ts.getD 60 (.tup []), ts.getD 61 (.tup []), ts.getD 62 (.tup []), ts.getD 63 (.tup []), ts.getD 64 (.tup []), ts.getD 65 (.tup []), ts.getD 66 (.tup []), ts.getD 67 (.tup []), ts.getD 68 (.tup []), ts.getD 69 (.tup []), ts.getD 70 (.tup []), ts.getD 71 (.tup []), ts.getD 72 (.tup []), ts.getD 73 (.tup []), ts.getD 74 (.tup []), ts.getD 75 (.tup []), ts.getD 76 (.tup []), ts.getD 77 (.tup []), ts.getD 78 (.tup []), ts.getD 79 (.tup []), ts.getD 80 (.tup []), ts.getD 81 (.tup []), ts.getD 82 (.tup []), ts.getD 83 (.tup []), ts.getD 84 (.tup []), ts.getD 85 (.tup []), ts.getD 86 (.tup []), ts.getD 87 (.tup []), ts.getD 88 (.tup []), ts.getD 89 (.tup []), ts.getD 90 (.tup []), ts.getD 91 (.tup []), ts.getD 92 (.tup []), ts.getD 93 (.tup []), ts.getD 94 (.tup []), ts.getD 95 (.tup []), ts.getD 96 (.tup []), ts.getD 97 (.tup []), ts.getD 98 (.tup []), ts.getD 99 (.tup []), ts.getD 100 (.tup []), ts.getD 101 (.tup []), ts.getD 102 (.tup []), ts.getD 103 (.tup []), ts.getD 104 (.tup []), ts.getD 105 (.tup []), ts.getD 106 (.tup []), ts.getD 107 (.tup []), ts.getD 108 (.tup []), ts.getD 109 (.tup []), ts.getD 110 (.tup []), ts.getD 111 (.tup []), ts.getD 112 (.tup []), ts.getD 113 (.tup []), ts.getD 114 (.tup []), ts.getD 115 (.tup []), ts.getD 116 (.tup []), ts.getD 117 (.tup []), ts.getD 118 (.tup [])] := expand_ts 119 ts h3
  rw [hx]
  by_cases hnm : c = 45 ∨ isDig c = true
  · rw [decide_eq_true hnm]
    have hq' : (((c.toNat : Int) == 45) = true ∧ True ∧ True) ∨ (((c.toNat : Int) == 45) = false ∧ (48 : Int) ≤ c.toNat ∧ (c.toNat : Int) ≤ 57) := by
      cases h1 : ((c.toNat : Int) == 45) with
      | true => exact .inl ⟨rfl, trivial, trivial⟩
      | false =>
        rcases hnm with h | h
        · subst h
          rw [g45] at h1
          cases h1
        · rw [hdg] at h
          simp only [Bool.and_eq_true, decide_eq_true_eq] at h
          exact .inr ⟨rfl, h.1, h.2⟩
    by_cases he : e = 0
    · subst he
      rw [if_neg (by simp)]
      by_cases hzl2 : z < s.length
      · have hzl3 : (z : Int) < s.length := by omega
        obtain ⟨d, hd⟩ : ∃ d, s[z]? = some d := ⟨_, List.getElem?_eq_getElem hzl2⟩
        rw [hd]
        have g108 : ((108 : UInt8).toNat : Int) = 108 := rfl
        by_cases h108 : d = 108
        · subst h108
          rw [if_pos rfl]
          unfold cleanR
          rcases hq' with ⟨x1, x2, x3⟩ | ⟨x1, x2, x3⟩ <;>
            simp (maxSteps := 1000000) [r5C, g4, g5, XCode.fst, XCode.snd, Fn.f_haulageref05_Read, hse, hs0, hsl, x1, x2, x3, hN, hzl3, hd, wz, bne, asNat, asInt, RdQ, RdEnd]
        · have b108 := u8ne h108
          rw [g108] at b108
          rw [if_neg (by simpa using h108)]
          unfold cleanR
          cases hf : fits32 v with
          | true =>
            rw [hf] at hF
            rcases hq' with ⟨x1, x2, x3⟩ | ⟨x1, x2, x3⟩ <;>
              simp (maxSteps := 1000000) [r5C, g4, g5, XCode.fst, XCode.snd, Fn.f_haulageref05_Read, hse, hs0, hsl, x1, x2, x3, hN, hzl3, hd, b108, hF, bne, asNat, asInt, RdQ, RdEnd]
          | false =>
            rw [hf] at hF
            rcases hq' with ⟨x1, x2, x3⟩ | ⟨x1, x2, x3⟩ <;>
              simp (maxSteps := 1000000) [r5C, g4, g5, XCode.fst, XCode.snd, Fn.f_haulageref05_Read, hse, hs0, hsl, x1, x2, x3, hN, hzl3, hd, b108, hF, bne, asNat, asInt, RdQ, RdEnd, badR]
      · have hzl3 : ¬ (z : Int) < s.length := by omega
        have hd : s[z]? = none := List.getElem?_eq_none (by omega)
        rw [hd, if_neg (by simp)]
        unfold cleanR
        cases hf : fits32 v with
        | true =>
          rw [hf] at hF
          rcases hq' with ⟨x1, x2, x3⟩ | ⟨x1, x2, x3⟩ <;>
            simp (maxSteps := 1000000) [r5C, g4, g5, XCode.fst, XCode.snd, Fn.f_haulageref05_Read, hse, hs0, hsl, x1, x2, x3, hN, hzl3, hF, bne, asNat, asInt, RdQ, RdEnd]
        | false =>
          rw [hf] at hF
          rcases hq' with ⟨x1, x2, x3⟩ | ⟨x1, x2, x3⟩ <;>
            simp (maxSteps := 1000000) [r5C, g4, g5, XCode.fst, XCode.snd, Fn.f_haulageref05_Read, hse, hs0, hsl, x1, x2, x3, hN, hzl3, hF, bne, asNat, asInt, RdQ, RdEnd, badR]
    · rw [if_pos he]
      have he' : (e == 0) = false := by simpa using he
      have ec : cleanR (badR e) = badR e := by unfold cleanR badR; simp
      rw [ec]
      rcases hq' with ⟨x1, x2, x3⟩ | ⟨x1, x2, x3⟩ <;>
        simp (maxSteps := 1000000) [r5C, g4, g5, XCode.fst, XCode.snd, Fn.f_haulageref05_Read, hse, hs0, hsl, x1, x2, x3, hN, he', bne, asNat, asInt, RdQ, RdEnd, badR]
  · rw [decide_eq_false hnm]
    have h45 : ((c.toNat : Int) == 45) = false := by
      have := u8ne (c := c) (d := 45) (fun h => hnm (.inl h))
      rwa [g45] at this
    have hdq : ((48 : Int) ≤ c.toNat ∧ ¬ (c.toNat : Int) ≤ 57) ∨ (¬ (48 : Int) ≤ c.toNat ∧ True) := by
      have : isDig c = false := by
        cases h : isDig c with
        | false => rfl
        | true => exact absurd (.inr h) hnm
      rw [hdg] at this
      simp only [Bool.and_eq_false_iff, decide_eq_false_iff_not] at this
      by_cases h : (48 : Int) ≤ c.toNat
      · exact .inl ⟨h, by omega⟩
      · exact .inr ⟨h, trivial⟩
    rcases hdq with ⟨x1, x2⟩ | ⟨x1, x2⟩ <;>
      simp (maxSteps := 1000000) [r5C, g4, g5, XCode.fst, XCode.snd, Fn.f_haulageref05_Read, hse, hs0, hsl, h45, x1, x2, bne, asNat, asInt, RdQ, RdMid, r5M]
end Hx
