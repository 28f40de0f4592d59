/-
  HxV05s: the value that a text begins with, as the document reads it: texts and bytes; all of it.
-/
import Derived.Test.YtifcegbomagcpaaDoorHxV05n
namespace Hx
open Go
set_option linter.unusedSimpArgs false
set_option linter.unusedVariables false
set_option maxHeartbeats 8000000
set_option maxRecDepth 20000
variable {E : Env}
attribute [-simp] List.getD_eq_getElem?_getD getElem?_pos
theorem ref_long (u : P05 E) (q : R05 E) (kind : Int) (hkind : kind = 3 ∨ kind = 4) (t : List UInt8) (z : Int) (hs : (t.length : Int) ≤ 1000000000) (k : Nat) (hk : t.length + 40 ≤ k) (m : Mem) :
    denF E (k + 1) 53 [.p (.int .i64 kind), .p (.str t), .p (.int .i64 z)] m = some (.ret (rdV (cleanR (if kind = 3 then textW t z else hexW t z))), m) := by
  refine denF_wp q.long rfl (args' := [.p (.int .i64 kind), .p (.str t), .p (.int .i64 z)]) rfl ?_
  obtain ⟨j, rfl⟩ : ∃ j, k = j + 1 := ⟨k - 1, by omega⟩
  have hR := fun m => ref_Right u.w.v.r t (by omega) j (by omega) m
  by_cases h : 120 < t.length
  · have h' : (120 : Int) < t.length := by omega
    rcases hkind with rfl | rfl <;> simp [Fn.f_haulageref05_long, h, h', textW, hexW, cleanR, rdV, rT5, badR]
  · have h' : ¬ (120 : Int) < t.length := by omega
    rcases hkind with rfl | rfl
    · cases hr : (signs t).isSome with
      | true =>
        rw [hr] at hR
        simp [Fn.f_haulageref05_long, h, h', textW, hexW, cleanR, rdV, rT5, hR, hr]
      | false =>
        rw [hr] at hR
        simp [Fn.f_haulageref05_long, h, h', textW, hexW, cleanR, rdV, rT5, badR, hR, hr]
    · simp [Fn.f_haulageref05_long, h, h', textW, hexW, cleanR, rdV, rT5]
theorem null_head {c : UInt8} {r : List UInt8} {n : Nat} (h : (c :: r).take n = wNull) : c = 110 := by
  cases n with
  | zero => cases h
  | succ n => exact List.head_eq_of_cons_eq h
def nullB (s : List UInt8) : Bool := decide (nameLen s = 4) && (s.take 4 == [110, 117, 108, 108])
theorem rd_B (u : P05 E) (s : List UInt8) (hs : (s.length : Int) ≤ 1000000000) (j : Nat) (hk : s.length + 300 ≤ j + 2) (st : St) (hst : RdMid s st) :
    Wp (den E (denF E (j + 2)) (j + 2) r5B st) (RdQ s (0, 0, [], 4, 0) (nullB s)) := by
  have hM := fun m => ref_NRead u.n s (by omega) (j + 1) (by omega) m
  have hnl := nameLen_le s
  obtain ⟨ts, m', ds⟩ := st
  obtain ⟨h1, h2, h3, g4, g5⟩ := hst
  simp only at h1 h2 h3 g4 g5
  subst h1 h2
  unfold r5M nullB
  have hx : ts = [ts.getD 0 (.tup []), ts.getD 1 (.tup []), ts.getD 2 (.tup []), ts.getD 3 (.tup []), ts.getD 4 (.tup []), ts.getD 5 (.tup []), ts.getD 6 (.tup []), ts.getD 7 (.tup []), ts.getD 8 (.tup []), ts.getD 9 (.tup []), ts.getD 10 (.tup []), ts.getD 11 (.tup []), ts.getD 12 (.tup []), ts.getD 13 (.tup []), ts.getD 14 (.tup []), ts.getD 15 (.tup []), ts.getD 16 (.tup []), ts.getD 17 (.tup []), ts.getD 18 (.tup []), ts.getD 19 (.tup []), ts.getD 20 (.tup []), ts.getD 21 (.tup []), ts.getD 22 (.tup []), ts.getD 23 (.tup []), ts.getD 24 (.tup []), ts.getD 25 (.tup []), ts.getD 26 (.tup []), ts.getD 27 (.tup []), ts.getD 28 (.tup []), ts.getD 29 (.tup []), ts.getD 30 (.tup []), ts.getD 31 (.tup []), ts.getD 32 (.tup []), ts.getD 33 (.tup []), ts.getD 34 (.tup []), ts.getD 35 (.tup []), ts.getD 36 (.tup []), ts.getD 37 (.tup []), ts.getD 38 (.tup []), ts.getD 39 (.tup []), ts.getD 40 (.tup []), ts.getD 41 (.tup []), ts.getD 42 (.tup []), ts.getD 43 (.tup []), ts.getD 44 (.tup []), ts.getD 45 (.tup []), ts.getD 46 (.tup []), ts.getD 47 (.tup []), ts.getD 48 (.tup []), ts.getD 49 (.tup []), ts.getD 50 (.tup []), ts.getD 51 (.tup []), ts.getD 52 (.tup []), ts.getD 53 (.tup []), ts.getD 54 (.tup []), ts.getD 55 (.tup []), ts.getD 56 (.tup []), ts.getD 57 (.tup []), ts.getD 58 (.tup []), ts.getD 59 (.tup []), ts.getD 60 (.tup []), ts.getD 61 (.tup []), ts.getD 62 (.tup []), ts.getD 63 (.tup []), ts.getD 64 (.tup []), ts.getD 65 (.tup []), ts.getD 66 (.tup []), ts.getD 67 (.tup []), ts.getD 68 (.tup []), ts.getD 69 (.tup []), ts.getD 70 (.tup []), ts.getD 71 (.tup []), ts.getD 72 (.tup []), ts.getD 73 (.tup []), ts.getD 74 (.tup []), ts.getD 75 (.tup []), ts.getD 76 (.tup []), ts.getD 77 (.tup []), ts.getD 78 (.tup []), ts.getD 79 (.tup []), ts.getD 80 (.tup []), ts.getD 81 (.tup []), ts.getD 82 (.tup []), ts.getD 83 (.tup []), ts.getD 84 (.tup []), ts.getD 85 (.tup []), ts.getD 86 (.tup []), ts.getD 87 (.tup []), ts.getD 88 (.tup []), ts.getD 89 (.tup []), ts.getD 90 (.tup []), ts.getD 91 (.tup []), ts.getD 92 (.tup []), ts.getD 93 (.tup []), ts.getD 94 (.tup []), ts.getD 95 (.tup []), ts.getD 96 (.tup []), ts.getD 97 (.tup []), ts.getD 98 (.tup []), ts.getD 99 (.tup []), ts.getD 100 (.tup []), ts.getD 101 (.tup []), ts.getD 102 (.tup []), ts.getD 103 (.tup []), ts.getD 104 (.tup []), ts.getD 105 (.tup []), ts.getD 106 (.tup []), ts.getD 107 (.tup []), ts.getD 108 (.tup []), ts.getD 109 (.tup []), ts.getD 110 (.tup []), ts.getD 111 (.tup []), ts.getD 112 (.tup []), ts.getD 113 (.tup []), ts.getD 114 (.tup []), ts.getD 115 (.tup []), ts.getD 116 (.tup []), ts.getD 117 (.tup []), ts.getD 118 (.tup [])] := expand_ts 119 ts h3
  rw [hx]
  by_cases h4 : nameLen s = 4
  · have hl : 4 ≤ s.length := by omega
    rw [decide_eq_true h4, Bool.true_and]
    rw [h4] at hM
    cases h5 : (s.take 4 == [110, 117, 108, 108]) <;>
      simp (maxSteps := 1000000) [r5B, g4, g5, XCode.fst, XCode.snd, Fn.f_haulageref05_Read, hM, h5, hl, bounds, asNat, asInt, RdQ, RdMid, RdEnd, r5M]
  · have e4 : ((nameLen s : Int) == 4) = false := by simp; omega
    rw [decide_eq_false h4, Bool.false_and]
    simp (maxSteps := 1000000) [r5B, g4, g5, XCode.fst, XCode.snd, Fn.f_haulageref05_Read, hM, e4, bounds, asNat, asInt, RdQ, RdMid, r5M]
theorem rd_D (u : P05 E) (q : R05 E) (c : UInt8) (r s : List UInt8) (hS : c :: r = s) (hs : (s.length : Int) ≤ 1000000000) (j : Nat) (hk : s.length + 300 ≤ j + 2) (st : St) (hst : RdMid s st) :
    Wp (den E (denF E (j + 2)) (j + 2) r5D st) (RdQ s (cleanR (textN s)) (decide (c = 34))) := by
  have hU := fun m => ref_Unquote u.h.q q.starts q.unquote s hs (j + 1) (by omega) m
  have g34 : ((34 : UInt8).toNat : Int) = 34 := rfl
  have hs0 : s[0]? = some c := by rw [← hS]; rfl
  have hse : (s == []) = false := by rw [← hS]; rfl
  have hsl : 0 < s.length := by rw [← hS]; simp
  obtain ⟨ts, m', ds⟩ := st
  obtain ⟨h1, h2, h3, g4, g5⟩ := hst
  simp only at h1 h2 h3 g4 g5
  subst h1 h2
  unfold r5M
  have hx : ts = [ts.getD 0 (.tup []), ts.getD 1 (.tup []), ts.getD 2 (.tup []), ts.getD 3 (.tup []), ts.getD 4 (.tup []), ts.getD 5 (.tup []), ts.getD 6 (.tup []), ts.getD 7 (.tup []), ts.getD 8 (.tup []), ts.getD 9 (.tup []), ts.getD 10 (.tup []), ts.getD 11 (.tup []), ts.getD 12 (.tup []), ts.getD 13 (.tup []), ts.getD 14 (.tup []), ts.getD 15 (.tup []), ts.getD 16 (.tup []), ts.getD 17 (.tup []), ts.getD 18 (.tup []), ts.getD 19 (.tup []), ts.getD 20 (.tup []), ts.getD 21 (.tup []), ts.getD 22 (.tup []), ts.getD 23 (.tup []), ts.getD 24 (.tup []), ts.getD 25 (.tup []), ts.getD 26 (.tup []), ts.getD 27 (.tup []), ts.getD 28 (.tup []), ts.getD 29 (.tup []), ts.getD 30 (.tup []), ts.getD 31 (.tup []), ts.getD 32 (.tup []), ts.getD 33 (.tup []), ts.getD 34 (.tup []), ts.getD 35 (.tup []), ts.getD 36 (.tup []), ts.getD 37 (.tup []), ts.getD 38 (.tup []), ts.getD 39 (.tup []), ts.getD 40 (.tup []), ts.getD 41 (.tup []), ts.getD 42 (.tup []), ts.getD 43 (.tup []), ts.getD 44 (.tup []), ts.getD 45 (.tup []), ts.getD 46 (.tup []), ts.getD 47 (.tup []), ts.getD 48 (.tup []), ts.getD 49 (.tup []), ts.getD 50 (.tup []), ts.getD 51 (.tup []), ts.getD 52 (.tup []), ts.getD 53 (.tup []), ts.getD 54 (.tup []), ts.getD 55 (.tup []), ts.getD 56 (.tup []), ts.getD 57 (.tup []), ts.getD 58 (.tup []), ts.getD 59 (.tup []), ts.getD 60 (.tup []), ts.getD 61 (.tup []), ts.getD 62 (.tup []), ts.getD 63 (.tup []), ts.getD 64 (.tup []), ts.getD 65 (.tup []), ts.getD 66 (.tup []), ts.getD 67 (.tup []), ts.getD 68 (.tup []), ts.getD 69 (.tup []), ts.getD 70 (.tup []), ts.getD 71 (.tup []), ts.getD 72 (.tup []), ts.getD 73 (.tup []), ts.getD 74 (.tup []), ts.getD 75 (.tup []), ts.getD 76 (.tup []), ts.getD 77 (.tup []), ts.getD 78 (.tup []), ts.getD 79 (.tup []), ts.getD 80 (.tup []), ts.getD 81 (.tup []), ts.getD 82 (.tup []), ts.getD 83 (.tup []), ts.getD 84 (.tup []), ts.getD 85 (.tup []), ts.getD 86 (.tup []), ts.getD 87 (.tup []), ts.getD 88 (.tup []), ts.getD 89 (.tup []), ts.getD 90 (.tup []), ts.getD 91 (.tup []), ts.getD 92 (.tup []), ts.getD 93 (.tup []), ts.getD 94 (.tup []), ts.getD 95 (.tup []), ts.getD 96 (.tup []), ts.getD 97 (.tup []), ts.getD 98 (.tup []), ts.getD 99 (.tup []), ts.getD 100 (.tup []), ts.getD 101 (.tup []), ts.getD 102 (.tup []), ts.getD 103 (.tup []), ts.getD 104 (.tup []), ts.getD 105 (.tup []), ts.getD 106 (.tup []), ts.getD 107 (.tup []), ts.getD 108 (.tup []), ts.getD 109 (.tup []), ts.getD 110 (.tup []), ts.getD 111 (.tup []), ts.getD 112 (.tup []), ts.getD 113 (.tup []), ts.getD 114 (.tup []), ts.getD 115 (.tup []), ts.getD 116 (.tup []), ts.getD 117 (.tup []), ts.getD 118 (.tup [])] := expand_ts 119 ts h3
  rw [hx]
  by_cases h34 : c = 34
  · rw [decide_eq_true h34]
    subst h34
    have hh : s.head? = some 34 := by rw [← hS]; rfl
    unfold textN
    rw [if_pos hh]
    unfold unquoteV at hU
    rw [if_pos hh] at hU
    cases hq : unq s.tail with
    | none =>
      rw [hq] at hU
      simp only
      have ec : cleanR (badR 5) = badR 5 := rfl
      rw [ec]
      simp (maxSteps := 1000000) [r5D, g4, g5, XCode.fst, XCode.snd, Fn.f_haulageref05_Read, hse, hs0, hsl, hU, bne, asNat, asInt, badR, RdQ, RdEnd]
    | some q =>
      obtain ⟨t, n⟩ := q
      rw [hq] at hU
      have hl := unq_len hq
      have htl : t.length ≤ s.length := by
        have : s.tail.length ≤ s.length := by simp
        omega
      simp only
      have hL := fun m => ref_long u q 3 (.inl rfl) t ((n : Int) + 1) (by omega) (j + 1) (by omega) m
      rw [if_pos rfl] at hL
      generalize cleanR (textW t ((n : Int) + 1)) = R at *
      obtain ⟨r1, r2, r3, r4, r5⟩ := R
      unfold rdV rT5 at hL
      simp (maxSteps := 1000000) [r5D, g4, g5, XCode.fst, XCode.snd, Fn.f_haulageref05_Read, hse, hs0, hsl, hU, hL, bne, asNat, asInt, RdQ, RdEnd]
  · rw [decide_eq_false h34]
    have b34 := u8ne h34
    rw [g34] at b34
    simp (maxSteps := 1000000) [r5D, g4, g5, XCode.fst, XCode.snd, Fn.f_haulageref05_Read, hse, hs0, hsl, b34, bne, asNat, asInt, RdQ, RdMid, r5M]
theorem rd_E (u : P05 E) (q : R05 E) (c : UInt8) (r s : List UInt8) (hS : c :: r = s) (hs : (s.length : Int) ≤ 1000000000) (j : Nat) (hk : s.length + 300 ≤ j + 2) (st : St) (hst : RdMid s st) :
    Wp (den E (denF E (j + 2)) (j + 2) r5E st) (RdQ s (cleanR (hexN s)) (starts s [120, 34])) := by
  have hH := fun m => ref_unhex u.h q.unhex (s.drop 2) (by rw [List.length_drop]; omega) (j + 1) (by rw [List.length_drop]; omega) m
  obtain ⟨ts, m', ds⟩ := st
  obtain ⟨h1, h2, h3, g4, g5⟩ := hst
  simp only at h1 h2 h3 g4 g5
  subst h1 h2
  unfold r5M
  have hx : ts = [ts.getD 0 (.tup []), ts.getD 1 (.tup []), ts.getD 2 (.tup []), ts.getD 3 (.tup []), ts.getD 4 (.tup []), ts.getD 5 (.tup []), ts.getD 6 (.tup []), ts.getD 7 (.tup []), ts.getD 8 (.tup []), ts.getD 9 (.tup []), ts.getD 10 (.tup []), ts.getD 11 (.tup []), ts.getD 12 (.tup []), ts.getD 13 (.tup []), ts.getD 14 (.tup []), ts.getD 15 (.tup []), ts.getD 16 (.tup []), ts.getD 17 (.tup []), ts.getD 18 (.tup []), ts.getD 19 (.tup []), ts.getD 20 (.tup []), ts.getD 21 (.tup []), ts.getD 22 (.tup []), ts.getD 23 (.tup []), ts.getD 24 (.tup []), ts.getD 25 (.tup []), ts.getD 26 (.tup []), ts.getD 27 (.tup []), ts.getD 28 (.tup []), ts.getD 29 (.tup []), ts.getD 30 (.tup []), ts.getD 31 (.tup []), ts.getD 32 (.tup []), ts.getD 33 (.tup []), ts.getD 34 (.tup []), ts.getD 35 (.tup []), ts.getD 36 (.tup []), ts.getD 37 (.tup []), ts.getD 38 (.tup []), ts.getD 39 (.tup []), ts.getD 40 (.tup []), ts.getD 41 (.tup []), ts.getD 42 (.tup []), ts.getD 43 (.tup []), ts.getD 44 (.tup []), ts.getD 45 (.tup []), ts.getD 46 (.tup []), ts.getD 47 (.tup []), ts.getD 48 (.tup []), ts.getD 49 (.tup []), ts.getD 50 (.tup []), ts.getD 51 (.tup []), ts.getD 52 (.tup []), ts.getD 53 (.tup []), ts.getD 54 (.tup []), ts.getD 55 (.tup []), ts.getD 56 (.tup []), ts.getD 57 (.tup []), ts.getD 58 (.tup []), ts.getD 59 (.tup []), ts.getD 60 (.tup []), ts.getD 61 (.tup []), ts.getD 62 (.tup []), ts.getD 63 (.tup []), ts.getD 64 (.tup []), ts.getD 65 (.tup []), ts.getD 66 (.tup []), ts.getD 67 (.tup []), ts.getD 68 (.tup []), ts.getD 69 (.tup []), ts.getD 70 (.tup []), ts.getD 71 (.tup []), ts.getD 72 (.tup []), ts.getD 73 (.tup []), ts.getD 74 (.tup []), ts.getD 75 (.tup []), ts.getD 76 (.tup []), ts.getD 77 (.tup []), ts.getD 78 (.tup []), ts.getD 79 (.tup []), ts.getD 80 (.tup []), ts.getD 81 (.tup []), ts.getD 82 (.tup []), ts.getD 83 (.tup []), ts.getD 84 (.tup []), ts.getD 85 (.tup []), ts.getD 86 (.tup []), ts.getD 87 (.tup []), ts.getD 88 (.tup []), ts.getD 89 (.tup []), ts.getD 90 (.tup []), ts.getD 91 (.tup []), ts.getD 92 (.tup []), ts.getD 93 (.tup []), ts.getD 94 (.tup []), ts.getD 95 (.tup []), ts.getD 96 (.tup []), ts.getD 97 (.tup []), ts.getD 98 (.tup []), ts.getD 99 (.tup []), ts.getD 100 (.tup []), ts.getD 101 (.tup []), ts.getD 102 (.tup []), ts.getD 103 (.tup []), ts.getD 104 (.tup []), ts.getD 105 (.tup []), ts.getD 106 (.tup []), ts.getD 107 (.tup []), ts.getD 108 (.tup []), ts.getD 109 (.tup []), ts.getD 110 (.tup []), ts.getD 111 (.tup []), ts.getD 112 (.tup []), ts.getD 113 (.tup []), ts.getD 114 (.tup []), ts.getD 115 (.tup []), ts.getD 116 (.tup []), ts.getD 117 (.tup []), ts.getD 118 (.tup [])] := expand_ts 119 ts h3
  rw [hx]
  have hstq : starts s [120, 34] = (decide (2 ≤ s.length) && (s.take 2 == [120, 34])) := rfl
  by_cases k1 : 2 ≤ s.length
  · have k1' : (1 : Int) < s.length := by omega
    rw [decide_eq_true k1, Bool.true_and] at hstq
    cases k2 : (s.take 2 == [120, 34]) with
    | false =>
      rw [k2] at hstq
      rw [hstq]
      simp (maxSteps := 1000000) [r5E, g4, g5, XCode.fst, XCode.snd, Fn.f_haulageref05_Read, k1, k1', k2, bounds, asNat, asInt, RdQ, RdMid, r5M]
    | true =>
      rw [k2] at hstq
      rw [hstq]
      unfold hexN
      rcases hX : unh [] 0 (s.drop 2) with ⟨t, n, b⟩
      rw [hX] at hH
      simp only at hH ⊢
      cases b with
      | false =>
        rw [if_neg (by simp)]
        have ec : cleanR (badR 5) = badR 5 := rfl
        rw [ec]
        simp (maxSteps := 1000000) [r5E, g4, g5, XCode.fst, XCode.snd, Fn.f_haulageref05_Read, k1, k1', k2, hH, bounds, asNat, asInt, badR, RdQ, RdEnd]
      | true =>
        rw [if_pos rfl]
        obtain ⟨r', hr1, hr2, hr3, hr4⟩ := unh_some _ _ _ _ _ _ (Nat.le_refl _) hX
        rw [List.length_drop] at hr4
        simp only [List.nil_append] at hr1
        subst hr1
        have hL := fun m => ref_long u q 4 (.inr rfl) t ((n : Int) + 3) (by omega) (j + 1) (by omega) m
        rw [if_neg (by decide)] at hL
        have w3 : IntKind.i64.wrap ((n : Int) + 3) = n + 3 := wrap_i64 (by omega) (by omega)
        generalize cleanR (hexW t ((n : Int) + 3)) = R at *
        obtain ⟨r1, r2, r3, r4, r5⟩ := R
        unfold rdV rT5 at hL
        simp (maxSteps := 1000000) [r5E, g4, g5, XCode.fst, XCode.snd, Fn.f_haulageref05_Read, k1, k1', k2, hH, hL, w3, bounds, asNat, asInt, RdQ, RdEnd]
  · have k1' : ¬ (1 : Int) < s.length := by omega
    rw [decide_eq_false k1, Bool.false_and] at hstq
    rw [hstq]
    simp (maxSteps := 1000000) [r5E, g4, g5, XCode.fst, XCode.snd, Fn.f_haulageref05_Read, k1', bounds, asNat, asInt, RdQ, RdMid, r5M]
theorem rd_F (s : List UInt8) (call : Caller) (K : Nat) (st : St) (hst : RdMid s st) : Wp (den E call K r5F st) (RdQ s (badR 5) true) := by
  obtain ⟨ts, m', ds⟩ := st
  obtain ⟨h1, h2, h3, g4, g5⟩ := hst
  simp only at h1 h2 h3 g4 g5
  subst h1 h2
  unfold r5M
  have hx : ts = [ts.getD 0 (.tup []), ts.getD 1 (.tup []), ts.getD 2 (.tup []), ts.getD 3 (.tup []), ts.getD 4 (.tup []), ts.getD 5 (.tup []), ts.getD 6 (.tup []), ts.getD 7 (.tup []), ts.getD 8 (.tup []), ts.getD 9 (.tup []), ts.getD 10 (.tup []), ts.getD 11 (.tup []), ts.getD 12 (.tup []), ts.getD 13 (.tup []), ts.getD 14 (.tup []), ts.getD 15 (.tup []), ts.getD 16 (.tup []), ts.getD 17 (.tup []), ts.getD 18 (.tup []), ts.getD 19 (.tup []), ts.getD 20 (.tup []), ts.getD 21 (.tup []), ts.getD 22 (.tup []), ts.getD 23 (.tup []), ts.getD 24 (.tup []), ts.getD 25 (.tup []), ts.getD 26 (.tup []), ts.getD 27 (.tup []), ts.getD 28 (.tup []), ts.getD 29 (.tup []), ts.getD 30 (.tup []), ts.getD 31 (.tup []), ts.getD 32 (.tup []), ts.getD 33 (.tup []), ts.getD 34 (.tup []), ts.getD 35 (.tup []), ts.getD 36 (.tup []), ts.getD 37 (.tup []), ts.getD 38 (.tup []), ts.getD 39 (.tup []), ts.getD 40 (.tup []), ts.getD 41 (.tup []), ts.getD 42 (.tup []), ts.getD 43 (.tup []), ts.getD 44 (.tup []), ts.getD 45 (.tup []), ts.getD 46 (.tup []), ts.getD 47 (.tup []), ts.getD 48 (.tup []), ts.getD 49 (.tup []), ts.getD 50 (.tup []), ts.getD 51 (.tup []), ts.getD 52 (.tup []), ts.getD 53 (.tup []), ts.getD 54 (.tup []), ts.getD 55 (.tup []), ts.getD 56 (.tup []), ts.getD 57 (.tup []), ts.getD 58 (.tup []), ts.getD 59 (.tup []), ts.getD 60 (.tup []), ts.getD 61 (.tup []), ts.getD 62 (.tup []), ts.getD 63 (.tup []), ts.getD 64 (.tup []), ts.getD 65 (.tup []), ts.getD 66 (.tup []), ts.getD 67 (.tup []), ts.getD 68 (.tup []), ts.getD 69 (.tup []), ts.getD 70 (.tup []), ts.getD 71 (.tup []), ts.getD 72 (.tup []), ts.getD 73 (.tup []), ts.getD 74 (.tup []), ts.getD 75 (.tup []), ts.getD 76 (.tup []), ts.getD 77 (.tup []), ts.getD 78 (.tup []), ts.getD 79 (.tup []), ts.getD 80 (.tup []), ts.getD 81 (.tup []), ts.getD 82 (.tup []), ts.getD 83 (.tup []), ts.getD 84 (.tup []), ts.getD 85 (.tup []), ts.getD 86 (.tup []), ts.getD 87 (.tup []), ts.getD 88 (.tup []), ts.getD 89 (.tup []), ts.getD 90 (.tup []), ts.getD 91 (.tup []), ts.getD 92 (.tup []), ts.getD 93 (.tup []), ts.getD 94 (.tup []), ts.getD 95 (.tup []), ts.getD 96 (.tup []), ts.getD 97 (.tup []), ts.getD 98 (.tup []), ts.getD 99 (.tup []), ts.getD 100 (.tup []), ts.getD 101 (.tup []), ts.getD 102 (.tup []), ts.getD 103 (.tup []), ts.getD 104 (.tup []), ts.getD 105 (.tup []), ts.getD 106 (.tup []), ts.getD 107 (.tup []), ts.getD 108 (.tup []), ts.getD 109 (.tup []), ts.getD 110 (.tup []), ts.getD 111 (.tup []), ts.getD 112 (.tup []), ts.getD 113 (.tup []), ts.getD 114 (.tup []), ts.getD 115 (.tup []), ts.getD 116 (.tup []), ts.getD 117 (.tup []), ts.getD 118 (.tup [])] := expand_ts 119 ts h3
  rw [hx]
  simp (maxSteps := 1000000) [r5F, g4, g5, XCode.fst, XCode.snd, Fn.f_haulageref05_Read, badR, RdQ, RdEnd]
theorem rd_then {call : Caller} {K : Nat} {a b : XCode} {s : List UInt8} {r R : Rd} {d : Bool} {st : St} (h : Wp (den E call K a st) (RdQ s r d)) (h1 : d = true → r = R) (h2 : d = false → ∀ st, RdMid s st → Wp (den E call K b st) (RdQ s R true)) :
    Wp (den E call K (.seq a b) st) (RdQ s R true) := by
  rw [den_seq, Wp_seqK]
  refine h.mono ?_
  intro e st' hq
  unfold RdQ at hq
  cases d with
  | true =>
    rw [if_pos rfl] at hq
    obtain ⟨rfl, hq⟩ := hq
    rw [seqQ_ret]
    unfold RdQ
    rw [if_pos rfl, ← h1 rfl]
    exact ⟨rfl, hq⟩
  | false =>
    rw [if_neg (by simp)] at hq
    obtain ⟨rfl, hq⟩ := hq
    rw [seqQ_norm]
    exact h2 rfl st' hq
theorem ref_VRead (u : P05 E) (q : R05 E) (s : List UInt8) (hs : (s.length : Int) ≤ 1000000000) (k : Nat) (hk : s.length + 300 ≤ k) (m : Mem) : denF E (k + 1) 27 [.p (.str s)] m = some (.ret (rdV (readR s)), m) := by
  refine denF_wp q.read rfl (args' := [.p (.str s)]) rfl ?_
  obtain ⟨j, rfl⟩ : ∃ j, k = j + 2 := ⟨k - 2, by omega⟩
  have key : Wp (den E (denF E (j + 2)) (j + 2) Fn.f_haulageref05_Read.body ⟨[.p (.str s)] ++ List.replicate (Fn.f_haulageref05_Read.ntmps - [AV.p (.str s)].length) (.tup []), [], []⟩) (RdQ s (readR s) true) := by
    rw [rd_body]
    have hA : Wp (den E (denF E (j + 2)) (j + 2) r5A ⟨[.p (.str s)] ++ List.replicate (Fn.f_haulageref05_Read.ntmps - [AV.p (.str s)].length) (.tup []), [], []⟩) (RdQ s (readR s) false) := by
      simp (maxSteps := 1000000) [r5A, XCode.fst, XCode.snd, Fn.f_haulageref05_Read, RdQ, RdMid, r5M]
    refine rd_then hA (by intro h; cases h) (fun _ st hst => ?_)
    have hnull : nullB s = decide (s.take (nameLen s) = wNull) := by
      unfold nullB
      rw [Bool.eq_iff_iff]
      simp only [Bool.and_eq_true, decide_eq_true_eq, beq_iff_eq]
      constructor
      · rintro ⟨h1, h2⟩
        rw [h1]; exact h2
      · intro h
        have hnl := nameLen_le s
        have h4 : nameLen s = 4 := by
          have := congrArg List.length h
          rw [List.length_take] at this
          have e : wNull.length = 4 := rfl
          omega
        exact ⟨h4, by rw [h4] at h; exact h⟩
    refine rd_then (rd_B u s hs j hk st hst) (fun h => ?_) (fun hn st hst => ?_)
    · rw [hnull, decide_eq_true_eq] at h
      cases s with
      | nil => cases h
      | cons c r =>
        have hc : c = 110 := null_head h
        subst hc
        have n1 : ¬ ((110 : UInt8) = 45 ∨ isDig 110 = true) := by decide
        have n2 : ¬ (110 : UInt8) = 34 := by decide
        have n3 : ¬ starts (110 :: r) [120, 34] = true := by
          unfold starts
          simp
        rw [readR_cons, if_neg n1, if_neg n2, if_neg n3, if_pos h]
    · rw [hnull, decide_eq_false_iff_not] at hn
      cases s with
      | nil =>
        have hC : Wp (den E (denF E (j + 2)) (j + 2) r5C st) (RdQ [] (0, 0, [], 0, 0) false) := by
          obtain ⟨ts, m', ds⟩ := st
          obtain ⟨h1, h2, h3, g4, g5⟩ := hst
          simp only at h1 h2 h3 g4 g5
          subst h1 h2
          unfold r5M
          have hx : ts = [ts.getD 0 (.tup []), ts.getD 1 (.tup []), ts.getD 2 (.tup []), ts.getD 3 (.tup []), ts.getD 4 (.tup []), ts.getD 5 (.tup []), ts.getD 6 (.tup []), ts.getD 7 (.tup []), ts.getD 8 (.tup []), ts.getD 9 (.tup []), ts.getD 10 (.tup []), ts.getD 11 (.tup []), ts.getD 12 (.tup []), ts.getD 13 (.tup []), ts.getD 14 (.tup []), ts.getD 15 (.tup []), ts.getD 16 (.tup []), ts.getD 17 (.tup []), ts.getD 18 (.tup []), ts.getD 19 (.tup []), ts.getD 20 (.tup []), ts.getD 21 (.tup []), ts.getD 22 (.tup []), ts.getD 23 (.tup []), ts.getD 24 (.tup []), ts.getD 25 (.tup []), ts.getD 26 (.tup []), ts.getD 27 (.tup []), ts.getD 28 (.tup []), ts.getD 29 (.tup []), ts.getD 30 (.tup []), ts.getD 31 (.tup []), ts.getD 32 (.tup []), ts.getD 33 (.tup []), ts.getD 34 (.tup []), ts.getD 35 (.tup []), ts.getD 36 (.tup []), ts.getD 37 (.tup []), ts.getD 38 (.tup []), ts.getD 39 (.tup []), ts.getD 40 (.tup []), ts.getD 41 (.tup []), ts.getD 42 (.tup []), ts.getD 43 (.tup []), ts.getD 44 (.tup []), ts.getD 45 (.tup []), ts.getD 46 (.tup []), ts.getD 47 (.tup []), ts.getD 48 (.tup []), ts.getD 49 (.tup []), ts.getD 50 (.tup []), ts.getD 51 (.tup []), ts.getD 52 (.tup []), ts.getD 53 (.tup []), ts.getD 54 (.tup []), ts.getD 55 (.tup []), ts.getD 56 (.tup []), ts.getD 57 (.tup []), ts.getD 58 (.tup []), ts.getD 59 (.tup []), ts.getD 60 (.tup []), ts.getD 61 (.tup []), ts.getD 62 (.tup []), ts.getD 63 (.tup []), ts.getD 64 (.tup []), ts.getD 65 (.tup []), ts.getD 66 (.tup []), ts.getD 67 (.tup []), ts.getD 68 (.tup []), ts.getD 69 (.tup []), ts.getD 70 (.tup []), ts.getD 71 (.tup []), ts.getD 72 (.tup []), ts.getD 73 (.tup []), ts.getD 74 (.tup []), ts.getD 75 (.tup []), ts.getD 76 (.tup []), ts.getD 77 (.tup []), ts.getD 78 (.tup []), ts.getD 79 (.tup []), ts.getD 80 (.tup []), ts.getD 81 (.tup []), ts.getD 82 (.tup []), ts.getD 83 (.tup []), ts.getD 84 (.tup []), ts.getD 85 (.tup []), ts.getD 86 (.tup []), ts.getD 87 (.tup []), ts.getD 88 (.tup []), ts.getD 89 (.tup []), ts.getD 90 (.tup []), ts.getD 91 (.tup []), ts.getD 92 (.tup []), ts.getD 93 (.tup []), ts.getD 94 (.tup []), ts.getD 95 (.tup []), ts.getD 96 (.tup []), ts.getD 97 (.tup []), ts.getD 98 (.tup []), ts.getD 99 (.tup []), ts.getD 100 (.tup []), ts.getD 101 (.tup []), ts.getD 102 (.tup []), ts.getD 103 (.tup []), ts.getD 104 (.tup []), ts.getD 105 (.tup []), ts.getD 106 (.tup []), ts.getD 107 (.tup []), ts.getD 108 (.tup []), ts.getD 109 (.tup []), ts.getD 110 (.tup []), ts.getD 111 (.tup []), ts.getD 112 (.tup []), ts.getD 113 (.tup []), ts.getD 114 (.tup []), ts.getD 115 (.tup []), ts.getD 116 (.tup []), ts.getD 117 (.tup []), ts.getD 118 (.tup [])] := expand_ts 119 ts h3
          rw [hx]
          simp (maxSteps := 1000000) [r5C, g4, g5, XCode.fst, XCode.snd, Fn.f_haulageref05_Read, bne, RdQ, RdMid, r5M]
        have hD : ∀ st, RdMid [] st → Wp (den E (denF E (j + 2)) (j + 2) r5D st) (RdQ [] (0, 0, [], 0, 0) false) := by
          intro st hst
          obtain ⟨ts, m', ds⟩ := st
          obtain ⟨h1, h2, h3, g4, g5⟩ := hst
          simp only at h1 h2 h3 g4 g5
          subst h1 h2
          unfold r5M
          have hx : ts = [ts.getD 0 (.tup []), ts.getD 1 (.tup []), ts.getD 2 (.tup []), ts.getD 3 (.tup []), ts.getD 4 (.tup []), ts.getD 5 (.tup []), ts.getD 6 (.tup []), ts.getD 7 (.tup []), ts.getD 8 (.tup []), ts.getD 9 (.tup []), ts.getD 10 (.tup []), ts.getD 11 (.tup []), ts.getD 12 (.tup []), ts.getD 13 (.tup []), ts.getD 14 (.tup []), ts.getD 15 (.tup []), ts.getD 16 (.tup []), ts.getD 17 (.tup []), ts.getD 18 (.tup []), ts.getD 19 (.tup []), ts.getD 20 (.tup []), ts.getD 21 (.tup []), ts.getD 22 (.tup []), ts.getD 23 (.tup []), ts.getD 24 (.tup []), ts.getD 25 (.tup []), ts.getD 26 (.tup []), ts.getD 27 (.tup []), ts.getD 28 (.tup []), ts.getD 29 (.tup []), ts.getD 30 (.tup []), ts.getD 31 (.tup []), ts.getD 32 (.tup []), ts.getD 33 (.tup []), ts.getD 34 (.tup []), ts.getD 35 (.tup []), ts.getD 36 (.tup []), ts.getD 37 (.tup []), ts.getD 38 (.tup []), ts.getD 39 (.tup []), ts.getD 40 (.tup []), ts.getD 41 (.tup []), ts.getD 42 (.tup []), ts.getD 43 (.tup []), ts.getD 44 (.tup []), ts.getD 45 (.tup []), ts.getD 46 (.tup []), ts.getD 47 (.tup []), ts.getD 48 (.tup []), ts.getD 49 (.tup []), ts.getD 50 (.tup []), ts.getD 51 (.tup []), ts.getD 52 (.tup []), ts.getD 53 (.tup []), ts.getD 54 (.tup []), ts.getD 55 (.tup []), ts.getD 56 (.tup []), ts.getD 57 (.tup []), ts.getD 58 (.tup []), ts.getD 59 (.tup []), ts.getD 60 (.tup []), ts.getD 61 (.tup []), ts.getD 62 (.tup []), ts.getD 63 (.tup []), ts.getD 64 (.tup []), ts.getD 65 (.tup []), ts.getD 66 (.tup []), ts.getD 67 (.tup []), ts.getD 68 (.tup []), ts.getD 69 (.tup []), ts.getD 70 (.tup []), ts.getD 71 (.tup []), ts.getD 72 (.tup []), ts.getD 73 (.tup []), ts.getD 74 (.tup []), ts.getD 75 (.tup []), ts.getD 76 (.tup []), ts.getD 77 (.tup []), ts.getD 78 (.tup []), ts.getD 79 (.tup []), ts.getD 80 (.tup []), ts.getD 81 (.tup []), ts.getD 82 (.tup []), ts.getD 83 (.tup []), ts.getD 84 (.tup []), ts.getD 85 (.tup []), ts.getD 86 (.tup []), ts.getD 87 (.tup []), ts.getD 88 (.tup []), ts.getD 89 (.tup []), ts.getD 90 (.tup []), ts.getD 91 (.tup []), ts.getD 92 (.tup []), ts.getD 93 (.tup []), ts.getD 94 (.tup []), ts.getD 95 (.tup []), ts.getD 96 (.tup []), ts.getD 97 (.tup []), ts.getD 98 (.tup []), ts.getD 99 (.tup []), ts.getD 100 (.tup []), ts.getD 101 (.tup []), ts.getD 102 (.tup []), ts.getD 103 (.tup []), ts.getD 104 (.tup []), ts.getD 105 (.tup []), ts.getD 106 (.tup []), ts.getD 107 (.tup []), ts.getD 108 (.tup []), ts.getD 109 (.tup []), ts.getD 110 (.tup []), ts.getD 111 (.tup []), ts.getD 112 (.tup []), ts.getD 113 (.tup []), ts.getD 114 (.tup []), ts.getD 115 (.tup []), ts.getD 116 (.tup []), ts.getD 117 (.tup []), ts.getD 118 (.tup [])] := expand_ts 119 ts h3
          rw [hx]
          simp (maxSteps := 1000000) [r5D, g4, g5, XCode.fst, XCode.snd, Fn.f_haulageref05_Read, bne, RdQ, RdMid, r5M]
        have hE : ∀ st, RdMid [] st → Wp (den E (denF E (j + 2)) (j + 2) r5E st) (RdQ [] (0, 0, [], 0, 0) false) := by
          intro st hst
          obtain ⟨ts, m', ds⟩ := st
          obtain ⟨h1, h2, h3, g4, g5⟩ := hst
          simp only at h1 h2 h3 g4 g5
          subst h1 h2
          unfold r5M
          have hx : ts = [ts.getD 0 (.tup []), ts.getD 1 (.tup []), ts.getD 2 (.tup []), ts.getD 3 (.tup []), ts.getD 4 (.tup []), ts.getD 5 (.tup []), ts.getD 6 (.tup []), ts.getD 7 (.tup []), ts.getD 8 (.tup []), ts.getD 9 (.tup []), ts.getD 10 (.tup []), ts.getD 11 (.tup []), ts.getD 12 (.tup []), ts.getD 13 (.tup []), ts.getD 14 (.tup []), ts.getD 15 (.tup []), ts.getD 16 (.tup []), ts.getD 17 (.tup []), ts.getD 18 (.tup []), ts.getD 19 (.tup []), ts.getD 20 (.tup []), ts.getD 21 (.tup []), ts.getD 22 (.tup []), ts.getD 23 (.tup []), ts.getD 24 (.tup []), ts.getD 25 (.tup []), ts.getD 26 (.tup []), ts.getD 27 (.tup []), ts.getD 28 (.tup []), ts.getD 29 (.tup []), ts.getD 30 (.tup []), ts.getD 31 (.tup []), ts.getD 32 (.tup []), ts.getD 33 (.tup []), ts.getD 34 (.tup []), ts.getD 35 (.tup []), ts.getD 36 (.tup []), ts.getD 37 (.tup []), ts.getD 38 (.tup []), ts.getD 39 (.tup []), ts.getD 40 (.tup []), ts.getD 41 (.tup []), ts.getD 42 (.tup []), ts.getD 43 (.tup []), ts.getD 44 (.tup []), ts.getD 45 (.tup []), ts.getD 46 (.tup []), ts.getD 47 (.tup []), ts.getD 48 (.tup []), ts.getD 49 (.tup []), ts.getD 50 (.tup []), ts.getD 51 (.tup []), ts.getD 52 (.tup []), ts.getD 53 (.tup []), ts.getD 54 (.tup []), ts.getD 55 (.tup []), ts.getD 56 (.tup []), ts.getD 57 (.tup []), ts.getD 58 (.tup []), ts.getD 59 (.tup []), ts.getD 60 (.tup []), ts.getD 61 (.tup []), ts.getD 62 (.tup []), ts.getD 63 (.tup []), ts.getD 64 (.tup []), ts.getD 65 (.tup []), ts.getD 66 (.tup []), ts.getD 67 (.tup []), ts.getD 68 (.tup []), ts.getD 69 (.tup []), ts.getD 70 (.tup []), ts.getD 71 (.tup []), ts.getD 72 (.tup []), ts.getD 73 (.tup []), ts.getD 74 (.tup []), ts.getD 75 (.tup []), ts.getD 76 (.tup []), ts.getD 77 (.tup []), ts.getD 78 (.tup []), ts.getD 79 (.tup []), ts.getD 80 (.tup []), ts.getD 81 (.tup []), ts.getD 82 (.tup []), ts.getD 83 (.tup []), ts.getD 84 (.tup []), ts.getD 85 (.tup []), ts.getD 86 (.tup []), ts.getD 87 (.tup []), ts.getD 88 (.tup []), ts.getD 89 (.tup []), ts.getD 90 (.tup []), ts.getD 91 (.tup []), ts.getD 92 (.tup []), ts.getD 93 (.tup []), ts.getD 94 (.tup []), ts.getD 95 (.tup []), ts.getD 96 (.tup []), ts.getD 97 (.tup []), ts.getD 98 (.tup []), ts.getD 99 (.tup []), ts.getD 100 (.tup []), ts.getD 101 (.tup []), ts.getD 102 (.tup []), ts.getD 103 (.tup []), ts.getD 104 (.tup []), ts.getD 105 (.tup []), ts.getD 106 (.tup []), ts.getD 107 (.tup []), ts.getD 108 (.tup []), ts.getD 109 (.tup []), ts.getD 110 (.tup []), ts.getD 111 (.tup []), ts.getD 112 (.tup []), ts.getD 113 (.tup []), ts.getD 114 (.tup []), ts.getD 115 (.tup []), ts.getD 116 (.tup []), ts.getD 117 (.tup []), ts.getD 118 (.tup [])] := expand_ts 119 ts h3
          rw [hx]
          simp (maxSteps := 1000000) [r5E, g4, g5, XCode.fst, XCode.snd, Fn.f_haulageref05_Read, bne, RdQ, RdMid, r5M]
        exact rd_then hC (by intro h; cases h) fun _ st hst => rd_then (hD st hst) (by intro h; cases h) fun _ st hst => rd_then (hE st hst) (by intro h; cases h) fun _ st hst => rd_F [] _ _ st hst
      | cons c r =>
        rw [readR_cons]
        refine rd_then (rd_C u q c r _ rfl hs j hk st hst) (fun h => ?_) (fun h1 st hst => ?_)
        · rw [if_pos (by simpa using h)]
        · rw [if_neg (by simpa using h1)]
          refine rd_then (rd_D u q c r _ rfl hs j hk st hst) (fun h => ?_) (fun h2 st hst => ?_)
          · rw [if_pos (by simpa using h)]
          · rw [if_neg (by simpa using h2)]
            refine rd_then (rd_E u q c r _ rfl hs j hk st hst) (fun h => ?_) (fun h3 st hst => ?_)
            · rw [if_pos h]
            · rw [if_neg (by rw [h3]; simp), if_neg hn]
              exact rd_F _ _ _ st hst
  refine key.mono ?_
  rintro e ⟨ts, m', ds⟩ hq
  unfold RdQ at hq
  rw [if_pos rfl] at hq
  obtain ⟨rfl, h1, h2, h3, h4, h5, h6⟩ := hq
  simp only at h1 h2 h3 h4 h5 h6
  subst h1
  simp [Fn.f_haulageref05_Read, h3, h4, h5, h6, rdV, rT5]
end Hx
