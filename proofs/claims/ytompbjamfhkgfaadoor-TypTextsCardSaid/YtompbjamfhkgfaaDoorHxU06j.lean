/-
  HxU06j: the law TypTexts on the evaluator.
-/
import Derived.Test.YtompbjamfhkgfaaDoorHxU06i
import Derived.Test.YtompbjamfhkgfaaDoorHxU05g
import Derived.Test.YtompbjamfhkgfaaDoorHxConf
namespace Hx
open Go
set_option linter.unusedSimpArgs false
set_option linter.unusedVariables false
set_option maxHeartbeats 8000000
set_option maxRecDepth 8000
variable {E : Env}
attribute [-simp] List.getD_eq_getElem?_getD getElem?_pos
theorem readT_form (s : List UInt8) : ∃ k m size e : Int, readT s = rT k m size e := by
  unfold readT
  split
  · exact ⟨_, _, _, _, rfl⟩
  split
  · exact ⟨_, _, _, _, rfl⟩
  split
  · exact ⟨_, _, _, _, rfl⟩
  split
  · exact ⟨_, _, _, _, rfl⟩
  split
  · exact ⟨_, _, _, _, rfl⟩
  · exact ⟨_, _, _, _, rfl⟩
def parseR (k m sz e : Int) (len : Nat) : AV := if e = 0 ∧ sz < len then .tup [.p (tP 0 0), .p (.int .i64 6)] else .tup [.p (tP k m), .p (.int .i64 e)]
theorem parseR_form (k m sz e : Int) (len : Nat) : ∃ a b c : Int, parseR k m sz e len = .tup [.p (tP a b), .p (.int .i64 c)] := by
  unfold parseR
  split
  · exact ⟨_, _, _, rfl⟩
  · exact ⟨_, _, _, rfl⟩
theorem typ_Parse (u : X06 E) (s : List UInt8) (hs : (s.length : Int) ≤ 1000000000) {a b sz e : Int} (hr : readT s = rT a b sz e) (k : Nat) (hk : s.length + 41 ≤ k) (m : Mem) : denF E (k + 1) 91 [.p (.str s)] m = some (.ret (parseR a b sz e s.length), m) := by
  refine denF_wp u.parse rfl (args' := [.p (.str s)]) rfl ?_
  obtain ⟨j, rfl⟩ : ∃ j, k = j + 1 := ⟨k - 1, by omega⟩
  have hR := fun m => typ_Read u s hs j (by omega) m
  rw [hr] at hR
  unfold rT tP at hR
  unfold parseR tP
  by_cases h0 : e = 0
  · subst h0
    by_cases h1 : sz < s.length
    · rw [if_pos ⟨rfl, h1⟩]
      simp (maxSteps := 1000000) [Fn.f_typ_Parse, hR, h1]
    · rw [if_neg (fun h => h1 h.2)]
      simp (maxSteps := 1000000) [Fn.f_typ_Parse, hR, h1]
  · have e0 : (e == 0) = false := by simpa using h0
    rw [if_neg (fun h => h0 h.1)]
    simp (maxSteps := 1000000) [Fn.f_typ_Parse, hR, e0]
theorem ref_TParse (u : X06 E) (s : List UInt8) (hs : (s.length : Int) ≤ 1000000000) {a b sz e : Int} (hr : readT s = rT a b sz e) (k : Nat) (hk : s.length + 41 ≤ k) (m : Mem) : denF E (k + 1) 92 [.p (.str s)] m = some (.ret (parseR a b sz e s.length), m) := by
  refine denF_wp u.rparse rfl (args' := [.p (.str s)]) rfl ?_
  obtain ⟨j, rfl⟩ : ∃ j, k = j + 1 := ⟨k - 1, by omega⟩
  have hR := fun m => ref_TRead u (fun s hs k hk m => ref_Number u.m05 s hs k hk m) s hs j (by omega) m
  rw [hr] at hR
  unfold rT tP at hR
  unfold parseR tP
  by_cases h0 : e = 0
  · subst h0
    by_cases h1 : sz < s.length
    · rw [if_pos ⟨rfl, h1⟩]
      simp (maxSteps := 1000000) [Fn.f_haulageref06_Parse, hR, h1]
    · rw [if_neg (fun h => h1 h.2)]
      simp (maxSteps := 1000000) [Fn.f_haulageref06_Parse, hR, h1]
  · have e0 : (e == 0) = false := by simpa using h0
    rw [if_neg (fun h => h0 h.1)]
    simp (maxSteps := 1000000) [Fn.f_haulageref06_Parse, hR, e0]
def printT (k m : Int) : List UInt8 := if k = 1 then [105, 110, 116] else if k = 2 then [108, 111, 110, 103] else if k = 3 then 116 :: 101 :: 120 :: 116 :: 40 :: (digits m ++ [41]) else 98 :: 121 :: 116 :: 101 :: 115 :: 40 :: (digits m ++ [41])
theorem printT_3 (m : Int) : printT 3 m = 116 :: 101 :: 120 :: 116 :: 40 :: (digits m ++ [41]) := rfl
theorem printT_4 (m : Int) : printT 4 m = 98 :: 121 :: 116 :: 101 :: 115 :: 40 :: (digits m ++ [41]) := rfl
theorem typ_Print (u : X06 E) (a b : Int) (k : Nat) (hk : 27 ≤ k) (m : Mem) : denF E (k + 1) 93 [.p (tP a b)] m = some (.ret (if rightT a b then .tup [.p (.str (printT a b)), .p (.int .i64 0)] else .tup [.p (.str []), .p (.int .i64 2)]), m) := by
  refine denF_wp u.print rfl (args' := [.p (tP a b)]) rfl ?_
  obtain ⟨j, rfl⟩ : ∃ j, k = j + 25 := ⟨k - 25, by omega⟩
  have hR := fun m => typ_Right u.t06.right (j + 24) a b m
  have hL := fun m => typ_long u.t06.long (j + 24) a m
  have hg := u.words
  unfold tP at *
  cases h1 : rightT a b with
  | false =>
    rw [h1] at hR
    simp (maxSteps := 1000000) [Fn.f_typ_Print, hR]
  | true =>
    rw [h1] at hR
    rcases right_cases h1 with ⟨rfl, rfl⟩ | ⟨rfl, rfl⟩ | ⟨rfl, hb⟩ | ⟨rfl, hb⟩
    · simp (maxSteps := 1000000) [Fn.f_typ_Print, hR, hL, longT, hg, asNat, asInt, printT]
    · simp (maxSteps := 1000000) [Fn.f_typ_Print, hR, hL, longT, hg, asNat, asInt, printT]
    · have hD := fun m => value_Digits u.vdigits j b (by omega) (by omega) m
      have hl := digits_64 (n := b) (by omega) (by omega)
      have l1 : 1 + (digits b).length ≤ strLim := by unfold strLim; omega
      have l2 : (digits b).length + 1 + 1 ≤ strLim := by unfold strLim; omega
      have l3 : 4 + ((digits b).length + 1 + 1) ≤ strLim := by unfold strLim; omega
      have m0 : 1 + (digits b).length ≤ strLim := by unfold strLim; omega
      have m1 : (digits b).length + 1 ≤ strLim := by unfold strLim; omega
      have m2 : (digits b).length + 1 + 1 ≤ strLim := by unfold strLim; omega
      have m3 : 1 + (digits b).length + 1 ≤ strLim := by unfold strLim; omega
      have m4 : (digits b).length + 2 ≤ strLim := by unfold strLim; omega
      have m5 : 4 + ((digits b).length + 1 + 1) ≤ strLim := by unfold strLim; omega
      have m6 : 4 + ((digits b).length + 2) ≤ strLim := by unfold strLim; omega
      have m7 : 4 + (1 + (digits b).length + 1) ≤ strLim := by unfold strLim; omega
      have m8 : (digits b).length + 1 + 1 + 4 ≤ strLim := by unfold strLim; omega
      have m9 : 4 + (digits b).length ≤ strLim := by unfold strLim; omega
      have m10 : (digits b).length + 4 ≤ strLim := by unfold strLim; omega
      have m11 : 5 + (digits b).length + 1 ≤ strLim := by unfold strLim; omega
      have m12 : 5 + (digits b).length ≤ strLim := by unfold strLim; omega
      have m13 : (digits b).length + 5 + 1 ≤ strLim := by unfold strLim; omega
      have m14 : (digits b).length + 6 ≤ strLim := by unfold strLim; omega
      have m15 : (digits b).length + 1 + 1 + 1 + 1 + 1 ≤ strLim := by unfold strLim; omega
      have m16 : (digits b).length + 1 + 1 + 1 + 1 + 1 + 1 ≤ strLim := by unfold strLim; omega
      rw [printT_3]
      generalize digits b = D at *
      simp (maxSteps := 1000000) [Fn.f_typ_Print, hR, hL, longT, hg, asNat, asInt, hD, l1, l2, l3, m0, m1, m2, m3, m4, m5, m6, m7, m8, m9, m10, m11, m12, m13, m14, m15, m16]
      try omega
    · have hD := fun m => value_Digits u.vdigits j b (by omega) (by omega) m
      have hl := digits_64 (n := b) (by omega) (by omega)
      have l1 : 1 + (digits b).length ≤ strLim := by unfold strLim; omega
      have l2 : (digits b).length + 1 + 1 ≤ strLim := by unfold strLim; omega
      have l3 : 5 + ((digits b).length + 1 + 1) ≤ strLim := by unfold strLim; omega
      have m0 : 1 + (digits b).length ≤ strLim := by unfold strLim; omega
      have m1 : (digits b).length + 1 ≤ strLim := by unfold strLim; omega
      have m2 : (digits b).length + 1 + 1 ≤ strLim := by unfold strLim; omega
      have m3 : 1 + (digits b).length + 1 ≤ strLim := by unfold strLim; omega
      have m4 : (digits b).length + 2 ≤ strLim := by unfold strLim; omega
      have m5 : 5 + ((digits b).length + 1 + 1) ≤ strLim := by unfold strLim; omega
      have m6 : 5 + ((digits b).length + 2) ≤ strLim := by unfold strLim; omega
      have m7 : 5 + (1 + (digits b).length + 1) ≤ strLim := by unfold strLim; omega
      have m8 : (digits b).length + 1 + 1 + 5 ≤ strLim := by unfold strLim; omega
      have m9 : 5 + (digits b).length ≤ strLim := by unfold strLim; omega
      have m10 : (digits b).length + 5 ≤ strLim := by unfold strLim; omega
      have m11 : 6 + (digits b).length + 1 ≤ strLim := by unfold strLim; omega
      have m12 : 6 + (digits b).length ≤ strLim := by unfold strLim; omega
      have m13 : (digits b).length + 6 + 1 ≤ strLim := by unfold strLim; omega
      have m14 : (digits b).length + 7 ≤ strLim := by unfold strLim; omega
      have m15 : (digits b).length + 1 + 1 + 1 + 1 + 1 + 1 ≤ strLim := by unfold strLim; omega
      have m16 : (digits b).length + 1 + 1 + 1 + 1 + 1 + 1 + 1 ≤ strLim := by unfold strLim; omega
      rw [printT_4]
      generalize digits b = D at *
      simp (maxSteps := 1000000) [Fn.f_typ_Print, hR, hL, longT, hg, asNat, asInt, hD, l1, l2, l3, m0, m1, m2, m3, m4, m5, m6, m7, m8, m9, m10, m11, m12, m13, m14, m15, m16]
      try omega
theorem ref_TPrint (u : X06 E) (a b : Int) (hr : rightT a b = true) (k : Nat) (hk : 27 ≤ k) (m : Mem) : denF E (k + 1) 94 [.p (tP a b)] m = some (.ret (.p (.str (printT a b))), m) := by
  refine denF_wp u.rprint rfl (args' := [.p (tP a b)]) rfl ?_
  obtain ⟨j, rfl⟩ : ∃ j, k = j + 22 := ⟨k - 22, by omega⟩
  unfold tP at *
  rcases right_cases hr with ⟨rfl, rfl⟩ | ⟨rfl, rfl⟩ | ⟨rfl, hb⟩ | ⟨rfl, hb⟩
  · simp (maxSteps := 1000000) [Fn.f_haulageref06_Print, printT]
  · simp (maxSteps := 1000000) [Fn.f_haulageref06_Print, printT]
  · have hD := fun m => ref_Digits' u.m05.rdigits b (by omega) (by omega) j m
    have hl := digits_64 (n := b) (by omega) (by omega)
    have l1 : 5 + (digits b).length ≤ strLim := by unfold strLim; omega
    have l2 : (digits b).length + 1 + 1 + 1 + 1 + 1 + 1 ≤ strLim := by unfold strLim; omega
    have l3 : (digits b).length + 5 + 1 ≤ strLim := by unfold strLim; omega
    have m0 : 1 + (digits b).length ≤ strLim := by unfold strLim; omega
    have m1 : (digits b).length + 1 ≤ strLim := by unfold strLim; omega
    have m2 : (digits b).length + 1 + 1 ≤ strLim := by unfold strLim; omega
    have m3 : 1 + (digits b).length + 1 ≤ strLim := by unfold strLim; omega
    have m4 : (digits b).length + 2 ≤ strLim := by unfold strLim; omega
    have m5 : 4 + ((digits b).length + 1 + 1) ≤ strLim := by unfold strLim; omega
    have m6 : 4 + ((digits b).length + 2) ≤ strLim := by unfold strLim; omega
    have m7 : 4 + (1 + (digits b).length + 1) ≤ strLim := by unfold strLim; omega
    have m8 : (digits b).length + 1 + 1 + 4 ≤ strLim := by unfold strLim; omega
    have m9 : 4 + (digits b).length ≤ strLim := by unfold strLim; omega
    have m10 : (digits b).length + 4 ≤ strLim := by unfold strLim; omega
    have m11 : 5 + (digits b).length + 1 ≤ strLim := by unfold strLim; omega
    have m12 : 5 + (digits b).length ≤ strLim := by unfold strLim; omega
    have m13 : (digits b).length + 5 + 1 ≤ strLim := by unfold strLim; omega
    have m14 : (digits b).length + 6 ≤ strLim := by unfold strLim; omega
    have m15 : (digits b).length + 1 + 1 + 1 + 1 + 1 ≤ strLim := by unfold strLim; omega
    have m16 : (digits b).length + 1 + 1 + 1 + 1 + 1 + 1 ≤ strLim := by unfold strLim; omega
    rw [printT_3]
    generalize digits b = D at *
    simp (maxSteps := 1000000) [Fn.f_haulageref06_Print, hD, l1, l2, l3, m0, m1, m2, m3, m4, m5, m6, m7, m8, m9, m10, m11, m12, m13, m14, m15, m16]
    try omega
  · have hD := fun m => ref_Digits' u.m05.rdigits b (by omega) (by omega) j m
    have hl := digits_64 (n := b) (by omega) (by omega)
    have l1 : 6 + (digits b).length ≤ strLim := by unfold strLim; omega
    have l2 : (digits b).length + 1 + 1 + 1 + 1 + 1 + 1 + 1 ≤ strLim := by unfold strLim; omega
    have l3 : (digits b).length + 6 + 1 ≤ strLim := by unfold strLim; omega
    have m0 : 1 + (digits b).length ≤ strLim := by unfold strLim; omega
    have m1 : (digits b).length + 1 ≤ strLim := by unfold strLim; omega
    have m2 : (digits b).length + 1 + 1 ≤ strLim := by unfold strLim; omega
    have m3 : 1 + (digits b).length + 1 ≤ strLim := by unfold strLim; omega
    have m4 : (digits b).length + 2 ≤ strLim := by unfold strLim; omega
    have m5 : 5 + ((digits b).length + 1 + 1) ≤ strLim := by unfold strLim; omega
    have m6 : 5 + ((digits b).length + 2) ≤ strLim := by unfold strLim; omega
    have m7 : 5 + (1 + (digits b).length + 1) ≤ strLim := by unfold strLim; omega
    have m8 : (digits b).length + 1 + 1 + 5 ≤ strLim := by unfold strLim; omega
    have m9 : 5 + (digits b).length ≤ strLim := by unfold strLim; omega
    have m10 : (digits b).length + 5 ≤ strLim := by unfold strLim; omega
    have m11 : 6 + (digits b).length + 1 ≤ strLim := by unfold strLim; omega
    have m12 : 6 + (digits b).length ≤ strLim := by unfold strLim; omega
    have m13 : (digits b).length + 6 + 1 ≤ strLim := by unfold strLim; omega
    have m14 : (digits b).length + 7 ≤ strLim := by unfold strLim; omega
    have m15 : (digits b).length + 1 + 1 + 1 + 1 + 1 + 1 ≤ strLim := by unfold strLim; omega
    have m16 : (digits b).length + 1 + 1 + 1 + 1 + 1 + 1 + 1 ≤ strLim := by unfold strLim; omega
    rw [printT_4]
    generalize digits b = D at *
    simp (maxSteps := 1000000) [Fn.f_haulageref06_Print, hD, l1, l2, l3, m0, m1, m2, m3, m4, m5, m6, m7, m8, m9, m10, m11, m12, m13, m14, m15, m16]
    try omega
theorem numVal_digs : ∀ (k n : Nat), n ≤ k → numVal 0 (digs n) = n
  | 0, n, h => by
    have : n = 0 := by omega
    subst this
    rw [digs_small (by omega), numVal_cons, numVal_nil]
    decide
  | k + 1, n, h => by
    by_cases hn : n < 10
    · rw [digs_small hn, numVal_cons, numVal_nil]
      unfold dval
      rw [dgt_toNat hn]
      omega
    · rw [digs_big hn, numVal_snoc, numVal_digs k (n / 10) (by omega)]
      unfold dval
      rw [dgt_toNat (by omega)]
      omega
theorem digs_head : ∀ (k n : Nat), n ≤ k → 0 < n → (digs n).head? ≠ some 48
  | 0, n, h, h0 => by omega
  | k + 1, n, h, h0 => by
    by_cases hn : n < 10
    · rw [digs_small hn]
      intro e
      simp at e
      have := congrArg UInt8.toNat e
      rw [dgt_toNat hn] at this
      have e48 : (48 : UInt8).toNat = 48 := rfl
      omega
    · rw [digs_big hn]
      have := digs_head k (n / 10) (by omega) (by omega)
      cases hq : digs (n / 10) with
      | nil => exact absurd hq (digs_ne _)
      | cons c r => rw [hq] at this; simpa using this
theorem numS_digits {m : Int} (h1 : 1 ≤ m) (h2 : m ≤ 120) : numS (digits m ++ [41]) = numT m (digits m).length 0 := by
  obtain ⟨n, rfl⟩ : ∃ n : Nat, m = n := ⟨m.toNat, by omega⟩
  have hd : digits (n : Int) = digs n := by unfold digits; rw [if_neg (by omega), Int.natAbs_natCast]
  rw [hd]
  have hall : ∀ c ∈ digs n, isDig c = true := by
    intro c hc
    have := digs_mem n n (Nat.le_refl _) hc
    unfold isDig
    simp
    exact this
  have hh : ((digs n ++ [41]).head? == some 45) = false := by
    cases hq : digs n with
    | nil => exact absurd hq (digs_ne _)
    | cons c r =>
      have := digs_mem (c := c) n n (Nat.le_refl _) (by rw [hq]; simp)
      simp
      rintro rfl
      have e45 : (45 : UInt8).toNat = 45 := rfl
      omega
  have hrun : runD false (digs n ++ [41]) = digs n := by
    unfold runD ahead
    simp only [Bool.false_eq_true, if_false, List.drop_zero]
    rw [List.takeWhile_append_of_pos hall]
    have : [(41 : UInt8)].takeWhile isDig = [] := by decide
    rw [this, List.append_nil]
  unfold numS
  rw [hh, hrun]
  unfold numO
  have hb : bad0 false (digs n) = false := by
    unfold bad0
    have h48 := digs_head n n (Nat.le_refl _) (by omega)
    have e1 : ((digs n).head? == some 48) = false := by simpa using h48
    have e2 : (digs n).isEmpty = false := by
      cases hq : digs n with
      | nil => exact absurd hq (digs_ne _)
      | cons => rfl
    rw [e1, e2]
    rfl
  rw [hb, numVal_digs n n (Nat.le_refl _)]
  have : n ≤ mostOf false := by unfold mostOf; simp; omega
  rw [if_neg (by simp), if_pos this]
  unfold ahead
  simp
theorem read_print {a b : Int} (h : rightT a b = true) : readT (printT a b) = rT a b (printT a b).length 0 := by
  rcases right_cases h with ⟨rfl, rfl⟩ | ⟨rfl, rfl⟩ | ⟨rfl, hb⟩ | ⟨rfl, hb⟩
  · have e : printT 1 0 = [105, 110, 116] := rfl
    rw [e]
    have h1 : nameLen [105, 110, 116] = 3 := by decide
    have h2 : kindW (([105, 110, 116] : List UInt8).take 3) = 1 := by decide
    unfold readT
    rw [h1, h2, if_pos (.inl rfl)]
    rfl
  · have e : printT 2 0 = [108, 111, 110, 103] := rfl
    rw [e]
    have h1 : nameLen [108, 111, 110, 103] = 4 := by decide
    have h2 : kindW (([108, 111, 110, 103] : List UInt8).take 4) = 2 := by decide
    unfold readT
    rw [h1, h2, if_pos (.inr rfl)]
    rfl
  · rw [printT_3]
    have hN := numS_digits hb.1 hb.2
    generalize digits b = D at *
    have h1 : nameLen (116 :: 101 :: 120 :: 116 :: 40 :: (D ++ [41])) = 4 := rfl
    have h2 : kindW ((116 :: 101 :: 120 :: 116 :: 40 :: (D ++ [41])).take 4) = 3 := by
      have : (116 :: 101 :: 120 :: 116 :: 40 :: (D ++ [41])).take 4 = [116, 101, 120, 116] := rfl
      rw [this]; decide
    have h3 : (116 :: 101 :: 120 :: 116 :: 40 :: (D ++ [41]))[4]? = some (40 : UInt8) := rfl
    have h4 : (116 :: 101 :: 120 :: 116 :: 40 :: (D ++ [41])).drop (4 + 1) = D ++ [(41 : UInt8)] := rfl
    have h5 : (116 :: 101 :: 120 :: 116 :: 40 :: (D ++ [41]))[4 + 1 + D.length]? = some (41 : UInt8) := by
      have : 4 + 1 + D.length = D.length + 5 := by omega
      rw [this]
      show (D ++ [41])[D.length]? = _
      rw [List.getElem?_append_right (Nat.le_refl _), Nat.sub_self]
      rfl
    refine readT_cases _ _ h1 h2 (by rw [h4]; exact hN) ?_ ?_ ?_ ?_ ?_ ?_ ?_
    · intro q; omega
    · intro _ q; omega
    · intro _ _ q; exact absurd h3 q
    · intro _ _ _ q; exact absurd rfl q
    · intro _ _ _ _ q; exact absurd h5 q
    · intro _ _ _ _ _ q; omega
    · intro _ _ _ _ _ _ hr
      rw [hr]
      simp only [List.length_cons, List.length_append, List.length_nil]
      congr 1
      omega
  · rw [printT_4]
    have hN := numS_digits hb.1 hb.2
    generalize digits b = D at *
    have h1 : nameLen (98 :: 121 :: 116 :: 101 :: 115 :: 40 :: (D ++ [41])) = 5 := rfl
    have h2 : kindW ((98 :: 121 :: 116 :: 101 :: 115 :: 40 :: (D ++ [41])).take 5) = 4 := by
      have : (98 :: 121 :: 116 :: 101 :: 115 :: 40 :: (D ++ [41])).take 5 = [98, 121, 116, 101, 115] := rfl
      rw [this]; decide
    have h3 : (98 :: 121 :: 116 :: 101 :: 115 :: 40 :: (D ++ [41]))[5]? = some (40 : UInt8) := rfl
    have h4 : (98 :: 121 :: 116 :: 101 :: 115 :: 40 :: (D ++ [41])).drop (5 + 1) = D ++ [(41 : UInt8)] := rfl
    have h5 : (98 :: 121 :: 116 :: 101 :: 115 :: 40 :: (D ++ [41]))[5 + 1 + D.length]? = some (41 : UInt8) := by
      have : 5 + 1 + D.length = D.length + 6 := by omega
      rw [this]
      show (D ++ [41])[D.length]? = _
      rw [List.getElem?_append_right (Nat.le_refl _), Nat.sub_self]
      rfl
    refine readT_cases _ _ h1 h2 (by rw [h4]; exact hN) ?_ ?_ ?_ ?_ ?_ ?_ ?_
    · intro q; omega
    · intro _ q; omega
    · intro _ _ q; exact absurd h3 q
    · intro _ _ _ q; exact absurd rfl q
    · intro _ _ _ _ q; exact absurd h5 q
    · intro _ _ _ _ _ q; omega
    · intro _ _ _ _ _ _ hr
      rw [hr]
      simp only [List.length_cons, List.length_append, List.length_nil]
      congr 1
      omega
theorem printT_len {a b : Int} (h : rightT a b = true) : (printT a b).length ≤ 30 := by
  have hl : ∀ b : Int, 1 ≤ b ∧ b ≤ 120 → (digits b).length ≤ 20 := fun b hb => digits_64 (by omega) (by omega)
  rcases right_cases h with ⟨rfl, rfl⟩ | ⟨rfl, rfl⟩ | ⟨rfl, hb⟩ | ⟨rfl, hb⟩
  · decide
  · decide
  · have := hl b hb
    rw [printT_3]
    simp
    omega
  · have := hl b hb
    rw [printT_4]
    simp
    omega
theorem law_TypTexts (u : X06 E) (h : E.fn 220 = some Fn.f_haulagelaw06_TypTexts) (k : Nat) (hlv : ∀ m, denF E (k + 399) 78 [] m = some (.ret (.p (.bool true)), m)) {x0 : List PV} {x1 : PV} (c0 : Confs [.int .i64, .int .i64] x0) (c1 : Conf .str x1) (m : Mem) :
    denF E (k + 400) 220 [.p (.agg x0), .p x1] m = some (.ret (.p (.bool true)), m) := by
  obtain ⟨a, b, rfl, _, _⟩ := conf_type c0
  simp only [Conf] at c1
  obtain ⟨s, rfl, _⟩ := c1
  rw [denF_pure h rfl]
  by_cases hs : (100 : Int) < s.length
  · simp (maxSteps := 1000000) [Fn.f_haulagelaw06_TypTexts, hlv, hs]
  obtain ⟨ka, ma, za, ea, hr⟩ := readT_form s
  have h1 := fun m => typ_Read u s (by omega) (k + 398) (by omega) m
  have h2 := fun m => ref_TRead u (fun s hs k hk m => ref_Number u.m05 s hs k hk m) s (by omega) (k + 398) (by omega) m
  have h3 := fun m => typ_Parse u s (by omega) hr (k + 398) (by omega) m
  have h4 := fun m => ref_TParse u s (by omega) hr (k + 398) (by omega) m
  rw [hr] at h1 h2
  obtain ⟨kp, mp, ep, hp⟩ := parseR_form ka ma za ea s.length
  rw [hp] at h3 h4
  have h5 := fun m => typ_Print u a b (k + 398) (by omega) m
  have h6 := fun m => ref_TRight u.t06.rRight (k + 398) a b m
  unfold rT at h1 h2
  have es : ∀ x y : Int, eqTree (.struct [(0, 1, .int), (1, 1, .int)]) (.agg [.int .i64 x, .int .i64 y]) (.agg [.int .i64 x, .int .i64 y]) = some true := fun x y => by rw [eq_tP]; simp
  cases hR : rightT a b with
  | false =>
    rw [hR] at h5 h6
    simp only [Bool.false_eq_true, if_false] at h5
    unfold tP at *
    simp (maxSteps := 2000000) [Fn.f_haulagelaw06_TypTexts, hlv, hs, h1, h2, h3, h4, h5, h6, es, bne]
  | true =>
    have hpl := printT_len hR
    have h7 := fun m => typ_Parse u (printT a b) (by omega) (read_print hR) (k + 398) (by omega) m
    have h8 := fun m => ref_TPrint u a b hR (k + 398) (by omega) m
    have hpr : parseR a b ((printT a b).length : Int) 0 (printT a b).length = .tup [.p (tP a b), .p (.int .i64 0)] := by
      unfold parseR
      rw [if_neg (by omega)]
    rw [hpr] at h7
    rw [hR] at h5 h6
    simp only [if_true] at h5
    unfold tP at *
    generalize printT a b = P at *
    simp (maxSteps := 2000000) [Fn.f_haulagelaw06_TypTexts, hlv, hs, h1, h2, h3, h4, h5, h6, h7, h8, es, bne]
end Hx
