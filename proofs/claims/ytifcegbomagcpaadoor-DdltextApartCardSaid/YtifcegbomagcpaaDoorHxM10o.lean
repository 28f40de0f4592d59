/-
  HxM10o: the words of changes (plain).
-/
import Derived.Test.YtifcegbomagcpaaDoorHxV05l
import Derived.Test.YtifcegbomagcpaaDoorHxFn05
import Derived.Test.YtifcegbomagcpaaDoorHxU05g
import Derived.Test.YtifcegbomagcpaaDoorHxV05b
import Derived.Test.YtifcegbomagcpaaDoorHxU06g
import Derived.Test.YtifcegbomagcpaaDoorHxU10n
namespace Hx
open Go
set_option linter.unusedSimpArgs false
set_option linter.unusedVariables false
set_option maxHeartbeats 8000000
set_option maxRecDepth 20000
variable {E : Env}
attribute [-simp] List.getD_eq_getElem?_getD getElem?_pos
def printS (a n : Int) (s : List UInt8) : List UInt8 :=
  if a = 1 then digits n else if a = 2 then digits n ++ [108] else if a = 3 then 34 :: (quotes s ++ [34]) else if a = 4 then 120 :: 34 :: (hexes s ++ [34]) else [110, 117, 108, 108]
def PbInv (a n : Int) (s : List UInt8) (i : Nat) (st : St) : Prop := ∃ (t : Nat) (m : Mem), i ≤ s.length ∧ t ≠ 0 ∧ m[t]? = some (.tok 1 (2 + 2 * i)) ∧ m[0]? = some (.cells [.p (.int .i64 a), .p (.int .i64 n), .p (.str s)]) ∧
  Live Fn.f_value_Print_k0 (Fn.f_value_Print_s0 (.ptr 0 0) (.tv 1 (byteRows (120 :: 34 :: hexes (s.take i))) t) (.p (.int .i64 s.length)) (.p (.int .i64 i))) m st
theorem PbInv.mk {a n : Int} {s : List UInt8} {i : Nat} {st : St} (t : Nat) (m : Mem) (h1 : i ≤ s.length) (h2 : t ≠ 0) (h3 : m[t]? = some (.tok 1 (2 + 2 * i))) (h4 : m[0]? = some (.cells [.p (.int .i64 a), .p (.int .i64 n), .p (.str s)]))
  (h5 : Live Fn.f_value_Print_k0 (Fn.f_value_Print_s0 (.ptr 0 0) (.tv 1 (byteRows (120 :: 34 :: hexes (s.take i))) t) (.p (.int .i64 s.length)) (.p (.int .i64 i))) m st) : PbInv a n s i st := ⟨t, m, h1, h2, h3, h4, h5⟩
theorem value_Print (u : P05 E) (a n : Int) (s : List UInt8) (hn : isI64 n) (hs : (s.length : Int) ≤ 1000000000) (k : Nat) (hk : s.length + 60 ≤ k) (m : Mem) :
    denF E (k + 1) 43 [.p (.agg [.int .i64 a, .int .i64 n, .str s])] m = some (.ret (if rightV a n s then .tup [.p (.str (printS a n s)), .p (.int .i64 0)] else .tup [.p (.str []), .p (.int .i64 2)]), m) := by
  refine denF_wp u.print rfl (args' := [.p (.agg [.int .i64 a, .int .i64 n, .str s])]) rfl ?_
  obtain ⟨j, rfl⟩ : ∃ j, k = j + 25 := ⟨k - 25, by omega⟩
  have hR := fun m => value_Right u.w.v a n s hn (by omega) (j + 24) (by omega) m
  have hD := fun m => value_Digits u.vdig j n hn.1 hn.2 m
  have hQ := fun m => name_Quote u.h.q s hs (j + 24) (by omega) m
  unfold vP at hR
  unfold printS
  cases hr : rightV a n s with
  | false =>
    rw [hr] at hR
    simp [Fn.f_value_Print, hR]
  | true =>
    rw [hr] at hR
    have hdl := digits_64 hn.1 hn.2
    have hdl2 : (digits n).length + 1 ≤ strLim := by unfold strLim; omega
    by_cases h1 : a = 1
    · subst h1
      simp [Fn.f_value_Print, hR, hD]
    have b1 : (a == 1) = false := by simpa using h1
    by_cases h2 : a = 2
    · subst h2
      simp [Fn.f_value_Print, hR, hD, hdl2]
    have b2 : (a == 2) = false := by simpa using h2
    by_cases h3 : a = 3
    · subst h3
      simp [Fn.f_value_Print, hR, hQ]
    have b3 : (a == 3) = false := by simpa using h3
    by_cases h4 : ¬ a = 4
    · have b4 : (a == 4) = false := by simpa using h4
      simp [Fn.f_value_Print, hR, b1, b2, b3, b4, h1, h2, h3, h4]
    obtain rfl := Classical.not_not.1 h4
    simp [Fn.f_value_Print, hR]
    refine (loop_wp (α := Nat) (I := fun i st => PbInv 4 n s i st) (meas := fun i => s.length - i)
      (Q := fun e st => e = .exit 1 ∧ st.ds = [] ∧ st.ts.length = 57 ∧ ∃ t, st.ts.getD 4 (.tup []) = .tv 1 (byteRows (120 :: 34 :: hexes s)) t ∧ st.m[t]? = some (.tok 1 (2 + 2 * s.length))) ?_ (j + 25) 0 _
      (PbInv.mk 1 _ (Nat.zero_le _) (by decide) rfl rfl ⟨rfl, rfl, rfl, rfl⟩) (by omega)).mono ?_
    · rintro i st ⟨t, m, hi0, ht0, ht, hm0, hlive⟩
      rw [loopF_live hlive]
      by_cases hi : i < s.length
      · have hi' : (i : Int) < s.length := by omega
        obtain ⟨c, hc⟩ : ∃ c, s[i]? = some c := ⟨_, List.getElem?_eq_getElem hi⟩
        have hw : IntKind.i64.wrap ((i : Int) + 1) = ((i + 1 : Nat) : Int) := by rw [wrap_i64 (by omega) (by omega)]; omega
        have hcl := UInt8.toNat_lt c
        have hqs : hexes (s.take (i + 1)) = hexes (s.take i) ++ hexC c := by rw [take_snoc hc, hexes_snoc]
        have hl := hexes_len (s.take i)
        have htl : (s.take i).length = i := by rw [List.length_take]; omega
        have x1 := hexS_at (n := c.toNat / 16) (by omega)
        have x2 := hexS_at (n := c.toNat % 16) (by omega)
        have d1 := fdiv16 c.toNat
        have d2 : bitsI .and .u8 (c.toNat : Int) 15 = some ((c.toNat % 16 : Nat) : Int) := by
          rw [and_u8_15 (by omega) (by omega)]
          rfl
        unfold hexC at hqs
        generalize hq1 : c.toNat / 16 = q1 at *
        generalize hq2 : c.toNat % 16 = q2 at *
        have ml := get_lt hm0
        have ht2 : ∀ z : Blk, (m ++ [z])[t]? = some (.tok 1 (2 + 2 * i)) := fun z => get_app ht _
        have hbl : (byteRows (120 :: 34 :: hexes (s.take i))).length = 2 + 2 * i := by rw [byteRows_len', List.length_cons, List.length_cons, hl, htl]; omega
        have happ : byteRows (120 :: 34 :: hexes (s.take (i + 1))) = byteRows (120 :: 34 :: hexes (s.take i)) ++ [[PV.int .u8 (hexd q1).toNat], [PV.int .u8 (hexd q2).toNat]] := by
          rw [hqs]; simp [byteRows, byteRow]
        generalize hX : byteRows (120 :: 34 :: hexes (s.take i)) = X at *
        have hb2 : 2 + 2 * i + 2 ≤ room := by unfold room; omega
        simp [Fn.f_value_Print_b0, Fn.f_value_Print_s0, hi, hi', hc, hw, hm0, ml, d1, d2, x1, x2, ht2, hbl, hb2, -Int.natCast_add]
        refine ⟨i + 1, by omega, PbInv.mk t _ hi ht0 ?_ ?_ ⟨rfl, by simp [keep, Fn.f_value_Print_k0, Fn.f_value_Print_s0, happ], rfl, rfl⟩⟩
        · rw [get_set (ht2 _)]
          have : 2 + 2 * i + 2 = 2 + 2 * (i + 1) := by omega
          rw [this]
        · rw [get_ne ht0]
          exact get_app hm0 _
      · have hi' : ¬ (i : Int) < s.length := by omega
        have hi2 : i = s.length := by omega
        have e : s.take i = s := List.take_of_length_le (by omega)
        rw [e] at hlive
        simp [Fn.f_value_Print_b0, Fn.f_value_Print_s0, hi, hi', e]
        rw [← hi2]
        exact ht
    · rintro e st ⟨rfl, h1, h2, t, h3, ht⟩
      obtain ⟨ts, m', ds⟩ := st
      simp only at h1 h2 h3 ht
      subst h1
      have hl := hexes_len s
      have hbl : (byteRows (120 :: 34 :: hexes s)).length = 2 + 2 * s.length := by rw [byteRows_len', List.length_cons, List.length_cons, hl]; omega
      have happ : byteRows (120 :: 34 :: hexes s) ++ [[PV.int .u8 34]] = byteRows (120 :: 34 :: (hexes s ++ [34])) := by simp [byteRows, byteRow]
      have hun := unBytes_rows' (120 :: 34 :: (hexes s ++ [34]))
      have hb2 : 2 + 2 * s.length + 1 ≤ room := by unfold room; omega
      generalize byteRows (120 :: 34 :: hexes s) = X at *
      have ht2 : ∀ z : Blk, (m' ++ [z])[t]? = some (.tok 1 (2 + 2 * s.length)) := fun z => get_app ht _
      match ts, h2, h3 with
      | t0 :: t1 :: t2 :: t3 :: t4 :: t5 :: t6 :: t7 :: t8 :: t9 :: t10 :: t11 :: t12 :: t13 :: t14 :: t15 :: t16 :: t17 :: t18 :: t19 :: t20 :: t21 :: t22 :: t23 :: t24 :: t25 :: t26 :: t27 :: t28 :: t29 :: t30 :: t31 :: t32 :: t33 :: t34 :: t35 :: t36 :: t37 :: t38 :: t39 :: t40 :: t41 :: t42 :: t43 :: t44 :: t45 :: t46 :: t47 :: t48 :: t49 :: t50 :: t51 :: t52 :: t53 :: t54 :: t55 :: t56 :: [], h2, h3 =>
        simp only [getD_zero', getD_succ'] at h3
        subst h3
        simp [ht2, hbl, hb2, happ, hun]
end Hx

namespace Hx
open Go
set_option linter.unusedSimpArgs false
set_option linter.unusedVariables false
set_option maxHeartbeats 4000000
set_option maxRecDepth 20000
variable {E : Env}
attribute [-simp] List.getD_eq_getElem?_getD getElem?_pos
theorem numVal_digs5 : ∀ (k n : Nat), n ≤ k → numVal 0 (digs n) = n
  | 0, n, h => by
    have : n = 0 := by omega
    subst this
    rw [digs_small (by omega), numVal_cons, numVal_nil]
    decide
  | k + 1, n, h => by
    by_cases hn : n < 10
    · rw [digs_small hn, numVal_cons, numVal_nil]
      unfold dval
      rw [dgt_toNat hn]
      omega
    · rw [digs_big hn, numVal_snoc, numVal_digs5 k (n / 10) (by omega)]
      unfold dval
      rw [dgt_toNat (by omega)]
      omega
theorem digs_head5 : ∀ (k n : Nat), n ≤ k → 0 < n → (digs n).head? ≠ some 48
  | 0, n, h, h0 => by omega
  | k + 1, n, h, h0 => by
    by_cases hn : n < 10
    · rw [digs_small hn]
      intro e
      simp at e
      have := congrArg UInt8.toNat e
      rw [dgt_toNat hn] at this
      have e48 : (48 : UInt8).toNat = 48 := rfl
      omega
    · rw [digs_big hn]
      have := digs_head5 k (n / 10) (by omega) (by omega)
      cases hq : digs (n / 10) with
      | nil => exact absurd hq (digs_ne _)
      | cons c r => rw [hq] at this; simpa using this
def noDig (t : List UInt8) : Prop := ∀ c, t.head? = some c → isDig c = false
theorem numS_digits5 {n : Int} (h1 : -9223372036854775808 ≤ n) (h2 : n ≤ 9223372036854775807) {t : List UInt8} (ht : noDig t) : numS (digits n ++ t) = numT n (digits n).length 0 := by
  have hall : ∀ N : Nat, ∀ c ∈ digs N, isDig c = true := by
    intro N c hc
    have := digs_mem N N (Nat.le_refl _) hc
    unfold isDig
    simp
    exact this
  have htail : t.takeWhile isDig = [] := by
    cases t with
    | nil => rfl
    | cons c r => rw [List.takeWhile_cons, ht c rfl]; rfl
  have hne : ∀ N : Nat, (digs N).isEmpty = false := by
    intro N
    cases hq : digs N with
    | nil => exact absurd hq (digs_ne _)
    | cons => rfl
  have h48 : ∀ N : Nat, 0 < N → ((digs N).head? == some 48) = false := by
    intro N hN
    simpa using digs_head5 N N (Nat.le_refl _) hN
  by_cases hn : n < 0
  · have hd : digits n = 45 :: digs n.natAbs := by unfold digits; rw [if_pos hn]
    rw [hd]
    have hh : ((45 :: digs n.natAbs ++ t).head? == some 45) = true := by simp
    have hrun : runD true (45 :: digs n.natAbs ++ t) = digs n.natAbs := by
      unfold runD ahead
      simp only [if_true, List.cons_append, List.drop_succ_cons, List.drop_zero]
      rw [List.takeWhile_append_of_pos (hall _), htail, List.append_nil]
    unfold numS
    rw [hh, hrun]
    unfold numO
    have hb : bad0 true (digs n.natAbs) = false := by
      unfold bad0
      rw [h48 _ (by omega), hne]
      rfl
    rw [hb, numVal_digs5 _ _ (Nat.le_refl _)]
    have : n.natAbs ≤ mostOf true := by unfold mostOf; simp; omega
    rw [if_neg (by simp), if_pos this]
    unfold ahead
    simp only [if_true, List.length_cons]
    congr 1
    · omega
    · omega
  · have hd : digits n = digs n.natAbs := by unfold digits; rw [if_neg hn]
    rw [hd]
    have hh : ((digs n.natAbs ++ t).head? == some 45) = false := by
      cases hq : digs n.natAbs with
      | nil => exact absurd hq (digs_ne _)
      | cons c r =>
        have := digs_mem (c := c) n.natAbs n.natAbs (Nat.le_refl _) (by rw [hq]; simp)
        simp
        rintro rfl
        have e45 : (45 : UInt8).toNat = 45 := rfl
        omega
    have hrun : runD false (digs n.natAbs ++ t) = digs n.natAbs := by
      unfold runD ahead
      simp only [Bool.false_eq_true, if_false, List.drop_zero]
      rw [List.takeWhile_append_of_pos (hall _), htail, List.append_nil]
    unfold numS
    rw [hh, hrun]
    unfold numO
    have hb : bad0 false (digs n.natAbs) = false := by
      unfold bad0
      by_cases h0 : n.natAbs = 0
      · rw [h0, digs_small (by omega)]
        rfl
      · rw [h48 _ (by omega), hne]
        rfl
    rw [hb, numVal_digs5 _ _ (Nat.le_refl _)]
    have : n.natAbs ≤ mostOf false := by unfold mostOf; simp; omega
    rw [if_neg (by simp), if_pos this]
    unfold ahead
    simp only [Bool.false_eq_true, if_false, Nat.zero_add]
    congr 1
    omega
end Hx

namespace Hx
open Go
set_option linter.unusedSimpArgs false
set_option linter.unusedVariables false
set_option maxHeartbeats 8000000
set_option maxRecDepth 20000
variable {E : Env}
attribute [-simp] List.getD_eq_getElem?_getD getElem?_pos
def stopT (T : List UInt8) : Prop := ∀ c, T.head? = some c → partC c = false
theorem dig_part {c : UInt8} (h : isDig c = true) : partC c = true := by
  unfold isDig at h
  simp only [Bool.and_eq_true, decide_eq_true_eq] at h
  unfold partC
  have h1 : (48 : Int) ≤ c.toNat := by omega
  have h2 : (c.toNat : Int) ≤ 57 := by omega
  simp [h1, h2]
theorem stop_noDig {T : List UInt8} (h : stopT T) : noDig T := by
  intro c hc
  cases hd : isDig c with
  | false => rfl
  | true => have := dig_part hd; rw [h c hc] at this; cases this
theorem append_at {x T : List UInt8} : (x ++ T)[x.length]? = T.head? := by
  rw [List.getElem?_append_right (Nat.le_refl _), Nat.sub_self]
  cases T <;> rfl
theorem digits_head {n : Int} {c : UInt8} {r : List UInt8} (h : digits n = c :: r) : c = 45 ∨ isDig c = true := by
  unfold digits at h
  split at h
  · exact .inl (List.head_eq_of_cons_eq h).symm
  · right
    have := digs_mem (c := c) n.natAbs n.natAbs (Nat.le_refl _) (by rw [h]; simp)
    unfold isDig
    simp
    exact this
theorem numN_digits {n : Int} (hn : isI64 n) {T : List UInt8} (ht : noDig T) : numN (digits n ++ T) = if T.head? = some 108 then (2, n, [], ((digits n).length : Int) + 1, 0) else if fits32 n then (1, n, [], ((digits n).length : Int), 0) else (0, 0, [], ((digits n).length : Int), 10) := by
  rw [numN_of (numS_digits5 hn.1 hn.2 ht), if_neg (by simp), append_at]
theorem readR_num {s : List UInt8} {c : UInt8} {r : List UInt8} (h : s = c :: r) (hc : c = 45 ∨ isDig c = true) : readR s = cleanR (numN s) := by
  subst h
  rw [readR_cons, if_pos hc]
theorem readR_digits (n : Int) (T : List UInt8) : readR (digits n ++ T) = cleanR (numN (digits n ++ T)) := by
  cases hd : digits n with
  | nil => exact absurd hd (digits_ne n)
  | cons c r => exact readR_num (List.cons_append) (digits_head hd)
theorem read_printed {a n : Int} {s : List UInt8} (hr : rightV a n s = true) (hn : isI64 n) {T : List UInt8} (ht : stopT T) : readR (printS a n s ++ T) = (a, n, s, ((printS a n s).length : Int), 0) := by
  have hnd := stop_noDig ht
  have h108 : T.head? ≠ some 108 := by
    intro h
    have := ht 108 h
    revert this
    decide
  unfold rightV at hr
  unfold printS
  by_cases a0 : a = 0
  · subst a0
    simp at hr
    obtain ⟨rfl, rfl⟩ := hr
    simp only [if_true, show ¬ (0 : Int) = 1 by decide, show ¬ (0 : Int) = 2 by decide, show ¬ (0 : Int) = 3 by decide, show ¬ (0 : Int) = 4 by decide, if_false]
    have hname : nameLen ([110, 117, 108, 108] ++ T) = 4 := by
      have hl : letter 110 = true := by decide
      have e : nameLen (110 :: 117 :: 108 :: 108 :: T) = if letter 110 then 1 + ((117 :: 108 :: 108 :: T).takeWhile partC).length else 0 := rfl
      show nameLen (110 :: 117 :: 108 :: 108 :: T) = 4
      rw [e, if_pos hl]
      have p1 : partC 117 = true := by decide
      have p2 : partC 108 = true := by decide
      rw [List.takeWhile_cons, if_pos p1, List.takeWhile_cons, if_pos p2, List.takeWhile_cons, if_pos p2]
      have : T.takeWhile partC = [] := by
        cases T with
        | nil => rfl
        | cons c r => rw [List.takeWhile_cons, ht c rfl]; rfl
      rw [this]
      rfl
    have e : ([110, 117, 108, 108] ++ T : List UInt8) = 110 :: (117 :: 108 :: 108 :: T) := rfl
    have n1 : ¬ ((110 : UInt8) = 45 ∨ isDig 110 = true) := by decide
    have n2 : ¬ (110 : UInt8) = 34 := by decide
    have n3 : ¬ starts (110 :: 117 :: 108 :: 108 :: T) [120, 34] = true := by
      unfold starts
      simp
    rw [e, readR_cons, if_neg n1, if_neg n2, if_neg n3]
    rw [e] at hname
    rw [hname, if_pos (show List.take 4 (110 :: 117 :: 108 :: 108 :: T) = wNull from rfl)]
    rfl
  rw [if_neg a0] at hr
  by_cases a1 : a = 1
  · subst a1
    simp at hr
    obtain ⟨hf, rfl⟩ := hr
    simp only [if_true]
    rw [readR_digits, numN_digits hn hnd, if_neg h108, if_pos hf]
    rfl
  rw [if_neg a1] at hr
  by_cases a2 : a = 2
  · subst a2
    simp at hr
    subst hr
    simp only [if_true, show ¬ (2 : Int) = 1 by decide, if_false]
    have hnd2 : noDig (108 :: T) := by
      intro c hc
      simp at hc
      subst hc
      decide
    rw [List.append_assoc, List.singleton_append, readR_digits, numN_digits hn hnd2, if_pos (show (108 :: T).head? = some 108 from rfl)]
    unfold cleanR
    simp
  rw [if_neg a2] at hr
  by_cases a3 : a = 3
  · subst a3
    simp at hr
    obtain ⟨⟨rfl, hl⟩, hs⟩ := hr
    simp only [if_true, show ¬ (3 : Int) = 1 by decide, show ¬ (3 : Int) = 2 by decide, if_false]
    have e : (34 :: (quotes s ++ [34]) ++ T : List UInt8) = 34 :: (quotes s ++ 34 :: T) := by simp
    have n1 : ¬ ((34 : UInt8) = 45 ∨ isDig 34 = true) := by decide
    rw [e, readR_cons, if_neg n1, if_pos rfl]
    have hq := unq_quotes T s
    unfold textN textW
    rw [if_pos (show (34 :: (quotes s ++ 34 :: T)).head? = some 34 from rfl), List.tail_cons, hq]
    simp only
    rw [if_neg (by omega), if_pos hs]
    unfold cleanR
    simp
  rw [if_neg a3] at hr
  by_cases a4 : a = 4
  · subst a4
    simp at hr
    obtain ⟨rfl, hl⟩ := hr
    simp only [if_true, show ¬ (4 : Int) = 1 by decide, show ¬ (4 : Int) = 2 by decide, show ¬ (4 : Int) = 3 by decide, if_false]
    have e : (120 :: 34 :: (hexes s ++ [34]) ++ T : List UInt8) = 120 :: 34 :: (hexes s ++ 34 :: T) := by simp
    have n1 : ¬ ((120 : UInt8) = 45 ∨ isDig 120 = true) := by decide
    have n2 : ¬ (120 : UInt8) = 34 := by decide
    have n3 : starts (120 :: 34 :: (hexes s ++ 34 :: T)) [120, 34] = true := by
      unfold starts
      simp
    rw [e, readR_cons, if_neg n1, if_neg n2, if_pos n3]
    have hq := unh_hexes T s [] 0
    unfold hexN hexW
    have e2 : (120 :: 34 :: (hexes s ++ 34 :: T)).drop 2 = hexes s ++ 34 :: T := rfl
    rw [e2, hq]
    simp only [List.nil_append, if_true]
    rw [if_neg (by omega)]
    have hx := hexes_len s
    unfold cleanR
    simp
    omega
  rw [if_neg a4] at hr
  cases hr
theorem printS_len {a n : Int} {s : List UInt8} (hn : isI64 n) : (printS a n s).length ≤ 4 * s.length + 25 := by
  have h1 := digits_64 hn.1 hn.2
  have h2 := quotes_len s
  have h3 := hexes_len s
  unfold printS
  split
  · omega
  split
  · rw [List.length_append]; simp; omega
  split
  · simp; omega
  split
  · simp; omega
  · simp
end Hx

namespace Hx
open Go
def opWords : List (List UInt8) := [[99, 114, 101, 97, 116, 101], [100, 114, 111, 112], [114, 101, 110, 97, 109, 101], [97, 100, 100], [99, 117, 116], [99, 97, 108, 108], [119, 105, 100, 101, 110], [112, 114, 101, 115, 101, 116]]
def opF (w : List UInt8) : Nat → List (List UInt8) → Nat
  | _, [] => 0
  | i, x :: l => if x = w then i + 1 else opF w (i + 1) l
def opOf (w : List UInt8) : Nat := opF w 0 opWords
end Hx
