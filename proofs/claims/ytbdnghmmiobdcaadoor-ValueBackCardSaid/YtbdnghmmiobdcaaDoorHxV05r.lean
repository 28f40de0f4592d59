/-
  HxV05r: what is written of a value is parsed as it, and the other way round; the law ValueBack on the evaluator.
-/
import Derived.Test.YtbdnghmmiobdcaaDoorHxV05s
import Derived.Test.YtbdnghmmiobdcaaDoorHxV05m
import Derived.Test.YtbdnghmmiobdcaaDoorHxV05c
namespace Hx
open Go
set_option linter.unusedSimpArgs false
set_option linter.unusedVariables false
set_option maxHeartbeats 8000000
set_option maxRecDepth 20000
variable {E : Env}
attribute [-simp] List.getD_eq_getElem?_getD getElem?_pos
/-- The value that a text is, and an error's number. -/
def parseR (s : List UInt8) : Int × Int × List UInt8 × Int := if (readR s).2.2.2.2 = 0 ∧ (readR s).2.2.2.1 < s.length then (0, 0, [], 6) else ((readR s).1, (readR s).2.1, (readR s).2.2.1, (readR s).2.2.2.2)
def prV (r : Int × Int × List UInt8 × Int) : AV := valE r.1 r.2.1 r.2.2.1 r.2.2.2
theorem value_Parse (u : P05 E) (s : List UInt8) (hs : (s.length : Int) ≤ 1000000000) (k : Nat) (hk : s.length + 61 ≤ k) (m : Mem) : denF E (k + 1) 28 [.p (.str s)] m = some (.ret (prV (parseR s)), m) := by
  refine denF_wp u.parse rfl (args' := [.p (.str s)]) rfl ?_
  obtain ⟨j, rfl⟩ : ∃ j, k = j + 1 := ⟨k - 1, by omega⟩
  have hR := fun m => value_Read u s hs j (by omega) m
  unfold parseR
  generalize readR s = R at *
  obtain ⟨r1, r2, r3, r4, r5⟩ := R
  unfold rdV rT5 at hR
  simp only at hR ⊢
  unfold prV valE
  by_cases h0 : r5 = 0
  · subst h0
    by_cases hl : r4 < s.length
    · rw [if_pos ⟨rfl, hl⟩]
      simp [Fn.f_value_Parse, hR, hl]
    · rw [if_neg (fun h => hl h.2)]
      simp [Fn.f_value_Parse, hR, hl]
  · have : (r5 == 0) = false := by simpa using h0
    rw [if_neg (fun h => h0 h.1)]
    simp [Fn.f_value_Parse, hR, this]
theorem ref_VParse (u : P05 E) (s : List UInt8) (hs : (s.length : Int) ≤ 1000000000) (k : Nat) (hk : s.length + 301 ≤ k) (m : Mem) : denF E (k + 1) 29 [.p (.str s)] m = some (.ret (prV (parseR s)), m) := by
  refine denF_wp u.rparse rfl (args' := [.p (.str s)]) rfl ?_
  obtain ⟨j, rfl⟩ : ∃ j, k = j + 1 := ⟨k - 1, by omega⟩
  have hR := fun m => ref_VRead u s hs j (by omega) m
  unfold parseR
  generalize readR s = R at *
  obtain ⟨r1, r2, r3, r4, r5⟩ := R
  unfold rdV rT5 at hR
  simp only at hR ⊢
  unfold prV valE
  by_cases h0 : r5 = 0
  · subst h0
    by_cases hl : r4 < s.length
    · rw [if_pos ⟨rfl, hl⟩]
      simp [Fn.f_haulageref05_Parse, hR, hl]
    · rw [if_neg (fun h => hl h.2)]
      simp [Fn.f_haulageref05_Parse, hR, hl]
  · have : (r5 == 0) = false := by simpa using h0
    rw [if_neg (fun h => h0 h.1)]
    simp [Fn.f_haulageref05_Parse, hR, this]
theorem eq_v5 (x y : Int) (z : List UInt8) : eqTree (.struct [(0, 1, .int), (1, 1, .int), (2, 1, .str)]) (.agg [.int .i64 x, .int .i64 y, .str z]) (.agg [.int .i64 x, .int .i64 y, .str z]) = some true := by rw [eq_vP]; simp
theorem law_ValueReads (u : P05 E) (h : E.fn 208 = some Fn.f_haulagelaw05_ValueReads) (k : Nat) (hlv : ∀ m, denF E (k + 799) 25 [] m = some (.ret (.p (.bool true)), m)) {x0 : PV} (c0 : Conf .str x0) (m : Mem) :
    denF E (k + 800) 208 [.p x0] m = some (.ret (.p (.bool true)), m) := by
  simp only [Conf] at c0
  obtain ⟨s, rfl, _⟩ := c0
  rw [denF_pure h rfl]
  by_cases hs : (400 : Int) < s.length
  · simp (maxSteps := 1000000) [Fn.f_haulagelaw05_ValueReads, hlv, hs]
  have h1 := fun m => value_Read u s (by omega) (k + 798) (by omega) m
  have h2 := fun m => ref_VRead u s (by omega) (k + 798) (by omega) m
  have h3 := fun m => value_Parse u s (by omega) (k + 798) (by omega) m
  have h4 := fun m => ref_VParse u s (by omega) (k + 798) (by omega) m
  generalize readR s = R at *
  obtain ⟨r1, r2, r3, r4, r5⟩ := R
  generalize parseR s = P at *
  obtain ⟨p1, p2, p3, p4⟩ := P
  unfold rdV rT5 at h1 h2
  unfold prV valE at h3 h4
  simp only at h1 h2 h3 h4
  simp (maxSteps := 4000000) [Fn.f_haulagelaw05_ValueReads, hlv, hs, h1, h2, h3, h4, eq_v5]
end Hx

namespace Hx
open Go
set_option linter.unusedSimpArgs false
set_option linter.unusedVariables false
set_option maxHeartbeats 8000000
set_option maxRecDepth 20000
variable {E : Env}
attribute [-simp] List.getD_eq_getElem?_getD getElem?_pos
def printS (a n : Int) (s : List UInt8) : List UInt8 :=
  if a = 1 then digits n else if a = 2 then digits n ++ [108] else if a = 3 then 34 :: (quotes s ++ [34]) else if a = 4 then 120 :: 34 :: (hexes s ++ [34]) else [110, 117, 108, 108]
def PbInv (a n : Int) (s : List UInt8) (i : Nat) (st : St) : Prop := ∃ (t : Nat) (m : Mem), i ≤ s.length ∧ t ≠ 0 ∧ m[t]? = some (.tok 1 (2 + 2 * i)) ∧ m[0]? = some (.cells [.p (.int .i64 a), .p (.int .i64 n), .p (.str s)]) ∧
  Live Fn.f_value_Print_k0 (Fn.f_value_Print_s0 (.ptr 0 0) (.tv 1 (byteRows (120 :: 34 :: hexes (s.take i))) t) (.p (.int .i64 s.length)) (.p (.int .i64 i))) m st
theorem PbInv.mk {a n : Int} {s : List UInt8} {i : Nat} {st : St} (t : Nat) (m : Mem) (h1 : i ≤ s.length) (h2 : t ≠ 0) (h3 : m[t]? = some (.tok 1 (2 + 2 * i))) (h4 : m[0]? = some (.cells [.p (.int .i64 a), .p (.int .i64 n), .p (.str s)]))
  (h5 : Live Fn.f_value_Print_k0 (Fn.f_value_Print_s0 (.ptr 0 0) (.tv 1 (byteRows (120 :: 34 :: hexes (s.take i))) t) (.p (.int .i64 s.length)) (.p (.int .i64 i))) m st) : PbInv a n s i st := ⟨t, m, h1, h2, h3, h4, h5⟩
theorem value_Print (u : P05 E) (a n : Int) (s : List UInt8) (hn : isI64 n) (hs : (s.length : Int) ≤ 1000000000) (k : Nat) (hk : s.length + 60 ≤ k) (m : Mem) :
    denF E (k + 1) 43 [.p (.agg [.int .i64 a, .int .i64 n, .str s])] m = some (.ret (if rightV a n s then .tup [.p (.str (printS a n s)), .p (.int .i64 0)] else .tup [.p (.str []), .p (.int .i64 2)]), m) := by
  refine denF_wp u.print rfl (args' := [.p (.agg [.int .i64 a, .int .i64 n, .str s])]) rfl ?_
  obtain ⟨j, rfl⟩ : ∃ j, k = j + 25 := ⟨k - 25, by omega⟩
  have hR := fun m => value_Right u.w.v a n s hn (by omega) (j + 24) (by omega) m
  have hD := fun m => value_Digits u.vdig j n hn.1 hn.2 m
  have hQ := fun m => name_Quote u.h.q s hs (j + 24) (by omega) m
  unfold vP at hR
  unfold printS
  cases hr : rightV a n s with
  | false =>
    rw [hr] at hR
    simp [Fn.f_value_Print, hR]
  | true =>
    rw [hr] at hR
    have hdl := digits_64 hn.1 hn.2
    have hdl2 : (digits n).length + 1 ≤ strLim := by unfold strLim; omega
    by_cases h1 : a = 1
    · subst h1
      simp [Fn.f_value_Print, hR, hD]
    have b1 : (a == 1) = false := by simpa using h1
    by_cases h2 : a = 2
    · subst h2
      simp [Fn.f_value_Print, hR, hD, hdl2]
    have b2 : (a == 2) = false := by simpa using h2
    by_cases h3 : a = 3
    · subst h3
      simp [Fn.f_value_Print, hR, hQ]
    have b3 : (a == 3) = false := by simpa using h3
    by_cases h4 : ¬ a = 4
    · have b4 : (a == 4) = false := by simpa using h4
      simp [Fn.f_value_Print, hR, b1, b2, b3, b4, h1, h2, h3, h4]
    obtain rfl := Classical.not_not.1 h4
    simp [Fn.f_value_Print, hR]
    refine (loop_wp (α := Nat) (I := fun i st => PbInv 4 n s i st) (meas := fun i => s.length - i)
      (Q := fun e st => e = .exit 1 ∧ st.ds = [] ∧ st.ts.length = 57 ∧ ∃ t, st.ts.getD 4 (.tup []) = .tv 1 (byteRows (120 :: 34 :: hexes s)) t ∧ st.m[t]? = some (.tok 1 (2 + 2 * s.length))) ?_ (j + 25) 0 _
      (PbInv.mk 1 _ (Nat.zero_le _) (by decide) rfl rfl ⟨rfl, rfl, rfl, rfl⟩) (by omega)).mono ?_
    · rintro i st ⟨t, m, hi0, ht0, ht, hm0, hlive⟩
      rw [loopF_live hlive]
      by_cases hi : i < s.length
      · have hi' : (i : Int) < s.length := by omega
        obtain ⟨c, hc⟩ : ∃ c, s[i]? = some c := ⟨_, List.getElem?_eq_getElem hi⟩
        have hw : IntKind.i64.wrap ((i : Int) + 1) = ((i + 1 : Nat) : Int) := by rw [wrap_i64 (by omega) (by omega)]; omega
        have hcl := UInt8.toNat_lt c
        have hqs : hexes (s.take (i + 1)) = hexes (s.take i) ++ hexC c := by rw [take_snoc hc, hexes_snoc]
        have hl := hexes_len (s.take i)
        have htl : (s.take i).length = i := by rw [List.length_take]; omega
        have x1 := hexS_at (n := c.toNat / 16) (by omega)
        have x2 := hexS_at (n := c.toNat % 16) (by omega)
        have d1 := fdiv16 c.toNat
        have d2 : bitsI .and .u8 (c.toNat : Int) 15 = some ((c.toNat % 16 : Nat) : Int) := by
          rw [and_u8_15 (by omega) (by omega)]
          rfl
        unfold hexC at hqs
        generalize hq1 : c.toNat / 16 = q1 at *
        generalize hq2 : c.toNat % 16 = q2 at *
        have ml := get_lt hm0
        have ht2 : ∀ z : Blk, (m ++ [z])[t]? = some (.tok 1 (2 + 2 * i)) := fun z => get_app ht _
        have hbl : (byteRows (120 :: 34 :: hexes (s.take i))).length = 2 + 2 * i := by rw [byteRows_len', List.length_cons, List.length_cons, hl, htl]; omega
        have happ : byteRows (120 :: 34 :: hexes (s.take (i + 1))) = byteRows (120 :: 34 :: hexes (s.take i)) ++ [[PV.int .u8 (hexd q1).toNat], [PV.int .u8 (hexd q2).toNat]] := by
          rw [hqs]; simp [byteRows, byteRow]
        generalize hX : byteRows (120 :: 34 :: hexes (s.take i)) = X at *
        have hb2 : 2 + 2 * i + 2 ≤ room := by unfold room; omega
        simp [Fn.f_value_Print_b0, Fn.f_value_Print_s0, hi, hi', hc, hw, hm0, ml, d1, d2, x1, x2, ht2, hbl, hb2, -Int.natCast_add]
        refine ⟨i + 1, by omega, PbInv.mk t _ hi ht0 ?_ ?_ ⟨rfl, by simp [keep, Fn.f_value_Print_k0, Fn.f_value_Print_s0, happ], rfl, rfl⟩⟩
        · rw [get_set (ht2 _)]
          have : 2 + 2 * i + 2 = 2 + 2 * (i + 1) := by omega
          rw [this]
        · rw [get_ne ht0]
          exact get_app hm0 _
      · have hi' : ¬ (i : Int) < s.length := by omega
        have hi2 : i = s.length := by omega
        have e : s.take i = s := List.take_of_length_le (by omega)
        rw [e] at hlive
        simp [Fn.f_value_Print_b0, Fn.f_value_Print_s0, hi, hi', e]
        rw [← hi2]
        exact ht
    · rintro e st ⟨rfl, h1, h2, t, h3, ht⟩
      obtain ⟨ts, m', ds⟩ := st
      simp only at h1 h2 h3 ht
      subst h1
      have hl := hexes_len s
      have hbl : (byteRows (120 :: 34 :: hexes s)).length = 2 + 2 * s.length := by rw [byteRows_len', List.length_cons, List.length_cons, hl]; omega
      have happ : byteRows (120 :: 34 :: hexes s) ++ [[PV.int .u8 34]] = byteRows (120 :: 34 :: (hexes s ++ [34])) := by simp [byteRows, byteRow]
      have hun := unBytes_rows' (120 :: 34 :: (hexes s ++ [34]))
      have hb2 : 2 + 2 * s.length + 1 ≤ room := by unfold room; omega
      generalize byteRows (120 :: 34 :: hexes s) = X at *
      have ht2 : ∀ z : Blk, (m' ++ [z])[t]? = some (.tok 1 (2 + 2 * s.length)) := fun z => get_app ht _
      match ts, h2, h3 with
      | t0 :: t1 :: t2 :: t3 :: t4 :: t5 :: t6 :: t7 :: t8 :: t9 :: t10 :: t11 :: t12 :: t13 :: t14 :: t15 :: t16 :: t17 :: t18 :: t19 :: t20 :: t21 :: t22 :: t23 :: t24 :: t25 :: t26 :: t27 :: t28 :: t29 :: t30 :: t31 :: t32 :: t33 :: t34 :: t35 :: t36 :: t37 :: t38 :: t39 :: t40 :: t41 :: t42 :: t43 :: t44 :: t45 :: t46 :: t47 :: t48 :: t49 :: t50 :: t51 :: t52 :: t53 :: t54 :: t55 :: t56 :: [], h2, h3 =>
        simp only [getD_zero', getD_succ'] at h3
        subst h3
        simp [ht2, hbl, hb2, happ, hun]
theorem ref_VPrint (u : P05 E) (a n : Int) (s : List UInt8) (hn : isI64 n) (hs : (s.length : Int) ≤ 1000000000) (k : Nat) (hk : s.length + 60 ≤ k) (m : Mem) :
    denF E (k + 1) 44 [.p (.agg [.int .i64 a, .int .i64 n, .str s])] m = some (.ret (.p (.str (printS a n s))), m) := by
  refine denF_wp u.rprint rfl (args' := [.p (.agg [.int .i64 a, .int .i64 n, .str s])]) rfl ?_
  obtain ⟨j, rfl⟩ : ∃ j, k = j + 25 := ⟨k - 25, by omega⟩
  have hD := fun m => ref_Digits' u.rdig n hn.1 hn.2 (j + 3) m
  have hQ := fun m => ref_Quote u.h.q s hs (j + 24) (by omega) m
  have hH := fun m => ref_hex u.h s hs (j + 24) (by omega) m
  unfold printS
  have hdl := digits_64 hn.1 hn.2
  have hdl2 : (digits n).length + 1 ≤ strLim := by unfold strLim; omega
  have hl := hexes_len s
  have hl1 : (hexes s).length + 1 + 1 ≤ strLim := by unfold strLim; omega
  have hl2 : (hexes s).length + 1 + 1 + 1 ≤ strLim := by unfold strLim; omega
  have hl3 : 2 + (hexes s).length ≤ strLim := by unfold strLim; omega
  by_cases h1 : a = 1
  · subst h1
    simp [Fn.f_haulageref05_Print, hD]
  have b1 : (a == 1) = false := by simpa using h1
  by_cases h2 : a = 2
  · subst h2
    simp [Fn.f_haulageref05_Print, hD, hdl2]
  have b2 : (a == 2) = false := by simpa using h2
  by_cases h3 : a = 3
  · subst h3
    simp [Fn.f_haulageref05_Print, hQ]
  have b3 : (a == 3) = false := by simpa using h3
  by_cases h4 : a = 4
  · subst h4
    simp [Fn.f_haulageref05_Print, hH, hl1, hl2, hl3]
  have b4 : (a == 4) = false := by simpa using h4
  simp [Fn.f_haulageref05_Print, b1, b2, b3, b4, h1, h2, h3, h4]
theorem law_ValueWrites (u : P05 E) (h : E.fn 212 = some Fn.f_haulagelaw05_ValueWrites) (k : Nat) (hlv : ∀ m, denF E (k + 799) 25 [] m = some (.ret (.p (.bool true)), m)) {x0 : List PV} (c0 : Confs [.int .i64, .int .i64, .str] x0) (m : Mem) :
    denF E (k + 800) 212 [.p (.agg x0)] m = some (.ret (.p (.bool true)), m) := by
  obtain ⟨a, n, s, rfl, ha, hn, _⟩ := conf_value c0
  rw [denF_pure h rfl]
  by_cases hs : (300 : Int) < s.length
  · simp (maxSteps := 1000000) [Fn.f_haulagelaw05_ValueWrites, hlv, hs]
  have h1 := fun m => value_Print u a n s hn (by omega) (k + 798) (by omega) m
  have h2 := fun m => ref_VRight u.w.v a n s hn (by omega) (k + 798) (by omega) m
  have h3 := fun m => ref_VPrint u a n s hn (by omega) (k + 798) (by omega) m
  unfold vP at h2
  cases hr : rightV a n s <;> rw [hr] at h1 h2 <;> simp only [if_true, Bool.false_eq_true, if_false] at h1
  · simp (maxSteps := 4000000) [Fn.f_haulagelaw05_ValueWrites, hlv, hs, h1, h2]
  · simp (maxSteps := 4000000) [Fn.f_haulagelaw05_ValueWrites, hlv, hs, h1, h2, h3]
end Hx

namespace Hx
open Go
set_option linter.unusedSimpArgs false
set_option linter.unusedVariables false
set_option maxHeartbeats 8000000
set_option maxRecDepth 20000
variable {E : Env}
attribute [-simp] List.getD_eq_getElem?_getD getElem?_pos
/-- What stands behind goes on as no name does. -/
def stopT (T : List UInt8) : Prop := ∀ c, T.head? = some c → partC c = false
theorem dig_part {c : UInt8} (h : isDig c = true) : partC c = true := by
  unfold isDig at h
  simp only [Bool.and_eq_true, decide_eq_true_eq] at h
  unfold partC
  have h1 : (48 : Int) ≤ c.toNat := by omega
  have h2 : (c.toNat : Int) ≤ 57 := by omega
  simp [h1, h2]
theorem stop_noDig {T : List UInt8} (h : stopT T) : noDig T := by
  intro c hc
  cases hd : isDig c with
  | false => rfl
  | true => have := dig_part hd; rw [h c hc] at this; cases this
theorem append_at {x T : List UInt8} : (x ++ T)[x.length]? = T.head? := by
  rw [List.getElem?_append_right (Nat.le_refl _), Nat.sub_self]
  cases T <;> rfl
theorem digits_head {n : Int} {c : UInt8} {r : List UInt8} (h : digits n = c :: r) : c = 45 ∨ isDig c = true := by
  unfold digits at h
  split at h
  · exact .inl (List.head_eq_of_cons_eq h).symm
  · right
    have := digs_mem (c := c) n.natAbs n.natAbs (Nat.le_refl _) (by rw [h]; simp)
    unfold isDig
    simp
    exact this
theorem numN_digits {n : Int} (hn : isI64 n) {T : List UInt8} (ht : noDig T) : numN (digits n ++ T) = if T.head? = some 108 then (2, n, [], ((digits n).length : Int) + 1, 0) else if fits32 n then (1, n, [], ((digits n).length : Int), 0) else (0, 0, [], ((digits n).length : Int), 10) := by
  rw [numN_of (numS_digits5 hn.1 hn.2 ht), if_neg (by simp), append_at]
theorem readR_num {s : List UInt8} {c : UInt8} {r : List UInt8} (h : s = c :: r) (hc : c = 45 ∨ isDig c = true) : readR s = cleanR (numN s) := by
  subst h
  rw [readR_cons, if_pos hc]
theorem readR_digits (n : Int) (T : List UInt8) : readR (digits n ++ T) = cleanR (numN (digits n ++ T)) := by
  cases hd : digits n with
  | nil => exact absurd hd (digits_ne n)
  | cons c r => exact readR_num (List.cons_append) (digits_head hd)
theorem read_printed {a n : Int} {s : List UInt8} (hr : rightV a n s = true) (hn : isI64 n) {T : List UInt8} (ht : stopT T) : readR (printS a n s ++ T) = (a, n, s, ((printS a n s).length : Int), 0) := by
  have hnd := stop_noDig ht
  have h108 : T.head? ≠ some 108 := by
    intro h
    have := ht 108 h
    revert this
    decide
  unfold rightV at hr
  unfold printS
  by_cases a0 : a = 0
  · subst a0
    simp at hr
    obtain ⟨rfl, rfl⟩ := hr
    simp only [if_true, show ¬ (0 : Int) = 1 by decide, show ¬ (0 : Int) = 2 by decide, show ¬ (0 : Int) = 3 by decide, show ¬ (0 : Int) = 4 by decide, if_false]
    have hname : nameLen ([110, 117, 108, 108] ++ T) = 4 := by
      have hl : letter 110 = true := by decide
      have e : nameLen (110 :: 117 :: 108 :: 108 :: T) = if letter 110 then 1 + ((117 :: 108 :: 108 :: T).takeWhile partC).length else 0 := rfl
      show nameLen (110 :: 117 :: 108 :: 108 :: T) = 4
      rw [e, if_pos hl]
      have p1 : partC 117 = true := by decide
      have p2 : partC 108 = true := by decide
      rw [List.takeWhile_cons, if_pos p1, List.takeWhile_cons, if_pos p2, List.takeWhile_cons, if_pos p2]
      have : T.takeWhile partC = [] := by
        cases T with
        | nil => rfl
        | cons c r => rw [List.takeWhile_cons, ht c rfl]; rfl
      rw [this]
      rfl
    have e : ([110, 117, 108, 108] ++ T : List UInt8) = 110 :: (117 :: 108 :: 108 :: T) := rfl
    have n1 : ¬ ((110 : UInt8) = 45 ∨ isDig 110 = true) := by decide
    have n2 : ¬ (110 : UInt8) = 34 := by decide
    have n3 : ¬ starts (110 :: 117 :: 108 :: 108 :: T) [120, 34] = true := by
      unfold starts
      simp
    rw [e, readR_cons, if_neg n1, if_neg n2, if_neg n3]
    rw [e] at hname
    rw [hname, if_pos (show List.take 4 (110 :: 117 :: 108 :: 108 :: T) = wNull from rfl)]
    rfl
  rw [if_neg a0] at hr
  by_cases a1 : a = 1
  · subst a1
    simp at hr
    obtain ⟨hf, rfl⟩ := hr
    simp only [if_true]
    rw [readR_digits, numN_digits hn hnd, if_neg h108, if_pos hf]
    rfl
  rw [if_neg a1] at hr
  by_cases a2 : a = 2
  · subst a2
    simp at hr
    subst hr
    simp only [if_true, show ¬ (2 : Int) = 1 by decide, if_false]
    have hnd2 : noDig (108 :: T) := by
      intro c hc
      simp at hc
      subst hc
      decide
    rw [List.append_assoc, List.singleton_append, readR_digits, numN_digits hn hnd2, if_pos (show (108 :: T).head? = some 108 from rfl)]
    unfold cleanR
    simp
  rw [if_neg a2] at hr
  by_cases a3 : a = 3
  · subst a3
    simp at hr
    obtain ⟨⟨rfl, hl⟩, hs⟩ := hr
    simp only [if_true, show ¬ (3 : Int) = 1 by decide, show ¬ (3 : Int) = 2 by decide, if_false]
    have e : (34 :: (quotes s ++ [34]) ++ T : List UInt8) = 34 :: (quotes s ++ 34 :: T) := by simp
    have n1 : ¬ ((34 : UInt8) = 45 ∨ isDig 34 = true) := by decide
    rw [e, readR_cons, if_neg n1, if_pos rfl]
    have hq := unq_quotes T s
    unfold textN textW
    rw [if_pos (show (34 :: (quotes s ++ 34 :: T)).head? = some 34 from rfl), List.tail_cons, hq]
    simp only
    rw [if_neg (by omega), if_pos hs]
    unfold cleanR
    simp
  rw [if_neg a3] at hr
  by_cases a4 : a = 4
  · subst a4
    simp at hr
    obtain ⟨rfl, hl⟩ := hr
    simp only [if_true, show ¬ (4 : Int) = 1 by decide, show ¬ (4 : Int) = 2 by decide, show ¬ (4 : Int) = 3 by decide, if_false]
    have e : (120 :: 34 :: (hexes s ++ [34]) ++ T : List UInt8) = 120 :: 34 :: (hexes s ++ 34 :: T) := by simp
    have n1 : ¬ ((120 : UInt8) = 45 ∨ isDig 120 = true) := by decide
    have n2 : ¬ (120 : UInt8) = 34 := by decide
    have n3 : starts (120 :: 34 :: (hexes s ++ 34 :: T)) [120, 34] = true := by
      unfold starts
      simp
    rw [e, readR_cons, if_neg n1, if_neg n2, if_pos n3]
    have hq := unh_hexes T s [] 0
    unfold hexN hexW
    have e2 : (120 :: 34 :: (hexes s ++ 34 :: T)).drop 2 = hexes s ++ 34 :: T := rfl
    rw [e2, hq]
    simp only [List.nil_append, if_true]
    rw [if_neg (by omega)]
    have hx := hexes_len s
    unfold cleanR
    simp
    omega
  rw [if_neg a4] at hr
  cases hr
/-- A number that was read stood there just so. -/
theorem numS_back {s : List UInt8} {v : Int} {z : Nat} (h : numS s = numT v z 0) : s.take z = digits v ∧ z ≤ s.length := by
  unfold numS at h
  generalize hb : (s.head? == some 45) = neg at h
  have hall := run_digs neg s
  have hpre : (s.drop (ahead neg)).take (runD neg s).length = runD neg s := by
    unfold runD
    exact List.prefix_iff_eq_take.1 (List.takeWhile_prefix isDig) |>.symm
  have hlen : (runD neg s).length ≤ (s.drop (ahead neg)).length := by
    unfold runD
    exact (List.takeWhile_prefix isDig).length_le
  rw [List.length_drop] at hlen
  generalize runD neg s = D at *
  unfold numO at h
  cases hbad : bad0 neg D with
  | true => rw [hbad] at h; simp [numT] at h
  | false =>
    rw [hbad] at h
    simp only [Bool.false_eq_true, if_false] at h
    by_cases hm : numVal 0 D ≤ mostOf neg
    · rw [if_pos hm] at h
      unfold numT at h
      simp only [AV.tup.injEq, List.cons.injEq, AV.p.injEq, PV.int.injEq, true_and, and_true] at h
      obtain ⟨h1, h2⟩ := h
      have hz : z = ahead neg + D.length := by omega
      unfold bad0 at hbad
      simp only [Bool.or_eq_false_iff, Bool.and_eq_false_iff] at hbad
      obtain ⟨hb1, hb2⟩ := hbad
      have hne : D ≠ [] := by intro e; subst e; cases hb1
      have h48 : D.head? = some 48 → D = [48] := by
        intro e
        rcases hb2 with hb2 | hb2
        · rw [e] at hb2; cases hb2
        · simp only [Bool.or_eq_false_iff, decide_eq_false_iff_not] at hb2
          match D, hne, e with
          | [c], _, e => simp at e; rw [e]
          | c :: d :: r, _, e => simp at hb2
      have hdg := digs_of_run hall hne h48
      cases neg with
      | true =>
        simp only [if_true] at h1
        have hN : numVal 0 D ≠ 0 := by
          intro e0
          rw [e0, digs_small (by omega)] at hdg
          have e48 : dgt 0 = 48 := by decide
          rw [e48] at hdg
          rcases hb2 with hb2 | hb2
          · rw [← hdg] at hb2; cases hb2
          · simp at hb2
        have hv : digits v = 45 :: D := by
          unfold digits
          rw [if_pos (by omega)]
          have : v.natAbs = numVal 0 D := by omega
          rw [this, hdg]
        rw [hv, hz]
        cases s with
        | nil => simp at hb
        | cons c r =>
          have : c = 45 := by simpa using hb
          subst this
          have ea : ahead true = 1 := rfl
          rw [ea] at hpre hlen ⊢
          simp only [List.drop_succ_cons, List.drop_zero] at hpre
          rw [Nat.add_comm, List.take_succ_cons, hpre]
          refine ⟨rfl, ?_⟩
          simp at hlen ⊢
          omega
      | false =>
        simp only [Bool.false_eq_true, if_false] at h1
        have hv : digits v = D := by
          unfold digits
          rw [if_neg (by omega)]
          have : v.natAbs = numVal 0 D := by omega
          rw [this, hdg]
        have ea : ahead false = 0 := rfl
        rw [ea] at hpre hlen hz
        rw [hv, hz, Nat.zero_add]
        simp only [List.drop_zero] at hpre
        exact ⟨hpre, by omega⟩
    · rw [if_neg hm] at h
      simp [numT] at h
theorem take_app_at {s : List UInt8} {z : Nat} {c : UInt8} {x : List UInt8} (h : s.take z = x) (hc : s[z]? = some c) : s.take (z + 1) = x ++ [c] := by
  rw [List.take_add_one, h, hc]; rfl
theorem clean_ok {r : Rd} {a n : Int} {t : List UInt8} {z : Int} (h : cleanR r = (a, n, t, z, 0)) : r = (a, n, t, z, 0) := by
  unfold cleanR at h
  split at h
  · exact h
  · rename_i h1
    unfold badR at h
    simp only [Prod.mk.injEq] at h
    exact absurd h.2.2.2.2 h1
theorem clean_bad (r : Rd) : cleanR r = r ∧ r.2.2.2.2 = 0 ∨ cleanR r = badR r.2.2.2.2 ∧ r.2.2.2.2 ≠ 0 := by
  unfold cleanR
  split
  · exact .inl ⟨rfl, by assumption⟩
  · exact .inr ⟨rfl, by assumption⟩
theorem readR_bad (s : List UInt8) : (readR s).2.2.2.2 = 0 ∨ readR s = badR (readR s).2.2.2.2 := by
  have hb : ∀ r : Rd, (cleanR r).2.2.2.2 = 0 ∨ cleanR r = badR (cleanR r).2.2.2.2 := by
    intro r
    rcases clean_bad r with ⟨h1, h2⟩ | ⟨h1, h2⟩
    · rw [h1]; exact .inl h2
    · rw [h1]; exact .inr rfl
  cases s with
  | nil => exact .inr rfl
  | cons c r =>
    rw [readR_cons]
    split
    · exact hb _
    split
    · exact hb _
    split
    · exact hb _
    split
    · exact .inl rfl
    · exact .inr rfl
theorem read_back {s : List UInt8} {a n : Int} {t : List UInt8} {z : Int} (h : readR s = (a, n, t, z, 0)) : rightV a n t = true ∧ isI64 n ∧ ∃ k : Nat, z = k ∧ k ≤ s.length ∧ s.take k = printS a n t := by
  cases s with
  | nil => cases h
  | cons c r =>
    rw [readR_cons] at h
    generalize hS : (c :: r : List UInt8) = s at *
    have i0 : isI64 0 := ⟨by decide, by decide⟩
    by_cases h1 : c = 45 ∨ isDig c = true
    · rw [if_pos h1] at h
      have h := clean_ok h
      obtain ⟨v, e, k, hN, hk, hv⟩ := numS_info s
      rw [numN_of hN] at h
      by_cases he : e = 0
      · subst he
        obtain ⟨hb1, hb2⟩ := numS_back hN
        rw [if_neg (by simp)] at h
        by_cases h108 : s[k]? = some 108
        · rw [if_pos h108] at h
          simp only [Prod.mk.injEq, and_true] at h
          obtain ⟨rfl, rfl, rfl, rfl⟩ := h
          have hlt : k < s.length := (List.getElem?_eq_some_iff.1 h108).1
          refine ⟨by simp [rightV], hv, k + 1, by omega, hlt, ?_⟩
          rw [take_app_at hb1 h108]
          simp [printS]
        · rw [if_neg h108] at h
          cases hf : fits32 v with
          | true =>
            rw [hf] at h
            simp only [if_true, Prod.mk.injEq, and_true] at h
            obtain ⟨rfl, rfl, rfl, rfl⟩ := h
            refine ⟨by simp [rightV, hf], hv, k, rfl, hb2, ?_⟩
            rw [hb1]
            simp [printS]
          | false =>
            rw [hf] at h
            simp at h
      · rw [if_pos he] at h
        unfold badR at h
        simp only [Prod.mk.injEq] at h
        exact absurd h.2.2.2.2 he
    rw [if_neg h1] at h
    by_cases h2 : c = 34
    · rw [if_pos h2] at h
      have h := clean_ok h
      unfold textN at h
      rw [if_pos (by rw [← hS, h2]; rfl)] at h
      cases hq : unq s.tail with
      | none => rw [hq] at h; cases h
      | some q =>
        obtain ⟨w, k⟩ := q
        rw [hq] at h
        simp only at h
        obtain ⟨g1, g2, g3⟩ := unq_some _ _ _ _ (Nat.le_refl _) hq
        unfold textW at h
        by_cases hl : 120 < w.length
        · rw [if_pos hl] at h; simp at h
        rw [if_neg hl] at h
        cases hsg : (signs w).isSome with
        | false => rw [hsg] at h; simp at h
        | true =>
          rw [hsg] at h
          simp only [if_true, Prod.mk.injEq, and_true] at h
          obtain ⟨rfl, rfl, rfl, rfl⟩ := h
          refine ⟨by simp [rightV, hsg]; omega, i0, k + 1, by omega, ?_, ?_⟩
          · rw [← hS] at g3 ⊢
            simp at g3 ⊢
            omega
          · rw [← hS] at g1 ⊢
            simp only [List.tail_cons] at g1
            rw [List.take_succ_cons, g1, h2]
            simp [printS]
    rw [if_neg h2] at h
    by_cases h3 : starts s [120, 34] = true
    · rw [if_pos h3] at h
      have h := clean_ok h
      unfold hexN at h
      rcases hX : unh [] 0 (s.drop 2) with ⟨w, k, b⟩
      rw [hX] at h
      simp only at h
      cases b with
      | false => simp [badR] at h
      | true =>
        rw [if_pos rfl] at h
        unfold hexW at h
        by_cases hl : 120 < w.length
        · rw [if_pos hl] at h; simp at h
        rw [if_neg hl] at h
        simp only [Prod.mk.injEq, and_true] at h
        obtain ⟨rfl, rfl, rfl, rfl⟩ := h
        obtain ⟨w', w1, w2, w3, w4⟩ := unh_some _ _ _ _ _ _ (Nat.le_refl _) hX
        simp only [List.nil_append] at w1
        subst w1
        unfold starts at h3
        simp only [Bool.and_eq_true, decide_eq_true_eq, List.length_cons, List.length_nil, Nat.zero_add, Nat.reduceAdd, beq_iff_eq] at h3
        rw [List.length_drop] at w4
        refine ⟨by simp [rightV]; omega, i0, k + 3, by omega, by omega, ?_⟩
        have e : k + 3 = 2 + (2 * w.length + 1) := by omega
        rw [e, List.take_add, h3.2, w3]
        simp [printS]
    rw [if_neg h3] at h
    by_cases h4 : s.take (nameLen s) = wNull
    · rw [if_pos h4] at h
      simp only [Prod.mk.injEq, and_true] at h
      obtain ⟨rfl, rfl, rfl, rfl⟩ := h
      have hl := nameLen_le s
      have hn4 : nameLen s = 4 := by
        have := congrArg List.length h4
        rw [List.length_take] at this
        have e : wNull.length = 4 := rfl
        omega
      refine ⟨by simp [rightV], i0, 4, rfl, by omega, ?_⟩
      rw [hn4] at h4
      rw [h4]
      rfl
    · rw [if_neg h4] at h
      simp [badR] at h
theorem printS_len {a n : Int} {s : List UInt8} (hn : isI64 n) : (printS a n s).length ≤ 4 * s.length + 25 := by
  have h1 := digits_64 hn.1 hn.2
  have h2 := quotes_len s
  have h3 := hexes_len s
  unfold printS
  split
  · omega
  split
  · rw [List.length_append]; simp; omega
  split
  · simp; omega
  split
  · simp; omega
  · simp
end Hx

namespace Hx
open Go
set_option linter.unusedSimpArgs false
set_option linter.unusedVariables false
set_option maxHeartbeats 8000000
set_option maxRecDepth 20000
variable {E : Env}
attribute [-simp] List.getD_eq_getElem?_getD getElem?_pos
theorem parse_printed {a n : Int} {s : List UInt8} (hr : rightV a n s = true) (hn : isI64 n) : parseR (printS a n s) = (a, n, s, 0) := by
  have h := read_printed hr hn (T := []) (by intro c hc; cases hc)
  rw [List.append_nil] at h
  unfold parseR
  rw [h]
  simp
theorem parse_back {s : List UInt8} {a n e : Int} {t : List UInt8} (h : parseR s = (a, n, t, e)) : (e = 0 ∧ rightV a n t = true ∧ isI64 n ∧ s = printS a n t) ∨ (e ≠ 0 ∧ a = 0 ∧ n = 0 ∧ t = []) := by
  unfold parseR at h
  rcases hR : readR s with ⟨r1, r2, r3, r4, r5⟩
  have hbad := readR_bad s
  rw [hR] at h hbad
  simp only at h hbad
  by_cases h0 : r5 = 0
  · subst h0
    obtain ⟨g1, g2, k, g3, g4, g5⟩ := read_back hR
    by_cases hl : r4 < s.length
    · rw [if_pos ⟨rfl, hl⟩] at h
      simp only [Prod.mk.injEq] at h
      obtain ⟨rfl, rfl, rfl, rfl⟩ := h
      exact .inr ⟨by decide, rfl, rfl, rfl⟩
    · rw [if_neg (fun h => hl h.2)] at h
      simp only [Prod.mk.injEq] at h
      obtain ⟨rfl, rfl, rfl, rfl⟩ := h
      refine .inl ⟨rfl, g1, g2, ?_⟩
      rw [← g5, List.take_of_length_le (by omega)]
  · rw [if_neg (fun h => h0 h.1)] at h
    rcases hbad with hb | hb
    · exact absurd hb h0
    · simp only [Prod.mk.injEq, badR] at h hb
      obtain ⟨rfl, rfl, rfl, rfl⟩ := h
      exact .inr ⟨h0, hb.1, hb.2.1, hb.2.2.1⟩
theorem quotes_ge : ∀ t : List UInt8, t.length ≤ (quotes t).length
  | [] => by simp
  | c :: t => by
    have e : quotes (c :: t) = quoteC c ++ quotes t := by simp [quotes]
    have := List.length_pos_iff.2 (quoteC_ne c)
    have := quotes_ge t
    rw [e, List.length_append, List.length_cons]
    omega
theorem parse_len {s : List UInt8} {a n e : Int} {t : List UInt8} (h : parseR s = (a, n, t, e)) : t.length ≤ s.length := by
  rcases parse_back h with ⟨rfl, h1, h2, rfl⟩ | ⟨_, _, _, rfl⟩
  · unfold rightV at h1
    unfold printS
    by_cases a0 : a = 0
    · subst a0; simp at h1; rw [h1.2]; simp
    rw [if_neg a0] at h1
    by_cases a1 : a = 1
    · subst a1; simp at h1; rw [h1.2]; simp
    rw [if_neg a1] at h1
    by_cases a2 : a = 2
    · subst a2; simp at h1; rw [h1]; simp
    rw [if_neg a2] at h1
    rw [if_neg a1, if_neg a2]
    by_cases a3 : a = 3
    · rw [if_pos a3]
      have := quotes_ge t
      simp; omega
    rw [if_neg a3] at h1
    rw [if_neg a3]
    by_cases a4 : a = 4
    · rw [if_pos a4]
      have := hexes_len t
      simp; omega
    · rw [if_neg a4] at h1; cases h1
  · simp
theorem law_ValueBack (u : P05 E) (h : E.fn 213 = some Fn.f_haulagelaw05_ValueBack) (k : Nat) (hlv : ∀ m, denF E (k + 2999) 25 [] m = some (.ret (.p (.bool true)), m)) {x0 : List PV} {x1 : PV} (c0 : Confs [.int .i64, .int .i64, .str] x0) (c1 : Conf .str x1) (m : Mem) :
    denF E (k + 3000) 213 [.p (.agg x0), .p x1] m = some (.ret (.p (.bool true)), m) := by
  obtain ⟨a, n, t, rfl, ha, hn, _⟩ := conf_value c0
  simp only [Conf] at c1
  obtain ⟨s, rfl, _⟩ := c1
  rw [denF_pure h rfl]
  by_cases ht : (200 : Int) < t.length
  · simp (maxSteps := 1000000) [Fn.f_haulagelaw05_ValueBack, hlv, ht]
  by_cases hs : (400 : Int) < s.length
  · simp (maxSteps := 1000000) [Fn.f_haulagelaw05_ValueBack, hlv, ht, hs]
  have h1 := fun m => value_Print u a n t hn (by omega) (k + 2998) (by omega) m
  have h4 := fun m => value_Parse u s (by omega) (k + 2998) (by omega) m
  have hpl := printS_len (a := a) (s := t) hn
  have h2 := fun m => value_Parse u (printS a n t) (by omega) (k + 2998) (by omega) m
  have h3 := fun m => value_Read u (printS a n t ++ 32 :: s) (by rw [List.length_append, List.length_cons]; omega) (k + 2998) (by rw [List.length_append, List.length_cons]; omega) m
  have fR := u.w.v.vRight
  have es : ∀ (x y : Int) (z : List UInt8), eqTree (.struct [(0, 1, .int), (1, 1, .int), (2, 1, .str)]) (.agg [.int .i64 x, .int .i64 y, .str z]) (.agg [.int .i64 x, .int .i64 y, .str z]) = some true := eq_v5
  have hlim1 : (printS a n t).length + 1 ≤ strLim := by unfold strLim; omega
  have hlim2 : (printS a n t).length + 1 + s.length ≤ strLim := by unfold strLim; omega
  rcases hP : parseR s with ⟨b, q, w, e⟩
  rw [hP] at h4
  unfold prV valE at h4
  simp only at h4
  have hback := parse_back hP
  -- the second half
  have hsec : (e = 0 ∧ rightV b q w = true ∧ isI64 q ∧ s = printS b q w) ∨ (e ≠ 0 ∧ b = 0 ∧ q = 0 ∧ w = []) := hback
  cases hr : rightV a n t with
  | true =>
    rw [hr] at h1
    simp only [if_true] at h1
    rw [parse_printed hr hn] at h2
    rw [read_printed hr hn (T := 32 :: s) (by intro c hc; simp at hc; subst hc; decide)] at h3
    unfold prV valE at h2
    unfold rdV rT5 at h3
    simp only at h2 h3
    generalize printS a n t = p at *
    rcases hsec with ⟨rfl, g1, g2, g3⟩ | ⟨he, rfl, rfl, rfl⟩
    · have hwl : (w.length : Int) ≤ 1000000000 := by
        have := parse_len hP
        omega
      have h5 := fun m => value_Print u b q w g2 hwl (k + 2998) (by have := parse_len hP; omega) m
      have h6 := fun m => value_Right u.w.v b q w g2 (by omega) (k + 2998) (by have := parse_len hP; omega) m
      unfold vP at h6
      rw [g1, ← g3] at h5
      rw [g1] at h6
      simp only [if_true] at h5
      simp (maxSteps := 4000000) [Fn.f_haulagelaw05_ValueBack, hlv, ht, hs, h1, h2, h3, h4, h5, h6, hlim1, hlim2, es, bne]
    · have he' : (e == 0) = false := by simpa using he
      simp (maxSteps := 4000000) [Fn.f_haulagelaw05_ValueBack, hlv, ht, hs, h1, h2, h3, h4, he', hlim1, hlim2, es, bne]
  | false =>
    rw [hr] at h1
    simp only [Bool.false_eq_true, if_false] at h1
    rcases hsec with ⟨rfl, g1, g2, g3⟩ | ⟨he, rfl, rfl, rfl⟩
    · have hwl : (w.length : Int) ≤ 1000000000 := by
        have := parse_len hP
        omega
      have h5 := fun m => value_Print u b q w g2 hwl (k + 2998) (by have := parse_len hP; omega) m
      have h6 := fun m => value_Right u.w.v b q w g2 (by omega) (k + 2998) (by have := parse_len hP; omega) m
      unfold vP at h6
      rw [g1, ← g3] at h5
      rw [g1] at h6
      simp only [if_true] at h5
      simp (maxSteps := 4000000) [Fn.f_haulagelaw05_ValueBack, hlv, ht, hs, h1, h4, h5, h6, es, bne]
    · have he' : (e == 0) = false := by simpa using he
      simp (maxSteps := 4000000) [Fn.f_haulagelaw05_ValueBack, hlv, ht, hs, h1, h4, he', es, bne]
end Hx
