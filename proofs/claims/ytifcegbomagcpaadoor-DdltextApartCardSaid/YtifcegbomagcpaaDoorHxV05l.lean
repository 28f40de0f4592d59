/-
  HxV05l: bytes as digits, as the document reads them.
-/
import Derived.Test.YtifcegbomagcpaaDoorHxRow
import Derived.Test.YtifcegbomagcpaaDoorHxV05b
import Derived.Test.YtifcegbomagcpaaDoorHxU05g
namespace Hx
open Go
set_option linter.unusedSimpArgs false
set_option linter.unusedVariables false
set_option maxHeartbeats 8000000
set_option maxRecDepth 20000
variable {E : Env}
attribute [-simp] List.getD_eq_getElem?_getD getElem?_pos
structure P05 (E : Env) : Prop where
  w : W05 E
  h : H05 E
  m : M05 E
  vdig : E.fn 39 = some Fn.f_value_Digits
  rdig : E.fn 40 = some Fn.f_haulageref05_Digits
  n : N04 E
  bytes : E.fn 49 = some Fn.f_value_bytes
  number : E.fn 46 = some Fn.f_value_number
  text : E.fn 47 = some Fn.f_value_text
  read : E.fn 26 = some Fn.f_value_Read
  print : E.fn 43 = some Fn.f_value_Print
def rT5 (k n : Int) (s : List UInt8) (z e : Int) : AV := .tup [.p (.agg [.int .i64 k, .int .i64 n, .str s]), .p (.int .i64 z), .p (.int .i64 e)]
abbrev Rd := Int × Int × List UInt8 × Int × Int
def rdV (r : Rd) : AV := rT5 r.1 r.2.1 r.2.2.1 r.2.2.2.1 r.2.2.2.2
def badR (e : Int) : Rd := (0, 0, [], 0, e)
def cleanR (r : Rd) : Rd := if r.2.2.2.2 = 0 then r else badR r.2.2.2.2
def numN (s : List UInt8) : Rd := match numS s with
  | .tup [.p (.int _ n), .p (.int _ z), .p (.int _ e)] => if e ≠ 0 then badR e else if s[z.toNat]? = some 108 then (2, n, [], z + 1, 0) else if fits32 n then (1, n, [], z, 0) else (0, 0, [], z, 10)
  | _ => badR 0
theorem numN_of {s : List UInt8} {n e : Int} {z : Nat} (h : numS s = numT n z e) : numN s = if e ≠ 0 then badR e else if s[z]? = some 108 then (2, n, [], (z : Int) + 1, 0) else if fits32 n then (1, n, [], (z : Int), 0) else (0, 0, [], (z : Int), 10) := by
  unfold numN
  rw [h]
  simp only [numT, Int.toNat_natCast]
def textW (t : List UInt8) (z : Int) : Rd := if 120 < t.length then (0, 0, [], z, 3) else if (signs t).isSome then (3, 0, t, z, 0) else (0, 0, [], z, 5)
def textN (s : List UInt8) : Rd := if s.head? = some 34 then (match unq s.tail with
  | none => badR 5
  | some q => textW q.1 ((q.2 : Int) + 1)) else badR 5
def hexW (t : List UInt8) (z : Int) : Rd := if 120 < t.length then (0, 0, [], z, 3) else (4, 0, t, z, 0)
def hexN (s : List UInt8) : Rd := if (unh [] 0 (s.drop 2)).2.2 then hexW (unh [] 0 (s.drop 2)).1 (((unh [] 0 (s.drop 2)).2.1 : Int) + 3) else badR 5
theorem head_drop5 (s : List UInt8) (n : Nat) (c : UInt8) : ((s.drop n).head? == some c) = decide (s[n]? = some c) := by
  rw [Bool.eq_iff_iff, List.head?_drop]
  simp
theorem numS_info (s : List UInt8) : ∃ (v e : Int) (z : Nat), numS s = numT v z e ∧ z ≤ s.length ∧ isI64 v := by
  unfold numS
  generalize hb : (s.head? == some 45) = neg
  have hl : ahead neg + (runD neg s).length ≤ s.length := by
    have h1 : ahead neg ≤ s.length := by
      cases neg with
      | false => exact Nat.zero_le _
      | true =>
        cases s with
        | nil => simp at hb
        | cons c r => simp [ahead]
    unfold runD
    have := (List.takeWhile_prefix isDig (l := s.drop (ahead neg))).length_le
    rw [List.length_drop] at this
    omega
  unfold numO
  split
  · exact ⟨0, 5, 0, rfl, Nat.zero_le _, by decide, by decide⟩
  split
  · rename_i h1
    refine ⟨_, 0, _, rfl, hl, ?_⟩
    unfold mostOf at h1
    unfold isI64
    cases neg with
    | true => simp only [if_true] at *; omega
    | false => simp only [Bool.false_eq_true, if_false] at *; omega
  · exact ⟨0, 10, 0, rfl, Nat.zero_le _, by decide, by decide⟩
theorem value_number (u : P05 E) (s : List UInt8) (hs : (s.length : Int) ≤ 1000000000) (k : Nat) (hk : s.length + 40 ≤ k) (m : Mem) : denF E (k + 1) 46 [.p (.str s)] m = some (.ret (rdV (numN s)), m) := by
  refine denF_wp u.number rfl (args' := [.p (.str s)]) rfl ?_
  obtain ⟨j, rfl⟩ : ∃ j, k = j + 3 := ⟨k - 3, by omega⟩
  obtain ⟨n, e, z, hN, hz, hn⟩ := numS_info s
  rw [numN_of hN]
  have hD := fun m => value_Number u.m s (by omega) (j + 2) (by omega) m
  rw [hN] at hD
  have hF := fun m => has_prefix1 u.m (j + 1) (s.drop z) 108 m
  rw [head_drop5] at hF
  have hI := fun h m => value_Int u.w n h j m
  have hL := fun m => value_Long u.w n (j + 2) m
  have w1 : IntKind.i64.wrap ((z : Int) + 1) = z + 1 := wrap_i64 (by omega) (by omega)
  have hI := hI hn
  unfold numT at hD
  by_cases he : e = 0
  · subst he
    rw [if_neg (by simp)]
    by_cases h108 : s[z]? = some 108
    · rw [if_pos h108]
      rw [decide_eq_true h108] at hF
      simp [Fn.f_value_number, hD, hF, hL, hz, w1, rdV, rT5, bounds, asNat, asInt, bne]
    · rw [if_neg h108]
      rw [decide_eq_false h108] at hF
      unfold intE valE at hI
      cases hf : fits32 n with
      | true =>
        rw [hf] at hI
        simp at hI
        simp [Fn.f_value_number, hD, hF, hI, hz, w1, rdV, rT5, bounds, asNat, asInt, bne]
      | false =>
        rw [hf] at hI
        simp at hI
        simp [Fn.f_value_number, hD, hF, hI, hz, w1, rdV, rT5, bounds, asNat, asInt, bne, badR]
  · rw [if_pos he]
    have b : (e == 0) = false := by simpa using he
    simp [Fn.f_value_number, hD, b, rdV, rT5, badR, bne]
theorem value_text (u : P05 E) (s : List UInt8) (hs : (s.length : Int) ≤ 1000000000) (k : Nat) (hk : s.length + 40 ≤ k) (m : Mem) : denF E (k + 1) 47 [.p (.str s)] m = some (.ret (rdV (textN s)), m) := by
  refine denF_wp u.text rfl (args' := [.p (.str s)]) rfl ?_
  obtain ⟨j, rfl⟩ : ∃ j, k = j + 1 := ⟨k - 1, by omega⟩
  have hU := fun m => name_Unquote u.h.q s hs j (by omega) m
  unfold textN
  unfold unquoteV at hU
  by_cases h0 : s.head? = some 34
  · rw [if_pos h0] at hU ⊢
    cases hq : unq s.tail with
    | none =>
      rw [hq] at hU
      simp [Fn.f_value_text, hU, rdV, rT5, badR]
    | some q =>
      obtain ⟨t, z⟩ := q
      rw [hq] at hU
      have hl := unq_len hq
      have htl : t.length ≤ s.length := by
        have : s.tail.length ≤ s.length := by simp
        omega
      have hT := fun m => value_Text u.w t (by omega) j (by omega) m
      unfold textE valE at hT
      unfold textW
      simp only
      by_cases h1 : 120 < t.length
      · rw [if_pos h1] at hT ⊢
        simp [Fn.f_value_text, hU, hT, rdV, rT5]
      · rw [if_neg h1] at hT ⊢
        cases hr : (signs t).isSome with
        | true =>
          rw [hr] at hT
          simp at hT
          simp [Fn.f_value_text, hU, hT, rdV, rT5]
        | false =>
          rw [hr] at hT
          simp at hT
          simp [Fn.f_value_text, hU, hT, rdV, rT5]
  · rw [if_neg h0] at hU ⊢
    simp [Fn.f_value_text, hU, rdV, rT5, badR]
def HbInv (s : List UInt8) (i : Nat) (st : St) : Prop := ∃ (acc : List UInt8) (ov : AV) (m : Mem), 2 ≤ i ∧ (i ≤ s.length ∨ i = 2) ∧ acc.length ≤ i ∧ unh [] 0 (s.drop 2) = unh acc (i - 2) (s.drop i) ∧ Grow 1 (byteRows acc) ov m ∧ m[0]? = some (.cells [.p (.int .i64 0), .p (.int .i64 0), .p (.str [])]) ∧
  Live Fn.f_value_bytes_k0 (Fn.f_value_bytes_s0 (.p (.str s)) (.ptr 0 0) ov (.p (.int .i64 i))) m st
theorem HbInv.mk {s : List UInt8} {i : Nat} {st : St} (acc : List UInt8) (ov : AV) (m : Mem) (h1 : 2 ≤ i) (h2 : i ≤ s.length ∨ i = 2) (h3 : acc.length ≤ i) (h4 : unh [] 0 (s.drop 2) = unh acc (i - 2) (s.drop i)) (h5 : Grow 1 (byteRows acc) ov m) (h6 : m[0]? = some (.cells [.p (.int .i64 0), .p (.int .i64 0), .p (.str [])]))
  (h7 : Live Fn.f_value_bytes_k0 (Fn.f_value_bytes_s0 (.p (.str s)) (.ptr 0 0) ov (.p (.int .i64 i))) m st) : HbInv s i st := ⟨acc, ov, m, h1, h2, h3, h4, h5, h6, h7⟩
theorem or_u8_hex : ∀ x y : Fin 16, bitsI .or .u8 (16 * x.val : Int) (y.val : Int) = some ((16 * x.val + y.val : Nat) : Int) := by decide +kernel
theorem value_bytes (u : P05 E) (s : List UInt8) (hs : (s.length : Int) ≤ 1000000000) (k : Nat) (hk : s.length + 40 ≤ k) (m : Mem) : denF E (k + 1) 49 [.p (.str s)] m = some (.ret (rdV (hexN s)), m) := by
  refine denF_wp u.bytes rfl (args' := [.p (.str s)]) rfl ?_
  obtain ⟨j, rfl⟩ : ∃ j, k = j + 2 := ⟨k - 2, by omega⟩
  unfold hexN
  simp [Fn.f_value_bytes]
  refine (loop_wp (α := Nat) (I := fun i st => HbInv s i st) (meas := fun i => s.length - i)
    (Q := fun e st => st.ds = [] ∧ ((e = .exit 0 ∧ (unh [] 0 (s.drop 2)).2.2 = false ∧ st.ts.length = 61 ∧ st.ts.getD 2 (.tup []) = .ptr 0 0 ∧ (∃ c, st.m[0]? = some (.cells c) ∧ c.length = 3)) ∨ (e = .ret ∧ ∃ r : Rd, (if (unh [] 0 (s.drop 2)).2.2 then hexW (unh [] 0 (s.drop 2)).1 (((unh [] 0 (s.drop 2)).2.1 : Int) + 3) else badR 5) = r ∧ st.ts.getD 2 (.tup []) = .ptr 0 0 ∧ st.m[0]? = some (.cells [.p (.int .i64 r.1), .p (.int .i64 r.2.1), .p (.str r.2.2.1)]) ∧ st.ts.getD 3 (.tup []) = .p (.int .i64 r.2.2.2.1) ∧ st.ts.getD 4 (.tup []) = .p (.int .i64 r.2.2.2.2)))) ?_ (j + 2) 2 _
    (HbInv.mk [] (.p .nils) _ (by omega) (.inr rfl) (by simp) rfl (.inl ⟨rfl, rfl⟩) rfl ⟨rfl, rfl, rfl, rfl⟩) (by omega)).mono ?_
  · rintro i st ⟨D, ov, m, hi2, hi0, hDl, hU, hg, hm0, hlive⟩
    rw [loopF_live hlive]
    by_cases hi : i < s.length
    · have hi' : (i : Int) < s.length := by omega
      obtain ⟨c, hc⟩ : ∃ c, s[i]? = some c := ⟨_, List.getElem?_eq_getElem hi⟩
      have hw : IntKind.i64.wrap ((i : Int) + 1) = i + 1 := wrap_i64 (by omega) (by omega)
      have hw2 : IntKind.i64.wrap ((i : Int) + 2) = ((i + 2 : Nat) : Int) := by rw [wrap_i64] <;> omega
      have hdrop : s.drop i = c :: s.drop (i + 1) := drop_at hc
      have hgo := grow_one hg (by omega) c
      have g34 : ((34 : UInt8).toNat : Int) = 34 := rfl
      by_cases c34 : c = 34
      · subst c34
        have hq := unh_quote (acc := D) (n := i - 2) (s := s.drop i) (by rw [hdrop]; rfl)
        rw [← hU] at hq
        rw [hq]
        have hB := fun m => value_Bytes u.w D (j + 1) m
        unfold bytesE valE at hB
        have hun := unBytes_rows' D
        have ez : (((i - 2 : Nat) : Int) + 3) = (i : Int) + 1 := by omega
        simp only [if_true, ez]
        have ml := get_lt hm0
        have hm1 : ∀ x : Blk, (m ++ [x])[0]? = m[0]? := fun x => by rw [List.getElem?_append_left ml]
        have hm2 : ∀ x : Blk, (m ++ [x])[m.length]? = some x := fun x => get_new
        unfold hexW
        by_cases h120 : 120 < D.length
        · rw [if_pos h120] at hB ⊢
          rcases hgo with ⟨rfl, rfl⟩ | ⟨t, rfl, ht2⟩
          · simp at h120
          · simp [Fn.f_value_bytes_b0, Fn.f_value_bytes_s0, hi, hi', hc, hw, hun, hB, hm0, hm1, hm2]
        · rw [if_neg h120] at hB ⊢
          rcases hgo with ⟨rfl, rfl⟩ | ⟨t, rfl, ht2⟩
          · simp [Fn.f_value_bytes_b0, Fn.f_value_bytes_s0, hi, hi', hc, hw, hB, unBytes, hm0, hm1, hm2]
          · simp [Fn.f_value_bytes_b0, Fn.f_value_bytes_s0, hi, hi', hc, hw, hun, hB, hm0, hm1, hm2]
      have g := u8ne c34
      rw [g34] at g
      have hn34 : ¬ (s.drop i).head? = some 34 := by
        rw [head_at, hc]
        simpa using c34
      have hne : s.drop i ≠ [] := by rw [hdrop]; simp
      by_cases hl1 : i + 1 = s.length
      · have hnil : s.drop (i + 1) = [] := List.drop_eq_nil_of_le (by omega)
        have hst : stepH (s.drop i) = none := by rw [hdrop, hnil]; rfl
        have hq := unh_none (acc := D) (n := i - 2) hne hn34 hst
        rw [← hU] at hq
        have n1 : ((i : Int) + 1 == s.length) = true := by simp; omega
        simp [Fn.f_value_bytes_b0, Fn.f_value_bytes_s0, hi, hi', hc, hw, g, n1, hq]
        exact ⟨_, hm0, rfl⟩
      have n1 : ((i : Int) + 1 == s.length) = false := by simp; omega
      obtain ⟨d, hd⟩ : ∃ d, s[i + 1]? = some d := ⟨_, List.getElem?_eq_getElem (by omega)⟩
      have hdrop2 : s.drop (i + 1) = d :: s.drop (i + 2) := drop_at hd
      have i1 := fun m => index_hex u.h.q j c m
      have i2 := fun m => index_hex u.h.q j d m
      have f1 := u.h.q.idx
      have p1 : Fn.f_strings_IndexByte.pure = true := rfl
      have t1 : ((i : Int) + 1).toNat = i + 1 := by omega
      have q1 : (0 : Int) ≤ (i : Int) + 1 := by omega
      have hst0 : stepH (s.drop i) = match hexv c, hexv d with
          | some x, some y => some (UInt8.ofNat (16 * x + y))
          | _, _ => none := by rw [hdrop, hdrop2]; rfl
      cases hx : hexv c with
      | none =>
        have e : hexi c = -1 := by unfold hexi; rw [hx]
        rw [e] at i1
        have hst : stepH (s.drop i) = none := by rw [hst0, hx]
        have hq := unh_none (acc := D) (n := i - 2) hne hn34 hst
        rw [← hU] at hq
        simp [Fn.f_value_bytes_b0, Fn.f_value_bytes_s0, hi, hi', hc, hw, g, n1, hd, t1, q1, i1, i2, f1, p1, hq]
        exact ⟨_, hm0, rfl⟩
      | some x =>
        have e : hexi c = x := by unfold hexi; rw [hx]
        have hx16 := hexv_lt hx
        rw [e] at i1
        have n0 : ¬ (x : Int) < 0 := by omega
        cases hy : hexv d with
        | none =>
          have e2 : hexi d = -1 := by unfold hexi; rw [hy]
          rw [e2] at i2
          have hst : stepH (s.drop i) = none := by rw [hst0, hx, hy]
          have hq := unh_none (acc := D) (n := i - 2) hne hn34 hst
          rw [← hU] at hq
          simp [Fn.f_value_bytes_b0, Fn.f_value_bytes_s0, hi, hi', hc, hw, g, n1, hd, t1, q1, i1, i2, f1, p1, hq, n0]
          exact ⟨_, hm0, rfl⟩
        | some y =>
          have e2 : hexi d = y := by unfold hexi; rw [hy]
          have hy16 := hexv_lt hy
          rw [e2] at i2
          have n2 : ¬ (y : Int) < 0 := by omega
          have hst : stepH (s.drop i) = some (UInt8.ofNat (16 * x + y)) := by rw [hst0, hx, hy]
          have hq := unh_step (acc := D) (n := i - 2) hn34 hst
          rw [← hU, List.drop_drop] at hq
          have ho := or_u8_hex ⟨x, hx16⟩ ⟨y, hy16⟩
          simp only at ho
          have w8 : IntKind.u8.wrap (x : Int) = x := wrap_u8 (by omega) (by omega)
          have w9 : IntKind.u8.wrap (y : Int) = y := wrap_u8 (by omega) (by omega)
          have w16 : IntKind.u8.wrap ((x : Int) * 16) = 16 * x := by rw [wrap_u8 (by omega) (by omega)]; omega
          have t8 : ((UInt8.ofNat (16 * x + y)).toNat : Int) = ((16 * x + y : Nat) : Int) := by rw [UInt8.toNat_ofNat']; omega
          rw [← t8] at ho
          generalize UInt8.ofNat (16 * x + y) = z at *
          have happ : byteRows (D ++ [z]) = byteRows D ++ [[PV.int .u8 z.toNat]] := by simp [byteRows, byteRow]
          have hbl := byteRows_len' D
          have hb2 : D.length + 1 ≤ room := by unfold room; omega
          have e3 : i - 2 + 2 = i + 2 - 2 := by omega
          rw [e3] at hq
          have ml := get_lt hm0
          rcases hgo with ⟨rfl, rfl⟩ | ⟨t, rfl, ht2⟩
          · simp [Fn.f_value_bytes_b0, Fn.f_value_bytes_s0, hi, hi', hc, hw, hw2, g, n1, hd, t1, q1, i1, i2, f1, p1, n0, n2, w8, w9, w16, ho, room]
            refine ⟨i + 2, by omega, HbInv.mk [z] (.tv 1 (byteRows [z]) (m.length + 1)) _ (by omega) (by omega) (by simp) hq grow_nil1 ?_ ⟨rfl, by simp [keep, Fn.f_value_bytes_k0, Fn.f_value_bytes_s0, byteRows, byteRow, hw2], rfl, rfl⟩⟩
            rw [List.getElem?_append_left ml]; exact hm0
          · have t0 : t ≠ 0 := by
              rintro rfl
              have := ht2 (.dead)
              rw [List.getElem?_append_left ml, hm0] at this
              cases this
            simp [Fn.f_value_bytes_b0, Fn.f_value_bytes_s0, hi, hi', hc, hw, hw2, g, n1, hd, t1, q1, i1, i2, f1, p1, n0, n2, w8, w9, w16, ho, hbl, hb2, ht2]
            refine ⟨i + 2, by omega, HbInv.mk (D ++ [z]) (.tv 1 (byteRows (D ++ [z])) t) _ (by omega) (by omega) (by simp; omega) hq (grow_set1 ht2) ?_ ⟨rfl, by simp [keep, Fn.f_value_bytes_k0, Fn.f_value_bytes_s0, happ, hw2], rfl, rfl⟩⟩
            rw [get_ne t0, List.getElem?_append_left ml]; exact hm0
    · have hi' : ¬ (i : Int) < s.length := by omega
      have hnil : s.drop i = [] := List.drop_eq_nil_of_le (by omega)
      rw [hnil, unh_nil] at hU
      simp [Fn.f_value_bytes_b0, Fn.f_value_bytes_s0, hi, hi', hU]
      exact ⟨_, hm0, rfl⟩
  · rintro e st ⟨h0, h⟩
    obtain ⟨ts, m', ds⟩ := st
    simp only at h0 h
    subst h0
    rcases h with ⟨rfl, hx, hl, q2, c, hc, hc3⟩ | ⟨rfl, r, hr, q2, hm, q3, q4⟩
    · have ml := get_lt hc
      match ts, hl, q2 with
      | t0 :: t1 :: t2 :: t3 :: t4 :: t5 :: t6 :: t7 :: t8 :: t9 :: t10 :: t11 :: t12 :: t13 :: t14 :: t15 :: t16 :: t17 :: t18 :: t19 :: t20 :: t21 :: t22 :: t23 :: t24 :: t25 :: t26 :: t27 :: t28 :: t29 :: t30 :: t31 :: t32 :: t33 :: t34 :: t35 :: t36 :: t37 :: t38 :: t39 :: t40 :: t41 :: t42 :: t43 :: t44 :: t45 :: t46 :: t47 :: t48 :: t49 :: t50 :: t51 :: t52 :: t53 :: t54 :: t55 :: t56 :: t57 :: t58 :: t59 :: t60 :: [], hl, q2 =>
        simp only [getD_zero', getD_succ'] at q2
        subst q2
        simp [hx, hc, hc3, rdV, rT5, badR, ml]
    · rw [hr]
      simp [q2, q3, q4, hm, rdV, rT5]
end Hx

namespace Hx
open Go
set_option linter.unusedSimpArgs false
set_option linter.unusedVariables false
set_option maxHeartbeats 8000000
set_option maxRecDepth 20000
variable {E : Env}
attribute [-simp] List.getD_eq_getElem?_getD getElem?_pos
end Hx
