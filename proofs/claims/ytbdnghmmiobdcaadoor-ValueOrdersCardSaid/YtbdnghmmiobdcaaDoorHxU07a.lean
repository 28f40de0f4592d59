/-
  HxU07a: texts in their order; the least text behind all that begin with one.
-/
import Derived.Test.YtbdnghmmiobdcaaDoorHxFn07
import Derived.Test.YtbdnghmmiobdcaaDoorHxM07b
import Derived.Test.YtbdnghmmiobdcaaDoorHxU05
namespace Hx
open Go
set_option linter.unusedSimpArgs false
set_option linter.unusedVariables false
set_option maxHeartbeats 4000000
variable {E : Env}
attribute [-simp] List.getD_eq_getElem?_getD getElem?_pos
theorem drop_at7 {s : List UInt8} {i : Nat} {c : UInt8} (h : s[i]? = some c) : s.drop i = c :: s.drop (i + 1) := by
  obtain ⟨hi, rfl⟩ := List.getElem?_eq_some_iff.1 h
  exact List.drop_eq_getElem_cons hi
theorem u8_lt {a b : UInt8} : a < b ↔ (a.toNat : Int) < b.toNat := by
  rw [UInt8.lt_iff_toNat_lt]; omega
theorem ref_NOrder (h : E.fn 59 = some Fn.f_haulageref04_Order) (a b : List UInt8) (hs : (a.length : Int) ≤ 1000000000000) (k : Nat) (hk : a.length + 2 ≤ k) (m : Mem) : denF E (k + 1) 59 [.p (.str a), .p (.str b)] m = some (.ret (.p (.int .i64 (ordL a b))), m) := by
  refine denF_wp h rfl (args' := [.p (.str a), .p (.str b)]) rfl ?_
  simp [Fn.f_haulageref04_Order]
  refine (loop_wp (α := Nat) (I := fun i st => (i ≤ a.length ∧ i ≤ b.length ∧ ordL a b = ordL (a.drop i) (b.drop i)) ∧ Live Fn.f_haulageref04_Order_k0 (Fn.f_haulageref04_Order_s0 (.p (.str a)) (.p (.str b)) (.p (.int .i64 i))) [] st) (meas := fun i => a.length - i)
    (Q := fun e st => st.ds = [] ∧ ((e = .exit 0 ∧ st.ts.length = 42 ∧ st.ts.getD 0 (.tup []) = .p (.str a) ∧ st.ts.getD 1 (.tup []) = .p (.str b) ∧ ordL a b = (if a.length < b.length then -1 else if b.length < a.length then 1 else 0)) ∨ (e = .ret ∧ st.ts.getD 4 (.tup []) = .p (.int .i64 (ordL a b))))) ?_ k 0 _ ⟨⟨Nat.zero_le _, Nat.zero_le _, rfl⟩, rfl, rfl, rfl, rfl⟩ (by omega)).mono ?_
  · rintro i st ⟨⟨hi1, hi2, ho⟩, hlive⟩
    rw [loopF_live hlive]
    by_cases ha : i < a.length
    · have ha' : (i : Int) < a.length := by omega
      obtain ⟨x, hx⟩ : ∃ c, a[i]? = some c := ⟨_, List.getElem?_eq_getElem ha⟩
      by_cases hb : i < b.length
      · have hb' : (i : Int) < b.length := by omega
        obtain ⟨y, hy⟩ : ∃ c, b[i]? = some c := ⟨_, List.getElem?_eq_getElem hb⟩
        rw [drop_at7 hx, drop_at7 hy, ordL] at ho
        have hw : IntKind.i64.wrap ((i : Int) + 1) = i + 1 := wrap_i64 (by omega) (by omega)
        by_cases h1 : x < y
        · rw [if_pos h1] at ho
          have h1' := u8_lt.1 h1
          simp [Fn.f_haulageref04_Order_b0, Fn.f_haulageref04_Order_s0, ha, ha', hb, hb', hx, hy, h1', ho]
        · have h1' : ¬ (x.toNat : Int) < y.toNat := fun q => h1 (u8_lt.2 q)
          by_cases h2 : y < x
          · rw [if_neg h1, if_pos h2] at ho
            have h2' := u8_lt.1 h2
            simp [Fn.f_haulageref04_Order_b0, Fn.f_haulageref04_Order_s0, ha, ha', hb, hb', hx, hy, h1', h2', ho]
          · have h2' : ¬ (y.toNat : Int) < x.toNat := fun q => h2 (u8_lt.2 q)
            rw [if_neg h1, if_neg h2] at ho
            simp [Fn.f_haulageref04_Order_b0, Fn.f_haulageref04_Order_s0, ha, ha', hb, hb', hx, hy, h1', h2', hw]
            exact ⟨i + 1, by omega, ⟨by omega, by omega, ho⟩, rfl, rfl, rfl, rfl⟩
      · have hb' : ¬ (i : Int) < b.length := by omega
        have e1 : b.length < a.length := by omega
        rw [List.drop_eq_nil_of_le (by omega : b.length ≤ i), drop_at7 hx, ordL] at ho
        simp [Fn.f_haulageref04_Order_b0, Fn.f_haulageref04_Order_s0, ha, ha', hb, hb', hx, ho]
        rw [if_neg (by omega), if_pos e1]
    · have ha' : ¬ (i : Int) < a.length := by omega
      have hr : ordL a b = (if a.length < b.length then -1 else if b.length < a.length then 1 else 0) := by
        rw [ho, List.drop_eq_nil_of_le (by omega : a.length ≤ i)]
        by_cases hb : i < b.length
        · obtain ⟨y, hy⟩ : ∃ c, b[i]? = some c := ⟨_, List.getElem?_eq_getElem hb⟩
          rw [drop_at7 hy, ordL, if_pos (by omega)]
        · rw [List.drop_eq_nil_of_le (by omega : b.length ≤ i), if_neg (by omega), if_neg (by omega)]
          rfl
      simp [Fn.f_haulageref04_Order_b0, Fn.f_haulageref04_Order_s0, ha, ha', hr]
  · rintro e st ⟨h0, h⟩
    obtain ⟨ts, m', ds⟩ := st
    simp only at h0 h
    subst h0
    rcases h with ⟨rfl, h1, h2, h3, h4⟩ | ⟨rfl, h1⟩
    · match ts, h1, h2, h3 with
      | t0 :: t1 :: t2 :: t3 :: t4 :: t5 :: t6 :: t7 :: t8 :: t9 :: t10 :: t11 :: t12 :: t13 :: t14 :: t15 :: t16 :: t17 :: t18 :: t19 :: t20 :: t21 :: t22 :: t23 :: t24 :: t25 :: t26 :: t27 :: t28 :: t29 :: t30 :: t31 :: t32 :: t33 :: t34 :: t35 :: t36 :: t37 :: t38 :: t39 :: t40 :: t41 :: [], h1, h2, h3 =>
        simp only [getD_zero', getD_succ'] at h2 h3
        subst h2 h3
        rw [h4]
        by_cases e1 : a.length < b.length
        · have e1' : (a.length : Int) < b.length := by omega
          simp [e1, e1']
        · have e1' : ¬ (a.length : Int) < b.length := by omega
          by_cases e2 : b.length < a.length
          · have e2' : (b.length : Int) < a.length := by omega
            simp [e1, e1', e2, e2']
          · have e2' : ¬ (b.length : Int) < a.length := by omega
            simp [e1, e1', e2, e2']
    · simp [h1]
def nextR (s : List UInt8) : AV := match nextS s with | none => .tup [.p (.str []), .p (.bool false)] | some t => .tup [.p (.str t), .p (.bool true)]
theorem take_last {s : List UInt8} {i : Nat} {c : UInt8} (h : s[i]? = some c) : s.take (i + 1) = s.take i ++ [c] := by
  rw [List.take_add_one, h]; rfl
theorem u8_255 {c : UInt8} : c = 255 ↔ ¬ (c.toNat : Int) < 255 := by
  constructor
  · rintro rfl; decide
  · intro h
    apply UInt8.toNat_inj.1
    have : c.toNat < 256 := UInt8.toNat_lt c
    show c.toNat = 255
    omega
theorem own_pre {m : Mem} {id : Nat} {t : List UInt8} {post : List AV} (h : m[id]? = some (.cells (t.map bcell ++ post))) : rowsOf 1 m (.own 1 id 0 t.length) = some (byteRows t) := by
  have h2 : ((t.map bcell ++ post).drop 0).take (t.length * 1) = t.map bcell := by
    rw [List.drop_zero, Nat.mul_one]
    have := List.take_left (l₁ := t.map bcell) (l₂ := post)
    rwa [List.length_map] at this
  simp only [rowsOf, if_true, h, h2]
  rw [if_pos (by simp), toPs_bytes]
  simp only [chunks_bytes]
theorem ref_Next (h : E.fn 106 = some Fn.f_haulageref07_Next) (s : List UInt8) (hs : (s.length : Int) ≤ 1000000000000) (k : Nat) (hk : s.length + 2 ≤ k) (m : Mem) : denF E (k + 1) 106 [.p (.str s)] m = some (.ret (nextR s), m) := by
  refine denF_wp h rfl (args' := [.p (.str s)]) rfl ?_
  simp [Fn.f_haulageref07_Next]
  refine (loop_wp (α := Nat) (I := fun i st => (i ≤ s.length ∧ nextS s = nextS (s.take i)) ∧ Live Fn.f_haulageref07_Next_k0 (Fn.f_haulageref07_Next_s0 (.p (.str (s.take i)))) [] st) (meas := fun i => i)
    (Q := fun e st => ∃ i, e = .exit 0 ∧ st.ds = [] ∧ st.m = [] ∧ st.ts.length = 35 ∧ st.ts.getD 0 (.tup []) = .p (.str (s.take i)) ∧ i ≤ s.length ∧ ((i = 0 ∧ nextS s = none) ∨ ∃ j c, i = j + 1 ∧ s[j]? = some c ∧ c ≠ 255 ∧ nextS s = some (s.take j ++ [c + 1]))) ?_ k s.length _ ⟨⟨Nat.le_refl _, by rw [List.take_length]⟩, rfl, by rw [List.take_length]; rfl, rfl, rfl⟩ (by omega)).mono ?_
  · rintro i st ⟨⟨hi1, ho⟩, hlive⟩
    rw [loopF_live hlive]
    cases i with
    | zero =>
      have : nextS s = none := by rw [ho, List.take_zero]; rfl
      simp [Fn.f_haulageref07_Next_b0, Fn.f_haulageref07_Next_s0, bne, this]
    | succ j =>
      obtain ⟨c, hc⟩ : ∃ c, s[j]? = some c := ⟨_, List.getElem?_eq_getElem (by omega)⟩
      rw [take_last hc, nextS_last] at ho
      have hne : (s.take j ++ [c] == []) = false := by simp
      have hl : (s.take j).length = j := by rw [List.length_take]; omega
      have hlast : (s.take j ++ [c])[j]? = some c := by rw [List.getElem?_append_right (by omega), hl]; simp
      have hcut : (s.take j ++ [c]).take j = s.take j := by rw [List.take_append_of_le_length (by omega), List.take_take]; congr 1; omega
      have hlen : ((s.take j ++ [c]).length : Int) = j + 1 := by rw [List.length_append, hl]; simp
      have hw : IntKind.i64.wrap (j : Int) = j := wrap_i64 (by omega) (by omega)
      have hst := hlive
      rw [take_last hc]
      generalize hS : s.take j ++ [c] = S at *
      have hle : j ≤ S.length := by omega
      by_cases h255 : c = 255
      · rw [if_pos h255] at ho
        have g : ((c.toNat : Int) == 255) = true := by rw [h255]; rfl
        simp [Fn.f_haulageref07_Next_b0, Fn.f_haulageref07_Next_s0, bne, hne, hlen, hw, hlast, g, hcut, hle]
        exact ⟨j, by omega, ⟨by omega, ho⟩, rfl, rfl, rfl, rfl⟩
      · rw [if_neg h255] at ho
        have g : ((c.toNat : Int) == 255) = false := by
          have h3 : (c.toNat : Int) < 255 := by
            by_cases h4 : (c.toNat : Int) < 255
            · exact h4
            · exact absurd (u8_255.2 h4) h255
          simp; omega
        simp [Fn.f_haulageref07_Next_b0, Fn.f_haulageref07_Next_s0, bne, hne, hlen, hw, hlast, g]
        exact ⟨j + 1, by rw [take_last hc, hS], by omega, .inr ⟨j, rfl, c, hc, h255, ho⟩⟩
  · rintro e st ⟨i, rfl, q1, q2, q3, q4, q5, q6⟩
    obtain ⟨ts, m', ds⟩ := st
    simp only at q1 q2 q3 q4
    subst q1 q2
    match ts, q3, q4 with
    | t0 :: t1 :: t2 :: t3 :: t4 :: t5 :: t6 :: t7 :: t8 :: t9 :: t10 :: t11 :: t12 :: t13 :: t14 :: t15 :: t16 :: t17 :: t18 :: t19 :: t20 :: t21 :: t22 :: t23 :: t24 :: t25 :: t26 :: t27 :: t28 :: t29 :: t30 :: t31 :: t32 :: t33 :: t34 :: [], q3, q4 =>
      simp only [getD_zero', getD_succ'] at q4
      subst q4
      unfold nextR
      rcases q6 with ⟨rfl, hn⟩ | ⟨j, c, rfl, hc, hne, hn⟩
      · rw [hn]
        simp
      · rw [hn]
        have hne' : (s.take j ++ [c] == []) = false := by simp
        have hl : (s.take j).length = j := by rw [List.length_take]; omega
        have hlast : (s.take j ++ [c])[j]? = some c := by rw [List.getElem?_append_right (by omega), hl]; simp
        have hcut : (s.take j ++ [c]).take j = s.take j := by rw [List.take_append_of_le_length (by omega), List.take_take]; congr 1; omega
        have hlen : ((s.take j ++ [c]).length : Int) = j + 1 := by rw [List.length_append, hl]; simp
        have hw : IntKind.i64.wrap (j : Int) = j := wrap_i64 (by omega) (by omega)
        have h3 : (c.toNat : Int) < 255 := by
          by_cases h4 : (c.toNat : Int) < 255
          · exact h4
          · exact absurd (u8_255.2 h4) hne
        have hw2 : IntKind.u8.wrap ((c.toNat : Int) + 1) = ((c + 1).toNat : Int) := by
          rw [wrap_u8 (by omega) (by omega), UInt8.toNat_add]
          have : (1 : UInt8).toNat = 1 := rfl
          omega
        rw [take_last hc]
        generalize hS : s.take j ++ [c] = S at *
        have hle : j ≤ S.length := by omega
        have hlim : j + 1 ≤ strLim := by unfold strLim; omega
        have hun : unBytes [[PV.int .u8 (((c + 1).toNat : Nat) : Int)]] = some [c + 1] := unBytes_rows [c + 1]
        generalize c + 1 = d at *
        simp [hne', hlen, hw, hlast, hw2, hcut, hle, hun, hl, hlim, setAt]
end Hx
