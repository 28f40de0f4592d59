/-
  HxU07f: sortkey.add; the document's One.
-/
import Derived.Test.YtpgnoaacdommbaaDoorHxU07e
namespace Hx
open Go
set_option linter.unusedSimpArgs false
set_option linter.unusedVariables false
set_option maxHeartbeats 4000000
variable {E : Env}
attribute [-simp] List.getD_eq_getElem?_getD getElem?_pos
theorem add_tail (u : K07 E) (K : Nat) (hK : 13 ≤ K) (a n : Int) (s : List UInt8) (hr : rightV a n s = true) (hn : isI64 n) (hs : (s.length : Int) ≤ 1000000000) (hsK : s.length < K) (id t : Nat) (hidt : t ≠ id) (acc : List UInt8) (hne : acc ≠ []) (hacc : acc.length ≤ 1000000000000) (M : Mem)
    (h1 : M[id]? = some (.cells [.p (.int .i64 a), .p (.int .i64 n), .p (.str s)])) (h2 : M[t]? = some (.tok 1 acc.length)) (x1 x2 x6 x7 x8 x9 x10 x11 : AV) :
    Wp (den E (denF E K) K addTail ⟨[.tv 1 (byteRows acc) t, x1, x2, .ptr id 0, .p .nils, .tup [], x6, x7, x8, x9, x10, x11] ++ List.replicate 46 (.tup []), M, []⟩)
      (fun e st => e = .ret ∧ st.ds = [] ∧ st.ts.getD 4 (.tup []) = .tv 1 (byteRows (acc ++ keyTail a n s)) t ∧ st.m[t]? = some (.tok 1 (acc ++ keyTail a n s).length)) := by
  obtain ⟨j, rfl⟩ : ∃ j, K = j + 1 := ⟨K - 1, by omega⟩
  unfold keyTail
  have hk := rightV_kinds hr
  rcases hk with ⟨rfl, rfl, rfl⟩ | ⟨rfl, rfl, hk⟩ | ⟨rfl, rfl⟩ | ⟨rfl, rfl, hk⟩ | ⟨rfl, rfl, hk⟩
  · simp [addTail, Fn.f_sortkey_add, h1]
    simpa using h2
  · obtain ⟨x, hx⟩ : ∃ x : Nat, x = (n % 4294967296).toNat := ⟨_, rfl⟩
    have e1 : IntKind.u32.wrap n = (x : Int) := by
      simp only [IntKind.wrap, IntKind.signed, IntKind.bits]
      simp
      omega
    have e2 : IntKind.u64.wrap (x : Int) = (x : Int) := wrap_u64 (by omega) (by omega)
    obtain ⟨m', p1, p2⟩ := sk_put u.put j (by omega) 4 (by omega) (by omega) x (by omega) acc hne hacc t M h2
    have hfl : x ^^^ 2 ^ (8 * 4 - 1) = (n + 2147483648).toNat := by
      rw [xor_flip (k := 31) (by omega)]
      unfold flip
      split <;> omega
    rw [hfl] at p1 p2
    have p1' : denF E (j + 1) 118 [.tv 1 (byteRows acc) t, .p (.int .u64 x), .p (.int .i64 4)] M = _ := p1
    simp [addTail, Fn.f_sortkey_add, h1, e1, e2, p1']
    simpa using p2
  · obtain ⟨x, hx⟩ : ∃ x : Nat, x = (n % 18446744073709551616).toNat := ⟨_, rfl⟩
    have e1 : IntKind.u64.wrap n = (x : Int) := by
      simp only [IntKind.wrap, IntKind.signed, IntKind.bits]
      simp
      omega
    obtain ⟨m', p1, p2⟩ := sk_put u.put j (by omega) 8 (by omega) (by omega) x (by omega) acc hne hacc t M h2
    have hfl : x ^^^ 2 ^ (8 * 8 - 1) = (n + 9223372036854775808).toNat := by
      have := hn.1
      have := hn.2
      rw [xor_flip (k := 63) (by omega)]
      unfold flip
      split <;> omega
    rw [hfl] at p1 p2
    have p1' : denF E (j + 1) 118 [.tv 1 (byteRows acc) t, .p (.int .u64 x), .p (.int .i64 8)] M = _ := p1
    simp [addTail, Fn.f_sortkey_add, h1, e1, p1']
    simpa using p2
  all_goals
    simp [addTail, Fn.f_sortkey_add, h1]
    refine (esc_loop _ (j + 1) _ _ s hs hsK id t hidt acc hne hacc M h1 h2 _ ⟨rfl, rfl, rfl, rfl⟩).mono ?_
    rintro e st ⟨rfl, q1, q2, q3, q4⟩
    obtain ⟨ts, m', ds⟩ := st
    simp only at q1 q2 q3 q4
    subst q1
    have el := esc_len s
    have hbl := byteRows_len (acc ++ esc s)
    have hl : (acc ++ esc s).length + 2 ≤ room := by rw [List.length_append]; unfold room; omega
    have hm2 : ∀ z, (m' ++ [z])[t]? = some (.tok 1 (acc ++ esc s).length) := fun z => get_app q4 [z]
    have hrows : byteRows (acc ++ (esc s ++ [0, 0])) = byteRows (acc ++ esc s) ++ [[PV.int .u8 0], [PV.int .u8 0]] := by
      rw [← List.append_assoc, byteRows_app]; rfl
    have hlen : acc.length + ((esc s).length + 2) = (acc ++ esc s).length + 2 := by rw [List.length_append]; omega
    rw [hrows, hlen]
    generalize acc ++ esc s = D at *
    match ts, q2, q3 with
    | t0 :: t1 :: t2 :: t3 :: t4 :: t5 :: t6 :: t7 :: t8 :: t9 :: t10 :: t11 :: t12 :: t13 :: t14 :: t15 :: t16 :: t17 :: t18 :: t19 :: t20 :: t21 :: t22 :: t23 :: t24 :: t25 :: t26 :: t27 :: t28 :: t29 :: t30 :: t31 :: t32 :: t33 :: t34 :: t35 :: t36 :: t37 :: t38 :: t39 :: t40 :: t41 :: t42 :: t43 :: t44 :: t45 :: t46 :: t47 :: t48 :: t49 :: t50 :: t51 :: t52 :: t53 :: t54 :: t55 :: t56 :: t57 :: [], q2, q3 =>
      simp only [getD_zero', getD_succ'] at q3
      subst q3
      simp [hm2, hbl, hl]
      rw [get_set (hm2 _)]
theorem add_body : Fn.f_sortkey_add.body = .seq (.ops [⟨some 3, .box (.tmp 1), none, 0⟩, ⟨some 4, .mov (.con .nils), none, 0⟩]) (.seq (.ops [⟨some 6, .mov (.tmp 0), none, 0⟩, ⟨some 7, .fieldAddr 0 (.tmp 3), none, 0⟩, ⟨some 8, .load 1 false (.tmp 7), none, 0⟩,
     ⟨some 9, .toInt .u8 (.tmp 8), none, 0⟩, ⟨some 10, .rowLit false 1 1 [.int .u8 0] [(0, 1, (.tmp 9))], none, 0⟩, ⟨some 11, .append false 1 1 (.tmp 6) (.tmp 10), none, 0⟩, ⟨some 0, .mov (.tmp 11), none, 0⟩]) addTail) := rfl
theorem sk_add (u : K07 E) (K : Nat) (hK : 13 ≤ K) (a n : Int) (s : List UInt8) (hr : rightV a n s = true) (hn : isI64 n) (hs : (s.length : Int) ≤ 1000000000) (hsK : s.length < K) (acc : List UInt8) (hacc : acc.length < 1000000000000) (ov : AV) (m : Mem) (hg : Grow 1 (byteRows acc) ov m) :
    ∃ t m', denF E (K + 1) 113 [ov, .p (vP a n s)] m = some (.ret (.tv 1 (byteRows (acc ++ keyOf a n s)) t), m') ∧ m'[t]? = some (.tok 1 (acc ++ keyOf a n s).length) := by
  have ha : IntKind.u8.wrap a = ((UInt8.ofNat a.toNat).toNat : Int) := by
    have : 0 ≤ a ∧ a ≤ 4 := by rcases rightV_kinds hr with h | h | h | h | h <;> omega
    rw [wrap_u8 (by omega) (by omega), UInt8.toNat_ofNat']
    omega
  rw [keyOf_eq]
  have hkt : ∀ t, acc ++ t :: keyTail a n s = (acc ++ [t]) ++ keyTail a n s := fun t => by simp
  rw [hkt]
  obtain ⟨c, hc⟩ : ∃ c, c = UInt8.ofNat a.toNat := ⟨_, rfl⟩
  rw [← hc] at ha ⊢
  suffices hh : ∃ t, ∃ out m1, denF E (K + 1) 113 [ov, .p (vP a n s)] m = some (out, m1) ∧ (out = .ret (.tv 1 (byteRows (acc ++ [c] ++ keyTail a n s)) t) ∧ m1[t]? = some (.tok 1 (acc ++ [c] ++ keyTail a n s).length)) by
    obtain ⟨t, out, m1, h1, rfl, h2⟩ := hh
    exact ⟨t, m1, h1, h2⟩
  have hbl := byteRows_len acc
  have e1 : ∀ l, (m ++ [Blk.cells [AV.p (PV.int IntKind.i64 a), AV.p (PV.int IntKind.i64 n), AV.p (PV.str s)]] ++ l)[m.length]? = some (.cells [.p (.int .i64 a), .p (.int .i64 n), .p (.str s)]) := fun l => get_app get_new l
  have e0 : (m ++ [Blk.cells [AV.p (PV.int IntKind.i64 a), AV.p (PV.int IntKind.i64 n), AV.p (PV.str s)]])[m.length]? = some (.cells [.p (.int .i64 a), .p (.int .i64 n), .p (.str s)]) := get_new
  have hlen : (acc ++ [c]).length = acc.length + 1 := by simp
  have post : ∀ (t : Nat) e st, (e = .ret ∧ st.ds = [] ∧ st.ts.getD 4 (.tup []) = .tv 1 (byteRows (acc ++ [c] ++ keyTail a n s)) t ∧ st.m[t]? = some (.tok 1 (acc ++ [c] ++ keyTail a n s).length)) →
      ∃ out m1, leave Fn.f_sortkey_add (some (e, st)) = some (out, m1) ∧ (out = .ret (.tv 1 (byteRows (acc ++ [c] ++ keyTail a n s)) t) ∧ m1[t]? = some (.tok 1 (acc ++ [c] ++ keyTail a n s).length)) := by
    rintro t e st ⟨rfl, h1, h2, h3⟩
    obtain ⟨ts, m', ds⟩ := st
    simp only at h1 h2 h3
    subst h1
    refine ⟨_, _, ?_, rfl, h3⟩
    simp [Fn.f_sortkey_add, leave, resAll, h2]
  have args : ∀ ov : AV, [ov, .p (vP a n s)] ++ List.replicate (Fn.f_sortkey_add.ntmps - [ov, AV.p (vP a n s)].length) (AV.tup []) = [ov, .p (vP a n s)] ++ List.replicate 56 (.tup []) := fun _ => rfl
  rcases hg with ⟨hr0, rfl⟩ | ⟨hr0, t, rfl, ht⟩
  · have : acc = [] := by cases acc with | nil => rfl | cons => simp [byteRows] at hr0
    subst this
    refine ⟨m.length + 2, denF_own_ex u.add rfl ?_⟩
    have step : ∀ Q : Ex → St → Prop, (∀ e st, (e = .ret ∧ st.ds = [] ∧ st.ts.getD 4 (.tup []) = .tv 1 (byteRows ([] ++ [c] ++ keyTail a n s)) (m.length + 2) ∧ st.m[m.length + 2]? = some (.tok 1 ([] ++ [c] ++ keyTail a n s).length)) → Q e st) →
        Wp (den E (denF E K) K Fn.f_sortkey_add.body ⟨[.p .nils, .p (vP a n s)] ++ List.replicate 56 (.tup []), m, []⟩) Q := by
      intro Q hQ
      rw [add_body]
      have e2 : ∀ l, (m ++ Blk.cells [AV.p (PV.int IntKind.i64 a), AV.p (PV.int IntKind.i64 n), AV.p (PV.str s)] :: l)[m.length]? = some (.cells [.p (.int .i64 a), .p (.int .i64 n), .p (.str s)]) := fun l => by
        have := e1 l
        rwa [List.append_assoc] at this
      have hT := add_tail u K hK a n s hr hn hs hsK m.length (m.length + 2) (by omega) [c] (by simp) (by simp) (m ++ [.cells [.p (.int .i64 a), .p (.int .i64 n), .p (.str s)], .tok 1 1, .tok 1 1]) (e2 _)
        (by rw [List.getElem?_append_right (by omega)]; simp)
      simp [vP, e0, e2, ha, room]
      exact (hT _ _ _ _ _ _ _ _).mono hQ
    exact step _ (post _)
  · have htl : t < m.length := by
      rcases Nat.lt_or_ge t m.length with h' | h'
      · exact h'
      · rw [List.getElem?_eq_none h'] at ht; cases ht
    rw [hbl] at ht
    have hne : acc ≠ [] := by rintro rfl; exact hr0 rfl
    refine ⟨t, denF_own_ex u.add rfl ?_⟩
    have step : ∀ Q : Ex → St → Prop, (∀ e st, (e = .ret ∧ st.ds = [] ∧ st.ts.getD 4 (.tup []) = .tv 1 (byteRows (acc ++ [c] ++ keyTail a n s)) t ∧ st.m[t]? = some (.tok 1 (acc ++ [c] ++ keyTail a n s).length)) → Q e st) →
        Wp (den E (denF E K) K Fn.f_sortkey_add.body ⟨[.tv 1 (byteRows acc) t, .p (vP a n s)] ++ List.replicate 56 (.tup []), m, []⟩) Q := by
      intro Q hQ
      rw [add_body]
      have e2 : ∀ l, (m ++ Blk.cells [AV.p (PV.int IntKind.i64 a), AV.p (PV.int IntKind.i64 n), AV.p (PV.str s)] :: l)[m.length]? = some (.cells [.p (.int .i64 a), .p (.int .i64 n), .p (.str s)]) := fun l => by
        have := e1 l
        rwa [List.append_assoc] at this
      have e3 : ∀ l, (m ++ l)[t]? = some (.tok 1 acc.length) := fun l => get_app ht l
      have hb1 : acc.length + 1 ≤ room := by unfold room; omega
      have hT := add_tail u K hK a n s hr hn hs hsK m.length t (by omega) (acc ++ [c]) (by simp) (by simp; omega) ((m ++ [Blk.cells [.p (.int .i64 a), .p (.int .i64 n), .p (.str s)], Blk.tok 1 1]).set t (Blk.tok 1 (acc.length + 1))) (by rw [set_other (by omega)]; exact e2 _)
        (by rw [get_set (e3 _)]; simp)
      have hrows : byteRows (acc ++ [c]) = byteRows acc ++ [[PV.int .u8 c.toNat]] := by rw [byteRows_app]; rfl
      rw [hrows] at hT
      simp [vP, e0, e2, e3, ha, hbl, hb1]
      exact (hT _ _ _ _ _ _ _ _).mono hQ
    exact step _ (post _)
end Hx
