/-
  HxU07d: the law SortkeyOf on the evaluator.
-/
import Derived.Test.YtpgnoaacdommbaaDoorHxU07g
namespace Hx
open Go
set_option linter.unusedSimpArgs false
set_option linter.unusedVariables false
set_option maxHeartbeats 4000000
variable {E : Env}
attribute [-simp] List.getD_eq_getElem?_getD getElem?_pos
structure O07 (E : Env) : Prop where
  few : E.fn 101 = some Fn.f_haulagelaw07_Few
  sof : E.fn 102 = some Fn.f_sortkey_Of
  rright : E.fn 103 = some Fn.f_haulageref07_Right
  rof : E.fn 104 = some Fn.f_haulageref07_Of
theorem all_take {α : Type} {f : α → Bool} {l : List α} {i : Nat} {x : α} (h : (l.take i).all f = true) (hx : l[i]? = some x) (hf : f x = true) : (l.take (i + 1)).all f = true := by
  rw [List.take_add_one, hx, List.all_append, h]
  simp [hf]
theorem all_not {α : Type} {f : α → Bool} {l : List α} {i : Nat} {x : α} (hx : l[i]? = some x) (hf : f x = false) : l.all f = false := by
  rw [Bool.eq_false_iff]
  intro h
  have := List.all_eq_true.1 h x (List.mem_of_getElem? hx)
  rw [hf] at this
  cases this
theorem law_Few (h : E.fn 101 = some Fn.f_haulagelaw07_Few) (k : Nat) (hk : 14 ≤ k) (v : PV) (l : List (Int × Int × List UInt8)) (hv : IsVals v l) (m : Mem) : denF E (k + 1) 101 [.p v] m = some (.ret (.p (.bool (fewV l))), m) := by
  refine denF_wp h rfl (args' := [.p v]) rfl ?_
  have hlen := vals_len hv
  unfold fewV
  by_cases h12 : 12 < l.length
  · have h12' : (12 : Int) < l.length := by omega
    have : ¬ l.length ≤ 12 := by omega
    simp [Fn.f_haulagelaw07_Few, -lenV, hlen, h12', this]
  have h12' : ¬ (12 : Int) < l.length := by omega
  have h12'' : l.length ≤ 12 := by omega
  simp [Fn.f_haulagelaw07_Few, -lenV, hlen, h12', h12'']
  refine (loop_wp (α := Nat) (I := fun i st => (i ≤ l.length ∧ (l.take i).all (fun p => decide (p.2.2.length ≤ 300)) = true) ∧ Live Fn.f_haulagelaw07_Few_k0 (Fn.f_haulagelaw07_Few_s0 (.p v) (.p (.int .i64 i))) [] st) (meas := fun i => l.length - i)
    (Q := fun e st => st.ds = [] ∧ ((e = .exit 0 ∧ l.all (fun p => decide (p.2.2.length ≤ 300)) = true ∧ st.ts.length = 20) ∨ (e = .ret ∧ l.all (fun p => decide (p.2.2.length ≤ 300)) = false ∧ st.ts.getD 2 (.tup []) = .p (.bool false)))) ?_ k 0 _ ⟨⟨Nat.zero_le _, rfl⟩, rfl, rfl, rfl, rfl⟩ (by omega)).mono ?_
  · rintro i st ⟨⟨hi0, hall⟩, hlive⟩
    rw [loopF_live hlive]
    by_cases hi : i < l.length
    · have hi' : (i : Int) < l.length := by omega
      obtain ⟨p, hp⟩ : ∃ n, l[i]? = some n := ⟨l[i], List.getElem?_eq_getElem hi⟩
      obtain ⟨rfl, hrow⟩ := vals_at hv hp
      have hw : IntKind.i64.wrap ((i : Int) + 1) = i + 1 := wrap_i64 (by omega) (by omega)
      by_cases h3 : (300 : Int) < p.2.2.length
      · have hno := all_not (f := fun p : Int × Int × List UInt8 => decide (p.2.2.length ≤ 300)) hp (by simp; omega)
        have hlen' := hlen
        generalize l.map rowV = R at *
        generalize hA : (l.all fun p => decide (p.2.2.length ≤ 300)) = A at *
        subst hno
        simp [Fn.f_haulagelaw07_Few_b0, Fn.f_haulagelaw07_Few_s0, -lenV, hlen', hi', hrow, h3]
      · have hyes := all_take hall hp (by simp; omega)
        have hlen' := hlen
        generalize hR : l.map rowV = R at *
        simp [Fn.f_haulagelaw07_Few_b0, Fn.f_haulagelaw07_Few_s0, -lenV, hlen', hi', hrow, h3, hw]
        exact ⟨i + 1, by omega, ⟨by omega, by simpa using hyes⟩, rfl, rfl, rfl, rfl⟩
    · have hi' : ¬ (i : Int) < l.length := by omega
      have : i = l.length := by omega
      subst this
      rw [List.take_length] at hall
      generalize hA : (l.all fun p => decide (p.2.2.length ≤ 300)) = A at *
      subst hall
      simp [Fn.f_haulagelaw07_Few_b0, Fn.f_haulagelaw07_Few_s0, -lenV, hlen]
  · rintro e st ⟨h0, h⟩
    obtain ⟨ts, m', ds⟩ := st
    simp only at h0 h
    subst h0
    rcases h with ⟨rfl, h1, h2⟩ | ⟨rfl, h1, h2⟩
    · match ts, h2 with
      | t0 :: t1 :: t2 :: t3 :: t4 :: t5 :: t6 :: t7 :: t8 :: t9 :: t10 :: t11 :: t12 :: t13 :: t14 :: t15 :: t16 :: t17 :: t18 :: t19 :: [], h2 =>
        simp only [h1]
        simp
    · simp only [h1]
      simp [h2]
theorem ref_VRs (u : V06 E) (h : E.fn 103 = some Fn.f_haulageref07_Right) (k : Nat) (hk : 400 ≤ k + 10) (v : PV) (l : List (Int × Int × List UInt8)) (hv : IsVals v l) (hb : ∀ p ∈ l, isI64 p.1 ∧ isI64 p.2.1) (hfew : fewV l = true) (m : Mem) : denF E (k + 1) 103 [.p v] m = some (.ret (.p (.bool (l.all rightP))), m) := by
  refine denF_wp h rfl (args' := [.p v]) rfl ?_
  have hlen := vals_len hv
  unfold fewV at hfew
  simp only [Bool.and_eq_true, decide_eq_true_eq, List.all_eq_true] at hfew
  obtain ⟨hl12, hs300⟩ := hfew
  simp [Fn.f_haulageref07_Right, -lenV, hlen]
  refine (loop_wp (α := Nat) (I := fun i st => (i ≤ l.length ∧ (l.take i).all rightP = true) ∧ Live Fn.f_haulageref07_Right_k0 (Fn.f_haulageref07_Right_s0 (.p v) (.p (.int .i64 i))) [] st) (meas := fun i => l.length - i)
    (Q := fun e st => st.ds = [] ∧ ((e = .exit 0 ∧ l.all rightP = true ∧ st.ts.length = 16) ∨ (e = .ret ∧ l.all rightP = false ∧ st.ts.getD 2 (.tup []) = .p (.bool false)))) ?_ k 0 _ ⟨⟨Nat.zero_le _, rfl⟩, rfl, rfl, rfl, rfl⟩ (by omega)).mono ?_
  · rintro i st ⟨⟨hi0, hall⟩, hlive⟩
    rw [loopF_live hlive]
    by_cases hi : i < l.length
    · have hi' : (i : Int) < l.length := by omega
      obtain ⟨p, hp⟩ : ∃ n, l[i]? = some n := ⟨l[i], List.getElem?_eq_getElem hi⟩
      obtain ⟨rfl, hrow⟩ := vals_at hv hp
      have hw : IntKind.i64.wrap ((i : Int) + 1) = i + 1 := wrap_i64 (by omega) (by omega)
      have h3 := hs300 p (List.mem_of_getElem? hp)
      obtain ⟨j, rfl⟩ : ∃ j, k = j + 1 := ⟨k - 1, by omega⟩
      have hR := fun m => ref_VRight u p.1 p.2.1 p.2.2 (hb p (List.mem_of_getElem? hp)).2 (by omega) j (by omega) m
      unfold vP at hR
      have hlen' := hlen
      cases hr : rightP p with
      | false =>
        have hno := all_not hp hr
        unfold rightP at hr
        rw [hr] at hR
        generalize l.map rowV = R at *
        generalize l.all rightP = A at *
        subst hno
        simp [Fn.f_haulageref07_Right_b0, Fn.f_haulageref07_Right_s0, -lenV, hlen', hi', hrow, hR]
      | true =>
        have hyes := all_take hall hp hr
        unfold rightP at hr
        rw [hr] at hR
        generalize hRR : l.map rowV = R at *
        simp [Fn.f_haulageref07_Right_b0, Fn.f_haulageref07_Right_s0, -lenV, hlen', hi', hrow, hR, hw]
        exact ⟨i + 1, by omega, ⟨by omega, by simpa using hyes⟩, rfl, rfl, rfl, rfl⟩
    · have : i = l.length := by omega
      subst this
      rw [List.take_length] at hall
      generalize hA : l.all rightP = A at *
      subst hall
      simp [Fn.f_haulageref07_Right_b0, Fn.f_haulageref07_Right_s0, -lenV, hlen]
  · rintro e st ⟨h0, h⟩
    obtain ⟨ts, m', ds⟩ := st
    simp only at h0 h
    subst h0
    rcases h with ⟨rfl, h1, h2⟩ | ⟨rfl, h1, h2⟩
    · match ts, h2 with
      | t0 :: t1 :: t2 :: t3 :: t4 :: t5 :: t6 :: t7 :: t8 :: t9 :: t10 :: t11 :: t12 :: t13 :: t14 :: t15 :: [], h2 =>
        simp only [h1]
        simp
    · simp only [h1]
      simp [h2]
theorem keyOf_len {a n : Int} {s : List UInt8} (h : rightV a n s = true) : (keyOf a n s).length ≤ 243 := by
  have el := esc_len s
  unfold keyOf
  rcases rightV_kinds h with ⟨rfl, rfl, rfl⟩ | ⟨rfl, rfl, hk⟩ | ⟨rfl, rfl⟩ | ⟨rfl, rfl, hk⟩ | ⟨rfl, rfl, hk⟩ <;> simp [be_len] <;> omega
theorem keysOf_take {l : List (Int × Int × List UInt8)} {i : Nat} {p : Int × Int × List UInt8} (h : l[i]? = some p) : keysOf (l.take (i + 1)) = keysOf (l.take i) ++ keyP p := by
  rw [List.take_add_one, h]
  unfold keysOf
  rw [List.flatMap_append]
  simp
theorem keysOf_len : ∀ {l : List (Int × Int × List UInt8)}, l.all rightP = true → (keysOf l).length ≤ 243 * l.length
  | [], _ => Nat.le_refl _
  | p :: l, h => by
    rw [List.all_cons, Bool.and_eq_true] at h
    have h1 := keysOf_len h.2
    have h2 := keyOf_len h.1
    unfold keysOf at h1 ⊢
    rw [List.flatMap_cons, List.length_append, List.length_cons]
    have h3 : (keyP p).length ≤ 243 := h2
    omega
def OfInv (l : List (Int × Int × List UInt8)) (v : PV) (i : Nat) (st : St) : Prop := ∃ (ov : AV) (m : Mem), i ≤ l.length ∧ (l.take i).all rightP = true ∧ Grow 1 (byteRows (keysOf (l.take i))) ov m ∧
  Live Fn.f_sortkey_Of_k0 (Fn.f_sortkey_Of_s0 ov (.p v) (.p (.int .i64 l.length)) (.p (.int .i64 i))) m st
theorem OfInv.mk {l : List (Int × Int × List UInt8)} {v : PV} {i : Nat} {st : St} (ov : AV) (m : Mem) (h1 : i ≤ l.length) (h2 : (l.take i).all rightP = true) (h3 : Grow 1 (byteRows (keysOf (l.take i))) ov m)
  (h4 : Live Fn.f_sortkey_Of_k0 (Fn.f_sortkey_Of_s0 ov (.p v) (.p (.int .i64 l.length)) (.p (.int .i64 i))) m st) : OfInv l v i st := ⟨ov, m, h1, h2, h3, h4⟩
def keysR (l : List (Int × Int × List UInt8)) : AV := if l.all rightP then .tup [.p (.str (keysOf l)), .p (.int .i64 0)] else .tup [.p (.str []), .p (.int .i64 2)]
theorem all_of_take {l : List (Int × Int × List UInt8)} {i : Nat} (h : (l.take i).all rightP = true) (hi : l.length ≤ i) : l.all rightP = true := by
  rwa [List.take_of_length_le hi] at h
theorem sk_Of (u : V06 E) (w : K07 E) (h : E.fn 102 = some Fn.f_sortkey_Of) (k : Nat) (hk : 400 ≤ k + 10) (v : PV) (l : List (Int × Int × List UInt8)) (hv : IsVals v l) (hb : ∀ p ∈ l, isI64 p.1 ∧ isI64 p.2.1) (hfew : fewV l = true) (m : Mem) : denF E (k + 1) 102 [.p v] m = some (.ret (keysR l), m) := by
  refine denF_wp h rfl (args' := [.p v]) rfl ?_
  have hlen := vals_len hv
  unfold fewV at hfew
  simp only [Bool.and_eq_true, decide_eq_true_eq, List.all_eq_true] at hfew
  obtain ⟨hl12, hs300⟩ := hfew
  simp [Fn.f_sortkey_Of, -lenV, hlen]
  refine (loop_wp (α := Nat) (I := fun i st => OfInv l v i st) (meas := fun i => l.length - i)
    (Q := fun e st => st.ds = [] ∧ ((e = .exit 0 ∧ l.all rightP = true ∧ st.ts.length = 22 ∧ ∃ ov, st.ts.getD 4 (.tup []) = ov ∧ Grow 1 (byteRows (keysOf l)) ov st.m) ∨ (e = .ret ∧ l.all rightP = false ∧ st.ts.getD 2 (.tup []) = .p (.str []) ∧ st.ts.getD 3 (.tup []) = .p (.int .i64 2)))) ?_ k 0 _ (OfInv.mk (.p .nils) [] (Nat.zero_le _) rfl (.inl ⟨rfl, rfl⟩) ⟨rfl, rfl, rfl, rfl⟩) (by omega)).mono ?_
  · rintro i st ⟨ov, m, hi0, hall, hg, hlive⟩
    rw [loopF_live hlive]
    by_cases hi : i < l.length
    · have hi' : (i : Int) < l.length := by omega
      obtain ⟨p, hp⟩ : ∃ n, l[i]? = some n := ⟨l[i], List.getElem?_eq_getElem hi⟩
      obtain ⟨rfl, hrow⟩ := vals_at hv hp
      have hw : IntKind.i64.wrap ((i : Int) + 1) = i + 1 := wrap_i64 (by omega) (by omega)
      have h3 := hs300 p (List.mem_of_getElem? hp)
      obtain ⟨j, rfl⟩ : ∃ j, k = j + 1 := ⟨k - 1, by omega⟩
      have hR := fun m => value_Right u p.1 p.2.1 p.2.2 (hb p (List.mem_of_getElem? hp)).2 (by omega) j (by omega) m
      unfold vP at hR
      have hnew := get_new (m := m) (x := .cells [.p (.int .i64 0), .p (.int .i64 0), .p (.str [])])
      have hset : (m ++ [Blk.cells [.p (.int .i64 0), .p (.int .i64 0), .p (.str [])]]).set m.length (.cells [.p (.int .i64 p.1), .p (.int .i64 p.2.1), .p (.str p.2.2)]) = m ++ [.cells [.p (.int .i64 p.1), .p (.int .i64 p.2.1), .p (.str p.2.2)]] := by
        rw [List.set_append_right _ _ (Nat.le_refl _), Nat.sub_self]
        rfl
      have hnew2 := get_new (m := m) (x := .cells [.p (.int .i64 p.1), .p (.int .i64 p.2.1), .p (.str p.2.2)])
      cases hr : rightP p with
      | false =>
        have hno := all_not hp hr
        unfold rightP at hr
        rw [hr] at hR
        generalize l.map rowV = R at *
        generalize l.all rightP = A at *
        subst hno
        simp [Fn.f_sortkey_Of_b0, Fn.f_sortkey_Of_s0, hi', hrow, hR, hnew, hset, hnew2]
      | true =>
        have hyes := all_take hall hp hr
        have hr' := hr
        unfold rightP at hr
        rw [hr] at hR
        have hkl := keysOf_len hall
        rw [List.length_take] at hkl
        have hg2 : Grow 1 (byteRows (keysOf (l.take i))) ov (m ++ [.cells [.p (.int .i64 p.1), .p (.int .i64 p.2.1), .p (.str p.2.2)]]) := by
          rcases hg with h | ⟨h1, t, h2, h3⟩
          · exact .inl h
          · exact .inr ⟨h1, t, h2, get_app h3 _⟩
        obtain ⟨t, m', p1, p2⟩ := sk_add w j (by omega) p.1 p.2.1 p.2.2 hr (hb p (List.mem_of_getElem? hp)).2 (by omega) (by omega) _ (by omega) ov _ hg2
        have hke : keysOf (l.take (i + 1)) = keysOf (l.take i) ++ keyOf p.1 p.2.1 p.2.2 := keysOf_take hp
        rw [← hke] at p1 p2
        unfold vP at p1
        have hlen' := hlen
        generalize hRR : l.map rowV = R at *
        have hgr : Grow 1 (byteRows (keysOf (l.take (i + 1)))) (.tv 1 (byteRows (keysOf (l.take (i + 1)))) t) m' := by
          refine .inr ⟨?_, t, rfl, ?_⟩
          · rw [hke]
            have : keyOf p.1 p.2.1 p.2.2 ≠ [] := by rw [keyOf_eq]; simp
            simp [byteRows, this]
          · rw [p2, byteRows_len]
        obtain ⟨KK, hKK⟩ : ∃ KK, KK = keysOf (l.take (i + 1)) := ⟨_, rfl⟩
        rw [← hKK] at p1
        simp [Fn.f_sortkey_Of_b0, Fn.f_sortkey_Of_s0, hi', hrow, hR, hnew, hset, hnew2, p1, hw]
        subst hKK
        exact ⟨i + 1, by omega, OfInv.mk _ m' (by omega) hyes hgr ⟨rfl, by simp [keep, Fn.f_sortkey_Of_k0, Fn.f_sortkey_Of_s0], rfl, rfl⟩⟩
    · have : i = l.length := by omega
      subst this
      rw [List.take_length] at hall hg
      generalize hA : l.all rightP = A at *
      subst hall
      simp [Fn.f_sortkey_Of_b0, Fn.f_sortkey_Of_s0]
      exact hg
  · rintro e st ⟨h0, h⟩
    obtain ⟨ts, m', ds⟩ := st
    simp only at h0 h
    subst h0
    unfold keysR
    rcases h with ⟨rfl, h1, h2, ov, h3, hg⟩ | ⟨rfl, h1, h2, h3⟩
    · rw [h1, if_pos rfl]
      match ts, h2, h3 with
      | t0 :: t1 :: t2 :: t3 :: t4 :: t5 :: t6 :: t7 :: t8 :: t9 :: t10 :: t11 :: t12 :: t13 :: t14 :: t15 :: t16 :: t17 :: t18 :: t19 :: t20 :: t21 :: [], h2, h3 =>
        simp only [getD_zero', getD_succ'] at h3
        subst h3
        have hub := unBytes_rows (keysOf l)
        rcases hg with ⟨hr0, rfl⟩ | ⟨hr0, t, rfl, ht⟩
        · have : keysOf l = [] := by
            cases hq : keysOf l with
            | nil => rfl
            | cons => rw [hq] at hr0; simp [byteRows] at hr0
          rw [this]
          simp [unBytes]
        · simp [hub]
    · rw [h1]
      simp [h2, h3]
theorem ref_Of07 (w : K07 E) (h : E.fn 104 = some Fn.f_haulageref07_Of) (k : Nat) (hk : 400 ≤ k + 10) (v : PV) (l : List (Int × Int × List UInt8)) (hv : IsVals v l) (hb : ∀ p ∈ l, isI64 p.1 ∧ isI64 p.2.1) (hfew : fewV l = true) (hall : l.all rightP = true) (m : Mem) :
    denF E (k + 1) 104 [.p v] m = some (.ret (.p (.str (keysOf l))), m) := by
  refine denF_wp h rfl (args' := [.p v]) rfl ?_
  have hlen := vals_len hv
  unfold fewV at hfew
  simp only [Bool.and_eq_true, decide_eq_true_eq, List.all_eq_true] at hfew
  obtain ⟨hl12, hs300⟩ := hfew
  have hall' := List.all_eq_true.1 hall
  simp [Fn.f_haulageref07_Of, -lenV, hlen]
  refine (loop_wp (α := Nat) (I := fun i st => i ≤ l.length ∧ Live Fn.f_haulageref07_Of_k0 (Fn.f_haulageref07_Of_s0 (.p v) (.p (.str (keysOf (l.take i)))) (.p (.int .i64 i))) [] st) (meas := fun i => l.length - i)
    (Q := fun e st => st.ds = [] ∧ e = .exit 0 ∧ st.ts.length = 19 ∧ st.ts.getD 3 (.tup []) = .p (.str (keysOf l))) ?_ k 0 _ ⟨Nat.zero_le _, rfl, rfl, rfl, rfl⟩ (by omega)).mono ?_
  · rintro i st ⟨hi0, hlive⟩
    rw [loopF_live hlive]
    by_cases hi : i < l.length
    · have hi' : (i : Int) < l.length := by omega
      obtain ⟨p, hp⟩ : ∃ n, l[i]? = some n := ⟨l[i], List.getElem?_eq_getElem hi⟩
      obtain ⟨rfl, hrow⟩ := vals_at hv hp
      have hw : IntKind.i64.wrap ((i : Int) + 1) = i + 1 := wrap_i64 (by omega) (by omega)
      have h3 := hs300 p (List.mem_of_getElem? hp)
      have hr := hall' p (List.mem_of_getElem? hp)
      obtain ⟨j, rfl⟩ : ∃ j, k = j + 1 := ⟨k - 1, by omega⟩
      have hO := fun m => ref_One w j (by omega) p.1 p.2.1 p.2.2 hr (hb p (List.mem_of_getElem? hp)).2 (by omega) (by omega) m
      unfold vP at hO
      have hkl : (keysOf (l.take i)).length ≤ 243 * (l.take i).length := keysOf_len (by
        rw [List.all_eq_true]
        exact fun x hx => hall' x (List.mem_of_mem_take hx))
      rw [List.length_take] at hkl
      have hk1 := keyOf_len hr
      have hlim : (keysOf (l.take i)).length + (keyOf p.1 p.2.1 p.2.2).length ≤ strLim := by unfold strLim; omega
      have hke : keysOf (l.take (i + 1)) = keysOf (l.take i) ++ keyOf p.1 p.2.1 p.2.2 := keysOf_take hp
      have hlen' := hlen
      generalize hRR : l.map rowV = R at *
      simp [Fn.f_haulageref07_Of_b0, Fn.f_haulageref07_Of_s0, -lenV, hlen', hi', hrow, hO, hw, hlim]
      refine ⟨i + 1, by omega, by omega, rfl, ?_, rfl, rfl⟩
      rw [hke]
      simp [keep, Fn.f_haulageref07_Of_k0]
    · have : i = l.length := by omega
      subst this
      rw [List.take_length]
      simp [Fn.f_haulageref07_Of_b0, Fn.f_haulageref07_Of_s0, -lenV, hlen]
  · rintro e st ⟨h0, rfl, h1, h2⟩
    obtain ⟨ts, m', ds⟩ := st
    simp only at h0 h1 h2
    subst h0
    match ts, h1, h2 with
    | t0 :: t1 :: t2 :: t3 :: t4 :: t5 :: t6 :: t7 :: t8 :: t9 :: t10 :: t11 :: t12 :: t13 :: t14 :: t15 :: t16 :: t17 :: t18 :: [], h1, h2 =>
      simp only [getD_zero', getD_succ'] at h2
      simp [h2]
theorem law_SortkeyOf (u : V06 E) (w : K07 E) (o : O07 E) (h : E.fn 221 = some Fn.f_haulagelaw07_SortkeyOf) (k : Nat) (hlv : ∀ m, denF E (k + 399) 100 [] m = some (.ret (.p (.bool true)), m)) {x0 : PV} (c0 : Conf (.slice 3 [.int .i64, .int .i64, .str]) x0) (m : Mem) :
    denF E (k + 400) 221 [.p x0] m = some (.ret (.p (.bool true)), m) := by
  obtain ⟨l, hv, hb⟩ := conf_vals c0
  rw [denF_pure h rfl]
  have hF := fun m => law_Few o.few (k + 398) (by omega) x0 l hv m
  cases hfew : fewV l with
  | false =>
    rw [hfew] at hF
    simp (maxSteps := 1000000) [Fn.f_haulagelaw07_SortkeyOf, hlv, hF]
  | true =>
    rw [hfew] at hF
    have hS := fun m => sk_Of u w o.sof (k + 398) (by omega) x0 l hv hb hfew m
    have hR := fun m => ref_VRs u o.rright (k + 398) (by omega) x0 l hv hb hfew m
    unfold keysR at hS
    cases hall : l.all rightP with
    | false =>
      rw [hall] at hS hR
      simp only [Bool.false_eq_true, if_false] at hS
      simp (maxSteps := 1000000) [Fn.f_haulagelaw07_SortkeyOf, hlv, hF, hS, hR]
    | true =>
      have hO := fun m => ref_Of07 w o.rof (k + 398) (by omega) x0 l hv hb hfew hall m
      rw [hall] at hS hR
      simp only [if_true] at hS
      simp (maxSteps := 1000000) [Fn.f_haulagelaw07_SortkeyOf, hlv, hF, hS, hR, hO]
end Hx
