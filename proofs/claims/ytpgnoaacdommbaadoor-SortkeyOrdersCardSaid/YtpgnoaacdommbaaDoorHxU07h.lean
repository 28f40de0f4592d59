/-
  HxU07h: the law SortkeyOrders on the evaluator.
-/
import Derived.Test.YtpgnoaacdommbaaDoorHxU07g
import Derived.Test.YtpgnoaacdommbaaDoorHxM07b
namespace Hx
open Go
set_option linter.unusedSimpArgs false
set_option linter.unusedVariables false
set_option maxHeartbeats 4000000
variable {E : Env}
attribute [-simp] List.getD_eq_getElem?_getD getElem?_pos
structure O07 (E : Env) : Prop where
  few : E.fn 101 = some Fn.f_haulagelaw07_Few
  sof : E.fn 102 = some Fn.f_sortkey_Of
  rright : E.fn 103 = some Fn.f_haulageref07_Right
  rof : E.fn 104 = some Fn.f_haulageref07_Of
theorem all_take {α : Type} {f : α → Bool} {l : List α} {i : Nat} {x : α} (h : (l.take i).all f = true) (hx : l[i]? = some x) (hf : f x = true) : (l.take (i + 1)).all f = true := by
  rw [List.take_add_one, hx, List.all_append, h]
  simp [hf]
theorem all_not {α : Type} {f : α → Bool} {l : List α} {i : Nat} {x : α} (hx : l[i]? = some x) (hf : f x = false) : l.all f = false := by
  rw [Bool.eq_false_iff]
  intro h
  have := List.all_eq_true.1 h x (List.mem_of_getElem? hx)
  rw [hf] at this
  cases this
theorem law_Few (h : E.fn 101 = some Fn.f_haulagelaw07_Few) (k : Nat) (hk : 14 ≤ k) (v : PV) (l : List (Int × Int × List UInt8)) (hv : IsVals v l) (m : Mem) : denF E (k + 1) 101 [.p v] m = some (.ret (.p (.bool (fewV l))), m) := by
  refine denF_wp h rfl (args' := [.p v]) rfl ?_
  have hlen := vals_len hv
  unfold fewV
  by_cases h12 : 12 < l.length
  · have h12' : (12 : Int) < l.length := by omega
    have : ¬ l.length ≤ 12 := by omega
    simp [Fn.f_haulagelaw07_Few, -lenV, hlen, h12', this]
  have h12' : ¬ (12 : Int) < l.length := by omega
  have h12'' : l.length ≤ 12 := by omega
  simp [Fn.f_haulagelaw07_Few, -lenV, hlen, h12', h12'']
  refine (loop_wp (α := Nat) (I := fun i st => (i ≤ l.length ∧ (l.take i).all (fun p => decide (p.2.2.length ≤ 300)) = true) ∧ Live Fn.f_haulagelaw07_Few_k0 (Fn.f_haulagelaw07_Few_s0 (.p v) (.p (.int .i64 i))) [] st) (meas := fun i => l.length - i)
    (Q := fun e st => st.ds = [] ∧ ((e = .exit 0 ∧ l.all (fun p => decide (p.2.2.length ≤ 300)) = true ∧ st.ts.length = 20) ∨ (e = .ret ∧ l.all (fun p => decide (p.2.2.length ≤ 300)) = false ∧ st.ts.getD 2 (.tup []) = .p (.bool false)))) ?_ k 0 _ ⟨⟨Nat.zero_le _, rfl⟩, rfl, rfl, rfl, rfl⟩ (by omega)).mono ?_
  · rintro i st ⟨⟨hi0, hall⟩, hlive⟩
    rw [loopF_live hlive]
    by_cases hi : i < l.length
    · have hi' : (i : Int) < l.length := by omega
      obtain ⟨p, hp⟩ : ∃ n, l[i]? = some n := ⟨l[i], List.getElem?_eq_getElem hi⟩
      obtain ⟨rfl, hrow⟩ := vals_at hv hp
      have hw : IntKind.i64.wrap ((i : Int) + 1) = i + 1 := wrap_i64 (by omega) (by omega)
      by_cases h3 : (300 : Int) < p.2.2.length
      · have hno := all_not (f := fun p : Int × Int × List UInt8 => decide (p.2.2.length ≤ 300)) hp (by simp; omega)
        have hlen' := hlen
        generalize l.map rowV = R at *
        generalize hA : (l.all fun p => decide (p.2.2.length ≤ 300)) = A at *
        subst hno
        simp [Fn.f_haulagelaw07_Few_b0, Fn.f_haulagelaw07_Few_s0, -lenV, hlen', hi', hrow, h3]
      · have hyes := all_take hall hp (by simp; omega)
        have hlen' := hlen
        generalize hR : l.map rowV = R at *
        simp [Fn.f_haulagelaw07_Few_b0, Fn.f_haulagelaw07_Few_s0, -lenV, hlen', hi', hrow, h3, hw]
        exact ⟨i + 1, by omega, ⟨by omega, by simpa using hyes⟩, rfl, rfl, rfl, rfl⟩
    · have hi' : ¬ (i : Int) < l.length := by omega
      have : i = l.length := by omega
      subst this
      rw [List.take_length] at hall
      generalize hA : (l.all fun p => decide (p.2.2.length ≤ 300)) = A at *
      subst hall
      simp [Fn.f_haulagelaw07_Few_b0, Fn.f_haulagelaw07_Few_s0, -lenV, hlen]
  · rintro e st ⟨h0, h⟩
    obtain ⟨ts, m', ds⟩ := st
    simp only at h0 h
    subst h0
    rcases h with ⟨rfl, h1, h2⟩ | ⟨rfl, h1, h2⟩
    · match ts, h2 with
      | t0 :: t1 :: t2 :: t3 :: t4 :: t5 :: t6 :: t7 :: t8 :: t9 :: t10 :: t11 :: t12 :: t13 :: t14 :: t15 :: t16 :: t17 :: t18 :: t19 :: [], h2 =>
        simp only [h1]
        simp
    · simp only [h1]
      simp [h2]
theorem ref_VRs (u : V06 E) (h : E.fn 103 = some Fn.f_haulageref07_Right) (k : Nat) (hk : 400 ≤ k + 10) (v : PV) (l : List (Int × Int × List UInt8)) (hv : IsVals v l) (hb : ∀ p ∈ l, isI64 p.1 ∧ isI64 p.2.1) (hfew : fewV l = true) (m : Mem) : denF E (k + 1) 103 [.p v] m = some (.ret (.p (.bool (l.all rightP))), m) := by
  refine denF_wp h rfl (args' := [.p v]) rfl ?_
  have hlen := vals_len hv
  unfold fewV at hfew
  simp only [Bool.and_eq_true, decide_eq_true_eq, List.all_eq_true] at hfew
  obtain ⟨hl12, hs300⟩ := hfew
  simp [Fn.f_haulageref07_Right, -lenV, hlen]
  refine (loop_wp (α := Nat) (I := fun i st => (i ≤ l.length ∧ (l.take i).all rightP = true) ∧ Live Fn.f_haulageref07_Right_k0 (Fn.f_haulageref07_Right_s0 (.p v) (.p (.int .i64 i))) [] st) (meas := fun i => l.length - i)
    (Q := fun e st => st.ds = [] ∧ ((e = .exit 0 ∧ l.all rightP = true ∧ st.ts.length = 16) ∨ (e = .ret ∧ l.all rightP = false ∧ st.ts.getD 2 (.tup []) = .p (.bool false)))) ?_ k 0 _ ⟨⟨Nat.zero_le _, rfl⟩, rfl, rfl, rfl, rfl⟩ (by omega)).mono ?_
  · rintro i st ⟨⟨hi0, hall⟩, hlive⟩
    rw [loopF_live hlive]
    by_cases hi : i < l.length
    · have hi' : (i : Int) < l.length := by omega
      obtain ⟨p, hp⟩ : ∃ n, l[i]? = some n := ⟨l[i], List.getElem?_eq_getElem hi⟩
      obtain ⟨rfl, hrow⟩ := vals_at hv hp
      have hw : IntKind.i64.wrap ((i : Int) + 1) = i + 1 := wrap_i64 (by omega) (by omega)
      have h3 := hs300 p (List.mem_of_getElem? hp)
      obtain ⟨j, rfl⟩ : ∃ j, k = j + 1 := ⟨k - 1, by omega⟩
      have hR := fun m => ref_VRight u p.1 p.2.1 p.2.2 (hb p (List.mem_of_getElem? hp)).2 (by omega) j (by omega) m
      unfold vP at hR
      have hlen' := hlen
      cases hr : rightP p with
      | false =>
        have hno := all_not hp hr
        unfold rightP at hr
        rw [hr] at hR
        generalize l.map rowV = R at *
        generalize l.all rightP = A at *
        subst hno
        simp [Fn.f_haulageref07_Right_b0, Fn.f_haulageref07_Right_s0, -lenV, hlen', hi', hrow, hR]
      | true =>
        have hyes := all_take hall hp hr
        unfold rightP at hr
        rw [hr] at hR
        generalize hRR : l.map rowV = R at *
        simp [Fn.f_haulageref07_Right_b0, Fn.f_haulageref07_Right_s0, -lenV, hlen', hi', hrow, hR, hw]
        exact ⟨i + 1, by omega, ⟨by omega, by simpa using hyes⟩, rfl, rfl, rfl, rfl⟩
    · have : i = l.length := by omega
      subst this
      rw [List.take_length] at hall
      generalize hA : l.all rightP = A at *
      subst hall
      simp [Fn.f_haulageref07_Right_b0, Fn.f_haulageref07_Right_s0, -lenV, hlen]
  · rintro e st ⟨h0, h⟩
    obtain ⟨ts, m', ds⟩ := st
    simp only at h0 h
    subst h0
    rcases h with ⟨rfl, h1, h2⟩ | ⟨rfl, h1, h2⟩
    · match ts, h2 with
      | t0 :: t1 :: t2 :: t3 :: t4 :: t5 :: t6 :: t7 :: t8 :: t9 :: t10 :: t11 :: t12 :: t13 :: t14 :: t15 :: [], h2 =>
        simp only [h1]
        simp
    · simp only [h1]
      simp [h2]
theorem keyOf_len {a n : Int} {s : List UInt8} (h : rightV a n s = true) : (keyOf a n s).length ≤ 243 := by
  have el := esc_len s
  unfold keyOf
  rcases rightV_kinds h with ⟨rfl, rfl, rfl⟩ | ⟨rfl, rfl, hk⟩ | ⟨rfl, rfl⟩ | ⟨rfl, rfl, hk⟩ | ⟨rfl, rfl, hk⟩ <;> simp [be_len] <;> omega
theorem keysOf_take {l : List (Int × Int × List UInt8)} {i : Nat} {p : Int × Int × List UInt8} (h : l[i]? = some p) : keysOf (l.take (i + 1)) = keysOf (l.take i) ++ keyP p := by
  rw [List.take_add_one, h]
  unfold keysOf
  rw [List.flatMap_append]
  simp
theorem keysOf_len : ∀ {l : List (Int × Int × List UInt8)}, l.all rightP = true → (keysOf l).length ≤ 243 * l.length
  | [], _ => Nat.le_refl _
  | p :: l, h => by
    rw [List.all_cons, Bool.and_eq_true] at h
    have h1 := keysOf_len h.2
    have h2 := keyOf_len h.1
    unfold keysOf at h1 ⊢
    rw [List.flatMap_cons, List.length_append, List.length_cons]
    have h3 : (keyP p).length ≤ 243 := h2
    omega
def OfInv (l : List (Int × Int × List UInt8)) (v : PV) (i : Nat) (st : St) : Prop := ∃ (ov : AV) (m : Mem), i ≤ l.length ∧ (l.take i).all rightP = true ∧ Grow 1 (byteRows (keysOf (l.take i))) ov m ∧
  Live Fn.f_sortkey_Of_k0 (Fn.f_sortkey_Of_s0 ov (.p v) (.p (.int .i64 l.length)) (.p (.int .i64 i))) m st
theorem OfInv.mk {l : List (Int × Int × List UInt8)} {v : PV} {i : Nat} {st : St} (ov : AV) (m : Mem) (h1 : i ≤ l.length) (h2 : (l.take i).all rightP = true) (h3 : Grow 1 (byteRows (keysOf (l.take i))) ov m)
  (h4 : Live Fn.f_sortkey_Of_k0 (Fn.f_sortkey_Of_s0 ov (.p v) (.p (.int .i64 l.length)) (.p (.int .i64 i))) m st) : OfInv l v i st := ⟨ov, m, h1, h2, h3, h4⟩
def keysR (l : List (Int × Int × List UInt8)) : AV := if l.all rightP then .tup [.p (.str (keysOf l)), .p (.int .i64 0)] else .tup [.p (.str []), .p (.int .i64 2)]
theorem all_of_take {l : List (Int × Int × List UInt8)} {i : Nat} (h : (l.take i).all rightP = true) (hi : l.length ≤ i) : l.all rightP = true := by
  rwa [List.take_of_length_le hi] at h
theorem sk_Of (u : V06 E) (w : K07 E) (h : E.fn 102 = some Fn.f_sortkey_Of) (k : Nat) (hk : 400 ≤ k + 10) (v : PV) (l : List (Int × Int × List UInt8)) (hv : IsVals v l) (hb : ∀ p ∈ l, isI64 p.1 ∧ isI64 p.2.1) (hfew : fewV l = true) (m : Mem) : denF E (k + 1) 102 [.p v] m = some (.ret (keysR l), m) := by
  refine denF_wp h rfl (args' := [.p v]) rfl ?_
  have hlen := vals_len hv
  unfold fewV at hfew
  simp only [Bool.and_eq_true, decide_eq_true_eq, List.all_eq_true] at hfew
  obtain ⟨hl12, hs300⟩ := hfew
  simp [Fn.f_sortkey_Of, -lenV, hlen]
  refine (loop_wp (α := Nat) (I := fun i st => OfInv l v i st) (meas := fun i => l.length - i)
    (Q := fun e st => st.ds = [] ∧ ((e = .exit 0 ∧ l.all rightP = true ∧ st.ts.length = 22 ∧ ∃ ov, st.ts.getD 4 (.tup []) = ov ∧ Grow 1 (byteRows (keysOf l)) ov st.m) ∨ (e = .ret ∧ l.all rightP = false ∧ st.ts.getD 2 (.tup []) = .p (.str []) ∧ st.ts.getD 3 (.tup []) = .p (.int .i64 2)))) ?_ k 0 _ (OfInv.mk (.p .nils) [] (Nat.zero_le _) rfl (.inl ⟨rfl, rfl⟩) ⟨rfl, rfl, rfl, rfl⟩) (by omega)).mono ?_
  · rintro i st ⟨ov, m, hi0, hall, hg, hlive⟩
    rw [loopF_live hlive]
    by_cases hi : i < l.length
    · have hi' : (i : Int) < l.length := by omega
      obtain ⟨p, hp⟩ : ∃ n, l[i]? = some n := ⟨l[i], List.getElem?_eq_getElem hi⟩
      obtain ⟨rfl, hrow⟩ := vals_at hv hp
      have hw : IntKind.i64.wrap ((i : Int) + 1) = i + 1 := wrap_i64 (by omega) (by omega)
      have h3 := hs300 p (List.mem_of_getElem? hp)
      obtain ⟨j, rfl⟩ : ∃ j, k = j + 1 := ⟨k - 1, by omega⟩
      have hR := fun m => value_Right u p.1 p.2.1 p.2.2 (hb p (List.mem_of_getElem? hp)).2 (by omega) j (by omega) m
      unfold vP at hR
      have hnew := get_new (m := m) (x := .cells [.p (.int .i64 0), .p (.int .i64 0), .p (.str [])])
      have hset : (m ++ [Blk.cells [.p (.int .i64 0), .p (.int .i64 0), .p (.str [])]]).set m.length (.cells [.p (.int .i64 p.1), .p (.int .i64 p.2.1), .p (.str p.2.2)]) = m ++ [.cells [.p (.int .i64 p.1), .p (.int .i64 p.2.1), .p (.str p.2.2)]] := by
        rw [List.set_append_right _ _ (Nat.le_refl _), Nat.sub_self]
        rfl
      have hnew2 := get_new (m := m) (x := .cells [.p (.int .i64 p.1), .p (.int .i64 p.2.1), .p (.str p.2.2)])
      cases hr : rightP p with
      | false =>
        have hno := all_not hp hr
        unfold rightP at hr
        rw [hr] at hR
        generalize l.map rowV = R at *
        generalize l.all rightP = A at *
        subst hno
        simp [Fn.f_sortkey_Of_b0, Fn.f_sortkey_Of_s0, hi', hrow, hR, hnew, hset, hnew2]
      | true =>
        have hyes := all_take hall hp hr
        have hr' := hr
        unfold rightP at hr
        rw [hr] at hR
        have hkl := keysOf_len hall
        rw [List.length_take] at hkl
        have hg2 : Grow 1 (byteRows (keysOf (l.take i))) ov (m ++ [.cells [.p (.int .i64 p.1), .p (.int .i64 p.2.1), .p (.str p.2.2)]]) := by
          rcases hg with h | ⟨h1, t, h2, h3⟩
          · exact .inl h
          · exact .inr ⟨h1, t, h2, get_app h3 _⟩
        obtain ⟨t, m', p1, p2⟩ := sk_add w j (by omega) p.1 p.2.1 p.2.2 hr (hb p (List.mem_of_getElem? hp)).2 (by omega) (by omega) _ (by omega) ov _ hg2
        have hke : keysOf (l.take (i + 1)) = keysOf (l.take i) ++ keyOf p.1 p.2.1 p.2.2 := keysOf_take hp
        rw [← hke] at p1 p2
        unfold vP at p1
        have hlen' := hlen
        generalize hRR : l.map rowV = R at *
        have hgr : Grow 1 (byteRows (keysOf (l.take (i + 1)))) (.tv 1 (byteRows (keysOf (l.take (i + 1)))) t) m' := by
          refine .inr ⟨?_, t, rfl, ?_⟩
          · rw [hke]
            have : keyOf p.1 p.2.1 p.2.2 ≠ [] := by rw [keyOf_eq]; simp
            simp [byteRows, this]
          · rw [p2, byteRows_len]
        obtain ⟨KK, hKK⟩ : ∃ KK, KK = keysOf (l.take (i + 1)) := ⟨_, rfl⟩
        rw [← hKK] at p1
        simp [Fn.f_sortkey_Of_b0, Fn.f_sortkey_Of_s0, hi', hrow, hR, hnew, hset, hnew2, p1, hw]
        subst hKK
        exact ⟨i + 1, by omega, OfInv.mk _ m' (by omega) hyes hgr ⟨rfl, by simp [keep, Fn.f_sortkey_Of_k0, Fn.f_sortkey_Of_s0], rfl, rfl⟩⟩
    · have : i = l.length := by omega
      subst this
      rw [List.take_length] at hall hg
      generalize hA : l.all rightP = A at *
      subst hall
      simp [Fn.f_sortkey_Of_b0, Fn.f_sortkey_Of_s0]
      exact hg
  · rintro e st ⟨h0, h⟩
    obtain ⟨ts, m', ds⟩ := st
    simp only at h0 h
    subst h0
    unfold keysR
    rcases h with ⟨rfl, h1, h2, ov, h3, hg⟩ | ⟨rfl, h1, h2, h3⟩
    · rw [h1, if_pos rfl]
      match ts, h2, h3 with
      | t0 :: t1 :: t2 :: t3 :: t4 :: t5 :: t6 :: t7 :: t8 :: t9 :: t10 :: t11 :: t12 :: t13 :: t14 :: t15 :: t16 :: t17 :: t18 :: t19 :: t20 :: t21 :: [], h2, h3 =>
        simp only [getD_zero', getD_succ'] at h3
        subst h3
        have hub := unBytes_rows (keysOf l)
        rcases hg with ⟨hr0, rfl⟩ | ⟨hr0, t, rfl, ht⟩
        · have : keysOf l = [] := by
            cases hq : keysOf l with
            | nil => rfl
            | cons => rw [hq] at hr0; simp [byteRows] at hr0
          rw [this]
          simp [unBytes]
        · simp [hub]
    · rw [h1]
      simp [h2, h3]
theorem ref_Of07 (w : K07 E) (h : E.fn 104 = some Fn.f_haulageref07_Of) (k : Nat) (hk : 400 ≤ k + 10) (v : PV) (l : List (Int × Int × List UInt8)) (hv : IsVals v l) (hb : ∀ p ∈ l, isI64 p.1 ∧ isI64 p.2.1) (hfew : fewV l = true) (hall : l.all rightP = true) (m : Mem) :
    denF E (k + 1) 104 [.p v] m = some (.ret (.p (.str (keysOf l))), m) := by
  refine denF_wp h rfl (args' := [.p v]) rfl ?_
  have hlen := vals_len hv
  unfold fewV at hfew
  simp only [Bool.and_eq_true, decide_eq_true_eq, List.all_eq_true] at hfew
  obtain ⟨hl12, hs300⟩ := hfew
  have hall' := List.all_eq_true.1 hall
  simp [Fn.f_haulageref07_Of, -lenV, hlen]
  refine (loop_wp (α := Nat) (I := fun i st => i ≤ l.length ∧ Live Fn.f_haulageref07_Of_k0 (Fn.f_haulageref07_Of_s0 (.p v) (.p (.str (keysOf (l.take i)))) (.p (.int .i64 i))) [] st) (meas := fun i => l.length - i)
    (Q := fun e st => st.ds = [] ∧ e = .exit 0 ∧ st.ts.length = 19 ∧ st.ts.getD 3 (.tup []) = .p (.str (keysOf l))) ?_ k 0 _ ⟨Nat.zero_le _, rfl, rfl, rfl, rfl⟩ (by omega)).mono ?_
  · rintro i st ⟨hi0, hlive⟩
    rw [loopF_live hlive]
    by_cases hi : i < l.length
    · have hi' : (i : Int) < l.length := by omega
      obtain ⟨p, hp⟩ : ∃ n, l[i]? = some n := ⟨l[i], List.getElem?_eq_getElem hi⟩
      obtain ⟨rfl, hrow⟩ := vals_at hv hp
      have hw : IntKind.i64.wrap ((i : Int) + 1) = i + 1 := wrap_i64 (by omega) (by omega)
      have h3 := hs300 p (List.mem_of_getElem? hp)
      have hr := hall' p (List.mem_of_getElem? hp)
      obtain ⟨j, rfl⟩ : ∃ j, k = j + 1 := ⟨k - 1, by omega⟩
      have hO := fun m => ref_One w j (by omega) p.1 p.2.1 p.2.2 hr (hb p (List.mem_of_getElem? hp)).2 (by omega) (by omega) m
      unfold vP at hO
      have hkl : (keysOf (l.take i)).length ≤ 243 * (l.take i).length := keysOf_len (by
        rw [List.all_eq_true]
        exact fun x hx => hall' x (List.mem_of_mem_take hx))
      rw [List.length_take] at hkl
      have hk1 := keyOf_len hr
      have hlim : (keysOf (l.take i)).length + (keyOf p.1 p.2.1 p.2.2).length ≤ strLim := by unfold strLim; omega
      have hke : keysOf (l.take (i + 1)) = keysOf (l.take i) ++ keyOf p.1 p.2.1 p.2.2 := keysOf_take hp
      have hlen' := hlen
      generalize hRR : l.map rowV = R at *
      simp [Fn.f_haulageref07_Of_b0, Fn.f_haulageref07_Of_s0, -lenV, hlen', hi', hrow, hO, hw, hlim]
      refine ⟨i + 1, by omega, by omega, rfl, ?_, rfl, rfl⟩
      rw [hke]
      simp [keep, Fn.f_haulageref07_Of_k0]
    · have : i = l.length := by omega
      subst this
      rw [List.take_length]
      simp [Fn.f_haulageref07_Of_b0, Fn.f_haulageref07_Of_s0, -lenV, hlen]
  · rintro e st ⟨h0, rfl, h1, h2⟩
    obtain ⟨ts, m', ds⟩ := st
    simp only at h0 h1 h2
    subst h0
    match ts, h1, h2 with
    | t0 :: t1 :: t2 :: t3 :: t4 :: t5 :: t6 :: t7 :: t8 :: t9 :: t10 :: t11 :: t12 :: t13 :: t14 :: t15 :: t16 :: t17 :: t18 :: [], h1, h2 =>
      simp only [getD_zero', getD_succ'] at h2
      simp [h2]
theorem law_SortkeyOf (u : V06 E) (w : K07 E) (o : O07 E) (h : E.fn 221 = some Fn.f_haulagelaw07_SortkeyOf) (k : Nat) (hlv : ∀ m, denF E (k + 399) 100 [] m = some (.ret (.p (.bool true)), m)) {x0 : PV} (c0 : Conf (.slice 3 [.int .i64, .int .i64, .str]) x0) (m : Mem) :
    denF E (k + 400) 221 [.p x0] m = some (.ret (.p (.bool true)), m) := by
  obtain ⟨l, hv, hb⟩ := conf_vals c0
  rw [denF_pure h rfl]
  have hF := fun m => law_Few o.few (k + 398) (by omega) x0 l hv m
  cases hfew : fewV l with
  | false =>
    rw [hfew] at hF
    simp (maxSteps := 1000000) [Fn.f_haulagelaw07_SortkeyOf, hlv, hF]
  | true =>
    rw [hfew] at hF
    have hS := fun m => sk_Of u w o.sof (k + 398) (by omega) x0 l hv hb hfew m
    have hR := fun m => ref_VRs u o.rright (k + 398) (by omega) x0 l hv hb hfew m
    unfold keysR at hS
    cases hall : l.all rightP with
    | false =>
      rw [hall] at hS hR
      simp only [Bool.false_eq_true, if_false] at hS
      simp (maxSteps := 1000000) [Fn.f_haulagelaw07_SortkeyOf, hlv, hF, hS, hR]
    | true =>
      have hO := fun m => ref_Of07 w o.rof (k + 398) (by omega) x0 l hv hb hfew hall m
      rw [hall] at hS hR
      simp only [if_true] at hS
      simp (maxSteps := 1000000) [Fn.f_haulagelaw07_SortkeyOf, hlv, hF, hS, hR, hO]
end Hx

namespace Hx
theorem u8_trich (a b : UInt8) : a < b ∨ a = b ∨ b < a := by
  rcases Nat.lt_trichotomy a.toNat b.toNat with h | h | h
  · exact .inl (UInt8.lt_iff_toNat_lt.2 h)
  · exact .inr (.inl (UInt8.toNat_inj.1 h))
  · exact .inr (.inr (UInt8.lt_iff_toNat_lt.2 h))
theorem u8_asymm {a b : UInt8} (h : a < b) : ¬ b < a := fun g => UInt8.lt_irrefl a (UInt8.lt_trans h g)
theorem ordL_head (c : UInt8) (x y : List UInt8) : ordL (c :: x) (c :: y) = ordL x y := by
  rw [ordL, if_neg (UInt8.lt_irrefl c), if_neg (UInt8.lt_irrefl c)]
theorem ordL_lt {c d : UInt8} (h : c < d) (x y : List UInt8) : ordL (c :: x) (d :: y) = -1 := by
  rw [ordL, if_pos h]
theorem ordL_gt {c d : UInt8} (h : d < c) (x y : List UInt8) : ordL (c :: x) (d :: y) = 1 := by
  rw [ordL, if_neg (u8_asymm h), if_pos h]
theorem ofNat_lt {a b : Nat} (ha : a < 256) (hb : b < 256) : UInt8.ofNat a < UInt8.ofNat b ↔ a < b := by
  rw [UInt8.lt_iff_toNat_lt, UInt8.toNat_ofNat', UInt8.toNat_ofNat']
  omega
theorem ordL_be : ∀ (w a b : Nat) (x y : List UInt8), ordL (be w a ++ x) (be w b ++ y) = if a % 256 ^ w < b % 256 ^ w then -1 else if b % 256 ^ w < a % 256 ^ w then 1 else ordL x y
  | 0, a, b, x, y => by simp [be, Nat.mod_one]
  | w + 1, a, b, x, y => by
    rw [be, be, List.cons_append, List.cons_append]
    have h1 : a / 256 ^ w % 256 < 256 := Nat.mod_lt _ (by omega)
    have h2 : b / 256 ^ w % 256 < 256 := Nat.mod_lt _ (by omega)
    have e1 : a % 256 ^ (w + 1) = a % 256 ^ w + 256 ^ w * (a / 256 ^ w % 256) := by rw [Nat.pow_succ, Nat.mod_mul]
    have e2 : b % 256 ^ (w + 1) = b % 256 ^ w + 256 ^ w * (b / 256 ^ w % 256) := by rw [Nat.pow_succ, Nat.mod_mul]
    have p1 : a % 256 ^ w < 256 ^ w := Nat.mod_lt _ (Nat.pow_pos (by omega))
    have p2 : b % 256 ^ w < 256 ^ w := Nat.mod_lt _ (Nat.pow_pos (by omega))
    have ih := ordL_be w a b x y
    rw [e1, e2]
    generalize a / 256 ^ w % 256 = c at *
    generalize b / 256 ^ w % 256 = d at *
    generalize a % 256 ^ w = u at *
    generalize b % 256 ^ w = v at *
    generalize 256 ^ w = P at *
    rcases Nat.lt_trichotomy c d with h | h | h
    · rw [ordL_lt ((ofNat_lt h1 h2).2 h)]
      have : P * c + P ≤ P * d := by
        have := Nat.mul_le_mul_left P (Nat.succ_le_of_lt h)
        rwa [Nat.mul_succ] at this
      rw [if_pos (by omega)]
    · subst h
      rw [ordL_head, ih]
      simp only [Nat.add_lt_add_iff_right]
    · rw [ordL_gt ((ofNat_lt h2 h1).2 h)]
      have : P * d + P ≤ P * c := by
        have := Nat.mul_le_mul_left P (Nat.succ_le_of_lt h)
        rwa [Nat.mul_succ] at this
      rw [if_neg (by omega), if_pos (by omega)]
theorem u8_pos {c : UInt8} (h : c ≠ 0) : (0 : UInt8) < c := by
  rcases u8_trich 0 c with g | g | g
  · exact g
  · exact absurd g.symm h
  · have := UInt8.lt_iff_toNat_lt.1 g
    have z : (0 : UInt8).toNat = 0 := rfl
    omega
theorem esc_0 (r : List UInt8) : esc (0 :: r) = 0 :: 255 :: esc r := by
  rw [esc_cons, if_pos rfl]; rfl
theorem esc_n {c : UInt8} (h : c ≠ 0) (r : List UInt8) : esc (c :: r) = c :: esc r := by
  rw [esc_cons, if_neg h]; rfl
theorem ordL_esc : ∀ (s t x y : List UInt8), ordL (esc s ++ [0, 0] ++ x) (esc t ++ [0, 0] ++ y) = if s = t then ordL x y else ordL s t
  | [], [], x, y => by
    show ordL (0 :: 0 :: x) (0 :: 0 :: y) = _
    rw [ordL_head, ordL_head, if_pos rfl]
  | [], c :: r, x, y => by
    have hn : ¬ ([] = c :: r) := fun e => by cases e
    rw [if_neg hn]
    show ordL (0 :: 0 :: x) _ = -1
    by_cases h : c = 0
    · subst h
      rw [esc_0]
      show ordL (0 :: 0 :: x) (0 :: 255 :: (esc r ++ [0, 0] ++ y)) = -1
      rw [ordL_head, ordL_lt (by decide)]
    · rw [esc_n h]
      show ordL (0 :: 0 :: x) (c :: (esc r ++ [0, 0] ++ y)) = -1
      rw [ordL_lt (u8_pos h)]
  | c :: r, [], x, y => by
    have hn : ¬ (c :: r = []) := fun e => by cases e
    rw [if_neg hn]
    show ordL _ (0 :: 0 :: y) = 1
    by_cases h : c = 0
    · subst h
      rw [esc_0]
      show ordL (0 :: 255 :: (esc r ++ [0, 0] ++ x)) (0 :: 0 :: y) = 1
      rw [ordL_head, ordL_gt (by decide)]
    · rw [esc_n h]
      show ordL (c :: (esc r ++ [0, 0] ++ x)) (0 :: 0 :: y) = 1
      rw [ordL_gt (u8_pos h)]
  | c :: r, d :: t, x, y => by
    rcases u8_trich c d with h | h | h
    · have hn : ¬ (c :: r = d :: t) := fun e => by
        have := List.head_eq_of_cons_eq e
        rw [this] at h
        exact UInt8.lt_irrefl _ h
      rw [if_neg hn, ordL_lt h]
      have hd : d ≠ 0 := by
        rintro rfl
        have := UInt8.lt_iff_toNat_lt.1 h
        have z : (0 : UInt8).toNat = 0 := rfl
        omega
      rw [esc_n hd]
      by_cases hc : c = 0
      · subst hc
        rw [esc_0]
        show ordL (0 :: 255 :: (esc r ++ [0, 0] ++ x)) (d :: (esc t ++ [0, 0] ++ y)) = -1
        rw [ordL_lt (u8_pos hd)]
      · rw [esc_n hc]
        show ordL (c :: (esc r ++ [0, 0] ++ x)) (d :: (esc t ++ [0, 0] ++ y)) = -1
        rw [ordL_lt h]
    · subst h
      have ih := ordL_esc r t x y
      rw [ordL_head]
      have e : (c :: r = c :: t) ↔ r = t := by simp
      simp only [e]
      rw [← ih]
      by_cases hc : c = 0
      · subst hc
        rw [esc_0, esc_0]
        show ordL (0 :: 255 :: (esc r ++ [0, 0] ++ x)) (0 :: 255 :: (esc t ++ [0, 0] ++ y)) = _
        rw [ordL_head, ordL_head]
      · rw [esc_n hc, esc_n hc]
        show ordL (c :: (esc r ++ [0, 0] ++ x)) (c :: (esc t ++ [0, 0] ++ y)) = _
        rw [ordL_head]
    · have hn : ¬ (c :: r = d :: t) := fun e => by
        have := List.head_eq_of_cons_eq e
        rw [this] at h
        exact UInt8.lt_irrefl _ h
      rw [if_neg hn, ordL_gt h]
      have hc : c ≠ 0 := by
        rintro rfl
        have := UInt8.lt_iff_toNat_lt.1 h
        have z : (0 : UInt8).toNat = 0 := rfl
        omega
      rw [esc_n hc]
      by_cases hd : d = 0
      · subst hd
        rw [esc_0]
        show ordL (c :: (esc r ++ [0, 0] ++ x)) (0 :: 255 :: (esc t ++ [0, 0] ++ y)) = 1
        rw [ordL_gt (u8_pos hc)]
      · rw [esc_n hd]
        show ordL (c :: (esc r ++ [0, 0] ++ x)) (d :: (esc t ++ [0, 0] ++ y)) = 1
        rw [ordL_gt h]
/-- The order of two values. -/
def orderV (p q : Int × Int × List UInt8) : Int :=
  if p.1 < q.1 ∨ (p.1 = q.1 ∧ p.2.1 < q.2.1) then -1 else if q.1 < p.1 ∨ (p.1 = q.1 ∧ q.2.1 < p.2.1) then 1 else ordL p.2.2 q.2.2
theorem orderV_0 {p q : Int × Int × List UInt8} (h : orderV p q = 0) : p = q := by
  unfold orderV at h
  split at h
  · omega
  split at h
  · omega
  · have := ordL_eq h
    obtain ⟨a, b, c⟩ := p
    obtain ⟨d, e, f⟩ := q
    simp only at *
    have h1 : a = d := by omega
    have h2 : b = e := by omega
    rw [h1, h2, this]
theorem orderV_self (p : Int × Int × List UInt8) : orderV p p = 0 := by
  unfold orderV
  rw [if_neg (by omega), if_neg (by omega), ordL_self]
theorem keyTail_0 (n : Int) (s : List UInt8) : keyTail 0 n s = [] := rfl
theorem keyTail_1 (n : Int) (s : List UInt8) : keyTail 1 n s = be 4 (n + 2147483648).toNat := rfl
theorem keyTail_2 (n : Int) (s : List UInt8) : keyTail 2 n s = be 8 (n + 9223372036854775808).toNat := rfl
theorem keyTail_3 (n : Int) (s : List UInt8) : keyTail 3 n s = esc s ++ [0, 0] := rfl
theorem keyTail_4 (n : Int) (s : List UInt8) : keyTail 4 n s = esc s ++ [0, 0] := rfl
theorem key_ord {p q : Int × Int × List UInt8} (hp : rightP p = true) (hq : rightP q = true) (bp : isI64 p.2.1) (bq : isI64 q.2.1) (x y : List UInt8) : ordL (keyP p ++ x) (keyP q ++ y) = if p = q then ordL x y else orderV p q := by
  obtain ⟨k, n, s⟩ := p
  obtain ⟨k', n', s'⟩ := q
  unfold rightP at hp hq
  simp only at hp hq bp bq
  unfold keyP
  simp only
  rw [keyOf_eq, keyOf_eq, List.cons_append, List.cons_append]
  have kp : 0 ≤ k ∧ k ≤ 4 := by rcases rightV_kinds hp with h | h | h | h | h <;> omega
  have kq : 0 ≤ k' ∧ k' ≤ 4 := by rcases rightV_kinds hq with h | h | h | h | h <;> omega
  by_cases hlt : k < k'
  · rw [ordL_lt ((ofNat_lt (by omega) (by omega)).2 (by omega)), if_neg (by intro e; injection e; omega)]
    unfold orderV
    rw [if_pos (.inl hlt)]
  by_cases hgt : k' < k
  · rw [ordL_gt ((ofNat_lt (by omega) (by omega)).2 (by omega)), if_neg (by intro e; injection e; omega)]
    unfold orderV
    rw [if_neg (by omega), if_pos (.inl hgt)]
  have : k = k' := by omega
  subst this
  rw [ordL_head]
  have i1 := bp.1
  have i2 := bp.2
  have i3 := bq.1
  have i4 := bq.2
  unfold orderV
  dsimp only
  rcases rightV_kinds hp with ⟨rfl, rfl, rfl⟩ | ⟨rfl, rfl, a1, a2⟩ | ⟨rfl, rfl⟩ | ⟨rfl, rfl, _⟩ | ⟨rfl, rfl, _⟩
  · rcases rightV_kinds hq with ⟨_, rfl, rfl⟩ | h | h | h | h <;> try omega
    rw [keyTail_0]
    simp
  · rcases rightV_kinds hq with h | ⟨_, rfl, b1, b2⟩ | h | h | h <;> try omega
    rw [keyTail_1, keyTail_1, ordL_be]
    have e1 : (n + 2147483648).toNat % 256 ^ 4 = (n + 2147483648).toNat := Nat.mod_eq_of_lt (by omega)
    have e2 : (n' + 2147483648).toNat % 256 ^ 4 = (n' + 2147483648).toNat := Nat.mod_eq_of_lt (by omega)
    rw [e1, e2]
    by_cases h1 : n < n'
    · rw [if_pos (by omega), if_neg (by intro e; injection e with _ e; injection e; omega), if_pos (by omega)]
    · by_cases h2 : n' < n
      · rw [if_neg (by omega), if_pos (by omega), if_neg (by intro e; injection e with _ e; injection e; omega), if_neg (by omega), if_pos (by omega)]
      · have : n = n' := by omega
        subst this
        rw [if_neg (by omega), if_neg (by omega), if_pos rfl]
  · rcases rightV_kinds hq with h | h | ⟨_, rfl⟩ | h | h <;> try omega
    rw [keyTail_2, keyTail_2, ordL_be]
    have e1 : (n + 9223372036854775808).toNat % 256 ^ 8 = (n + 9223372036854775808).toNat := Nat.mod_eq_of_lt (by omega)
    have e2 : (n' + 9223372036854775808).toNat % 256 ^ 8 = (n' + 9223372036854775808).toNat := Nat.mod_eq_of_lt (by omega)
    rw [e1, e2]
    by_cases h1 : n < n'
    · rw [if_pos (by omega), if_neg (by intro e; injection e with _ e; injection e; omega), if_pos (by omega)]
    · by_cases h2 : n' < n
      · rw [if_neg (by omega), if_pos (by omega), if_neg (by intro e; injection e with _ e; injection e; omega), if_neg (by omega), if_pos (by omega)]
      · have : n = n' := by omega
        subst this
        rw [if_neg (by omega), if_neg (by omega), if_pos rfl]
  · rcases rightV_kinds hq with h | h | h | ⟨_, rfl, _⟩ | h <;> try omega
    rw [keyTail_3, keyTail_3, ordL_esc]
    have e : (((3 : Int), (0 : Int), s) = (3, 0, s')) ↔ s = s' := by simp
    by_cases hss : s = s'
    · simp [hss]
    · simp [hss]
  · rcases rightV_kinds hq with h | h | h | h | ⟨_, rfl, _⟩ <;> try omega
    rw [keyTail_4, keyTail_4, ordL_esc]
    have e : (((4 : Int), (0 : Int), s) = (4, 0, s')) ↔ s = s' := by simp
    by_cases hss : s = s'
    · simp [hss]
    · simp [hss]
/-- The order of two lists of values. -/
def orderVs : List (Int × Int × List UInt8) → List (Int × Int × List UInt8) → Int
  | [], [] => 0
  | [], _ :: _ => -1
  | _ :: _, [] => 1
  | p :: l, q :: r => if orderV p q = 0 then orderVs l r else orderV p q
theorem keysOf_cons (p : Int × Int × List UInt8) (l : List (Int × Int × List UInt8)) : keysOf (p :: l) = keyP p ++ keysOf l := by
  unfold keysOf
  rw [List.flatMap_cons]
theorem keys_ord : ∀ {l r : List (Int × Int × List UInt8)}, l.all rightP = true → r.all rightP = true → (∀ p ∈ l, isI64 p.2.1) → (∀ p ∈ r, isI64 p.2.1) → ordL (keysOf l) (keysOf r) = orderVs l r
  | [], [], _, _, _, _ => rfl
  | [], q :: r, _, _, _, _ => by
    rw [keysOf_cons]
    unfold keyP
    rw [keyOf_eq]
    rfl
  | p :: l, [], _, _, _, _ => by
    rw [keysOf_cons]
    unfold keyP
    rw [keyOf_eq]
    rfl
  | p :: l, q :: r, h1, h2, b1, b2 => by
    rw [List.all_cons, Bool.and_eq_true] at h1 h2
    rw [keysOf_cons, keysOf_cons, key_ord h1.1 h2.1 (b1 p (by simp)) (b2 q (by simp)), orderVs]
    by_cases h : p = q
    · subst h
      rw [if_pos rfl, if_pos (orderV_self p)]
      exact keys_ord h1.2 h2.2 (fun x hx => b1 x (List.mem_cons_of_mem _ hx)) (fun x hx => b2 x (List.mem_cons_of_mem _ hx))
    · rw [if_neg h, if_neg (fun e => h (orderV_0 e))]
end Hx

namespace Hx
open Go
set_option linter.unusedSimpArgs false
set_option linter.unusedVariables false
set_option maxHeartbeats 4000000
variable {E : Env}
attribute [-simp] List.getD_eq_getElem?_getD getElem?_pos
structure Q07 (E : Env) : Prop where
  norder : E.fn 59 = some Fn.f_haulageref04_Order
  vorder : E.fn 42 = some Fn.f_haulageref05_Order
  rorder : E.fn 107 = some Fn.f_haulageref07_Order
theorem ref_VOrder (q : Q07 E) (k : Nat) (a n a' n' : Int) (s s' : List UInt8) (hs : (s.length : Int) ≤ 1000000000) (hk : s.length + 4 ≤ k) (m : Mem) :
    denF E (k + 1) 42 [.p (.agg [.int .i64 a, .int .i64 n, .str s]), .p (.agg [.int .i64 a', .int .i64 n', .str s'])] m = some (.ret (.p (.int .i64 (orderV (a, n, s) (a', n', s')))), m) := by
  refine denF_wp q.vorder rfl (args' := [.p (.agg [.int .i64 a, .int .i64 n, .str s]), .p (.agg [.int .i64 a', .int .i64 n', .str s'])]) rfl ?_
  obtain ⟨j, rfl⟩ : ∃ j, k = j + 1 := ⟨k - 1, by omega⟩
  have hN := fun m => ref_NOrder q.norder s s' (by omega) j (by omega) m
  unfold orderV
  dsimp only
  by_cases h1 : a < a'
  · rw [if_pos (.inl h1)]
    simp (maxSteps := 1000000) [Fn.f_haulageref05_Order, h1]
  · by_cases h2 : a' < a
    · have e1 : (a == a') = false := by simp; omega
      rw [if_neg (by omega), if_pos (by omega)]
      simp (maxSteps := 1000000) [Fn.f_haulageref05_Order, h1, h2, e1]
    · have : a = a' := by omega
      subst this
      by_cases h3 : n < n'
      · rw [if_pos (.inr ⟨rfl, h3⟩)]
        simp (maxSteps := 1000000) [Fn.f_haulageref05_Order, h3]
      · by_cases h4 : n' < n
        · rw [if_neg (by omega), if_pos (.inr ⟨rfl, h4⟩)]
          simp (maxSteps := 1000000) [Fn.f_haulageref05_Order, h3, h4]
        · rw [if_neg (by omega), if_neg (by omega)]
          simp (maxSteps := 1000000) [Fn.f_haulageref05_Order, h3, h4, hN]
theorem orderVs_drop {a b : List (Int × Int × List UInt8)} {i : Nat} {p q : Int × Int × List UInt8} (h : a[i]? = some p) (g : b[i]? = some q) : orderVs (a.drop i) (b.drop i) = if orderV p q = 0 then orderVs (a.drop (i + 1)) (b.drop (i + 1)) else orderV p q := by
  obtain ⟨h1, rfl⟩ := List.getElem?_eq_some_iff.1 h
  obtain ⟨g1, rfl⟩ := List.getElem?_eq_some_iff.1 g
  rw [List.drop_eq_getElem_cons h1, List.drop_eq_getElem_cons g1, orderVs]
theorem orderVs_end {a b : List (Int × Int × List UInt8)} {i : Nat} (h : ¬ (i < a.length ∧ i < b.length)) (ha : i ≤ a.length) (hb : i ≤ b.length) : orderVs (a.drop i) (b.drop i) = if a.length < b.length then -1 else if b.length < a.length then 1 else 0 := by
  by_cases h1 : i < a.length
  · have h2 : b.length ≤ i := by omega
    rw [List.drop_eq_getElem_cons h1, List.drop_eq_nil_of_le h2, if_neg (by omega), if_pos (by omega)]
    rfl
  · rw [List.drop_eq_nil_of_le (by omega : a.length ≤ i)]
    by_cases h2 : i < b.length
    · rw [List.drop_eq_getElem_cons h2, if_pos (by omega)]
      rfl
    · rw [List.drop_eq_nil_of_le (by omega : b.length ≤ i), if_neg (by omega), if_neg (by omega)]
      rfl
theorem ref_Orders (q : Q07 E) (k : Nat) (hk : 400 ≤ k) (v w : PV) (a b : List (Int × Int × List UInt8)) (hv : IsVals v a) (hw : IsVals w b) (fa : fewV a = true) (m : Mem) :
    denF E (k + 1) 107 [.p v, .p w] m = some (.ret (.p (.int .i64 (orderVs a b))), m) := by
  refine denF_wp q.rorder rfl (args' := [.p v, .p w]) rfl ?_
  have la := vals_len hv
  have lb := vals_len hw
  unfold fewV at fa
  simp only [Bool.and_eq_true, decide_eq_true_eq, List.all_eq_true] at fa
  obtain ⟨hl12, hs300⟩ := fa
  simp [Fn.f_haulageref07_Order, -lenV, la, lb]
  refine (loop_wp (α := Nat) (I := fun i st => (i ≤ a.length ∧ i ≤ b.length ∧ orderVs a b = orderVs (a.drop i) (b.drop i)) ∧ Live Fn.f_haulageref07_Order_k0 (Fn.f_haulageref07_Order_s0 (.p v) (.p w) (.p (.int .i64 i))) [] st) (meas := fun i => a.length - i)
    (Q := fun e st => st.ds = [] ∧ ((e = .exit 0 ∧ st.ts.length = 41 ∧ st.ts.getD 0 (.tup []) = .p v ∧ st.ts.getD 1 (.tup []) = .p w ∧ orderVs a b = (if a.length < b.length then -1 else if b.length < a.length then 1 else 0)) ∨ (e = .ret ∧ st.ts.getD 4 (.tup []) = .p (.int .i64 (orderVs a b))))) ?_ k 0 _ ⟨⟨Nat.zero_le _, Nat.zero_le _, rfl⟩, rfl, rfl, rfl, rfl⟩ (by omega)).mono ?_
  · rintro i st ⟨⟨hi1, hi2, ho⟩, hlive⟩
    rw [loopF_live hlive]
    by_cases ha : i < a.length
    · have ha' : (i : Int) < a.length := by omega
      obtain ⟨p, hp⟩ : ∃ n, a[i]? = some n := ⟨a[i], List.getElem?_eq_getElem ha⟩
      by_cases hb : i < b.length
      · have hb' : (i : Int) < b.length := by omega
        obtain ⟨r, hr⟩ : ∃ n, b[i]? = some n := ⟨b[i], List.getElem?_eq_getElem hb⟩
        obtain ⟨rfl, hrow1⟩ := vals_at hv hp
        obtain ⟨rfl, hrow2⟩ := vals_at hw hr
        have hw1 : IntKind.i64.wrap ((i : Int) + 1) = i + 1 := wrap_i64 (by omega) (by omega)
        rw [orderVs_drop hp hr] at ho
        have h3 := hs300 p (List.mem_of_getElem? hp)
        obtain ⟨j, rfl⟩ : ∃ j, k = j + 1 := ⟨k - 1, by omega⟩
        have hV : ∀ m, denF E (j + 1) 42 [.p (.agg [.int .i64 p.1, .int .i64 p.2.1, .str p.2.2]), .p (.agg [.int .i64 r.1, .int .i64 r.2.1, .str r.2.2])] m = some (.ret (.p (.int .i64 (orderV p r))), m) := fun m => ref_VOrder q j p.1 p.2.1 r.1 r.2.1 p.2.2 r.2.2 (by omega) (by omega) m
        have f42 := q.vorder
        have p42 : Fn.f_haulageref05_Order.pure = true := rfl
        have la' := la
        have lb' := lb
        generalize hA : a.map rowV = A at *
        generalize hB : b.map rowV = B at *
        by_cases h0 : orderV p r = 0
        · rw [if_pos h0] at ho
          rw [h0] at hV
          simp [Fn.f_haulageref07_Order_b0, Fn.f_haulageref07_Order_s0, -lenV, la', lb', ha', hb', hrow1, hrow2, hV, f42, p42, hw1, bne]
          exact ⟨i + 1, by omega, ⟨by omega, by omega, ho⟩, rfl, rfl, rfl, rfl⟩
        · rw [if_neg h0] at ho
          have e0 : (orderV p r == 0) = false := by simpa using h0
          rw [ho]
          simp [Fn.f_haulageref07_Order_b0, Fn.f_haulageref07_Order_s0, -lenV, la', lb', ha', hb', hrow1, hrow2, hV, f42, p42, e0, bne]
      · have hb' : ¬ (i : Int) < b.length := by omega
        rw [orderVs_end (fun h => hb h.2) hi1 hi2] at ho
        simp [Fn.f_haulageref07_Order_b0, Fn.f_haulageref07_Order_s0, -lenV, la, lb, ha', hb', ho]
    · have ha' : ¬ (i : Int) < a.length := by omega
      rw [orderVs_end (fun h => ha h.1) hi1 hi2] at ho
      simp [Fn.f_haulageref07_Order_b0, Fn.f_haulageref07_Order_s0, -lenV, la, lb, ha', ho]
  · rintro e st ⟨h0, h⟩
    obtain ⟨ts, m', ds⟩ := st
    simp only at h0 h
    subst h0
    rcases h with ⟨rfl, h1, h2, h3, h4⟩ | ⟨rfl, h1⟩
    · match ts, h1, h2, h3 with
      | t0 :: t1 :: t2 :: t3 :: t4 :: t5 :: t6 :: t7 :: t8 :: t9 :: t10 :: t11 :: t12 :: t13 :: t14 :: t15 :: t16 :: t17 :: t18 :: t19 :: t20 :: t21 :: t22 :: t23 :: t24 :: t25 :: t26 :: t27 :: t28 :: t29 :: t30 :: t31 :: t32 :: t33 :: t34 :: t35 :: t36 :: t37 :: t38 :: t39 :: t40 :: [], h1, h2, h3 =>
        simp only [getD_zero', getD_succ'] at h2 h3
        subst h2 h3
        rw [h4]
        by_cases e1 : a.length < b.length
        · have e1' : (a.length : Int) < b.length := by omega
          simp [-lenV, la, lb, e1, e1']
        · have e1' : ¬ (a.length : Int) < b.length := by omega
          by_cases e2 : b.length < a.length
          · have e2' : (b.length : Int) < a.length := by omega
            simp [-lenV, la, lb, e1, e1', e2, e2']
          · have e2' : ¬ (b.length : Int) < a.length := by omega
            simp [-lenV, la, lb, e1, e1', e2, e2']
    · simp [h1]
theorem law_SortkeyOrders (u : V06 E) (w : K07 E) (o : O07 E) (q : Q07 E) (h : E.fn 223 = some Fn.f_haulagelaw07_SortkeyOrders) (k : Nat) (hlv : ∀ m, denF E (k + 3999) 100 [] m = some (.ret (.p (.bool true)), m)) {x0 x1 : PV} (c0 : Conf (.slice 3 [.int .i64, .int .i64, .str]) x0) (c1 : Conf (.slice 3 [.int .i64, .int .i64, .str]) x1) (m : Mem) :
    denF E (k + 4000) 223 [.p x0, .p x1] m = some (.ret (.p (.bool true)), m) := by
  obtain ⟨a, hv, ha⟩ := conf_vals c0
  obtain ⟨b, hw, hb⟩ := conf_vals c1
  rw [denF_pure h rfl]
  have hF := fun m => law_Few o.few (k + 3998) (by omega) x0 a hv m
  have hG := fun m => law_Few o.few (k + 3998) (by omega) x1 b hw m
  cases fa : fewV a with
  | false =>
    rw [fa] at hF
    simp (maxSteps := 1000000) [Fn.f_haulagelaw07_SortkeyOrders, hlv, hF]
  | true =>
  rw [fa] at hF
  cases fb : fewV b with
  | false =>
    rw [fb] at hG
    simp (maxSteps := 1000000) [Fn.f_haulagelaw07_SortkeyOrders, hlv, hF, hG]
  | true =>
  rw [fb] at hG
  have hS := fun m => sk_Of u w o.sof (k + 3998) (by omega) x0 a hv ha fa m
  have hT := fun m => sk_Of u w o.sof (k + 3998) (by omega) x1 b hw hb fb m
  unfold keysR at hS hT
  cases ra : a.all rightP with
  | false =>
    rw [ra] at hS
    simp only [Bool.false_eq_true, if_false] at hS
    cases rb : b.all rightP <;> rw [rb] at hT <;> simp only [Bool.false_eq_true, if_false, if_true] at hT <;> simp (maxSteps := 1000000) [Fn.f_haulagelaw07_SortkeyOrders, hlv, hF, hG, hS, hT, bne]
  | true =>
  rw [ra] at hS
  simp only [if_true] at hS
  cases rb : b.all rightP with
  | false =>
    rw [rb] at hT
    simp only [Bool.false_eq_true, if_false] at hT
    cases hz : (keysOf a == []) <;> simp (maxSteps := 1000000) [Fn.f_haulagelaw07_SortkeyOrders, hlv, hF, hG, hS, hT, bne, hz]
  | true =>
  rw [rb] at hT
  simp only [if_true] at hT
  have hka := keysOf_len ra
  have hl12 : a.length ≤ 12 := by
    unfold fewV at fa
    simp only [Bool.and_eq_true, decide_eq_true_eq] at fa
    exact fa.1
  have hN := fun m => ref_NOrder q.norder (keysOf a) (keysOf b) (by omega) (k + 3998) (by omega) m
  have hO := fun m => ref_Orders q (k + 3998) (by omega) x0 x1 a b hv hw fa m
  rw [keys_ord ra rb (fun p hp => (ha p hp).2) (fun p hp => (hb p hp).2)] at hN
  simp (maxSteps := 1000000) [Fn.f_haulagelaw07_SortkeyOrders, hlv, hF, hG, hS, hT, hN, hO, bne]
end Hx
