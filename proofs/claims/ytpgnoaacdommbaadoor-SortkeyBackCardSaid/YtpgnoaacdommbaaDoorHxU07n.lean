/-
  HxU07n: the law SortkeyBack on the evaluator.
-/
import Derived.Test.YtpgnoaacdommbaaDoorHxU07g
import Derived.Test.YtpgnoaacdommbaaDoorHxM07b
import Derived.Test.YtpgnoaacdommbaaDoorHxArg
import Derived.Test.YtpgnoaacdommbaaDoorHxSimp
import Derived.Test.YtpgnoaacdommbaaDoorHxU07e
import Derived.Test.YtpgnoaacdommbaaDoorHxU03l
namespace Hx
open Go
set_option linter.unusedSimpArgs false
set_option linter.unusedVariables false
set_option maxHeartbeats 4000000
variable {E : Env}
attribute [-simp] List.getD_eq_getElem?_getD getElem?_pos
structure O07 (E : Env) : Prop where
  few : E.fn 101 = some Fn.f_haulagelaw07_Few
  sof : E.fn 102 = some Fn.f_sortkey_Of
  rright : E.fn 103 = some Fn.f_haulageref07_Right
  rof : E.fn 104 = some Fn.f_haulageref07_Of
theorem all_take {α : Type} {f : α → Bool} {l : List α} {i : Nat} {x : α} (h : (l.take i).all f = true) (hx : l[i]? = some x) (hf : f x = true) : (l.take (i + 1)).all f = true := by
  rw [List.take_add_one, hx, List.all_append, h]
  simp [hf]
theorem all_not {α : Type} {f : α → Bool} {l : List α} {i : Nat} {x : α} (hx : l[i]? = some x) (hf : f x = false) : l.all f = false := by
  rw [Bool.eq_false_iff]
  intro h
  have := List.all_eq_true.1 h x (List.mem_of_getElem? hx)
  rw [hf] at this
  cases this
theorem law_Few (h : E.fn 101 = some Fn.f_haulagelaw07_Few) (k : Nat) (hk : 14 ≤ k) (v : PV) (l : List (Int × Int × List UInt8)) (hv : IsVals v l) (m : Mem) : denF E (k + 1) 101 [.p v] m = some (.ret (.p (.bool (fewV l))), m) := by
  refine denF_wp h rfl (args' := [.p v]) rfl ?_
  have hlen := vals_len hv
  unfold fewV
  by_cases h12 : 12 < l.length
  · have h12' : (12 : Int) < l.length := by omega
    have : ¬ l.length ≤ 12 := by omega
    simp [Fn.f_haulagelaw07_Few, -lenV, hlen, h12', this]
  have h12' : ¬ (12 : Int) < l.length := by omega
  have h12'' : l.length ≤ 12 := by omega
  simp [Fn.f_haulagelaw07_Few, -lenV, hlen, h12', h12'']
  refine (loop_wp (α := Nat) (I := fun i st => (i ≤ l.length ∧ (l.take i).all (fun p => decide (p.2.2.length ≤ 300)) = true) ∧ Live Fn.f_haulagelaw07_Few_k0 (Fn.f_haulagelaw07_Few_s0 (.p v) (.p (.int .i64 i))) [] st) (meas := fun i => l.length - i)
    (Q := fun e st => st.ds = [] ∧ ((e = .exit 0 ∧ l.all (fun p => decide (p.2.2.length ≤ 300)) = true ∧ st.ts.length = 20) ∨ (e = .ret ∧ l.all (fun p => decide (p.2.2.length ≤ 300)) = false ∧ st.ts.getD 2 (.tup []) = .p (.bool false)))) ?_ k 0 _ ⟨⟨Nat.zero_le _, rfl⟩, rfl, rfl, rfl, rfl⟩ (by omega)).mono ?_
  · rintro i st ⟨⟨hi0, hall⟩, hlive⟩
    rw [loopF_live hlive]
    by_cases hi : i < l.length
    · have hi' : (i : Int) < l.length := by omega
      obtain ⟨p, hp⟩ : ∃ n, l[i]? = some n := ⟨l[i], List.getElem?_eq_getElem hi⟩
      obtain ⟨rfl, hrow⟩ := vals_at hv hp
      have hw : IntKind.i64.wrap ((i : Int) + 1) = i + 1 := wrap_i64 (by omega) (by omega)
      by_cases h3 : (300 : Int) < p.2.2.length
      · have hno := all_not (f := fun p : Int × Int × List UInt8 => decide (p.2.2.length ≤ 300)) hp (by simp; omega)
        have hlen' := hlen
        generalize l.map rowV = R at *
        generalize hA : (l.all fun p => decide (p.2.2.length ≤ 300)) = A at *
        subst hno
        simp [Fn.f_haulagelaw07_Few_b0, Fn.f_haulagelaw07_Few_s0, -lenV, hlen', hi', hrow, h3]
      · have hyes := all_take hall hp (by simp; omega)
        have hlen' := hlen
        generalize hR : l.map rowV = R at *
        simp [Fn.f_haulagelaw07_Few_b0, Fn.f_haulagelaw07_Few_s0, -lenV, hlen', hi', hrow, h3, hw]
        exact ⟨i + 1, by omega, ⟨by omega, by simpa using hyes⟩, rfl, rfl, rfl, rfl⟩
    · have hi' : ¬ (i : Int) < l.length := by omega
      have : i = l.length := by omega
      subst this
      rw [List.take_length] at hall
      generalize hA : (l.all fun p => decide (p.2.2.length ≤ 300)) = A at *
      subst hall
      simp [Fn.f_haulagelaw07_Few_b0, Fn.f_haulagelaw07_Few_s0, -lenV, hlen]
  · rintro e st ⟨h0, h⟩
    obtain ⟨ts, m', ds⟩ := st
    simp only at h0 h
    subst h0
    rcases h with ⟨rfl, h1, h2⟩ | ⟨rfl, h1, h2⟩
    · match ts, h2 with
      | t0 :: t1 :: t2 :: t3 :: t4 :: t5 :: t6 :: t7 :: t8 :: t9 :: t10 :: t11 :: t12 :: t13 :: t14 :: t15 :: t16 :: t17 :: t18 :: t19 :: [], h2 =>
        simp only [h1]
        simp
    · simp only [h1]
      simp [h2]
theorem ref_VRs (u : V06 E) (h : E.fn 103 = some Fn.f_haulageref07_Right) (k : Nat) (hk : 400 ≤ k + 10) (v : PV) (l : List (Int × Int × List UInt8)) (hv : IsVals v l) (hb : ∀ p ∈ l, isI64 p.1 ∧ isI64 p.2.1) (hfew : fewV l = true) (m : Mem) : denF E (k + 1) 103 [.p v] m = some (.ret (.p (.bool (l.all rightP))), m) := by
  refine denF_wp h rfl (args' := [.p v]) rfl ?_
  have hlen := vals_len hv
  unfold fewV at hfew
  simp only [Bool.and_eq_true, decide_eq_true_eq, List.all_eq_true] at hfew
  obtain ⟨hl12, hs300⟩ := hfew
  simp [Fn.f_haulageref07_Right, -lenV, hlen]
  refine (loop_wp (α := Nat) (I := fun i st => (i ≤ l.length ∧ (l.take i).all rightP = true) ∧ Live Fn.f_haulageref07_Right_k0 (Fn.f_haulageref07_Right_s0 (.p v) (.p (.int .i64 i))) [] st) (meas := fun i => l.length - i)
    (Q := fun e st => st.ds = [] ∧ ((e = .exit 0 ∧ l.all rightP = true ∧ st.ts.length = 16) ∨ (e = .ret ∧ l.all rightP = false ∧ st.ts.getD 2 (.tup []) = .p (.bool false)))) ?_ k 0 _ ⟨⟨Nat.zero_le _, rfl⟩, rfl, rfl, rfl, rfl⟩ (by omega)).mono ?_
  · rintro i st ⟨⟨hi0, hall⟩, hlive⟩
    rw [loopF_live hlive]
    by_cases hi : i < l.length
    · have hi' : (i : Int) < l.length := by omega
      obtain ⟨p, hp⟩ : ∃ n, l[i]? = some n := ⟨l[i], List.getElem?_eq_getElem hi⟩
      obtain ⟨rfl, hrow⟩ := vals_at hv hp
      have hw : IntKind.i64.wrap ((i : Int) + 1) = i + 1 := wrap_i64 (by omega) (by omega)
      have h3 := hs300 p (List.mem_of_getElem? hp)
      obtain ⟨j, rfl⟩ : ∃ j, k = j + 1 := ⟨k - 1, by omega⟩
      have hR := fun m => ref_VRight u p.1 p.2.1 p.2.2 (hb p (List.mem_of_getElem? hp)).2 (by omega) j (by omega) m
      unfold vP at hR
      have hlen' := hlen
      cases hr : rightP p with
      | false =>
        have hno := all_not hp hr
        unfold rightP at hr
        rw [hr] at hR
        generalize l.map rowV = R at *
        generalize l.all rightP = A at *
        subst hno
        simp [Fn.f_haulageref07_Right_b0, Fn.f_haulageref07_Right_s0, -lenV, hlen', hi', hrow, hR]
      | true =>
        have hyes := all_take hall hp hr
        unfold rightP at hr
        rw [hr] at hR
        generalize hRR : l.map rowV = R at *
        simp [Fn.f_haulageref07_Right_b0, Fn.f_haulageref07_Right_s0, -lenV, hlen', hi', hrow, hR, hw]
        exact ⟨i + 1, by omega, ⟨by omega, by simpa using hyes⟩, rfl, rfl, rfl, rfl⟩
    · have : i = l.length := by omega
      subst this
      rw [List.take_length] at hall
      generalize hA : l.all rightP = A at *
      subst hall
      simp [Fn.f_haulageref07_Right_b0, Fn.f_haulageref07_Right_s0, -lenV, hlen]
  · rintro e st ⟨h0, h⟩
    obtain ⟨ts, m', ds⟩ := st
    simp only at h0 h
    subst h0
    rcases h with ⟨rfl, h1, h2⟩ | ⟨rfl, h1, h2⟩
    · match ts, h2 with
      | t0 :: t1 :: t2 :: t3 :: t4 :: t5 :: t6 :: t7 :: t8 :: t9 :: t10 :: t11 :: t12 :: t13 :: t14 :: t15 :: [], h2 =>
        simp only [h1]
        simp
    · simp only [h1]
      simp [h2]
theorem keyOf_len {a n : Int} {s : List UInt8} (h : rightV a n s = true) : (keyOf a n s).length ≤ 243 := by
  have el := esc_len s
  unfold keyOf
  rcases rightV_kinds h with ⟨rfl, rfl, rfl⟩ | ⟨rfl, rfl, hk⟩ | ⟨rfl, rfl⟩ | ⟨rfl, rfl, hk⟩ | ⟨rfl, rfl, hk⟩ <;> simp [be_len] <;> omega
theorem keysOf_take {l : List (Int × Int × List UInt8)} {i : Nat} {p : Int × Int × List UInt8} (h : l[i]? = some p) : keysOf (l.take (i + 1)) = keysOf (l.take i) ++ keyP p := by
  rw [List.take_add_one, h]
  unfold keysOf
  rw [List.flatMap_append]
  simp
theorem keysOf_len : ∀ {l : List (Int × Int × List UInt8)}, l.all rightP = true → (keysOf l).length ≤ 243 * l.length
  | [], _ => Nat.le_refl _
  | p :: l, h => by
    rw [List.all_cons, Bool.and_eq_true] at h
    have h1 := keysOf_len h.2
    have h2 := keyOf_len h.1
    unfold keysOf at h1 ⊢
    rw [List.flatMap_cons, List.length_append, List.length_cons]
    have h3 : (keyP p).length ≤ 243 := h2
    omega
def OfInv (l : List (Int × Int × List UInt8)) (v : PV) (i : Nat) (st : St) : Prop := ∃ (ov : AV) (m : Mem), i ≤ l.length ∧ (l.take i).all rightP = true ∧ Grow 1 (byteRows (keysOf (l.take i))) ov m ∧
  Live Fn.f_sortkey_Of_k0 (Fn.f_sortkey_Of_s0 ov (.p v) (.p (.int .i64 l.length)) (.p (.int .i64 i))) m st
theorem OfInv.mk {l : List (Int × Int × List UInt8)} {v : PV} {i : Nat} {st : St} (ov : AV) (m : Mem) (h1 : i ≤ l.length) (h2 : (l.take i).all rightP = true) (h3 : Grow 1 (byteRows (keysOf (l.take i))) ov m)
  (h4 : Live Fn.f_sortkey_Of_k0 (Fn.f_sortkey_Of_s0 ov (.p v) (.p (.int .i64 l.length)) (.p (.int .i64 i))) m st) : OfInv l v i st := ⟨ov, m, h1, h2, h3, h4⟩
def keysR (l : List (Int × Int × List UInt8)) : AV := if l.all rightP then .tup [.p (.str (keysOf l)), .p (.int .i64 0)] else .tup [.p (.str []), .p (.int .i64 2)]
theorem all_of_take {l : List (Int × Int × List UInt8)} {i : Nat} (h : (l.take i).all rightP = true) (hi : l.length ≤ i) : l.all rightP = true := by
  rwa [List.take_of_length_le hi] at h
theorem sk_Of (u : V06 E) (w : K07 E) (h : E.fn 102 = some Fn.f_sortkey_Of) (k : Nat) (hk : 400 ≤ k + 10) (v : PV) (l : List (Int × Int × List UInt8)) (hv : IsVals v l) (hb : ∀ p ∈ l, isI64 p.1 ∧ isI64 p.2.1) (hfew : fewV l = true) (m : Mem) : denF E (k + 1) 102 [.p v] m = some (.ret (keysR l), m) := by
  refine denF_wp h rfl (args' := [.p v]) rfl ?_
  have hlen := vals_len hv
  unfold fewV at hfew
  simp only [Bool.and_eq_true, decide_eq_true_eq, List.all_eq_true] at hfew
  obtain ⟨hl12, hs300⟩ := hfew
  simp [Fn.f_sortkey_Of, -lenV, hlen]
  refine (loop_wp (α := Nat) (I := fun i st => OfInv l v i st) (meas := fun i => l.length - i)
    (Q := fun e st => st.ds = [] ∧ ((e = .exit 0 ∧ l.all rightP = true ∧ st.ts.length = 22 ∧ ∃ ov, st.ts.getD 4 (.tup []) = ov ∧ Grow 1 (byteRows (keysOf l)) ov st.m) ∨ (e = .ret ∧ l.all rightP = false ∧ st.ts.getD 2 (.tup []) = .p (.str []) ∧ st.ts.getD 3 (.tup []) = .p (.int .i64 2)))) ?_ k 0 _ (OfInv.mk (.p .nils) [] (Nat.zero_le _) rfl (.inl ⟨rfl, rfl⟩) ⟨rfl, rfl, rfl, rfl⟩) (by omega)).mono ?_
  · rintro i st ⟨ov, m, hi0, hall, hg, hlive⟩
    rw [loopF_live hlive]
    by_cases hi : i < l.length
    · have hi' : (i : Int) < l.length := by omega
      obtain ⟨p, hp⟩ : ∃ n, l[i]? = some n := ⟨l[i], List.getElem?_eq_getElem hi⟩
      obtain ⟨rfl, hrow⟩ := vals_at hv hp
      have hw : IntKind.i64.wrap ((i : Int) + 1) = i + 1 := wrap_i64 (by omega) (by omega)
      have h3 := hs300 p (List.mem_of_getElem? hp)
      obtain ⟨j, rfl⟩ : ∃ j, k = j + 1 := ⟨k - 1, by omega⟩
      have hR := fun m => value_Right u p.1 p.2.1 p.2.2 (hb p (List.mem_of_getElem? hp)).2 (by omega) j (by omega) m
      unfold vP at hR
      have hnew := get_new (m := m) (x := .cells [.p (.int .i64 0), .p (.int .i64 0), .p (.str [])])
      have hset : (m ++ [Blk.cells [.p (.int .i64 0), .p (.int .i64 0), .p (.str [])]]).set m.length (.cells [.p (.int .i64 p.1), .p (.int .i64 p.2.1), .p (.str p.2.2)]) = m ++ [.cells [.p (.int .i64 p.1), .p (.int .i64 p.2.1), .p (.str p.2.2)]] := by
        rw [List.set_append_right _ _ (Nat.le_refl _), Nat.sub_self]
        rfl
      have hnew2 := get_new (m := m) (x := .cells [.p (.int .i64 p.1), .p (.int .i64 p.2.1), .p (.str p.2.2)])
      cases hr : rightP p with
      | false =>
        have hno := all_not hp hr
        unfold rightP at hr
        rw [hr] at hR
        generalize l.map rowV = R at *
        generalize l.all rightP = A at *
        subst hno
        simp [Fn.f_sortkey_Of_b0, Fn.f_sortkey_Of_s0, hi', hrow, hR, hnew, hset, hnew2]
      | true =>
        have hyes := all_take hall hp hr
        have hr' := hr
        unfold rightP at hr
        rw [hr] at hR
        have hkl := keysOf_len hall
        rw [List.length_take] at hkl
        have hg2 : Grow 1 (byteRows (keysOf (l.take i))) ov (m ++ [.cells [.p (.int .i64 p.1), .p (.int .i64 p.2.1), .p (.str p.2.2)]]) := by
          rcases hg with h | ⟨h1, t, h2, h3⟩
          · exact .inl h
          · exact .inr ⟨h1, t, h2, get_app h3 _⟩
        obtain ⟨t, m', p1, p2⟩ := sk_add w j (by omega) p.1 p.2.1 p.2.2 hr (hb p (List.mem_of_getElem? hp)).2 (by omega) (by omega) _ (by omega) ov _ hg2
        have hke : keysOf (l.take (i + 1)) = keysOf (l.take i) ++ keyOf p.1 p.2.1 p.2.2 := keysOf_take hp
        rw [← hke] at p1 p2
        unfold vP at p1
        have hlen' := hlen
        generalize hRR : l.map rowV = R at *
        have hgr : Grow 1 (byteRows (keysOf (l.take (i + 1)))) (.tv 1 (byteRows (keysOf (l.take (i + 1)))) t) m' := by
          refine .inr ⟨?_, t, rfl, ?_⟩
          · rw [hke]
            have : keyOf p.1 p.2.1 p.2.2 ≠ [] := by rw [keyOf_eq]; simp
            simp [byteRows, this]
          · rw [p2, byteRows_len]
        obtain ⟨KK, hKK⟩ : ∃ KK, KK = keysOf (l.take (i + 1)) := ⟨_, rfl⟩
        rw [← hKK] at p1
        simp [Fn.f_sortkey_Of_b0, Fn.f_sortkey_Of_s0, hi', hrow, hR, hnew, hset, hnew2, p1, hw]
        subst hKK
        exact ⟨i + 1, by omega, OfInv.mk _ m' (by omega) hyes hgr ⟨rfl, by simp [keep, Fn.f_sortkey_Of_k0, Fn.f_sortkey_Of_s0], rfl, rfl⟩⟩
    · have : i = l.length := by omega
      subst this
      rw [List.take_length] at hall hg
      generalize hA : l.all rightP = A at *
      subst hall
      simp [Fn.f_sortkey_Of_b0, Fn.f_sortkey_Of_s0]
      exact hg
  · rintro e st ⟨h0, h⟩
    obtain ⟨ts, m', ds⟩ := st
    simp only at h0 h
    subst h0
    unfold keysR
    rcases h with ⟨rfl, h1, h2, ov, h3, hg⟩ | ⟨rfl, h1, h2, h3⟩
    · rw [h1, if_pos rfl]
      match ts, h2, h3 with
      | t0 :: t1 :: t2 :: t3 :: t4 :: t5 :: t6 :: t7 :: t8 :: t9 :: t10 :: t11 :: t12 :: t13 :: t14 :: t15 :: t16 :: t17 :: t18 :: t19 :: t20 :: t21 :: [], h2, h3 =>
        simp only [getD_zero', getD_succ'] at h3
        subst h3
        have hub := unBytes_rows (keysOf l)
        rcases hg with ⟨hr0, rfl⟩ | ⟨hr0, t, rfl, ht⟩
        · have : keysOf l = [] := by
            cases hq : keysOf l with
            | nil => rfl
            | cons => rw [hq] at hr0; simp [byteRows] at hr0
          rw [this]
          simp [unBytes]
        · simp [hub]
    · rw [h1]
      simp [h2, h3]
theorem ref_Of07 (w : K07 E) (h : E.fn 104 = some Fn.f_haulageref07_Of) (k : Nat) (hk : 400 ≤ k + 10) (v : PV) (l : List (Int × Int × List UInt8)) (hv : IsVals v l) (hb : ∀ p ∈ l, isI64 p.1 ∧ isI64 p.2.1) (hfew : fewV l = true) (hall : l.all rightP = true) (m : Mem) :
    denF E (k + 1) 104 [.p v] m = some (.ret (.p (.str (keysOf l))), m) := by
  refine denF_wp h rfl (args' := [.p v]) rfl ?_
  have hlen := vals_len hv
  unfold fewV at hfew
  simp only [Bool.and_eq_true, decide_eq_true_eq, List.all_eq_true] at hfew
  obtain ⟨hl12, hs300⟩ := hfew
  have hall' := List.all_eq_true.1 hall
  simp [Fn.f_haulageref07_Of, -lenV, hlen]
  refine (loop_wp (α := Nat) (I := fun i st => i ≤ l.length ∧ Live Fn.f_haulageref07_Of_k0 (Fn.f_haulageref07_Of_s0 (.p v) (.p (.str (keysOf (l.take i)))) (.p (.int .i64 i))) [] st) (meas := fun i => l.length - i)
    (Q := fun e st => st.ds = [] ∧ e = .exit 0 ∧ st.ts.length = 19 ∧ st.ts.getD 3 (.tup []) = .p (.str (keysOf l))) ?_ k 0 _ ⟨Nat.zero_le _, rfl, rfl, rfl, rfl⟩ (by omega)).mono ?_
  · rintro i st ⟨hi0, hlive⟩
    rw [loopF_live hlive]
    by_cases hi : i < l.length
    · have hi' : (i : Int) < l.length := by omega
      obtain ⟨p, hp⟩ : ∃ n, l[i]? = some n := ⟨l[i], List.getElem?_eq_getElem hi⟩
      obtain ⟨rfl, hrow⟩ := vals_at hv hp
      have hw : IntKind.i64.wrap ((i : Int) + 1) = i + 1 := wrap_i64 (by omega) (by omega)
      have h3 := hs300 p (List.mem_of_getElem? hp)
      have hr := hall' p (List.mem_of_getElem? hp)
      obtain ⟨j, rfl⟩ : ∃ j, k = j + 1 := ⟨k - 1, by omega⟩
      have hO := fun m => ref_One w j (by omega) p.1 p.2.1 p.2.2 hr (hb p (List.mem_of_getElem? hp)).2 (by omega) (by omega) m
      unfold vP at hO
      have hkl : (keysOf (l.take i)).length ≤ 243 * (l.take i).length := keysOf_len (by
        rw [List.all_eq_true]
        exact fun x hx => hall' x (List.mem_of_mem_take hx))
      rw [List.length_take] at hkl
      have hk1 := keyOf_len hr
      have hlim : (keysOf (l.take i)).length + (keyOf p.1 p.2.1 p.2.2).length ≤ strLim := by unfold strLim; omega
      have hke : keysOf (l.take (i + 1)) = keysOf (l.take i) ++ keyOf p.1 p.2.1 p.2.2 := keysOf_take hp
      have hlen' := hlen
      generalize hRR : l.map rowV = R at *
      simp [Fn.f_haulageref07_Of_b0, Fn.f_haulageref07_Of_s0, -lenV, hlen', hi', hrow, hO, hw, hlim]
      refine ⟨i + 1, by omega, by omega, rfl, ?_, rfl, rfl⟩
      rw [hke]
      simp [keep, Fn.f_haulageref07_Of_k0]
    · have : i = l.length := by omega
      subst this
      rw [List.take_length]
      simp [Fn.f_haulageref07_Of_b0, Fn.f_haulageref07_Of_s0, -lenV, hlen]
  · rintro e st ⟨h0, rfl, h1, h2⟩
    obtain ⟨ts, m', ds⟩ := st
    simp only at h0 h1 h2
    subst h0
    match ts, h1, h2 with
    | t0 :: t1 :: t2 :: t3 :: t4 :: t5 :: t6 :: t7 :: t8 :: t9 :: t10 :: t11 :: t12 :: t13 :: t14 :: t15 :: t16 :: t17 :: t18 :: [], h1, h2 =>
      simp only [getD_zero', getD_succ'] at h2
      simp [h2]
theorem law_SortkeyOf (u : V06 E) (w : K07 E) (o : O07 E) (h : E.fn 221 = some Fn.f_haulagelaw07_SortkeyOf) (k : Nat) (hlv : ∀ m, denF E (k + 399) 100 [] m = some (.ret (.p (.bool true)), m)) {x0 : PV} (c0 : Conf (.slice 3 [.int .i64, .int .i64, .str]) x0) (m : Mem) :
    denF E (k + 400) 221 [.p x0] m = some (.ret (.p (.bool true)), m) := by
  obtain ⟨l, hv, hb⟩ := conf_vals c0
  rw [denF_pure h rfl]
  have hF := fun m => law_Few o.few (k + 398) (by omega) x0 l hv m
  cases hfew : fewV l with
  | false =>
    rw [hfew] at hF
    simp (maxSteps := 1000000) [Fn.f_haulagelaw07_SortkeyOf, hlv, hF]
  | true =>
    rw [hfew] at hF
    have hS := fun m => sk_Of u w o.sof (k + 398) (by omega) x0 l hv hb hfew m
    have hR := fun m => ref_VRs u o.rright (k + 398) (by omega) x0 l hv hb hfew m
    unfold keysR at hS
    cases hall : l.all rightP with
    | false =>
      rw [hall] at hS hR
      simp only [Bool.false_eq_true, if_false] at hS
      simp (maxSteps := 1000000) [Fn.f_haulagelaw07_SortkeyOf, hlv, hF, hS, hR]
    | true =>
      have hO := fun m => ref_Of07 w o.rof (k + 398) (by omega) x0 l hv hb hfew hall m
      rw [hall] at hS hR
      simp only [if_true] at hS
      simp (maxSteps := 1000000) [Fn.f_haulagelaw07_SortkeyOf, hlv, hF, hS, hR, hO]
end Hx

namespace Hx
theorem u8_trich (a b : UInt8) : a < b ∨ a = b ∨ b < a := by
  rcases Nat.lt_trichotomy a.toNat b.toNat with h | h | h
  · exact .inl (UInt8.lt_iff_toNat_lt.2 h)
  · exact .inr (.inl (UInt8.toNat_inj.1 h))
  · exact .inr (.inr (UInt8.lt_iff_toNat_lt.2 h))
theorem u8_asymm {a b : UInt8} (h : a < b) : ¬ b < a := fun g => UInt8.lt_irrefl a (UInt8.lt_trans h g)
theorem ordL_head (c : UInt8) (x y : List UInt8) : ordL (c :: x) (c :: y) = ordL x y := by
  rw [ordL, if_neg (UInt8.lt_irrefl c), if_neg (UInt8.lt_irrefl c)]
theorem ordL_lt {c d : UInt8} (h : c < d) (x y : List UInt8) : ordL (c :: x) (d :: y) = -1 := by
  rw [ordL, if_pos h]
theorem ordL_gt {c d : UInt8} (h : d < c) (x y : List UInt8) : ordL (c :: x) (d :: y) = 1 := by
  rw [ordL, if_neg (u8_asymm h), if_pos h]
theorem ofNat_lt {a b : Nat} (ha : a < 256) (hb : b < 256) : UInt8.ofNat a < UInt8.ofNat b ↔ a < b := by
  rw [UInt8.lt_iff_toNat_lt, UInt8.toNat_ofNat', UInt8.toNat_ofNat']
  omega
theorem ordL_be : ∀ (w a b : Nat) (x y : List UInt8), ordL (be w a ++ x) (be w b ++ y) = if a % 256 ^ w < b % 256 ^ w then -1 else if b % 256 ^ w < a % 256 ^ w then 1 else ordL x y
  | 0, a, b, x, y => by simp [be, Nat.mod_one]
  | w + 1, a, b, x, y => by
    rw [be, be, List.cons_append, List.cons_append]
    have h1 : a / 256 ^ w % 256 < 256 := Nat.mod_lt _ (by omega)
    have h2 : b / 256 ^ w % 256 < 256 := Nat.mod_lt _ (by omega)
    have e1 : a % 256 ^ (w + 1) = a % 256 ^ w + 256 ^ w * (a / 256 ^ w % 256) := by rw [Nat.pow_succ, Nat.mod_mul]
    have e2 : b % 256 ^ (w + 1) = b % 256 ^ w + 256 ^ w * (b / 256 ^ w % 256) := by rw [Nat.pow_succ, Nat.mod_mul]
    have p1 : a % 256 ^ w < 256 ^ w := Nat.mod_lt _ (Nat.pow_pos (by omega))
    have p2 : b % 256 ^ w < 256 ^ w := Nat.mod_lt _ (Nat.pow_pos (by omega))
    have ih := ordL_be w a b x y
    rw [e1, e2]
    generalize a / 256 ^ w % 256 = c at *
    generalize b / 256 ^ w % 256 = d at *
    generalize a % 256 ^ w = u at *
    generalize b % 256 ^ w = v at *
    generalize 256 ^ w = P at *
    rcases Nat.lt_trichotomy c d with h | h | h
    · rw [ordL_lt ((ofNat_lt h1 h2).2 h)]
      have : P * c + P ≤ P * d := by
        have := Nat.mul_le_mul_left P (Nat.succ_le_of_lt h)
        rwa [Nat.mul_succ] at this
      rw [if_pos (by omega)]
    · subst h
      rw [ordL_head, ih]
      simp only [Nat.add_lt_add_iff_right]
    · rw [ordL_gt ((ofNat_lt h2 h1).2 h)]
      have : P * d + P ≤ P * c := by
        have := Nat.mul_le_mul_left P (Nat.succ_le_of_lt h)
        rwa [Nat.mul_succ] at this
      rw [if_neg (by omega), if_pos (by omega)]
theorem u8_pos {c : UInt8} (h : c ≠ 0) : (0 : UInt8) < c := by
  rcases u8_trich 0 c with g | g | g
  · exact g
  · exact absurd g.symm h
  · have := UInt8.lt_iff_toNat_lt.1 g
    have z : (0 : UInt8).toNat = 0 := rfl
    omega
theorem esc_0 (r : List UInt8) : esc (0 :: r) = 0 :: 255 :: esc r := by
  rw [esc_cons, if_pos rfl]; rfl
theorem esc_n {c : UInt8} (h : c ≠ 0) (r : List UInt8) : esc (c :: r) = c :: esc r := by
  rw [esc_cons, if_neg h]; rfl
theorem ordL_esc : ∀ (s t x y : List UInt8), ordL (esc s ++ [0, 0] ++ x) (esc t ++ [0, 0] ++ y) = if s = t then ordL x y else ordL s t
  | [], [], x, y => by
    show ordL (0 :: 0 :: x) (0 :: 0 :: y) = _
    rw [ordL_head, ordL_head, if_pos rfl]
  | [], c :: r, x, y => by
    have hn : ¬ ([] = c :: r) := fun e => by cases e
    rw [if_neg hn]
    show ordL (0 :: 0 :: x) _ = -1
    by_cases h : c = 0
    · subst h
      rw [esc_0]
      show ordL (0 :: 0 :: x) (0 :: 255 :: (esc r ++ [0, 0] ++ y)) = -1
      rw [ordL_head, ordL_lt (by decide)]
    · rw [esc_n h]
      show ordL (0 :: 0 :: x) (c :: (esc r ++ [0, 0] ++ y)) = -1
      rw [ordL_lt (u8_pos h)]
  | c :: r, [], x, y => by
    have hn : ¬ (c :: r = []) := fun e => by cases e
    rw [if_neg hn]
    show ordL _ (0 :: 0 :: y) = 1
    by_cases h : c = 0
    · subst h
      rw [esc_0]
      show ordL (0 :: 255 :: (esc r ++ [0, 0] ++ x)) (0 :: 0 :: y) = 1
      rw [ordL_head, ordL_gt (by decide)]
    · rw [esc_n h]
      show ordL (c :: (esc r ++ [0, 0] ++ x)) (0 :: 0 :: y) = 1
      rw [ordL_gt (u8_pos h)]
  | c :: r, d :: t, x, y => by
    rcases u8_trich c d with h | h | h
    · have hn : ¬ (c :: r = d :: t) := fun e => by
        have := List.head_eq_of_cons_eq e
        rw [this] at h
        exact UInt8.lt_irrefl _ h
      rw [if_neg hn, ordL_lt h]
      have hd : d ≠ 0 := by
        rintro rfl
        have := UInt8.lt_iff_toNat_lt.1 h
        have z : (0 : UInt8).toNat = 0 := rfl
        omega
      rw [esc_n hd]
      by_cases hc : c = 0
      · subst hc
        rw [esc_0]
        show ordL (0 :: 255 :: (esc r ++ [0, 0] ++ x)) (d :: (esc t ++ [0, 0] ++ y)) = -1
        rw [ordL_lt (u8_pos hd)]
      · rw [esc_n hc]
        show ordL (c :: (esc r ++ [0, 0] ++ x)) (d :: (esc t ++ [0, 0] ++ y)) = -1
        rw [ordL_lt h]
    · subst h
      have ih := ordL_esc r t x y
      rw [ordL_head]
      have e : (c :: r = c :: t) ↔ r = t := by simp
      simp only [e]
      rw [← ih]
      by_cases hc : c = 0
      · subst hc
        rw [esc_0, esc_0]
        show ordL (0 :: 255 :: (esc r ++ [0, 0] ++ x)) (0 :: 255 :: (esc t ++ [0, 0] ++ y)) = _
        rw [ordL_head, ordL_head]
      · rw [esc_n hc, esc_n hc]
        show ordL (c :: (esc r ++ [0, 0] ++ x)) (c :: (esc t ++ [0, 0] ++ y)) = _
        rw [ordL_head]
    · have hn : ¬ (c :: r = d :: t) := fun e => by
        have := List.head_eq_of_cons_eq e
        rw [this] at h
        exact UInt8.lt_irrefl _ h
      rw [if_neg hn, ordL_gt h]
      have hc : c ≠ 0 := by
        rintro rfl
        have := UInt8.lt_iff_toNat_lt.1 h
        have z : (0 : UInt8).toNat = 0 := rfl
        omega
      rw [esc_n hc]
      by_cases hd : d = 0
      · subst hd
        rw [esc_0]
        show ordL (c :: (esc r ++ [0, 0] ++ x)) (0 :: 255 :: (esc t ++ [0, 0] ++ y)) = 1
        rw [ordL_gt (u8_pos hc)]
      · rw [esc_n hd]
        show ordL (c :: (esc r ++ [0, 0] ++ x)) (d :: (esc t ++ [0, 0] ++ y)) = 1
        rw [ordL_gt h]
/-- The order of two values. -/
def orderV (p q : Int × Int × List UInt8) : Int :=
  if p.1 < q.1 ∨ (p.1 = q.1 ∧ p.2.1 < q.2.1) then -1 else if q.1 < p.1 ∨ (p.1 = q.1 ∧ q.2.1 < p.2.1) then 1 else ordL p.2.2 q.2.2
theorem orderV_0 {p q : Int × Int × List UInt8} (h : orderV p q = 0) : p = q := by
  unfold orderV at h
  split at h
  · omega
  split at h
  · omega
  · have := ordL_eq h
    obtain ⟨a, b, c⟩ := p
    obtain ⟨d, e, f⟩ := q
    simp only at *
    have h1 : a = d := by omega
    have h2 : b = e := by omega
    rw [h1, h2, this]
theorem orderV_self (p : Int × Int × List UInt8) : orderV p p = 0 := by
  unfold orderV
  rw [if_neg (by omega), if_neg (by omega), ordL_self]
theorem keyTail_0 (n : Int) (s : List UInt8) : keyTail 0 n s = [] := rfl
theorem keyTail_1 (n : Int) (s : List UInt8) : keyTail 1 n s = be 4 (n + 2147483648).toNat := rfl
theorem keyTail_2 (n : Int) (s : List UInt8) : keyTail 2 n s = be 8 (n + 9223372036854775808).toNat := rfl
theorem keyTail_3 (n : Int) (s : List UInt8) : keyTail 3 n s = esc s ++ [0, 0] := rfl
theorem keyTail_4 (n : Int) (s : List UInt8) : keyTail 4 n s = esc s ++ [0, 0] := rfl
theorem key_ord {p q : Int × Int × List UInt8} (hp : rightP p = true) (hq : rightP q = true) (bp : isI64 p.2.1) (bq : isI64 q.2.1) (x y : List UInt8) : ordL (keyP p ++ x) (keyP q ++ y) = if p = q then ordL x y else orderV p q := by
  obtain ⟨k, n, s⟩ := p
  obtain ⟨k', n', s'⟩ := q
  unfold rightP at hp hq
  simp only at hp hq bp bq
  unfold keyP
  simp only
  rw [keyOf_eq, keyOf_eq, List.cons_append, List.cons_append]
  have kp : 0 ≤ k ∧ k ≤ 4 := by rcases rightV_kinds hp with h | h | h | h | h <;> omega
  have kq : 0 ≤ k' ∧ k' ≤ 4 := by rcases rightV_kinds hq with h | h | h | h | h <;> omega
  by_cases hlt : k < k'
  · rw [ordL_lt ((ofNat_lt (by omega) (by omega)).2 (by omega)), if_neg (by intro e; injection e; omega)]
    unfold orderV
    rw [if_pos (.inl hlt)]
  by_cases hgt : k' < k
  · rw [ordL_gt ((ofNat_lt (by omega) (by omega)).2 (by omega)), if_neg (by intro e; injection e; omega)]
    unfold orderV
    rw [if_neg (by omega), if_pos (.inl hgt)]
  have : k = k' := by omega
  subst this
  rw [ordL_head]
  have i1 := bp.1
  have i2 := bp.2
  have i3 := bq.1
  have i4 := bq.2
  unfold orderV
  dsimp only
  rcases rightV_kinds hp with ⟨rfl, rfl, rfl⟩ | ⟨rfl, rfl, a1, a2⟩ | ⟨rfl, rfl⟩ | ⟨rfl, rfl, _⟩ | ⟨rfl, rfl, _⟩
  · rcases rightV_kinds hq with ⟨_, rfl, rfl⟩ | h | h | h | h <;> try omega
    rw [keyTail_0]
    simp
  · rcases rightV_kinds hq with h | ⟨_, rfl, b1, b2⟩ | h | h | h <;> try omega
    rw [keyTail_1, keyTail_1, ordL_be]
    have e1 : (n + 2147483648).toNat % 256 ^ 4 = (n + 2147483648).toNat := Nat.mod_eq_of_lt (by omega)
    have e2 : (n' + 2147483648).toNat % 256 ^ 4 = (n' + 2147483648).toNat := Nat.mod_eq_of_lt (by omega)
    rw [e1, e2]
    by_cases h1 : n < n'
    · rw [if_pos (by omega), if_neg (by intro e; injection e with _ e; injection e; omega), if_pos (by omega)]
    · by_cases h2 : n' < n
      · rw [if_neg (by omega), if_pos (by omega), if_neg (by intro e; injection e with _ e; injection e; omega), if_neg (by omega), if_pos (by omega)]
      · have : n = n' := by omega
        subst this
        rw [if_neg (by omega), if_neg (by omega), if_pos rfl]
  · rcases rightV_kinds hq with h | h | ⟨_, rfl⟩ | h | h <;> try omega
    rw [keyTail_2, keyTail_2, ordL_be]
    have e1 : (n + 9223372036854775808).toNat % 256 ^ 8 = (n + 9223372036854775808).toNat := Nat.mod_eq_of_lt (by omega)
    have e2 : (n' + 9223372036854775808).toNat % 256 ^ 8 = (n' + 9223372036854775808).toNat := Nat.mod_eq_of_lt (by omega)
    rw [e1, e2]
    by_cases h1 : n < n'
    · rw [if_pos (by omega), if_neg (by intro e; injection e with _ e; injection e; omega), if_pos (by omega)]
    · by_cases h2 : n' < n
      · rw [if_neg (by omega), if_pos (by omega), if_neg (by intro e; injection e with _ e; injection e; omega), if_neg (by omega), if_pos (by omega)]
      · have : n = n' := by omega
        subst this
        rw [if_neg (by omega), if_neg (by omega), if_pos rfl]
  · rcases rightV_kinds hq with h | h | h | ⟨_, rfl, _⟩ | h <;> try omega
    rw [keyTail_3, keyTail_3, ordL_esc]
    have e : (((3 : Int), (0 : Int), s) = (3, 0, s')) ↔ s = s' := by simp
    by_cases hss : s = s'
    · simp [hss]
    · simp [hss]
  · rcases rightV_kinds hq with h | h | h | h | ⟨_, rfl, _⟩ <;> try omega
    rw [keyTail_4, keyTail_4, ordL_esc]
    have e : (((4 : Int), (0 : Int), s) = (4, 0, s')) ↔ s = s' := by simp
    by_cases hss : s = s'
    · simp [hss]
    · simp [hss]
/-- The order of two lists of values. -/
def orderVs : List (Int × Int × List UInt8) → List (Int × Int × List UInt8) → Int
  | [], [] => 0
  | [], _ :: _ => -1
  | _ :: _, [] => 1
  | p :: l, q :: r => if orderV p q = 0 then orderVs l r else orderV p q
theorem keysOf_cons (p : Int × Int × List UInt8) (l : List (Int × Int × List UInt8)) : keysOf (p :: l) = keyP p ++ keysOf l := by
  unfold keysOf
  rw [List.flatMap_cons]
theorem keys_ord : ∀ {l r : List (Int × Int × List UInt8)}, l.all rightP = true → r.all rightP = true → (∀ p ∈ l, isI64 p.2.1) → (∀ p ∈ r, isI64 p.2.1) → ordL (keysOf l) (keysOf r) = orderVs l r
  | [], [], _, _, _, _ => rfl
  | [], q :: r, _, _, _, _ => by
    rw [keysOf_cons]
    unfold keyP
    rw [keyOf_eq]
    rfl
  | p :: l, [], _, _, _, _ => by
    rw [keysOf_cons]
    unfold keyP
    rw [keyOf_eq]
    rfl
  | p :: l, q :: r, h1, h2, b1, b2 => by
    rw [List.all_cons, Bool.and_eq_true] at h1 h2
    rw [keysOf_cons, keysOf_cons, key_ord h1.1 h2.1 (b1 p (by simp)) (b2 q (by simp)), orderVs]
    by_cases h : p = q
    · subst h
      rw [if_pos rfl, if_pos (orderV_self p)]
      exact keys_ord h1.2 h2.2 (fun x hx => b1 x (List.mem_cons_of_mem _ hx)) (fun x hx => b2 x (List.mem_cons_of_mem _ hx))
    · rw [if_neg h, if_neg (fun e => h (orderV_0 e))]
end Hx

namespace Hx
open Go
theorem conf_type {x : List PV} (h : Confs [.int .i64, .int .i64] x) : ∃ a b : Int, x = [.int .i64 a, .int .i64 b] ∧ (-9223372036854775808 ≤ a ∧ a ≤ 9223372036854775807) ∧ (-9223372036854775808 ≤ b ∧ b ≤ 9223372036854775807) := by
  simp only [Confs, Conf] at h
  obtain ⟨_, _, rfl, ⟨a, rfl, h1, h2⟩, _, _, rfl, ⟨b, rfl, h3, h4⟩, rfl⟩ := h
  exact ⟨a, b, rfl, ⟨h1, h2⟩, ⟨h3, h4⟩⟩
theorem conf_value {x : List PV} (h : Confs [.int .i64, .int .i64, .str] x) : ∃ (a b : Int) (s : List UInt8), x = [.int .i64 a, .int .i64 b, .str s] ∧ (-9223372036854775808 ≤ a ∧ a ≤ 9223372036854775807) ∧ (-9223372036854775808 ≤ b ∧ b ≤ 9223372036854775807) ∧ s.length ≤ 9223372036854775807 := by
  simp only [Confs, Conf] at h
  obtain ⟨_, _, rfl, ⟨a, rfl, h1, h2⟩, _, _, rfl, ⟨b, rfl, h3, h4⟩, _, _, rfl, ⟨s, rfl, h5⟩, rfl⟩ := h
  exact ⟨a, b, s, rfl, ⟨h1, h2⟩, ⟨h3, h4⟩, h5⟩
theorem eq_tP {a b c d : Int} : eqTree (.struct [(0, 1, .int), (1, 1, .int)]) (.agg [.int .i64 a, .int .i64 b]) (.agg [.int .i64 c, .int .i64 d]) = some (a == c && b == d) := by
  simp [eqTree, eqFs, partP, EqT.agg]
theorem eq_vP {a b c d : Int} {s t : List UInt8} : eqTree (.struct [(0, 1, .int), (1, 1, .int), (2, 1, .str)]) (.agg [.int .i64 a, .int .i64 b, .str s]) (.agg [.int .i64 c, .int .i64 d, .str t]) = some (a == c && (b == d && s == t)) := by
  simp [eqTree, eqFs, partP, EqT.agg]
end Hx

namespace Hx
open Go
set_option linter.unusedSimpArgs false
set_option linter.unusedVariables false
set_option maxHeartbeats 4000000
variable {E : Env}
attribute [-simp] List.getD_eq_getElem?_getD getElem?_pos
theorem ofBe_app : ∀ (x y : List UInt8), ofBe (x ++ y) = ofBe x * 256 ^ y.length + ofBe y
  | [], y => by simp [ofBe]
  | c :: x, y => by
    rw [List.cons_append, ofBe, ofBe, ofBe_app x y, List.length_append, Nat.pow_add, Nat.add_mul, Nat.mul_assoc, Nat.add_assoc]
theorem ofBe_snoc (x : List UInt8) (c : UInt8) : ofBe (x ++ [c]) = ofBe x * 256 + c.toNat := by
  rw [ofBe_app]
  simp [ofBe]
theorem ofBe_8 {l : List UInt8} (h : l.length ≤ 8) : ofBe l < 18446744073709551616 := by
  have h1 := ofBe_lt l
  have : 256 ^ l.length ≤ 256 ^ 8 := Nat.pow_le_pow_right (by omega) h
  omega
theorem or_u64 {x y : Nat} (hx : x < 72057594037927936) (hy : y < 256) : bitsI .or .u64 ((x * 256 : Nat) : Int) (y : Int) = some ((x * 256 + y : Nat) : Int) := by
  have hb : IntKind.u64.bits = 64 := rfl
  have hor : x * 256 ||| y = x * 256 + y := by
    have := Nat.two_pow_add_eq_or_of_lt (i := 8) (b := y) (by omega) x
    rw [Nat.mul_comm] at this
    exact this.symm
  simp only [bitsI, hb, BitVec.ofInt_natCast, BitVec.toNat_or, BitVec.toNat_ofNat]
  rw [Nat.mod_eq_of_lt (by omega : x * 256 < 2 ^ 64), Nat.mod_eq_of_lt (by omega : y < 2 ^ 64), hor, wrap_u64 (by omega) (by omega)]
structure B07 (E : Env) : Prop where
  number : E.fn 115 = some Fn.f_sortkey_number
  bytes : E.fn 116 = some Fn.f_sortkey_bytes
  read : E.fn 108 = some Fn.f_sortkey_Read
  all : E.fn 110 = some Fn.f_sortkey_All
  rget : E.fn 121 = some Fn.f_haulageref01_Get
  rnumber : E.fn 117 = some Fn.f_haulageref07_number
  rread : E.fn 109 = some Fn.f_haulageref07_Read
  rall : E.fn 111 = some Fn.f_haulageref07_All
  rsame : E.fn 112 = some Fn.f_haulageref07_Same
  rback : E.fn 120 = some Fn.f_haulageref07_back
def numKey (s : List UInt8) (w : Nat) : AV := if s.length ≤ w then .tup [.p (.int .u64 0), .p (.int .i64 4)] else .tup [.p (.int .u64 (flip (8 * w - 1) (ofBe (s.tail.take w)) : Nat)), .p (.int .i64 0)]
theorem sk_number (u : B07 E) (k : Nat) (hk : 12 ≤ k) (w : Nat) (hw0 : 1 ≤ w) (hw : w ≤ 8) (s : List UInt8) (hs : (s.length : Int) ≤ 1000000000000) (m : Mem) :
    denF E (k + 1) 115 [.p (.str s), .p (.int .i64 w)] m = some (.ret (numKey s w), m) := by
  refine denF_wp u.number rfl (args' := [.p (.str s), .p (.int .i64 w)]) rfl ?_
  unfold numKey
  by_cases hlen : s.length ≤ w
  · have hlen' : (s.length : Int) ≤ w := by omega
    simp [Fn.f_sortkey_number, hlen, hlen']
  have hlen' : ¬ (s.length : Int) ≤ w := by omega
  rw [if_neg hlen]
  simp [Fn.f_sortkey_number, hlen']
  refine (loop_wp (α := Nat) (I := fun i st => i ≤ w ∧ Live Fn.f_sortkey_number_k0 (Fn.f_sortkey_number_s0 (.p (.str s)) (.p (.int .i64 w)) (.p (.int .u64 (ofBe (s.tail.take i)))) (.p (.int .i64 ((i : Int) + 1)))) [] st) (meas := fun i => w - i)
    (Q := fun e st => e = .exit 0 ∧ st.ds = [] ∧ st.ts.length = 30 ∧ st.ts.getD 1 (.tup []) = .p (.int .i64 w) ∧ st.ts.getD 6 (.tup []) = .p (.int .u64 (ofBe (s.tail.take w)))) ?_ k 0 _ ⟨Nat.zero_le _, rfl, by simp [keep, Fn.f_sortkey_number_k0, Fn.f_sortkey_number_s0, ofBe], rfl, rfl⟩ (by omega)).mono ?_
  · rintro i st ⟨hi, hlive⟩
    rw [loopF_live hlive]
    by_cases hlt : i < w
    · have hlt' : (i : Int) + 1 ≤ w := by omega
      obtain ⟨c, hc⟩ : ∃ c, s[i + 1]? = some c := ⟨_, List.getElem?_eq_getElem (by omega)⟩
      have hc' : s.tail[i]? = some c := by rw [List.getElem?_tail]; exact hc
      have htake : s.tail.take (i + 1) = s.tail.take i ++ [c] := take_last hc'
      have hl : (s.tail.take i).length = i := by rw [List.length_take, List.length_tail]; omega
      have hb := ofBe_lt (s.tail.take i)
      rw [hl] at hb
      have hb7 : 256 ^ i ≤ 256 ^ 7 := Nat.pow_le_pow_right (by omega) (by omega)
      have hcl : c.toNat < 256 := UInt8.toNat_lt c
      have hsn := ofBe_snoc (s.tail.take i) c
      rw [← htake] at hsn
      have w1 : IntKind.i64.wrap ((i : Int) + 1 + 1) = (i : Int) + 2 := by rw [wrap_i64] <;> omega
      generalize hX : ofBe (s.tail.take i) = X at *
      have hX7 : X < 72057594037927936 := by omega
      have w2 : IntKind.u64.wrap ((X : Int) * 256) = ((X * 256 : Nat) : Int) := by rw [wrap_u64 (by omega) (by omega)]; omega
      have w3 : IntKind.u64.wrap (c.toNat : Int) = c.toNat := wrap_u64 (by omega) (by omega)
      have w4 := or_u64 hX7 hcl
      rw [← hsn] at w4
      obtain ⟨P, hP⟩ : ∃ P : Int, P = ((X * 256 : Nat) : Int) := ⟨_, rfl⟩
      rw [← hP] at w2 w4
      have ha : (0 : Int) ≤ (i : Int) + 1 := by omega
      have hb' : ((i : Int) + 1).toNat = i + 1 := by omega
      simp [Fn.f_sortkey_number_b0, Fn.f_sortkey_number_s0, hlt', ha, hb', hc, w1, w2, w3, w4]
      exact ⟨i + 1, by omega, by omega, rfl, by simp [keep, Fn.f_sortkey_number_k0, Fn.f_sortkey_number_s0]; omega, rfl, rfl⟩
    · have hi2 : i = w := by omega
      subst hi2
      have hn : ¬ ((i : Int) + 1 ≤ i) := by omega
      simp [Fn.f_sortkey_number_b0, Fn.f_sortkey_number_s0, hn]
  · rintro e st ⟨rfl, h1, h2, h3, h4⟩
    obtain ⟨ts, m', ds⟩ := st
    simp only at h1 h2 h3 h4
    subst h1
    have hl : (s.tail.take w).length = w := by rw [List.length_take, List.length_tail]; omega
    have hb := ofBe_lt (s.tail.take w)
    rw [hl] at hb
    have h8 := ofBe_8 (l := s.tail.take w) (by omega)
    generalize ofBe (s.tail.take w) = X at *
    obtain ⟨p, hp⟩ : ∃ p, p = 2 ^ (8 * w - 1) := ⟨_, rfl⟩
    have hp64 : 2 ^ (8 * w - 1) < 18446744073709551616 := by
      have : 2 ^ (8 * w - 1) < 2 ^ 64 := Nat.pow_lt_pow_right (by omega) (by omega)
      omega
    have w1 : IntKind.i64.wrap (8 * (w : Int)) = 8 * w := wrap_i64 (by omega) (by omega)
    have w2 : IntKind.i64.wrap (8 * (w : Int) - 1) = 8 * w - 1 := wrap_i64 (by omega) (by omega)
    have w4 : IntKind.u64.wrap (2 ^ (min ((8 * (w : Int)).toNat - 1) 64)) = (p : Int) := by
      have e : min ((8 * (w : Int)).toNat - 1) 64 = 8 * w - 1 := by omega
      rw [e]
      have : (2 : Int) ^ (8 * w - 1) = (p : Int) := by rw [hp, Int.natCast_pow]; rfl
      rw [this, wrap_u64 (by omega) (by omega)]
    have w5 := xor_u64 h8 hp64
    have hfl : X ^^^ 2 ^ (8 * w - 1) = flip (8 * w - 1) X := xor_flip (by
      have e1 : 8 * w - 1 + 1 = 8 * w := by omega
      rw [e1, Nat.pow_mul]
      exact hb)
    rw [hfl, ← hp] at w5
    have hneg : ¬ (8 * (w : Int) - 1 < 0) := by omega
    generalize flip (8 * w - 1) X = Y at *
    match ts, h2, h3, h4 with
    | t0 :: t1 :: t2 :: t3 :: t4 :: t5 :: t6 :: t7 :: t8 :: t9 :: t10 :: t11 :: t12 :: t13 :: t14 :: t15 :: t16 :: t17 :: t18 :: t19 :: t20 :: t21 :: t22 :: t23 :: t24 :: t25 :: t26 :: t27 :: t28 :: t29 :: [], h2, h3, h4 =>
      simp only [getD_zero', getD_succ'] at h3 h4
      subst h3 h4
      simp [w1, w2, w4, w5, hneg]
theorem ref_Get (u : B07 E) (k : Nat) (hk : 12 ≤ k) (s : List UInt8) (hs : s.length ≤ 8) (m : Mem) :
    denF E (k + 1) 121 [.p (.str s), .p (.int .i64 s.length)] m = some (.ret (.tup [.p (.int .u64 (ofBe s.reverse)), .p (.int .i64 0)]), m) := by
  refine denF_wp u.rget rfl (args' := [.p (.str s), .p (.int .i64 s.length)]) rfl ?_
  have w0 : IntKind.i64.wrap ((s.length : Int) - 1) = s.length - 1 := wrap_i64 (by omega) (by omega)
  simp [Fn.f_haulageref01_Get, w0]
  refine (loop_wp (α := Nat) (I := fun j st => j ≤ s.length ∧ Live Fn.f_haulageref01_Get_k0 (Fn.f_haulageref01_Get_s0 (.p (.str s)) (.p (.int .u64 (ofBe (s.drop j).reverse))) (.p (.int .i64 ((j : Int) - 1)))) [] st) (meas := fun j => j)
    (Q := fun e st => e = .exit 0 ∧ st.ds = [] ∧ st.ts.length = 30 ∧ st.ts.getD 6 (.tup []) = .p (.int .u64 (ofBe s.reverse))) ?_ k s.length _ ⟨Nat.le_refl _, rfl, by rw [List.drop_length]; rfl, rfl, rfl⟩ (by omega)).mono ?_
  · rintro j st ⟨hj, hlive⟩
    rw [loopF_live hlive]
    cases j with
    | zero => simp [Fn.f_haulageref01_Get_b0, Fn.f_haulageref01_Get_s0]
    | succ i =>
      obtain ⟨c, hc⟩ : ∃ c, s[i]? = some c := ⟨_, List.getElem?_eq_getElem (by omega)⟩
      have hw2 : IntKind.i64.wrap ((i : Int) - 1) = i - 1 := wrap_i64 (by omega) (by omega)
      have hd : (s.drop i).reverse = (s.drop (i + 1)).reverse ++ [c] := by rw [drop_at7 hc, List.reverse_cons]
      have hsn := ofBe_snoc (s.drop (i + 1)).reverse c
      rw [← hd] at hsn
      have hcl : c.toNat < 256 := UInt8.toNat_lt c
      have hb := ofBe_lt (s.drop (i + 1)).reverse
      have hl : (s.drop (i + 1)).reverse.length ≤ 7 := by rw [List.length_reverse, List.length_drop]; omega
      have hb7 : 256 ^ (s.drop (i + 1)).reverse.length ≤ 256 ^ 7 := Nat.pow_le_pow_right (by omega) hl
      generalize ofBe (s.drop (i + 1)).reverse = X at *
      have w2 : IntKind.u64.wrap ((X : Int) * 256) = ((X * 256 : Nat) : Int) := by rw [wrap_u64 (by omega) (by omega)]; omega
      have w3 : IntKind.u64.wrap (c.toNat : Int) = c.toNat := wrap_u64 (by omega) (by omega)
      have w4 : IntKind.u64.wrap (((X * 256 : Nat) : Int) + c.toNat) = ((ofBe (s.drop i).reverse : Nat) : Int) := by rw [wrap_u64 (by omega) (by omega), hsn]; omega
      obtain ⟨P, hP⟩ : ∃ P : Int, P = ((X * 256 : Nat) : Int) := ⟨_, rfl⟩
      rw [← hP] at w2 w4
      simp [Fn.f_haulageref01_Get_b0, Fn.f_haulageref01_Get_s0, hw2, hc, w2, w3, w4]
      exact ⟨i, by omega, by omega, rfl, rfl, rfl, rfl⟩
  · rintro e st ⟨rfl, h1, h2, h3⟩
    obtain ⟨ts, m', ds⟩ := st
    simp only at h1 h2 h3
    subst h1
    match ts, h2, h3 with
    | t0 :: t1 :: t2 :: t3 :: t4 :: t5 :: t6 :: t7 :: t8 :: t9 :: t10 :: t11 :: t12 :: t13 :: t14 :: t15 :: t16 :: t17 :: t18 :: t19 :: t20 :: t21 :: t22 :: t23 :: t24 :: t25 :: t26 :: t27 :: t28 :: t29 :: [], h2, h3 =>
      simp only [getD_zero', getD_succ'] at h3
      simp [h3]
end Hx

namespace Hx
open Go
set_option linter.unusedSimpArgs false
set_option linter.unusedVariables false
set_option maxHeartbeats 4000000
variable {E : Env}
attribute [-simp] List.getD_eq_getElem?_getD getElem?_pos
/-- The bytes of a text's key, from a place on. -/
def ub (D : List UInt8) (p : Nat) : List UInt8 → List UInt8 × Int × Int
  | [] => ([], 0, 4)
  | [_] => ([], 0, 4)
  | c :: d :: r => if c = 0 then (if d = 0 then (D, (p : Int) + 2, 0) else if d = 255 then ub (D ++ [0]) (p + 2) r else ([], 0, 5)) else ub (D ++ [c]) (p + 1) (d :: r)
theorem ub_nil (D : List UInt8) (p : Nat) : ub D p [] = ([], 0, 4) := by rw [ub]
theorem ub_c {c : UInt8} (h : c ≠ 0) (D : List UInt8) (p : Nat) (r : List UInt8) : ub D p (c :: r) = ub (D ++ [c]) (p + 1) r := by
  cases r with
  | nil => rw [ub, ub]
  | cons d r => rw [ub, if_neg h]
theorem ub_1 (D : List UInt8) (p : Nat) (c : UInt8) : ub D p [c] = ([], 0, 4) := by rw [ub]
theorem ub_00 (D : List UInt8) (p : Nat) (r : List UInt8) : ub D p (0 :: 0 :: r) = (D, (p : Int) + 2, 0) := by rw [ub, if_pos rfl, if_pos rfl]
theorem ub_ff (D : List UInt8) (p : Nat) (r : List UInt8) : ub D p (0 :: 255 :: r) = ub (D ++ [0]) (p + 2) r := by rw [ub, if_pos rfl, if_neg (by decide), if_pos rfl]
theorem ub_x {d : UInt8} (h0 : d ≠ 0) (h1 : d ≠ 255) (D : List UInt8) (p : Nat) (r : List UInt8) : ub D p (0 :: d :: r) = ([], 0, 5) := by rw [ub, if_pos rfl, if_neg h0, if_neg h1]
theorem nat_beq0 {c : UInt8} (h : c ≠ 0) : ((c.toNat : Int) == 0) = false := by
  have := mt u8_0.2 h
  simpa using this
theorem nat_beq255 {c : UInt8} (h : c ≠ 255) : ((c.toNat : Int) == 255) = false := by
  have h3 : (c.toNat : Int) < 255 := by
    by_cases h4 : (c.toNat : Int) < 255
    · exact h4
    · exact absurd (u8_255.2 h4) h
  simp; omega
def UbInv (s : List UInt8) (i : Nat) (st : St) : Prop := ∃ (D : List UInt8) (ov : AV) (m : Mem), i ≤ s.length ∧ D.length ≤ i ∧ ub D i (s.drop i) = ub [] 1 (s.drop 1) ∧ Grow 1 (byteRows D) ov m ∧
  Live Fn.f_sortkey_bytes_k0 (Fn.f_sortkey_bytes_s0 (.p (.str s)) ov (.p (.int .i64 i))) m st
theorem UbInv.mk {s : List UInt8} {i : Nat} {st : St} (D : List UInt8) (ov : AV) (m : Mem) (h1 : i ≤ s.length) (h2 : D.length ≤ i) (h3 : ub D i (s.drop i) = ub [] 1 (s.drop 1)) (h4 : Grow 1 (byteRows D) ov m)
  (h5 : Live Fn.f_sortkey_bytes_k0 (Fn.f_sortkey_bytes_s0 (.p (.str s)) ov (.p (.int .i64 i))) m st) : UbInv s i st := ⟨D, ov, m, h1, h2, h3, h4, h5⟩
def ubT (x : List UInt8 × Int × Int) : AV := .tup [.p (.str x.1), .p (.int .i64 x.2.1), .p (.int .i64 x.2.2)]
theorem sk_bytes (u : B07 E) (k : Nat) (s : List UInt8) (hs : (s.length : Int) ≤ 1000000000000) (h1 : 1 ≤ s.length) (hk : s.length + 4 ≤ k) (m : Mem) :
    denF E (k + 1) 116 [.p (.str s)] m = some (.ret (ubT (ub [] 1 (s.drop 1))), m) := by
  refine denF_wp u.bytes rfl (args' := [.p (.str s)]) rfl ?_
  generalize hX : ub [] 1 (s.drop 1) = X at *
  simp [Fn.f_sortkey_bytes]
  refine (loop_wp (α := Nat) (I := fun i st => UbInv s i st) (meas := fun i => s.length - i)
    (Q := fun e st => st.ds = [] ∧ ((e = .exit 0 ∧ X = ([], 0, 4) ∧ st.ts.length = 47) ∨ (e = .ret ∧ st.ts.getD 2 (.tup []) = .p (.str X.1) ∧ st.ts.getD 3 (.tup []) = .p (.int .i64 X.2.1) ∧ st.ts.getD 4 (.tup []) = .p (.int .i64 X.2.2)))) ?_ k 1 _ (UbInv.mk [] (.p .nils) [] h1 (Nat.zero_le _) rfl (.inl ⟨rfl, rfl⟩) ⟨rfl, rfl, rfl, rfl⟩) (by omega)).mono ?_
  · rintro i st ⟨D, ov, m, hi0, hDl, hub, hg, hlive⟩
    rw [loopF_live hlive]
    rw [hX] at hub
    by_cases hi : i < s.length
    · have hi' : (i : Int) < s.length := by omega
      obtain ⟨c, hc⟩ : ∃ c, s[i]? = some c := ⟨_, List.getElem?_eq_getElem hi⟩
      have hw : IntKind.i64.wrap ((i : Int) + 1) = i + 1 := wrap_i64 (by omega) (by omega)
      rw [drop_at7 hc] at hub
      have hbl := byteRows_len D
      have hb2 : D.length + 1 ≤ room := by unfold room; omega
      by_cases h0 : c = 0
      · subst h0
        have g : (((0 : UInt8).toNat : Int) == 0) = true := rfl
        have e0 : ((0 : UInt8).toNat : Int) = 0 := rfl
        by_cases hi2 : i + 1 < s.length
        · obtain ⟨d, hd⟩ : ∃ c, s[i + 1]? = some c := ⟨_, List.getElem?_eq_getElem hi2⟩
          rw [drop_at7 hd] at hub
          have n1 : ((i : Int) + 1 == s.length) = false := by simp; omega
          have ha : (0 : Int) ≤ (i : Int) + 1 := by omega
          have hb' : ((i : Int) + 1).toNat = i + 1 := by omega
          have hw2 : IntKind.i64.wrap ((i : Int) + 1 + 1) = i + 2 := by rw [wrap_i64] <;> omega
          by_cases d0 : d = 0
          · subst d0
            rw [ub_00] at hub
            have hun := unBytes_rows D
            rw [← hub]
            rcases hg with ⟨hr, rfl⟩ | ⟨hr, t, rfl, ht⟩
            · have : D = [] := by simpa [byteRows] using hr
              subst this
              simp [Fn.f_sortkey_bytes_b0, Fn.f_sortkey_bytes_s0, hi', hc, hw, bne, n1, hd, ha, hb', hw2, e0, unBytes]
            · simp [Fn.f_sortkey_bytes_b0, Fn.f_sortkey_bytes_s0, hi', hc, hw, bne, n1, hd, ha, hb', hw2, e0, hun]
          · have g0 := nat_beq0 d0
            by_cases d1 : d = 255
            · subst d1
              have e255 : ((255 : UInt8).toNat : Int) = 255 := rfl
              rw [ub_ff] at hub
              have happ : byteRows (D ++ [0]) = byteRows D ++ [[PV.int .u8 0]] := by simp [byteRows, byteRow]
              rcases hg with ⟨hr, rfl⟩ | ⟨hr, t, rfl, ht⟩
              · have : D = [] := by simpa [byteRows] using hr
                subst this
                simp [Fn.f_sortkey_bytes_b0, Fn.f_sortkey_bytes_s0, hi', hc, hw, bne, n1, hd, ha, hb', hw2, e0, e255, room]
                exact ⟨i + 2, by omega, UbInv.mk [0] (.tv 1 (byteRows [0]) (m.length + 1)) _ (by omega) (by simp) (by rw [hX]; exact hub) (.inr ⟨by simp [byteRows], m.length + 1, rfl, by rw [List.getElem?_append_right (by omega)]; simp [byteRows]⟩) ⟨rfl, by simp [keep, Fn.f_sortkey_bytes_k0, Fn.f_sortkey_bytes_s0, byteRows, byteRow], rfl, rfl⟩⟩
              · have ht2 : ∀ z, (m ++ [z])[t]? = some (.tok 1 D.length) := fun z => by rw [get_app ht, hbl]
                simp [Fn.f_sortkey_bytes_b0, Fn.f_sortkey_bytes_s0, hi', hc, hw, bne, n1, hd, ha, hb', hw2, e0, e255, hbl, hb2, ht2]
                exact ⟨i + 2, by omega, UbInv.mk (D ++ [0]) (.tv 1 (byteRows (D ++ [0])) t) _ (by omega) (by simp; omega) (by rw [hX]; exact hub) (.inr ⟨by rw [happ]; simp, t, rfl, by rw [get_set (ht2 _), byteRows_len]; simp⟩) ⟨rfl, by simp [keep, Fn.f_sortkey_bytes_k0, Fn.f_sortkey_bytes_s0, happ], rfl, rfl⟩⟩
            · have g1 := nat_beq255 d1
              rw [ub_x d0 d1] at hub
              rw [← hub]
              simp [Fn.f_sortkey_bytes_b0, Fn.f_sortkey_bytes_s0, hi', hc, hw, bne, n1, hd, ha, hb', hw2, e0, g0, g1]
        · have hl : i + 1 = s.length := by omega
          rw [List.drop_eq_nil_of_le (by omega), ub_1] at hub
          have n1 : ((i : Int) + 1 == s.length) = true := by simp; omega
          rw [← hub]
          simp [Fn.f_sortkey_bytes_b0, Fn.f_sortkey_bytes_s0, hi', hc, hw, bne, n1, e0]
      · have g := nat_beq0 h0
        rw [ub_c h0] at hub
        have happ : byteRows (D ++ [c]) = byteRows D ++ [[PV.int .u8 c.toNat]] := by simp [byteRows, byteRow]
        rcases hg with ⟨hr, rfl⟩ | ⟨hr, t, rfl, ht⟩
        · have : D = [] := by simpa [byteRows] using hr
          subst this
          simp [Fn.f_sortkey_bytes_b0, Fn.f_sortkey_bytes_s0, hi', hc, hw, bne, g, room]
          exact ⟨i + 1, by omega, UbInv.mk [c] (.tv 1 (byteRows [c]) (m.length + 1)) _ (by omega) (by simp) (by rw [hX]; exact hub) (.inr ⟨by simp [byteRows], m.length + 1, rfl, by rw [List.getElem?_append_right (by omega)]; simp [byteRows]⟩) ⟨rfl, by simp [keep, Fn.f_sortkey_bytes_k0, Fn.f_sortkey_bytes_s0, byteRows, byteRow], rfl, rfl⟩⟩
        · have ht2 : ∀ z, (m ++ [z])[t]? = some (.tok 1 D.length) := fun z => by rw [get_app ht, hbl]
          simp [Fn.f_sortkey_bytes_b0, Fn.f_sortkey_bytes_s0, hi', hc, hw, bne, g, hbl, hb2, ht2]
          exact ⟨i + 1, by omega, UbInv.mk (D ++ [c]) (.tv 1 (byteRows (D ++ [c])) t) _ (by omega) (by simp; omega) (by rw [hX]; exact hub) (.inr ⟨by rw [happ]; simp, t, rfl, by rw [get_set (ht2 _), byteRows_len]; simp⟩) ⟨rfl, by simp [keep, Fn.f_sortkey_bytes_k0, Fn.f_sortkey_bytes_s0, happ], rfl, rfl⟩⟩
    · have hi' : ¬ (i : Int) < s.length := by omega
      rw [List.drop_eq_nil_of_le (by omega), ub_nil] at hub
      rw [← hub]
      simp [Fn.f_sortkey_bytes_b0, Fn.f_sortkey_bytes_s0, hi']
  · rintro e st ⟨h0, h⟩
    obtain ⟨ts, m', ds⟩ := st
    simp only at h0 h
    subst h0
    unfold ubT
    rcases h with ⟨rfl, hx, hl⟩ | ⟨rfl, q1, q2, q3⟩
    · rw [hx]
      match ts, hl with
      | t0 :: t1 :: t2 :: t3 :: t4 :: t5 :: t6 :: t7 :: t8 :: t9 :: t10 :: t11 :: t12 :: t13 :: t14 :: t15 :: t16 :: t17 :: t18 :: t19 :: t20 :: t21 :: t22 :: t23 :: t24 :: t25 :: t26 :: t27 :: t28 :: t29 :: t30 :: t31 :: t32 :: t33 :: t34 :: t35 :: t36 :: t37 :: t38 :: t39 :: t40 :: t41 :: t42 :: t43 :: t44 :: t45 :: t46 :: [], hl => simp
    · simp [q1, q2, q3]
end Hx

namespace Hx
open Go
set_option linter.unusedSimpArgs false
set_option linter.unusedVariables false
set_option maxHeartbeats 4000000
variable {E : Env}
attribute [-simp] List.getD_eq_getElem?_getD getElem?_pos
def rdT (k n : Int) (t : List UInt8) (size e : Int) : AV := .tup [.p (.agg [.int .i64 k, .int .i64 n, .str t]), .p (.int .i64 size), .p (.int .i64 e)]
/-- What is read behind the byte of texts and bytes. -/
def finT (c : UInt8) (x : List UInt8 × Int × Int) : AV :=
  if x.2.2 ≠ 0 then rdT 0 0 [] 0 x.2.2 else if c = 3 ∧ (signs x.1).isSome = false then rdT 0 0 [] 0 5 else if 120 < x.1.length then rdT 0 0 [] 0 3 else rdT c.toNat 0 x.1 x.2.1 0
def readK (s : List UInt8) : AV := match s with
  | [] => rdT 0 0 [] 0 4
  | c :: r => if c = 0 then rdT 0 0 [] 1 0 else if c = 1 then (if s.length ≤ 4 then rdT 0 0 [] 0 4 else rdT 1 ((ofBe (r.take 4) : Int) - 2147483648) [] 5 0)
    else if c = 2 then (if s.length ≤ 8 then rdT 0 0 [] 0 4 else rdT 2 ((ofBe (r.take 8) : Int) - 9223372036854775808) [] 9 0)
    else if c = 3 ∨ c = 4 then finT c (ub [] 1 r) else rdT 0 0 [] 0 5
theorem ref_num4 (u : B07 E) (k : Nat) (hk : 14 ≤ k) (s : List UInt8) (hs : (s.length : Int) ≤ 1000000000000) (m : Mem) :
    denF E (k + 1) 117 [.p (.str s), .p (.int .i64 1), .p (.int .i64 4)] m = some (.ret (if s.length ≤ 4 then rdT 0 0 [] 0 4 else rdT 1 ((ofBe (s.tail.take 4) : Int) - 2147483648) [] 5 0), m) := by
  refine denF_wp u.rnumber rfl (args' := [.p (.str s), .p (.int .i64 1), .p (.int .i64 4)]) rfl ?_
  obtain ⟨j, rfl⟩ : ∃ j, k = j + 1 := ⟨k - 1, by omega⟩
  have w5 : IntKind.i64.wrap 5 = 5 := rfl
  by_cases hlen : s.length ≤ 4
  · have hlen' : (s.length : Int) < 5 := by omega
    rw [if_pos hlen]
    simp [Fn.f_haulageref07_number, w5, hlen', rdT]
  · have hlen' : ¬ (s.length : Int) < 5 := by omega
    rw [if_neg hlen]
    have hl : (s.tail.take 4).length = 4 := by rw [List.length_take, List.length_tail]; omega
    have hcut : (s.take 5).tail = s.tail.take 4 := by cases s with | nil => rfl | cons c r => simp
    have h5 : 5 ≤ s.length := by omega
    have hB := fun m => ref_back u.rback j (s.tail.take 4) (by omega) (by omega) m
    have hG := fun m => ref_Get u j (by omega) (s.tail.take 4).reverse (by rw [List.length_reverse]; omega) m
    rw [List.length_reverse, hl, List.reverse_reverse] at hG
    have hG' : ∀ m, denF E (j + 1) 121 [.p (.str (s.tail.take 4).reverse), .p (.int .i64 4)] m = _ := hG
    have hb := ofBe_lt (s.tail.take 4)
    rw [hl] at hb
    generalize hR : s.tail.take 4 = R at *
    generalize ofBe R = X at *
    have v1 : IntKind.i64.wrap (X : Int) = X := wrap_i64 (by omega) (by omega)
    have v2 : IntKind.i64.wrap ((X : Int) - 2147483648) = X - 2147483648 := wrap_i64 (by omega) (by omega)
    simp [Fn.f_haulageref07_number, w5, hlen', bounds, asNat, asInt, h5, hcut, hB, hG', v1, v2, rdT]
theorem ref_num8 (u : B07 E) (k : Nat) (hk : 14 ≤ k) (s : List UInt8) (hs : (s.length : Int) ≤ 1000000000000) (m : Mem) :
    denF E (k + 1) 117 [.p (.str s), .p (.int .i64 2), .p (.int .i64 8)] m = some (.ret (if s.length ≤ 8 then rdT 0 0 [] 0 4 else rdT 2 ((ofBe (s.tail.take 8) : Int) - 9223372036854775808) [] 9 0), m) := by
  refine denF_wp u.rnumber rfl (args' := [.p (.str s), .p (.int .i64 2), .p (.int .i64 8)]) rfl ?_
  obtain ⟨j, rfl⟩ : ∃ j, k = j + 1 := ⟨k - 1, by omega⟩
  have w5 : IntKind.i64.wrap 9 = 9 := rfl
  by_cases hlen : s.length ≤ 8
  · have hlen' : (s.length : Int) < 9 := by omega
    rw [if_pos hlen]
    simp [Fn.f_haulageref07_number, w5, hlen', rdT]
  · have hlen' : ¬ (s.length : Int) < 9 := by omega
    rw [if_neg hlen]
    have hl : (s.tail.take 8).length = 8 := by rw [List.length_take, List.length_tail]; omega
    have hcut : (s.take 9).tail = s.tail.take 8 := by cases s with | nil => rfl | cons c r => simp
    have h5 : 9 ≤ s.length := by omega
    have hB := fun m => ref_back u.rback j (s.tail.take 8) (by omega) (by omega) m
    have hG := fun m => ref_Get u j (by omega) (s.tail.take 8).reverse (by rw [List.length_reverse]; omega) m
    rw [List.length_reverse, hl, List.reverse_reverse] at hG
    have hG' : ∀ m, denF E (j + 1) 121 [.p (.str (s.tail.take 8).reverse), .p (.int .i64 8)] m = _ := hG
    have hb := ofBe_8 (l := s.tail.take 8) (by omega)
    generalize hR : s.tail.take 8 = R at *
    generalize ofBe R = X at *
    by_cases hx : 9223372036854775808 ≤ X
    · have hx' : (9223372036854775808 : Int) ≤ X := by omega
      have v1 : IntKind.u64.wrap ((X : Int) - 9223372036854775808) = X - 9223372036854775808 := wrap_u64 (by omega) (by omega)
      have v2 : IntKind.i64.wrap ((X : Int) - 9223372036854775808) = X - 9223372036854775808 := wrap_i64 (by omega) (by omega)
      simp [Fn.f_haulageref07_number, w5, hlen', bounds, asNat, asInt, h5, hcut, hB, hG', hx, hx', v1, v2, rdT]
    · have hx' : ¬ (9223372036854775808 : Int) ≤ X := by omega
      have v1 : IntKind.i64.wrap (X : Int) = X := wrap_i64 (by omega) (by omega)
      have v2 : IntKind.i64.wrap ((X : Int) - 9223372036854775807) = X - 9223372036854775807 := wrap_i64 (by omega) (by omega)
      have v3 : IntKind.i64.wrap ((X : Int) - 9223372036854775807 - 1) = X - 9223372036854775808 := by rw [wrap_i64] <;> omega
      simp [Fn.f_haulageref07_number, w5, hlen', bounds, asNat, asInt, h5, hcut, hB, hG', hx, hx', v1, v2, v3, rdT]
theorem flip_4 {x : Nat} (h : x < 4294967296) : IntKind.i64.wrap (IntKind.i32.wrap (IntKind.u32.wrap ((flip 31 x : Nat) : Int))) = (x : Int) - 2147483648 := by
  unfold flip
  simp only [IntKind.wrap, IntKind.signed, IntKind.bits]
  simp
  split <;> split <;> omega
theorem flip_8 {x : Nat} (h : x < 18446744073709551616) : IntKind.i64.wrap ((flip 63 x : Nat) : Int) = (x : Int) - 9223372036854775808 := by
  unfold flip
  simp only [IntKind.wrap, IntKind.signed, IntKind.bits]
  simp
  split <;> split <;> omega
theorem u8_lit {c : UInt8} (n : Nat) (hn : n < 256) : c = UInt8.ofNat n ↔ (c.toNat : Int) = n := by
  constructor
  · rintro rfl
    rw [UInt8.toNat_ofNat']
    omega
  · intro h
    apply UInt8.toNat_inj.1
    rw [UInt8.toNat_ofNat']
    omega
theorem ub_len : ∀ (n : Nat) (r D : List UInt8) (p : Nat), r.length ≤ n → (ub D p r).1.length ≤ D.length + r.length := by
  intro n
  induction n with
  | zero =>
    intro r D p h
    have : r = [] := List.length_eq_zero_iff.1 (by omega)
    subst this
    rw [ub_nil]
    simp
  | succ n ih =>
    intro r D p h
    cases r with
    | nil => rw [ub_nil]; simp
    | cons c r =>
      by_cases h0 : c = 0
      · subst h0
        cases r with
        | nil => rw [ub_1]; simp
        | cons d r =>
          by_cases d0 : d = 0
          · subst d0
            rw [ub_00]
            simp
          · by_cases d1 : d = 255
            · subst d1
              rw [ub_ff]
              have := ih r (D ++ [0]) (p + 2) (by simp at h; omega)
              simp only [List.length_append, List.length_cons, List.length_nil] at this ⊢
              omega
            · rw [ub_x d0 d1]
              simp
      · rw [ub_c h0]
        have := ih r (D ++ [c]) (p + 1) (by simp at h; omega)
        simp only [List.length_append, List.length_cons, List.length_nil] at this ⊢
        omega
theorem sk_Read (u : B07 E) (r3 : R03 E) (k : Nat) (s : List UInt8) (hs : (s.length : Int) ≤ 1000000000) (hk : s.length + 20 ≤ k) (m : Mem) : denF E (k + 1) 108 [.p (.str s)] m = some (.ret (readK s), m) := by
  refine denF_wp u.read rfl (args' := [.p (.str s)]) rfl ?_
  obtain ⟨j, rfl⟩ : ∃ j, k = j + 1 := ⟨k - 1, by omega⟩
  cases s with
  | nil => simp [Fn.f_sortkey_Read, readK, rdT]
  | cons c r =>
    have hN4 : ∀ m, denF E (j + 1) 115 [.p (.str (c :: r)), .p (.int .i64 4)] m = _ := fun m => sk_number u j (by omega) 4 (by omega) (by omega) (c :: r) (by omega) m
    have hN8 : ∀ m, denF E (j + 1) 115 [.p (.str (c :: r)), .p (.int .i64 8)] m = _ := fun m => sk_number u j (by omega) 8 (by omega) (by omega) (c :: r) (by omega) m
    have hB := fun m => sk_bytes u j (c :: r) (by omega) (by simp) (by omega) m
    have hdr : (c :: r).drop 1 = r := rfl
    rw [hdr] at hB
    have hul := ub_len _ r [] 1 (Nat.le_refl _)
    have hlc : (c :: r).length = r.length + 1 := rfl
    have hU := fun m => utf_Right r3 (ub [] 1 r).1 (by simp at hul; omega) j (by simp at hul; omega) m
    have hcw : IntKind.i64.wrap (c.toNat : Int) = c.toNat := by
      have : c.toNat < 256 := UInt8.toNat_lt c
      exact wrap_i64 (by omega) (by omega)
    have ne : (c :: r == []) = false := rfl
    have z0 : IntKind.i64.wrap 0 = 0 := rfl
    have z1 : IntKind.i64.wrap 1 = 1 := rfl
    have z2 : IntKind.i64.wrap 2 = 2 := rfl
    have z3 : IntKind.i64.wrap 3 = 3 := rfl
    have z4 : IntKind.i64.wrap 4 = 4 := rfl
    unfold readK
    dsimp only
    by_cases c0 : c = 0
    · subst c0
      simp [Fn.f_sortkey_Read, z0, rdT]
    rw [if_neg c0]
    have g0 := nat_beq0 c0
    by_cases c1 : c = 1
    · subst c1
      rw [if_pos rfl]
      have e1 : ((1 : UInt8).toNat : Int) = 1 := rfl
      unfold numKey at hN4
      by_cases hlen : (1 :: r).length ≤ 4
      · rw [if_pos hlen] at hN4 ⊢
        have i32 : IntKind.u32.wrap 0 = 0 := rfl
        have i33 : IntKind.i32.wrap 0 = 0 := rfl
        have i34 : IntKind.i64.wrap 0 = 0 := rfl
        simp [Fn.f_sortkey_Read, z0, z1, z2, z3, z4, hcw, e1, hN4, i32, i33, i34, bne, rdT]
      · rw [if_neg hlen] at hN4 ⊢
        have ht : (1 :: r).tail = r := rfl
        rw [ht] at hN4
        have hl : (r.take 4).length = 4 := by rw [List.length_take]; omega
        have hb := ofBe_lt (r.take 4)
        rw [hl] at hb
        have hf := flip_4 (x := ofBe (r.take 4)) (by omega)
        generalize ofBe (r.take 4) = X at *
        have hf' : IntKind.i64.wrap (IntKind.i32.wrap (IntKind.u32.wrap ((flip (8 * 4 - 1) X : Nat) : Int))) = (X : Int) - 2147483648 := hf
        generalize flip (8 * 4 - 1) X = Y at *
        simp [Fn.f_sortkey_Read, z0, z1, z2, z3, z4, hcw, e1, hN4, hf', bne, rdT]
    rw [if_neg c1]
    have g1 : ((c.toNat : Int) == 1) = false := by
      have := mt (u8_lit 1 (by omega)).2 c1
      simpa using this
    by_cases c2 : c = 2
    · subst c2
      rw [if_pos rfl]
      have e1 : ((2 : UInt8).toNat : Int) = 2 := rfl
      unfold numKey at hN8
      by_cases hlen : (2 :: r).length ≤ 8
      · rw [if_pos hlen] at hN8 ⊢
        have i34 : IntKind.i64.wrap 0 = 0 := rfl
        simp [Fn.f_sortkey_Read, z0, z1, z2, z3, z4, hcw, e1, hN8, i34, bne, rdT]
      · rw [if_neg hlen] at hN8 ⊢
        have ht : (2 :: r).tail = r := rfl
        rw [ht] at hN8
        have hl : (r.take 8).length = 8 := by rw [List.length_take]; omega
        have hb := ofBe_8 (l := r.take 8) (by omega)
        have hf := flip_8 (x := ofBe (r.take 8)) (by omega)
        generalize ofBe (r.take 8) = X at *
        have hf' : IntKind.i64.wrap ((flip (8 * 8 - 1) X : Nat) : Int) = (X : Int) - 9223372036854775808 := hf
        generalize flip (8 * 8 - 1) X = Y at *
        simp [Fn.f_sortkey_Read, z0, z1, z2, z3, z4, hcw, e1, hN8, hf', bne, rdT]
    rw [if_neg c2]
    have g2 : ((c.toNat : Int) == 2) = false := by
      have := mt (u8_lit 2 (by omega)).2 c2
      simpa using this
    by_cases c34 : c = 3 ∨ c = 4
    · rw [if_pos c34]
      unfold finT ubT at *
      generalize ub [] 1 r = X at *
      obtain ⟨t, size, e⟩ := X
      dsimp only at *
      by_cases he : e = 0
      · subst he
        rw [if_neg (by simp)]
        obtain ⟨g, hg⟩ : ∃ g, (signs t).isSome = g := ⟨_, rfl⟩
        rw [hg] at hU ⊢
        rcases c34 with rfl | rfl
        · have e1 : ((3 : UInt8).toNat : Int) = 3 := rfl
          cases g
          · rw [if_pos ⟨rfl, rfl⟩]
            simp [Fn.f_sortkey_Read, z0, z1, z2, z3, z4, hcw, e1, hB, hU, bne, rdT]
          · rw [if_neg (by simp)]
            by_cases hl : 120 < t.length
            · have hl' : (120 : Int) < t.length := by omega
              simp [Fn.f_sortkey_Read, z0, z1, z2, z3, z4, hcw, e1, hB, hU, bne, rdT, hl, hl']
            · have hl' : ¬ (120 : Int) < t.length := by omega
              simp [Fn.f_sortkey_Read, z0, z1, z2, z3, z4, hcw, e1, hB, hU, bne, rdT, hl, hl']
        · have e1 : ((4 : UInt8).toNat : Int) = 4 := rfl
          rw [if_neg (fun h => absurd h.1 (by decide))]
          by_cases hl : 120 < t.length
          · have hl' : (120 : Int) < t.length := by omega
            simp [Fn.f_sortkey_Read, z0, z1, z2, z3, z4, hcw, e1, hB, hU, bne, rdT, hl, hl']
          · have hl' : ¬ (120 : Int) < t.length := by omega
            simp [Fn.f_sortkey_Read, z0, z1, z2, z3, z4, hcw, e1, hB, hU, bne, rdT, hl, hl']
      · have he' : (e == 0) = false := by simpa using he
        rw [if_pos he]
        rcases c34 with rfl | rfl
        · have e1 : ((3 : UInt8).toNat : Int) = 3 := rfl
          simp [Fn.f_sortkey_Read, z0, z1, z2, z3, z4, hcw, e1, hB, bne, rdT, he']
        · have e1 : ((4 : UInt8).toNat : Int) = 4 := rfl
          simp [Fn.f_sortkey_Read, z0, z1, z2, z3, z4, hcw, e1, hB, bne, rdT, he']
    · rw [if_neg c34]
      have g3 : ((c.toNat : Int) == 3) = false := by
        have := mt (u8_lit 3 (by omega)).2 (fun h => c34 (.inl h))
        simpa using this
      have g4 : ((c.toNat : Int) == 4) = false := by
        have := mt (u8_lit 4 (by omega)).2 (fun h => c34 (.inr h))
        simpa using this
      simp [Fn.f_sortkey_Read, z0, z1, z2, z3, z4, hcw, g0, g1, g2, g3, g4, bne, rdT]
end Hx

namespace Hx
open Go
set_option linter.unusedSimpArgs false
set_option linter.unusedVariables false
set_option maxHeartbeats 4000000
variable {E : Env}
attribute [-simp] List.getD_eq_getElem?_getD getElem?_pos
def z3c : List AV := [.p (.int .i64 0), .p (.int .i64 0), .p (.str [])]
def RbInv (s : List UInt8) (i : Nat) (st : St) : Prop := ∃ (D : List UInt8) (m : Mem), i ≤ s.length ∧ D.length ≤ i ∧ ub D i (s.drop i) = ub [] 1 (s.drop 1) ∧ m[0]? = some (.cells z3c) ∧ m[1]? = some (.cells z3c) ∧
  Live Fn.f_haulageref07_Read_k0 (Fn.f_haulageref07_Read_s0 (.p (.str s)) (.ptr 0 0) (.ptr 1 0) (.p (.str D)) (.p (.int .i64 i))) m st
theorem RbInv.mk {s : List UInt8} {i : Nat} {st : St} (D : List UInt8) (m : Mem) (h1 : i ≤ s.length) (h2 : D.length ≤ i) (h3 : ub D i (s.drop i) = ub [] 1 (s.drop 1)) (h4 : m[0]? = some (.cells z3c)) (h5 : m[1]? = some (.cells z3c))
  (h6 : Live Fn.f_haulageref07_Read_k0 (Fn.f_haulageref07_Read_s0 (.p (.str s)) (.ptr 0 0) (.ptr 1 0) (.p (.str D)) (.p (.int .i64 i))) m st) : RbInv s i st := ⟨D, m, h1, h2, h3, h4, h5, h6⟩
/-- What the loop leaves: the cells of the value, how many bytes, the error. -/
def RbOut (c : UInt8) (x : List UInt8 × Int × Int) (st : St) : Prop := ∃ (k n : Int) (t : List UInt8) (size e : Int), finT c x = rdT k n t size e ∧ st.m[0]? = some (.cells [.p (.int .i64 k), .p (.int .i64 n), .p (.str t)]) ∧ st.ts.getD 2 (.tup []) = .ptr 0 0 ∧ st.ts.getD 3 (.tup []) = .p (.int .i64 size) ∧ st.ts.getD 4 (.tup []) = .p (.int .i64 e)
theorem RbOut.mk {c : UInt8} {x : List UInt8 × Int × Int} {st : St} (k n : Int) (t : List UInt8) (size e : Int) (h1 : finT c x = rdT k n t size e) (h2 : st.m[0]? = some (.cells [.p (.int .i64 k), .p (.int .i64 n), .p (.str t)])) (h3 : st.ts.getD 2 (.tup []) = .ptr 0 0) (h4 : st.ts.getD 3 (.tup []) = .p (.int .i64 size)) (h5 : st.ts.getD 4 (.tup []) = .p (.int .i64 e)) : RbOut c x st := ⟨k, n, t, size, e, h1, h2, h3, h4, h5⟩
theorem rb_loop (r3 : R03 E) (K : Nat) (s : List UInt8) (c0 : UInt8) (h0 : s[0]? = some c0) (hc0 : c0 = 3 ∨ c0 = 4) (hs : (s.length : Int) ≤ 1000000000) (hK : s.length + 20 ≤ K) (M : Mem) (hM0 : M[0]? = some (.cells z3c)) (hM1 : M[1]? = some (.cells z3c)) (st : St)
    (hst : Live Fn.f_haulageref07_Read_k0 (Fn.f_haulageref07_Read_s0 (.p (.str s)) (.ptr 0 0) (.ptr 1 0) (.p (.str [])) (.p (.int .i64 1))) M st) (h1 : 1 ≤ s.length) :
    Wp (iter (loopF E (denF E K) K Fn.f_haulageref07_Read_k0 Fn.f_haulageref07_Read_b0) K st)
      (fun e st => st.ds = [] ∧ ((e = .exit 1 ∧ ub [] 1 (s.drop 1) = ([], 0, 4) ∧ st.ts.length = 92 ∧ st.m[0]? = some (.cells z3c) ∧ st.m[1]? = some (.cells z3c) ∧ st.ts.getD 2 (.tup []) = .ptr 0 0 ∧ st.ts.getD 5 (.tup []) = .ptr 1 0) ∨ (e = .ret ∧ RbOut c0 (ub [] 1 (s.drop 1)) st))) := by
  obtain ⟨j, rfl⟩ : ∃ j, K = j + 1 := ⟨K - 1, by omega⟩
  have hXl := ub_len _ (s.drop 1) [] 1 (Nat.le_refl _)
  rw [List.length_drop] at hXl
  generalize hX : ub [] 1 (s.drop 1) = X at *
  refine loop_wp (α := Nat) (I := fun i st => RbInv s i st) (meas := fun i => s.length - i) ?_ (j + 1) 1 st (RbInv.mk [] M h1 (Nat.zero_le _) rfl hM0 hM1 hst) (by omega)
  rintro i st ⟨D, m, hi0, hDl, hub, hm0, hm1, hlive⟩
  rw [loopF_live hlive]
  rw [hX] at hub
  unfold z3c at hm0 hm1
  by_cases hi : i < s.length
  · have hi' : (i : Int) < s.length := by omega
    obtain ⟨c, hc⟩ : ∃ c, s[i]? = some c := ⟨_, List.getElem?_eq_getElem hi⟩
    have hw : IntKind.i64.wrap ((i : Int) + 1) = i + 1 := wrap_i64 (by omega) (by omega)
    have ha : (0 : Int) ≤ (i : Int) + 1 := by omega
    have hb' : ((i : Int) + 1).toNat = i + 1 := by omega
    rw [drop_at7 hc] at hub
    have hlim : D.length + 1 ≤ strLim := by unfold strLim; omega
    by_cases hz : c = 0
    · subst hz
      have e0 : ((0 : UInt8).toNat : Int) = 0 := rfl
      by_cases hi2 : i + 1 < s.length
      · obtain ⟨d, hd⟩ : ∃ c, s[i + 1]? = some c := ⟨_, List.getElem?_eq_getElem hi2⟩
        rw [drop_at7 hd] at hub
        have n1 : ((i : Int) + 1 == s.length) = false := by simp; omega
        have hw2 : IntKind.i64.wrap ((i : Int) + 1 + 1) = i + 2 := by rw [wrap_i64] <;> omega
        by_cases d0 : d = 0
        · subst d0
          rw [ub_00] at hub
          have hU := fun m => ref_Right r3 D (by omega) j (by omega) m
          obtain ⟨g, hg⟩ : ∃ g, (signs D).isSome = g := ⟨_, rfl⟩
          rw [hg] at hU
          rcases hc0 with rfl | rfl
          · have e3 : ((3 : UInt8).toNat : Int) = 3 := rfl
            have z3 : IntKind.i64.wrap 3 = 3 := rfl
            cases g with
            | false =>
              have hfin : finT 3 X = rdT 0 0 [] 0 5 := by rw [← hub]; unfold finT; rw [if_neg (by simp), if_pos ⟨rfl, hg⟩]
              simp [Fn.f_haulageref07_Read_b0, Fn.f_haulageref07_Read_s0, hi', hc, hw, bne, n1, hd, ha, hb', e0, h0, e3, hU, hm0, hm1]
              exact RbOut.mk 0 0 [] 0 5 hfin (by rw [get_set hm0]) rfl rfl rfl
            | true =>
              by_cases hl : 120 < D.length
              · have hl' : (120 : Int) < D.length := by omega
                have hfin : finT 3 X = rdT 0 0 [] 0 3 := by rw [← hub]; unfold finT; rw [if_neg (by simp), if_neg (by rw [hg]; simp), if_pos hl]
                simp [Fn.f_haulageref07_Read_b0, Fn.f_haulageref07_Read_s0, hi', hc, hw, bne, n1, hd, ha, hb', e0, h0, e3, hU, hm0, hm1, hl']
                exact RbOut.mk 0 0 [] 0 3 hfin (by rw [get_set hm0]) rfl rfl rfl
              · have hl' : ¬ (120 : Int) < D.length := by omega
                have hfin : finT 3 X = rdT 3 0 D (i + 2) 0 := by rw [← hub]; unfold finT; rw [if_neg (by simp), if_neg (by rw [hg]; simp), if_neg hl]; rfl
                simp [Fn.f_haulageref07_Read_b0, Fn.f_haulageref07_Read_s0, hi', hc, hw, hw2, bne, n1, hd, ha, hb', e0, h0, e3, z3, hU, hm0, hm1, hl']
                exact RbOut.mk 3 0 D (i + 2) 0 hfin (by rw [get_set hm0]) rfl rfl rfl
          · have e3 : ((4 : UInt8).toNat : Int) = 4 := rfl
            have z3 : IntKind.i64.wrap 4 = 4 := rfl
            by_cases hl : 120 < D.length
            · have hl' : (120 : Int) < D.length := by omega
              have hfin : finT 4 X = rdT 0 0 [] 0 3 := by rw [← hub]; unfold finT; rw [if_neg (by simp), if_neg (fun h => absurd h.1 (by decide)), if_pos hl]
              simp [Fn.f_haulageref07_Read_b0, Fn.f_haulageref07_Read_s0, hi', hc, hw, bne, n1, hd, ha, hb', e0, h0, e3, hU, hm0, hm1, hl']
              exact RbOut.mk 0 0 [] 0 3 hfin (by rw [get_set hm0]) rfl rfl rfl
            · have hl' : ¬ (120 : Int) < D.length := by omega
              have hfin : finT 4 X = rdT 4 0 D (i + 2) 0 := by rw [← hub]; unfold finT; rw [if_neg (by simp), if_neg (fun h => absurd h.1 (by decide)), if_neg hl]; rfl
              simp [Fn.f_haulageref07_Read_b0, Fn.f_haulageref07_Read_s0, hi', hc, hw, hw2, bne, n1, hd, ha, hb', e0, h0, e3, z3, hU, hm0, hm1, hl']
              exact RbOut.mk 4 0 D (i + 2) 0 hfin (by rw [get_set hm0]) rfl rfl rfl
        · have g0 := nat_beq0 d0
          by_cases d1 : d = 255
          · subst d1
            have e255 : ((255 : UInt8).toNat : Int) = 255 := rfl
            rw [ub_ff] at hub
            simp [Fn.f_haulageref07_Read_b0, Fn.f_haulageref07_Read_s0, hi', hc, hw, hw2, bne, n1, hd, ha, hb', e0, e255, hlim]
            exact ⟨i + 2, by omega, RbInv.mk (D ++ [0]) m (by omega) (by simp; omega) (by rw [hX]; exact hub) hm0 hm1 ⟨rfl, rfl, rfl, rfl⟩⟩
          · have g1 := nat_beq255 d1
            rw [ub_x d0 d1] at hub
            have hfin : finT c0 X = rdT 0 0 [] 0 5 := by rw [← hub]; unfold finT; rw [if_pos (by simp)]
            simp [Fn.f_haulageref07_Read_b0, Fn.f_haulageref07_Read_s0, hi', hc, hw, bne, n1, hd, ha, hb', e0, g0, g1, hm0, hm1]
            exact RbOut.mk 0 0 [] 0 5 hfin (by rw [get_set hm0]) rfl rfl rfl
      · have hl : i + 1 = s.length := by omega
        rw [List.drop_eq_nil_of_le (by omega), ub_1] at hub
        have n1 : ((i : Int) + 1 == s.length) = true := by simp; omega
        have hfin : finT c0 X = rdT 0 0 [] 0 4 := by rw [← hub]; unfold finT; rw [if_pos (by simp)]
        simp [Fn.f_haulageref07_Read_b0, Fn.f_haulageref07_Read_s0, hi', hc, hw, bne, n1, e0, hm0, hm1]
        exact RbOut.mk 0 0 [] 0 4 hfin (by rw [get_set hm0]) rfl rfl rfl
    · have g := nat_beq0 hz
      rw [ub_c hz] at hub
      have hcut : (s.take (i + 1)).drop i = [c] := by
        rw [take_last hc, List.drop_append_of_le_length (by rw [List.length_take]; omega), List.drop_eq_nil_of_le (by rw [List.length_take]; omega), List.nil_append]
      have hj' : i + 1 ≤ s.length := hi
      simp [Fn.f_haulageref07_Read_b0, Fn.f_haulageref07_Read_s0, hi', hc, hw, bne, g, ha, hb', bounds, asNat, asInt, hj', hcut, hlim]
      exact ⟨i + 1, by omega, RbInv.mk (D ++ [c]) m (by omega) (by simp; omega) (by rw [hX]; exact hub) hm0 hm1 ⟨rfl, rfl, rfl, rfl⟩⟩
  · have hi' : ¬ (i : Int) < s.length := by omega
    rw [List.drop_eq_nil_of_le (by omega), ub_nil] at hub
    rw [← hub]
    simp [Fn.f_haulageref07_Read_b0, Fn.f_haulageref07_Read_s0, hi', z3c, hm0, hm1]
end Hx

namespace Hx
open Go
set_option linter.unusedSimpArgs false
set_option linter.unusedVariables false
set_option maxHeartbeats 4000000
variable {E : Env}
attribute [-simp] List.getD_eq_getElem?_getD getElem?_pos
theorem ref_Read7 (u : B07 E) (r3 : R03 E) (k : Nat) (s : List UInt8) (hs : (s.length : Int) ≤ 1000000000) (hk : s.length + 21 ≤ k) (m : Mem) : denF E (k + 1) 109 [.p (.str s)] m = some (.ret (readK s), m) := by
  refine denF_wp u.rread rfl (args' := [.p (.str s)]) rfl ?_
  obtain ⟨j, rfl⟩ : ∃ j, k = j + 1 := ⟨k - 1, by omega⟩
  cases s with
  | nil => simp [Fn.f_haulageref07_Read, readK, rdT]
  | cons c r =>
    have hN4 := fun m => ref_num4 u j (by omega) (c :: r) (by omega) m
    have hN8 := fun m => ref_num8 u j (by omega) (c :: r) (by omega) m
    have ht : (c :: r).tail = r := rfl
    rw [ht] at hN4 hN8
    unfold readK
    dsimp only
    by_cases c0 : c = 0
    · subst c0
      simp [Fn.f_haulageref07_Read, rdT]
    rw [if_neg c0]
    have g0 := nat_beq0 c0
    by_cases c1 : c = 1
    · subst c1
      rw [if_pos rfl]
      have e1 : ((1 : UInt8).toNat : Int) = 1 := rfl
      by_cases hlen : (1 :: r).length ≤ 4
      · rw [if_pos hlen] at hN4 ⊢
        unfold rdT at *
        simp [Fn.f_haulageref07_Read, e1, hN4]
      · rw [if_neg hlen] at hN4 ⊢
        unfold rdT at *
        generalize ((ofBe (r.take 4) : Int) - 2147483648) = X at *
        simp [Fn.f_haulageref07_Read, e1, hN4]
    rw [if_neg c1]
    have g1 : ((c.toNat : Int) == 1) = false := by
      have := mt (u8_lit 1 (by omega)).2 c1
      simpa using this
    by_cases c2 : c = 2
    · subst c2
      rw [if_pos rfl]
      have e1 : ((2 : UInt8).toNat : Int) = 2 := rfl
      by_cases hlen : (2 :: r).length ≤ 8
      · rw [if_pos hlen] at hN8 ⊢
        unfold rdT at *
        simp [Fn.f_haulageref07_Read, e1, hN8]
      · rw [if_neg hlen] at hN8 ⊢
        unfold rdT at *
        generalize ((ofBe (r.take 8) : Int) - 9223372036854775808) = X at *
        simp [Fn.f_haulageref07_Read, e1, hN8]
    rw [if_neg c2]
    have g2 : ((c.toNat : Int) == 2) = false := by
      have := mt (u8_lit 2 (by omega)).2 c2
      simpa using this
    by_cases c34 : c = 3 ∨ c = 4
    · rw [if_pos c34]
      have g4 : ¬ (4 : Int) < c.toNat := by rcases c34 with rfl | rfl <;> decide
      have hl := fun M h1 h2 st hst => rb_loop (E := E) r3 (j + 1) (c :: r) c rfl c34 hs (by omega) M h1 h2 st hst (by simp)
      have hdr : (c :: r).drop 1 = r := rfl
      rw [hdr] at hl
      generalize hFF : finT c (ub [] 1 r) = F at *
      obtain ⟨k0, n0, t0', s0, e0, hF0⟩ : ∃ (k n : Int) (t : List UInt8) (size e : Int), F = rdT k n t size e := by
        rw [← hFF]
        unfold finT
        split
        · exact ⟨_, _, _, _, _, rfl⟩
        split
        · exact ⟨_, _, _, _, _, rfl⟩
        split
        · exact ⟨_, _, _, _, _, rfl⟩
        · exact ⟨_, _, _, _, _, rfl⟩
      simp [Fn.f_haulageref07_Read, g0, g1, g2, g4]
      refine (hl _ rfl rfl _ ⟨rfl, rfl, rfl, rfl⟩).mono ?_
      rintro e st ⟨q0, h⟩
      obtain ⟨ts, m', ds⟩ := st
      simp only at q0 h
      subst q0
      rcases h with ⟨rfl, hx, q1, q2, q3, q4, q5⟩ | ⟨rfl, hout⟩
      · have hF4 : F = rdT 0 0 [] 0 4 := by rw [← hFF, hx]; unfold finT; rw [if_pos (by simp)]
        unfold z3c at q2 q3
        match ts, q1, q4, q5 with
        | t0 :: t1 :: t2 :: t3 :: t4 :: t5 :: t6 :: t7 :: t8 :: t9 :: t10 :: t11 :: t12 :: t13 :: t14 :: t15 :: t16 :: t17 :: t18 :: t19 :: t20 :: t21 :: t22 :: t23 :: t24 :: t25 :: t26 :: t27 :: t28 :: t29 :: t30 :: t31 :: t32 :: t33 :: t34 :: t35 :: t36 :: t37 :: t38 :: t39 :: t40 :: t41 :: t42 :: t43 :: t44 :: t45 :: t46 :: t47 :: t48 :: t49 :: t50 :: t51 :: t52 :: t53 :: t54 :: t55 :: t56 :: t57 :: t58 :: t59 :: t60 :: t61 :: t62 :: t63 :: t64 :: t65 :: t66 :: t67 :: t68 :: t69 :: t70 :: t71 :: t72 :: t73 :: t74 :: t75 :: t76 :: t77 :: t78 :: t79 :: t80 :: t81 :: t82 :: t83 :: t84 :: t85 :: t86 :: t87 :: t88 :: t89 :: t90 :: t91 :: [], q1, q4, q5 =>
          simp only [getD_zero', getD_succ'] at q4 q5
          subst q4 q5
          rw [hF4]
          have q6 : ∀ x, (m'.set 0 x)[0]? = some x := fun x => get_set q2 x
          simp [q2, q3, q6, rdT]
      · obtain ⟨k1, n1, t1, s1, e1, p1, p2, p3, p4, p5⟩ := hout
        rw [hFF] at p1
        rw [p1]
        simp only at p2 p3 p4 p5
        simp [p2, p3, p4, p5, rdT]
    · rw [if_neg c34]
      have g4 : (4 : Int) < c.toNat := by
        have n0 := mt (u8_lit (c := c) 0 (by omega)).2 c0
        have n1 := mt (u8_lit (c := c) 1 (by omega)).2 c1
        have n2 := mt (u8_lit (c := c) 2 (by omega)).2 c2
        have n3 := mt (u8_lit (c := c) 3 (by omega)).2 (fun h => c34 (.inl h))
        have n4 := mt (u8_lit (c := c) 4 (by omega)).2 (fun h => c34 (.inr h))
        omega
      simp [Fn.f_haulageref07_Read, g4, rdT]
/-! ### all values of a text -/
def rdE : AV → Int
  | .tup [_, _, .p (.int _ e)] => e
  | _ => 0
def rdS : AV → Int
  | .tup [_, .p (.int _ n), _] => n
  | _ => 0
def rdV : AV → Int × Int × List UInt8
  | .tup [.p (.agg [.int _ k, .int _ n, .str t]), _, _] => (k, n, t)
  | _ => (0, 0, [])
theorem ub_size : ∀ (n : Nat) (r D : List UInt8) (p : Nat), r.length ≤ n → (ub D p r).2.2 = 0 → (p : Int) + 2 ≤ (ub D p r).2.1 ∧ (ub D p r).2.1 ≤ p + r.length := by
  intro n
  induction n with
  | zero =>
    intro r D p h he
    have : r = [] := List.length_eq_zero_iff.1 (by omega)
    subst this
    rw [ub_nil] at he
    cases he
  | succ n ih =>
    intro r D p h he
    cases r with
    | nil => rw [ub_nil] at he; cases he
    | cons c r =>
      by_cases h0 : c = 0
      · subst h0
        cases r with
        | nil => rw [ub_1] at he; cases he
        | cons d r =>
          by_cases d0 : d = 0
          · subst d0
            rw [ub_00]
            simp only [List.length_cons]
            omega
          · by_cases d1 : d = 255
            · subst d1
              rw [ub_ff] at he ⊢
              have := ih r (D ++ [0]) (p + 2) (by simp at h; omega) he
              simp only [List.length_cons]
              omega
            · rw [ub_x d0 d1] at he
              cases he
      · rw [ub_c h0] at he ⊢
        have := ih r (D ++ [c]) (p + 1) (by simp at h; omega) he
        simp only [List.length_cons]
        omega
theorem readK_form (s : List UInt8) (h : s ≠ []) : ∃ (k n : Int) (t : List UInt8) (size e : Int), readK s = rdT k n t size e ∧ (e = 0 → 1 ≤ size ∧ size ≤ s.length) := by
  cases s with
  | nil => exact absurd rfl h
  | cons c r =>
    unfold readK
    dsimp only
    split
    · exact ⟨_, _, _, _, _, rfl, fun _ => by simp only [List.length_cons]; omega⟩
    split
    · split
      · exact ⟨_, _, _, _, _, rfl, fun h => by omega⟩
      · exact ⟨_, _, _, _, _, rfl, fun _ => by omega⟩
    split
    · split
      · exact ⟨_, _, _, _, _, rfl, fun h => by omega⟩
      · exact ⟨_, _, _, _, _, rfl, fun _ => by omega⟩
    split
    · have hsz := ub_size _ r [] 1 (Nat.le_refl _)
      unfold finT
      split
      · exact ⟨_, _, _, _, _, rfl, fun h => absurd h (by assumption)⟩
      split
      · exact ⟨_, _, _, _, _, rfl, fun h => by omega⟩
      split
      · exact ⟨_, _, _, _, _, rfl, fun h => by omega⟩
      · rename_i hne _ _
        have := hsz (by simpa using hne)
        exact ⟨_, _, _, _, _, rfl, fun _ => by simp only [List.length_cons]; omega⟩
    · exact ⟨_, _, _, _, _, rfl, fun h => by omega⟩
def allF : Nat → List UInt8 → List (Int × Int × List UInt8) → List (Int × Int × List UInt8) × Int
  | 0, _, acc => (acc, 0)
  | f + 1, s, acc => if s = [] then (acc, 0) else if rdE (readK s) ≠ 0 then ([], rdE (readK s)) else allF f (s.drop (rdS (readK s)).toNat) (acc ++ [rdV (readK s)])
theorem allF_more : ∀ (f g : Nat) (s : List UInt8) (acc : List (Int × Int × List UInt8)), s.length ≤ f → s.length ≤ g → allF f s acc = allF g s acc := by
  intro f
  induction f with
  | zero =>
    intro g s acc h _
    have : s = [] := List.length_eq_zero_iff.1 (by omega)
    subst this
    cases g with
    | zero => rfl
    | succ g => rw [allF, allF, if_pos rfl]
  | succ f ih =>
    intro g s acc h h2
    cases g with
    | zero =>
      have : s = [] := List.length_eq_zero_iff.1 (by omega)
      subst this
      rw [allF, allF, if_pos rfl]
    | succ g =>
      rw [allF, allF]
      by_cases hs : s = []
      · rw [if_pos hs, if_pos hs]
      · rw [if_neg hs, if_neg hs]
        obtain ⟨k, n, t, size, e, hr, hsz⟩ := readK_form s hs
        rw [hr]
        have e1 : rdE (rdT k n t size e) = e := rfl
        have e2 : rdS (rdT k n t size e) = size := rfl
        rw [e1, e2]
        by_cases he : e = 0
        · rw [if_neg (by simpa using he), if_neg (by simpa using he)]
          have := hsz he
          exact ih g _ _ (by rw [List.length_drop]; omega) (by rw [List.length_drop]; omega)
        · rw [if_pos he, if_pos he]
def allK (s : List UInt8) (acc : List (Int × Int × List UInt8)) : List (Int × Int × List UInt8) × Int := allF s.length s acc
theorem allK_step {s : List UInt8} (hs : s ≠ []) (acc : List (Int × Int × List UInt8)) {k n : Int} {t : List UInt8} {size e : Int} (hr : readK s = rdT k n t size e) (hsz : e = 0 → 1 ≤ size ∧ size ≤ s.length) :
    allK s acc = if e ≠ 0 then ([], e) else allK (s.drop size.toNat) (acc ++ [(k, n, t)]) := by
  unfold allK
  obtain ⟨f, hf⟩ : ∃ f, s.length = f + 1 := ⟨s.length - 1, by cases s with | nil => exact absurd rfl hs | cons => simp⟩
  rw [hf, allF, if_neg hs, hr]
  have e1 : rdE (rdT k n t size e) = e := rfl
  have e2 : rdS (rdT k n t size e) = size := rfl
  have e3 : rdV (rdT k n t size e) = (k, n, t) := rfl
  rw [e1, e2, e3]
  by_cases he : e = 0
  · rw [if_neg (by simpa using he), if_neg (by simpa using he)]
    have := hsz he
    exact allF_more _ _ _ _ (by rw [List.length_drop]; omega) (Nat.le_refl _)
  · rw [if_pos he, if_pos he]
theorem allK_nil (acc : List (Int × Int × List UInt8)) : allK [] acc = (acc, 0) := rfl
def allT (x : List (Int × Int × List UInt8) × Int) : AV := .tup [.p (slP 3 (x.1.map rowV)), .p (.int .i64 x.2)]
def sk_AllInv (X : List (Int × Int × List UInt8) × Int) (n : Nat) (st : St) : Prop := ∃ (s : List UInt8) (acc : List (Int × Int × List UInt8)) (ov : AV) (m : Mem), s.length = n ∧ allK s acc = X ∧ acc.length + s.length ≤ 100000 ∧ Grow 3 (acc.map rowV) ov m ∧
  Live Fn.f_sortkey_All_k0 (Fn.f_sortkey_All_s0 (.p (.str s)) ov) m st
theorem sk_AllInv.mk {X : List (Int × Int × List UInt8) × Int} {n : Nat} {st : St} (s : List UInt8) (acc : List (Int × Int × List UInt8)) (ov : AV) (m : Mem) (h1 : s.length = n) (h2 : allK s acc = X) (h3 : acc.length + s.length ≤ 100000) (h4 : Grow 3 (acc.map rowV) ov m)
  (h5 : Live Fn.f_sortkey_All_k0 (Fn.f_sortkey_All_s0 (.p (.str s)) ov) m st) : sk_AllInv X n st := ⟨s, acc, ov, m, h1, h2, h3, h4, h5⟩
theorem sk_All (u : B07 E) (r3 : R03 E) (k : Nat) (s0 : List UInt8) (hs0 : s0.length ≤ 10000) (hk : s0.length + 23 ≤ k) (m : Mem) : denF E (k + 1) 110 [.p (.str s0)] m = some (.ret (allT (allK s0 [])), m) := by
  refine denF_wp u.all rfl (args' := [.p (.str s0)]) rfl ?_
  obtain ⟨j, rfl⟩ : ∃ j, k = j + 1 := ⟨k - 1, by omega⟩
  generalize hX : allK s0 [] = X at *
  simp [Fn.f_sortkey_All]
  refine (loop_wp (α := Nat) (I := fun n st => n ≤ s0.length ∧ sk_AllInv X n st) (meas := fun n => n)
    (Q := fun e st => st.ds = [] ∧ ((e = .exit 0 ∧ st.ts.length = 27 ∧ X.2 = 0 ∧ ∃ ov, st.ts.getD 4 (.tup []) = ov ∧ Grow 3 (X.1.map rowV) ov st.m) ∨ (e = .ret ∧ X.1 = [] ∧ st.ts.getD 2 (.tup []) = .p .nils ∧ st.ts.getD 3 (.tup []) = .p (.int .i64 X.2)))) ?_ (j + 1) s0.length _ ⟨Nat.le_refl _, sk_AllInv.mk s0 [] (.p .nils) [] rfl hX (by simp; omega) (.inl ⟨rfl, rfl⟩) ⟨rfl, rfl, rfl, rfl⟩⟩ (by omega)).mono ?_
  · rintro n st ⟨hn, s, acc, ov, m, hsn, hall, hlen, hg, hlive⟩
    rw [loopF_live hlive]
    by_cases hs : s = []
    · subst hs
      rw [allK_nil] at hall
      have h1 : X.1 = acc := by rw [← hall]
      have h2 : X.2 = 0 := by rw [← hall]
      rw [h1]
      simp [Fn.f_sortkey_All_b0, Fn.f_sortkey_All_s0, bne, h2]
      exact hg
    · have hne : (s == []) = false := by simpa using hs
      obtain ⟨a, b, t, size, e, hr, hsz⟩ := readK_form s hs
      have hst := allK_step hs acc hr hsz
      rw [hall] at hst
      have hR := fun m => sk_Read u r3 j s (by omega) (by omega) m
      rw [hr] at hR
      unfold rdT at hR
      have hnew := get_new (m := m) (x := .cells [.p (.int .i64 0), .p (.int .i64 0), .p (.str [])])
      have hset : (m ++ [Blk.cells [.p (.int .i64 0), .p (.int .i64 0), .p (.str [])]]).set m.length (.cells [.p (.int .i64 a), .p (.int .i64 b), .p (.str t)]) = m ++ [.cells [.p (.int .i64 a), .p (.int .i64 b), .p (.str t)]] := by
        rw [List.set_append_right _ _ (Nat.le_refl _), Nat.sub_self]
        rfl
      have hnew2 := get_new (m := m) (x := .cells [.p (.int .i64 a), .p (.int .i64 b), .p (.str t)])
      by_cases he : e = 0
      · subst he
        rw [if_neg (by simp)] at hst
        obtain ⟨z1, z2⟩ := hsz rfl
        obtain ⟨zn, hzn⟩ : ∃ zn : Nat, size = zn := ⟨size.toNat, by omega⟩
        subst hzn
        rw [Int.toNat_natCast] at hst
        have hzl : zn ≤ s.length := by omega
        have hmap : (acc ++ [(a, b, t)]).map rowV = acc.map rowV ++ [[.int .i64 a, .int .i64 b, .str t]] := by simp [rowV]
        have hb1 : (acc.length + 1) * 32 ≤ room := by unfold room; omega
        have hb2 : acc.length + 1 ≤ room := by unfold room; omega
        rcases hg with ⟨hr0, rfl⟩ | ⟨hr0, q, rfl, ht⟩
        · have : acc = [] := by simpa using hr0
          subst this
          simp [Fn.f_sortkey_All_b0, Fn.f_sortkey_All_s0, bne, hne, hR, hnew, hset, hnew2, bounds, asNat, asInt, hzl, room]
          refine ⟨(s.drop zn).length, by rw [List.length_drop]; omega, by rw [List.length_drop]; omega, sk_AllInv.mk (s.drop zn) [(a, b, t)] (.tv 3 ([(a, b, t)].map rowV) (m.length + 2)) _ rfl hst.symm (by rw [List.length_drop]; simp; omega) (.inr ⟨by simp, m.length + 2, rfl, by rw [List.getElem?_append_right (by omega)]; simp⟩) ⟨rfl, by simp [keep, Fn.f_sortkey_All_k0, Fn.f_sortkey_All_s0, rowV], rfl, rfl⟩⟩
        · have ht2 : ∀ l, (m ++ l)[q]? = some (.tok 3 acc.length) := fun l => by rw [get_app ht, List.length_map]
          have hml : (acc.map rowV).length = acc.length := List.length_map _
          simp [Fn.f_sortkey_All_b0, Fn.f_sortkey_All_s0, bne, hne, hR, hnew, hset, hnew2, bounds, asNat, asInt, hzl, hb1, hb2, ht2, hml]
          refine ⟨(s.drop zn).length, by rw [List.length_drop]; omega, by rw [List.length_drop]; omega, sk_AllInv.mk (s.drop zn) (acc ++ [(a, b, t)]) (.tv 3 ((acc ++ [(a, b, t)]).map rowV) q) _ rfl hst.symm (by rw [List.length_drop]; simp; omega) (.inr ⟨by rw [hmap]; simp, q, rfl, by rw [get_set (ht2 _)]; simp⟩) ⟨rfl, by simp [keep, Fn.f_sortkey_All_k0, Fn.f_sortkey_All_s0, rowV], rfl, rfl⟩⟩
      · rw [if_pos he] at hst
        have he' : (e == 0) = false := by simpa using he
        have h1 : X.1 = [] := by rw [hst]
        have h2 : X.2 = e := by rw [hst]
        simp [Fn.f_sortkey_All_b0, Fn.f_sortkey_All_s0, bne, hne, hR, hnew, hset, hnew2, he', h1, h2]
  · rintro e st ⟨h0, h⟩
    obtain ⟨ts, m', ds⟩ := st
    simp only at h0 h
    subst h0
    unfold allT
    rcases h with ⟨rfl, h1, h2, ov, h3, hg⟩ | ⟨rfl, h1, h2, h3⟩
    · rw [h2]
      match ts, h1, h3 with
      | t0 :: t1 :: t2 :: t3 :: t4 :: t5 :: t6 :: t7 :: t8 :: t9 :: t10 :: t11 :: t12 :: t13 :: t14 :: t15 :: t16 :: t17 :: t18 :: t19 :: t20 :: t21 :: t22 :: t23 :: t24 :: t25 :: t26 :: [], h1, h3 =>
        simp only [getD_zero', getD_succ'] at h3
        subst h3
        have hsr := grow_stripR hg
        rcases hg with ⟨hr0, rfl⟩ | ⟨hr0, q, rfl, ht⟩
        · rw [hr0]
          simp [slP]
        · have : slP 3 (X.1.map rowV) = .vals 3 (X.1.map rowV) := by
            cases hq : X.1.map rowV with
            | nil => exact absurd hq hr0
            | cons => rfl
          rw [this]
          simp
    · rw [h1]
      simp [h2, h3, slP]
def ref_All7Inv (X : List (Int × Int × List UInt8) × Int) (n : Nat) (st : St) : Prop := ∃ (s : List UInt8) (acc : List (Int × Int × List UInt8)) (ov : AV) (m : Mem), s.length = n ∧ allK s acc = X ∧ acc.length + s.length ≤ 100000 ∧ Grow 3 (acc.map rowV) ov m ∧
  Live Fn.f_haulageref07_All_k0 (Fn.f_haulageref07_All_s0 (.p (.str s)) ov) m st
theorem ref_All7Inv.mk {X : List (Int × Int × List UInt8) × Int} {n : Nat} {st : St} (s : List UInt8) (acc : List (Int × Int × List UInt8)) (ov : AV) (m : Mem) (h1 : s.length = n) (h2 : allK s acc = X) (h3 : acc.length + s.length ≤ 100000) (h4 : Grow 3 (acc.map rowV) ov m)
  (h5 : Live Fn.f_haulageref07_All_k0 (Fn.f_haulageref07_All_s0 (.p (.str s)) ov) m st) : ref_All7Inv X n st := ⟨s, acc, ov, m, h1, h2, h3, h4, h5⟩
theorem ref_All7 (u : B07 E) (r3 : R03 E) (k : Nat) (s0 : List UInt8) (hs0 : s0.length ≤ 10000) (hk : s0.length + 23 ≤ k) (m : Mem) : denF E (k + 1) 111 [.p (.str s0)] m = some (.ret (allT (allK s0 [])), m) := by
  refine denF_wp u.rall rfl (args' := [.p (.str s0)]) rfl ?_
  obtain ⟨j, rfl⟩ : ∃ j, k = j + 1 := ⟨k - 1, by omega⟩
  generalize hX : allK s0 [] = X at *
  simp [Fn.f_haulageref07_All]
  refine (loop_wp (α := Nat) (I := fun n st => n ≤ s0.length ∧ ref_All7Inv X n st) (meas := fun n => n)
    (Q := fun e st => st.ds = [] ∧ ((e = .exit 0 ∧ st.ts.length = 27 ∧ X.2 = 0 ∧ ∃ ov, st.ts.getD 4 (.tup []) = ov ∧ Grow 3 (X.1.map rowV) ov st.m) ∨ (e = .ret ∧ X.1 = [] ∧ st.ts.getD 2 (.tup []) = .p .nils ∧ st.ts.getD 3 (.tup []) = .p (.int .i64 X.2)))) ?_ (j + 1) s0.length _ ⟨Nat.le_refl _, ref_All7Inv.mk s0 [] (.p .nils) [] rfl hX (by simp; omega) (.inl ⟨rfl, rfl⟩) ⟨rfl, rfl, rfl, rfl⟩⟩ (by omega)).mono ?_
  · rintro n st ⟨hn, s, acc, ov, m, hsn, hall, hlen, hg, hlive⟩
    rw [loopF_live hlive]
    by_cases hs : s = []
    · subst hs
      rw [allK_nil] at hall
      have h1 : X.1 = acc := by rw [← hall]
      have h2 : X.2 = 0 := by rw [← hall]
      rw [h1]
      simp [Fn.f_haulageref07_All_b0, Fn.f_haulageref07_All_s0, bne, h2]
      exact hg
    · have hne : (s == []) = false := by simpa using hs
      obtain ⟨a, b, t, size, e, hr, hsz⟩ := readK_form s hs
      have hst := allK_step hs acc hr hsz
      rw [hall] at hst
      have hR := fun m => ref_Read7 u r3 j s (by omega) (by omega) m
      rw [hr] at hR
      unfold rdT at hR
      have hnew := get_new (m := m) (x := .cells [.p (.int .i64 0), .p (.int .i64 0), .p (.str [])])
      have hset : (m ++ [Blk.cells [.p (.int .i64 0), .p (.int .i64 0), .p (.str [])]]).set m.length (.cells [.p (.int .i64 a), .p (.int .i64 b), .p (.str t)]) = m ++ [.cells [.p (.int .i64 a), .p (.int .i64 b), .p (.str t)]] := by
        rw [List.set_append_right _ _ (Nat.le_refl _), Nat.sub_self]
        rfl
      have hnew2 := get_new (m := m) (x := .cells [.p (.int .i64 a), .p (.int .i64 b), .p (.str t)])
      by_cases he : e = 0
      · subst he
        rw [if_neg (by simp)] at hst
        obtain ⟨z1, z2⟩ := hsz rfl
        obtain ⟨zn, hzn⟩ : ∃ zn : Nat, size = zn := ⟨size.toNat, by omega⟩
        subst hzn
        rw [Int.toNat_natCast] at hst
        have hzl : zn ≤ s.length := by omega
        have hmap : (acc ++ [(a, b, t)]).map rowV = acc.map rowV ++ [[.int .i64 a, .int .i64 b, .str t]] := by simp [rowV]
        have hb1 : (acc.length + 1) * 32 ≤ room := by unfold room; omega
        have hb2 : acc.length + 1 ≤ room := by unfold room; omega
        rcases hg with ⟨hr0, rfl⟩ | ⟨hr0, q, rfl, ht⟩
        · have : acc = [] := by simpa using hr0
          subst this
          simp [Fn.f_haulageref07_All_b0, Fn.f_haulageref07_All_s0, bne, hne, hR, hnew, hset, hnew2, bounds, asNat, asInt, hzl, room]
          refine ⟨(s.drop zn).length, by rw [List.length_drop]; omega, by rw [List.length_drop]; omega, ref_All7Inv.mk (s.drop zn) [(a, b, t)] (.tv 3 ([(a, b, t)].map rowV) (m.length + 2)) _ rfl hst.symm (by rw [List.length_drop]; simp; omega) (.inr ⟨by simp, m.length + 2, rfl, by rw [List.getElem?_append_right (by omega)]; simp⟩) ⟨rfl, by simp [keep, Fn.f_haulageref07_All_k0, Fn.f_haulageref07_All_s0, rowV], rfl, rfl⟩⟩
        · have ht2 : ∀ l, (m ++ l)[q]? = some (.tok 3 acc.length) := fun l => by rw [get_app ht, List.length_map]
          have hml : (acc.map rowV).length = acc.length := List.length_map _
          simp [Fn.f_haulageref07_All_b0, Fn.f_haulageref07_All_s0, bne, hne, hR, hnew, hset, hnew2, bounds, asNat, asInt, hzl, hb1, hb2, ht2, hml]
          refine ⟨(s.drop zn).length, by rw [List.length_drop]; omega, by rw [List.length_drop]; omega, ref_All7Inv.mk (s.drop zn) (acc ++ [(a, b, t)]) (.tv 3 ((acc ++ [(a, b, t)]).map rowV) q) _ rfl hst.symm (by rw [List.length_drop]; simp; omega) (.inr ⟨by rw [hmap]; simp, q, rfl, by rw [get_set (ht2 _)]; simp⟩) ⟨rfl, by simp [keep, Fn.f_haulageref07_All_k0, Fn.f_haulageref07_All_s0, rowV], rfl, rfl⟩⟩
      · rw [if_pos he] at hst
        have he' : (e == 0) = false := by simpa using he
        have h1 : X.1 = [] := by rw [hst]
        have h2 : X.2 = e := by rw [hst]
        simp [Fn.f_haulageref07_All_b0, Fn.f_haulageref07_All_s0, bne, hne, hR, hnew, hset, hnew2, he', h1, h2]
  · rintro e st ⟨h0, h⟩
    obtain ⟨ts, m', ds⟩ := st
    simp only at h0 h
    subst h0
    unfold allT
    rcases h with ⟨rfl, h1, h2, ov, h3, hg⟩ | ⟨rfl, h1, h2, h3⟩
    · rw [h2]
      match ts, h1, h3 with
      | t0 :: t1 :: t2 :: t3 :: t4 :: t5 :: t6 :: t7 :: t8 :: t9 :: t10 :: t11 :: t12 :: t13 :: t14 :: t15 :: t16 :: t17 :: t18 :: t19 :: t20 :: t21 :: t22 :: t23 :: t24 :: t25 :: t26 :: [], h1, h3 =>
        simp only [getD_zero', getD_succ'] at h3
        subst h3
        have hsr := grow_stripR hg
        rcases hg with ⟨hr0, rfl⟩ | ⟨hr0, q, rfl, ht⟩
        · rw [hr0]
          simp [slP]
        · have : slP 3 (X.1.map rowV) = .vals 3 (X.1.map rowV) := by
            cases hq : X.1.map rowV with
            | nil => exact absurd hq hr0
            | cons => rfl
          rw [this]
          simp
    · rw [h1]
      simp [h2, h3, slP]
theorem ref_Same7 (u : B07 E) (v : PV) (l : List (Int × Int × List UInt8)) (hv : IsVals v l) (hl : l.length ≤ 100000) (k : Nat) (hk : l.length + 2 ≤ k) (m : Mem) : denF E (k + 1) 112 [.p v, .p v] m = some (.ret (.p (.bool true)), m) := by
  refine denF_wp u.rsame rfl (args' := [.p v, .p v]) rfl ?_
  have hlen := vals_len hv
  simp [Fn.f_haulageref07_Same, -lenV, hlen, bne]
  refine (loop_wp (α := Nat) (I := fun i st => i ≤ l.length ∧ Live Fn.f_haulageref07_Same_k0 (Fn.f_haulageref07_Same_s0 (.p v) (.p v) (.p (.int .i64 i))) [] st) (meas := fun i => l.length - i)
    (Q := fun e st => e = .exit 0 ∧ st.ds = [] ∧ st.ts.length = 26) ?_ k 0 _ ⟨Nat.zero_le _, rfl, rfl, rfl, rfl⟩ (by omega)).mono ?_
  · rintro i st ⟨hi0, hlive⟩
    rw [loopF_live hlive]
    by_cases hi : i < l.length
    · have hi' : (i : Int) < l.length := by omega
      obtain ⟨p, hp⟩ : ∃ n, l[i]? = some n := ⟨l[i], List.getElem?_eq_getElem hi⟩
      obtain ⟨rfl, hrow⟩ := vals_at hv hp
      have hw : IntKind.i64.wrap ((i : Int) + 1) = i + 1 := wrap_i64 (by omega) (by omega)
      have hlen' := hlen
      generalize hRR : l.map rowV = R at *
      simp [Fn.f_haulageref07_Same_b0, Fn.f_haulageref07_Same_s0, -lenV, hlen', hi', hrow, hw, eq_vP, bne]
      exact ⟨i + 1, by omega, by omega, rfl, rfl, rfl, rfl⟩
    · have hi' : ¬ (i : Int) < l.length := by omega
      simp [Fn.f_haulageref07_Same_b0, Fn.f_haulageref07_Same_s0, -lenV, hlen, hi']
  · rintro e st ⟨rfl, h1, h2⟩
    obtain ⟨ts, m', ds⟩ := st
    simp only at h1 h2
    match ts, h2 with
    | t0 :: t1 :: t2 :: t3 :: t4 :: t5 :: t6 :: t7 :: t8 :: t9 :: t10 :: t11 :: t12 :: t13 :: t14 :: t15 :: t16 :: t17 :: t18 :: t19 :: t20 :: t21 :: t22 :: t23 :: t24 :: t25 :: [], _ => simp [h1]
theorem isVals_sl (l : List (Int × Int × List UInt8)) : IsVals (slP 3 (l.map rowV)) l := by
  cases l with
  | nil => exact .inl ⟨rfl, rfl⟩
  | cons a r => exact .inr rfl
theorem allF_len : ∀ (f : Nat) (s : List UInt8) (acc : List (Int × Int × List UInt8)), s.length ≤ f → (allF f s acc).1.length ≤ acc.length + s.length := by
  intro f
  induction f with
  | zero => intro s acc h; rw [allF]; simp
  | succ f ih =>
    intro s acc h
    rw [allF]
    by_cases hs : s = []
    · rw [if_pos hs]; simp
    · rw [if_neg hs]
      obtain ⟨k, n, t, size, e, hr, hsz⟩ := readK_form s hs
      rw [hr]
      have e1 : rdE (rdT k n t size e) = e := rfl
      have e2 : rdS (rdT k n t size e) = size := rfl
      rw [e1, e2]
      by_cases he : e = 0
      · rw [if_neg (by simpa using he)]
        have := hsz he
        have := ih (s.drop size.toNat) (acc ++ [rdV (rdT k n t size e)]) (by rw [List.length_drop]; omega)
        rw [List.length_drop, List.length_append] at this
        simp only [List.length_cons, List.length_nil] at this
        omega
      · rw [if_pos he]; simp
theorem law_SortkeyReads (u : B07 E) (r3 : R03 E) (h : E.fn 224 = some Fn.f_haulagelaw07_SortkeyReads) (k : Nat) (hlv : ∀ m, denF E (k + 3999) 100 [] m = some (.ret (.p (.bool true)), m)) {x0 : PV} (c0 : Conf .str x0) (m : Mem) :
    denF E (k + 4000) 224 [.p x0] m = some (.ret (.p (.bool true)), m) := by
  simp only [Conf] at c0
  obtain ⟨s, rfl, _⟩ := c0
  rw [denF_pure h rfl]
  by_cases h1 : (500 : Int) < s.length
  · simp (maxSteps := 1000000) [Fn.f_haulagelaw07_SortkeyReads, hlv, h1]
  have hR := fun m => sk_Read u r3 (k + 3998) s (by omega) (by omega) m
  have hR' := fun m => ref_Read7 u r3 (k + 3998) s (by omega) (by omega) m
  have hA := fun m => sk_All u r3 (k + 3998) s (by omega) (by omega) m
  have hA' := fun m => ref_All7 u r3 (k + 3998) s (by omega) (by omega) m
  have hal := allF_len s.length s [] (Nat.le_refl _)
  have hal' : (allK s []).1.length ≤ s.length := by simpa [allK] using hal
  have hS := fun m => ref_Same7 u _ _ (isVals_sl (allK s []).1) (by omega) (k + 3998) (by omega) m
  obtain ⟨a, n, t, size, e, hr⟩ : ∃ (k n : Int) (t : List UInt8) (size e : Int), readK s = rdT k n t size e := by
    by_cases hs : s = []
    · subst hs; exact ⟨0, 0, [], 0, 4, rfl⟩
    · obtain ⟨k, n, t, size, e, hr, _⟩ := readK_form s hs
      exact ⟨k, n, t, size, e, hr⟩
  rw [hr] at hR hR'
  unfold rdT at hR hR'
  unfold allT at hA hA'
  generalize slP 3 ((allK s []).1.map rowV) = V at *
  generalize (allK s []).2 = W at *
  simp (maxSteps := 1000000) [Fn.f_haulagelaw07_SortkeyReads, hlv, h1, hR, hR', hA, hA', hS, eq_vP]
end Hx

namespace Hx
open Go
set_option linter.unusedSimpArgs false
set_option linter.unusedVariables false
set_option maxHeartbeats 8000000
set_option maxRecDepth 8000
variable {E : Env}
attribute [-simp] List.getD_eq_getElem?_getD getElem?_pos
theorem ub_esc : ∀ (s D x : List UInt8) (p : Nat), ub D p (esc s ++ 0 :: 0 :: x) = (D ++ s, (p : Int) + (esc s).length + 2, 0)
  | [], D, x, p => by
    have : esc [] = [] := rfl
    rw [this, List.nil_append, ub_00]
    simp
  | c :: s, D, x, p => by
    by_cases h : c = 0
    · subst h
      rw [esc_0, List.cons_append, List.cons_append, ub_ff, ub_esc s]
      simp only [List.append_assoc, List.singleton_append, List.length_cons, Prod.mk.injEq, true_and, and_true]
      omega
    · rw [esc_n h, List.cons_append, ub_c h, ub_esc s]
      simp only [List.append_assoc, List.singleton_append, List.length_cons, Prod.mk.injEq, true_and, and_true]
      omega
theorem read_key {k n : Int} {s : List UInt8} (h : rightV k n s = true) (hn : isI64 n) (x : List UInt8) : readK (keyOf k n s ++ x) = rdT k n s ((keyOf k n s).length) 0 := by
  rw [keyOf_eq]
  have i1 := hn.1
  have i2 := hn.2
  rcases rightV_kinds h with ⟨rfl, rfl, rfl⟩ | ⟨rfl, rfl, hk⟩ | ⟨rfl, rfl⟩ | ⟨rfl, rfl, hk⟩ | ⟨rfl, rfl, hk⟩
  · rfl
  · rw [keyTail_1]
    have hl := be_len 4 (n + 2147483648).toNat
    have ho := ofBe_be 4 (n + 2147483648).toNat
    rw [Nat.mod_eq_of_lt (by omega)] at ho
    generalize be 4 (n + 2147483648).toNat = B at *
    have c1 : UInt8.ofNat (1 : Int).toNat = 1 := rfl
    rw [c1]
    unfold readK
    dsimp only [List.cons_append]
    rw [if_neg (by decide), if_pos rfl, if_neg (by simp; omega)]
    have ht : (B ++ x).take 4 = B := by rw [← hl, List.take_left]
    rw [ht, ho]
    have e : (((n + 2147483648).toNat : Nat) : Int) - 2147483648 = n := by omega
    rw [e, List.length_cons, hl]
    rfl
  · rw [keyTail_2]
    have hl := be_len 8 (n + 9223372036854775808).toNat
    have ho := ofBe_be 8 (n + 9223372036854775808).toNat
    rw [Nat.mod_eq_of_lt (by omega)] at ho
    generalize be 8 (n + 9223372036854775808).toNat = B at *
    have c1 : UInt8.ofNat (2 : Int).toNat = 2 := rfl
    rw [c1]
    unfold readK
    dsimp only [List.cons_append]
    rw [if_neg (by decide), if_neg (by decide), if_pos rfl, if_neg (by simp; omega)]
    have ht : (B ++ x).take 8 = B := by rw [← hl, List.take_left]
    rw [ht, ho]
    have e : (((n + 9223372036854775808).toNat : Nat) : Int) - 9223372036854775808 = n := by omega
    rw [e, List.length_cons, hl]
    rfl
  · rw [keyTail_3]
    have c1 : UInt8.ofNat (3 : Int).toNat = 3 := rfl
    rw [c1]
    have e1 : esc s ++ [0, 0] ++ x = esc s ++ 0 :: 0 :: x := by simp
    unfold readK
    dsimp only [List.cons_append]
    rw [if_neg (by decide), if_neg (by decide), if_neg (by decide), if_pos (.inl rfl), e1, ub_esc]
    unfold finT
    rw [if_neg (by simp), if_neg (by simp [hk.2]), if_neg (by simp; omega)]
    simp only [List.nil_append, List.length_cons, List.length_append, List.length_nil]
    have e2 : ((1 : Nat) : Int) + (esc s).length + 2 = (((esc s).length + (0 + 1 + 1) + 1 : Nat) : Int) := by omega
    rw [e2]
    rfl
  · rw [keyTail_4]
    have c1 : UInt8.ofNat (4 : Int).toNat = 4 := rfl
    rw [c1]
    have e1 : esc s ++ [0, 0] ++ x = esc s ++ 0 :: 0 :: x := by simp
    unfold readK
    dsimp only [List.cons_append]
    rw [if_neg (by decide), if_neg (by decide), if_neg (by decide), if_pos (.inr rfl), e1, ub_esc]
    unfold finT
    rw [if_neg (by simp), if_neg (fun q => absurd q.1 (by decide)), if_neg (by simp; omega)]
    simp only [List.nil_append, List.length_cons, List.length_append, List.length_nil]
    have e2 : ((1 : Nat) : Int) + (esc s).length + 2 = (((esc s).length + (0 + 1 + 1) + 1 : Nat) : Int) := by omega
    rw [e2]
    rfl
theorem all_keys : ∀ (l acc : List (Int × Int × List UInt8)), l.all rightP = true → (∀ p ∈ l, isI64 p.2.1) → allK (keysOf l) acc = (acc ++ l, 0)
  | [], acc, _, _ => by
    show allK [] acc = _
    rw [allK_nil, List.append_nil]
  | p :: l, acc, h, hb => by
    rw [List.all_cons, Bool.and_eq_true] at h
    have hr := read_key (k := p.1) (n := p.2.1) (s := p.2.2) h.1 (hb p (by simp)) (keysOf l)
    rw [keysOf_cons]
    have hne : keyP p ++ keysOf l ≠ [] := by unfold keyP; rw [keyOf_eq]; simp
    have hlp : 1 ≤ (keyP p).length := by unfold keyP; rw [keyOf_eq]; simp
    rw [allK_step hne acc hr (fun _ => ⟨by unfold keyP at hlp; omega, by unfold keyP; rw [List.length_append]; omega⟩), if_neg (by simp)]
    have hd : (keyP p ++ keysOf l).drop ((((keyOf p.1 p.2.1 p.2.2).length : Nat) : Int).toNat) = keysOf l := by
      rw [Int.toNat_natCast]
      exact List.drop_left
    rw [hd, all_keys l _ h.2 (fun x hx => hb x (List.mem_cons_of_mem _ hx)), List.append_assoc]
    rfl
theorem key_apart {p q : Int × Int × List UInt8} (hp : rightP p = true) (hq : rightP q = true) (bp : isI64 p.2.1) (bq : isI64 q.2.1) (h : (keyP q).take (keyP p).length = keyP p) : p = q := by
  have e : keyP p ++ (keyP q).drop (keyP p).length = keyP q ++ [] := by
    rw [List.append_nil]
    have := List.take_append_drop (keyP p).length (keyP q)
    rwa [h] at this
  have ho := key_ord hp hq bp bq ((keyP q).drop (keyP p).length) []
  rw [e, ordL_self] at ho
  by_cases hpq : p = q
  · exact hpq
  · rw [if_neg hpq] at ho
    exact absurd (orderV_0 ho.symm) hpq
theorem strip_call {f : Nat} {xf : XFunc} (h : E.fn f = some xf) (hp : xf.pure = true) {n : Nat} {args args' : List AV} (ha : stripVs args = some args') (hb : stripVs args' = some args') (m : Mem) : denF E (n + 1) f args m = denF E (n + 1) f args' m := by
  rw [denF_pure h hp, denF_pure h hp, ha, hb]
theorem ref_Same8 (u : B07 E) (v w : PV) (l : List (Int × Int × List UInt8)) (hv : IsVals v l) (hw' : IsVals w l) (hl : l.length ≤ 100000) (k : Nat) (hk : l.length + 2 ≤ k) (m : Mem) : denF E (k + 1) 112 [.p v, .p w] m = some (.ret (.p (.bool true)), m) := by
  refine denF_wp u.rsame rfl (args' := [.p v, .p w]) rfl ?_
  have hlen := vals_len hv
  have hlen2 := vals_len hw'
  simp [Fn.f_haulageref07_Same, -lenV, hlen, hlen2, bne]
  refine (loop_wp (α := Nat) (I := fun i st => i ≤ l.length ∧ Live Fn.f_haulageref07_Same_k0 (Fn.f_haulageref07_Same_s0 (.p v) (.p w) (.p (.int .i64 i))) [] st) (meas := fun i => l.length - i)
    (Q := fun e st => e = .exit 0 ∧ st.ds = [] ∧ st.ts.length = 26) ?_ k 0 _ ⟨Nat.zero_le _, rfl, rfl, rfl, rfl⟩ (by omega)).mono ?_
  · rintro i st ⟨hi0, hlive⟩
    rw [loopF_live hlive]
    by_cases hi : i < l.length
    · have hi' : (i : Int) < l.length := by omega
      obtain ⟨p, hp⟩ : ∃ n, l[i]? = some n := ⟨l[i], List.getElem?_eq_getElem hi⟩
      obtain ⟨rfl, hrow⟩ := vals_at hv hp
      obtain ⟨rfl, _⟩ := vals_at hw' hp
      have hw : IntKind.i64.wrap ((i : Int) + 1) = i + 1 := wrap_i64 (by omega) (by omega)
      have hlen' := hlen
      generalize hRR : l.map rowV = R at *
      simp [Fn.f_haulageref07_Same_b0, Fn.f_haulageref07_Same_s0, -lenV, hlen', hi', hrow, hw, eq_vP, bne]
      exact ⟨i + 1, by omega, by omega, rfl, rfl, rfl, rfl⟩
    · have hi' : ¬ (i : Int) < l.length := by omega
      simp [Fn.f_haulageref07_Same_b0, Fn.f_haulageref07_Same_s0, -lenV, hlen, hi']
  · rintro e st ⟨rfl, h1, h2⟩
    obtain ⟨ts, m', ds⟩ := st
    simp only at h1 h2
    match ts, h2 with
    | t0 :: t1 :: t2 :: t3 :: t4 :: t5 :: t6 :: t7 :: t8 :: t9 :: t10 :: t11 :: t12 :: t13 :: t14 :: t15 :: t16 :: t17 :: t18 :: t19 :: t20 :: t21 :: t22 :: t23 :: t24 :: t25 :: [], _ => simp [h1]
theorem conf_val7 {x : List PV} (h : Confs [.int .i64, .int .i64, .str] x) : ∃ p : Int × Int × List UInt8, x = [.int .i64 p.1, .int .i64 p.2.1, .str p.2.2] ∧ isI64 p.1 ∧ isI64 p.2.1 := by
  obtain ⟨a, b, s, rfl, h1, h2, _⟩ := conf_value h
  exact ⟨(a, b, s), rfl, h1, h2⟩
theorem of_one (u : V06 E) (w : K07 E) (h : E.fn 102 = some Fn.f_sortkey_Of) (k : Nat) (hk : 400 ≤ k + 10) (p : Int × Int × List UInt8) (hp : rightP p = true) (b1 : isI64 p.1) (b2 : isI64 p.2.1) (hl : p.2.2.length ≤ 300) (t : Nat) (m : Mem) :
    denF E (k + 1) 102 [.tv 3 [[.int .i64 p.1, .int .i64 p.2.1, .str p.2.2]] t] m = some (.ret (.tup [.p (.str (keyP p)), .p (.int .i64 0)]), m) := by
  have hs := sk_Of u w h k hk (.vals 3 ([p].map rowV)) [p] (.inr rfl) (by intro q hq; simp at hq; subst hq; exact ⟨b1, b2⟩) (by unfold fewV; simp [hl]) m
  rw [strip_call h rfl (args := [.tv 3 [[.int .i64 p.1, .int .i64 p.2.1, .str p.2.2]] t]) (args' := [.p (.vals 3 ([p].map rowV))]) rfl rfl, hs]
  unfold keysR
  have : [p].all rightP = true := by simp [hp]
  rw [this, if_pos rfl]
  have : keysOf [p] = keyP p := by rw [keysOf_cons]; simp [keysOf]
  rw [this]
theorem law_SortkeyBack (b : B07 E) (u : V06 E) (w : K07 E) (o : O07 E) (h : E.fn 225 = some Fn.f_haulagelaw07_SortkeyBack) (k : Nat) (hlv : ∀ m, denF E (k + 3999) 100 [] m = some (.ret (.p (.bool true)), m)) {x0 x3 : PV} {x1 x2 : List PV}
    (c0 : Conf (.slice 3 [.int .i64, .int .i64, .str]) x0) (c1 : Confs [.int .i64, .int .i64, .str] x1) (c2 : Confs [.int .i64, .int .i64, .str] x2) (c3 : Conf .str x3) (m : Mem) :
    denF E (k + 4000) 225 [.p x0, .p (.agg x1), .p (.agg x2), .p x3] m = some (.ret (.p (.bool true)), m) := by
  obtain ⟨l, hv, hb⟩ := conf_vals c0
  obtain ⟨p, rfl, bp1, bp2⟩ := conf_val7 c1
  obtain ⟨q, rfl, bq1, bq2⟩ := conf_val7 c2
  simp only [Conf] at c3
  obtain ⟨z, rfl, _⟩ := c3
  rw [denF_pure h rfl]
  have hF := fun m => law_Few o.few (k + 3998) (by omega) x0 l hv m
  cases fl : fewV l with
  | false =>
    rw [fl] at hF
    simp (maxSteps := 1000000) [Fn.f_haulagelaw07_SortkeyBack, hlv, hF]
  | true =>
  rw [fl] at hF
  by_cases lp : (300 : Int) < p.2.2.length
  · simp (maxSteps := 1000000) [Fn.f_haulagelaw07_SortkeyBack, hlv, hF, lp]
  by_cases lq : (300 : Int) < q.2.2.length
  · simp (maxSteps := 1000000) [Fn.f_haulagelaw07_SortkeyBack, hlv, hF, lp, lq]
  by_cases lz : (300 : Int) < z.length
  · simp (maxSteps := 1000000) [Fn.f_haulagelaw07_SortkeyBack, hlv, hF, lp, lq, lz]
  have hS := fun m => sk_Of u w o.sof (k + 3998) (by omega) x0 l hv hb fl m
  unfold keysR at hS
  have hV := fun m => ref_VRight u p.1 p.2.1 p.2.2 bp2 (by omega) (k + 3998) (by omega) m
  have hW := fun m => ref_VRight u q.1 q.2.1 q.2.2 bq2 (by omega) (k + 3998) (by omega) m
  unfold vP at hV hW
  have pre : ∀ Q : Prop, ((∀ m, denF E (k + 3999) 102 [.p x0] m = some (.ret (.tup [.p (.str []), .p (.int .i64 2)]), m)) → Q) →
      (∀ (K : List UInt8) (V : PV), (∀ m, denF E (k + 3999) 102 [.p x0] m = some (.ret (.tup [.p (.str K), .p (.int .i64 0)]), m)) → (∀ m, denF E (k + 3999) 110 [.p (.str K)] m = some (.ret (.tup [.p V, .p (.int .i64 0)]), m)) →
        (∀ m, denF E (k + 3999) 112 [.p V, .p x0] m = some (.ret (.p (.bool true)), m)) → Q) → Q := by
    intro Q q1 q2
    cases ra : l.all rightP with
    | false =>
      rw [ra] at hS
      simp only [Bool.false_eq_true, if_false] at hS
      exact q1 hS
    | true =>
      rw [ra] at hS
      simp only [if_true] at hS
      have hka := keysOf_len ra
      have hl12 : l.length ≤ 12 := by
        unfold fewV at fl
        simp only [Bool.and_eq_true, decide_eq_true_eq] at fl
        exact fl.1
      have hA := fun m => sk_All b u.r (k + 3998) (keysOf l) (by omega) (by omega) m
      rw [all_keys l [] ra (fun p hp => (hb p hp).2)] at hA
      have hSame := fun m => ref_Same8 b (slP 3 (l.map rowV)) x0 l (isVals_sl l) hv (by omega) (k + 3998) (by omega) m
      exact q2 (keysOf l) (slP 3 (l.map rowV)) hS hA hSame
  clear hS
  cases rp : rightP p with
  | false =>
    have rp' : rightV p.1 p.2.1 p.2.2 = false := rp
    rw [rp'] at hV
    refine pre _ (fun h1 => ?_) (fun K V h1 h2 h3 => ?_)
    · simp (maxSteps := 1000000) [Fn.f_haulagelaw07_SortkeyBack, hlv, hF, lp, lq, lz, h1, hV]
    · simp (maxSteps := 1000000) [Fn.f_haulagelaw07_SortkeyBack, hlv, hF, lp, lq, lz, h1, h2, h3, hV, bne]
  | true =>
  have rp' : rightV p.1 p.2.1 p.2.2 = true := rp
  rw [rp'] at hV
  cases rq : rightP q with
  | false =>
    have rq' : rightV q.1 q.2.1 q.2.2 = false := rq
    rw [rq'] at hW
    refine pre _ (fun h1 => ?_) (fun K V h1 h2 h3 => ?_)
    · simp (maxSteps := 1000000) [Fn.f_haulagelaw07_SortkeyBack, hlv, hF, lp, lq, lz, h1, hV, hW]
    · simp (maxSteps := 1000000) [Fn.f_haulagelaw07_SortkeyBack, hlv, hF, lp, lq, lz, h1, h2, h3, hV, hW, bne]
  | true =>
  have rq' : rightV q.1 q.2.1 q.2.2 = true := rq
  rw [rq'] at hW
  have hP := fun t m => of_one u w o.sof (k + 3998) (by omega) p rp bp1 bp2 (by omega) t m
  have hQ := fun t m => of_one u w o.sof (k + 3998) (by omega) q rq bq1 bq2 (by omega) t m
  have kl : (keyP p).length ≤ 243 := keyOf_len rp'
  have hR := fun m => sk_Read b u.r (k + 3998) (keyP p ++ z) (by rw [List.length_append]; omega) (by rw [List.length_append]; omega) m
  have hrk : readK (keyP p ++ z) = rdT p.1 p.2.1 p.2.2 ((keyP p).length) 0 := read_key rp' bp2 z
  rw [hrk] at hR
  unfold rdT at hR
  have hlim : (keyP p).length + z.length ≤ strLim := by unfold strLim; omega
  have hap : (keyP q).take (keyP p).length = keyP p → p = q := key_apart rp rq bp2 bq2
  have hpq : ∀ b : Bool, (p.1 == q.1 && (p.2.1 == q.2.1 && p.2.2 == q.2.2)) = b → b = false → p ≠ q := by
    rintro b h1 h2 rfl
    rw [h2] at h1
    simp at h1
  have heq : eqTree (.struct [(0, 1, .int), (1, 1, .int), (2, 1, .str)]) (.agg [.int .i64 p.1, .int .i64 p.2.1, .str p.2.2]) (.agg [.int .i64 q.1, .int .i64 q.2.1, .str q.2.2]) = some (p.1 == q.1 && (p.2.1 == q.2.1 && p.2.2 == q.2.2)) := eq_vP
  have hse : eqTree (.struct [(0, 1, .int), (1, 1, .int), (2, 1, .str)]) (.agg [.int .i64 p.1, .int .i64 p.2.1, .str p.2.2]) (.agg [.int .i64 p.1, .int .i64 p.2.1, .str p.2.2]) = some true := by rw [eq_vP]; simp
  obtain ⟨e, he⟩ : ∃ e, (p.1 == q.1 && (p.2.1 == q.2.1 && p.2.2 == q.2.2)) = e := ⟨_, rfl⟩
  have hne := hpq e he
  rw [he] at heq
  clear hpq he
  generalize keyP p = A at *
  generalize keyP q = B at *
  cases e with
  | true =>
    refine pre _ (fun h1 => ?_) (fun K V h1 h2 h3 => ?_)
    · simp (maxSteps := 1000000) [Fn.f_haulagelaw07_SortkeyBack, hlv, hF, lp, lq, lz, h1, hV, hW, hP, hQ, hR, hlim, heq, hse, bne]
    · simp (maxSteps := 1000000) [Fn.f_haulagelaw07_SortkeyBack, hlv, hF, lp, lq, lz, h1, h2, h3, hV, hW, hP, hQ, hR, hlim, heq, hse, bne]
  | false =>
    have hap' := fun h => hne rfl (hap h)
    by_cases hl : B.length < A.length
    · have hl' : (B.length : Int) < A.length := by omega
      refine pre _ (fun h1 => ?_) (fun K V h1 h2 h3 => ?_)
      · simp (maxSteps := 1000000) [Fn.f_haulagelaw07_SortkeyBack, hlv, hF, lp, lq, lz, h1, hV, hW, hP, hQ, hR, hlim, heq, hse, bne, hl, hl']
      · simp (maxSteps := 1000000) [Fn.f_haulagelaw07_SortkeyBack, hlv, hF, lp, lq, lz, h1, h2, h3, hV, hW, hP, hQ, hR, hlim, heq, hse, bne, hl, hl']
    · have hl' : ¬ (B.length : Int) < A.length := by omega
      have hl2 : A.length ≤ B.length := by omega
      have hbq : (B.take A.length == A) = false := by
        rw [Bool.eq_false_iff]
        intro hh
        exact hap' (beq_iff_eq.1 hh)
      refine pre _ (fun h1 => ?_) (fun K V h1 h2 h3 => ?_)
      · simp (maxSteps := 1000000) [Fn.f_haulagelaw07_SortkeyBack, hlv, hF, lp, lq, lz, h1, hV, hW, hP, hQ, hR, hlim, heq, hse, bne, hl, hl', hl2, hbq]
      · simp (maxSteps := 1000000) [Fn.f_haulagelaw07_SortkeyBack, hlv, hF, lp, lq, lz, h1, h2, h3, hV, hW, hP, hQ, hR, hlim, heq, hse, bne, hl, hl', hl2, hbq]
end Hx
