/-
  HxW06c: the law TypJoins on the evaluator.
-/
import Derived.Test.YtompbjamfhkgfaaDoorHxU06c
import Derived.Test.YtompbjamfhkgfaaDoorHxConf
namespace Hx
open Go
set_option linter.unusedSimpArgs false
set_option linter.unusedVariables false
set_option maxHeartbeats 8000000
variable {E : Env}
attribute [-simp] List.getD_eq_getElem?_getD getElem?_pos
def allT : List (Int × Int) := (1, 0) :: (2, 0) :: (List.range 120).flatMap fun (i : Nat) => [((3 : Int), (i : Int) + 1), ((4 : Int), (i : Int) + 1)]
def rowT (p : Int × Int) : List PV := [.int .i64 p.1, .int .i64 p.2]
theorem allT_len : allT.length = 242 := by decide +kernel
theorem right_mem {k m : Int} (h : rightT k m = true) : (k, m) ∈ allT := by
  rcases right_cases h with ⟨rfl, rfl⟩ | ⟨rfl, rfl⟩ | ⟨rfl, _⟩ | ⟨rfl, _⟩
  · simp [allT]
  · simp [allT]
  · refine List.mem_cons_of_mem _ (List.mem_cons_of_mem _ (List.mem_flatMap.2 ⟨(m - 1).toNat, List.mem_range.2 (by omega), ?_⟩))
    simp; omega
  · refine List.mem_cons_of_mem _ (List.mem_cons_of_mem _ (List.mem_flatMap.2 ⟨(m - 1).toNat, List.mem_range.2 (by omega), ?_⟩))
    simp; omega
def Best06 (a b c d : Int) (i : Nat) (p : Int × Int) (sm : Bool) : Prop :=
  i ≤ 242 ∧ (sm = true → wideT p.1 p.2 a b = true ∧ wideT p.1 p.2 c d = true) ∧ ((max a c, joinM a b c d) ∈ allT.take i → sm = true ∧ p = (max a c, joinM a b c d))
theorem best_0 (a b c d : Int) (p : Int × Int) : Best06 a b c d 0 p false := ⟨by omega, by simp, by simp⟩
theorem take_next {α : Type} {l : List α} {i : Nat} {x y : α} (h : l[i]? = some x) : y ∈ l.take (i + 1) → y ∈ l.take i ∨ y = x := by
  rw [List.take_add_one, h]
  simp
theorem best_stay {a b c d : Int} {i : Nat} {p x : Int × Int} {sm : Bool} (h1 : rightT a b = true) (h2 : rightT c d = true) (h : Best06 a b c d i p sm) (hi : i < 242) (hx : allT[i]? = some x)
    (hn : wideT x.1 x.2 a b = false ∨ wideT x.1 x.2 c d = false ∨ (sm = true ∧ wideT p.1 p.2 x.1 x.2 = false)) : Best06 a b c d (i + 1) p sm := by
  obtain ⟨h3, h4, h5⟩ := h
  refine ⟨by omega, h4, fun hm => ?_⟩
  rcases take_next hx hm with hm | rfl
  · exact h5 hm
  · obtain ⟨j1, j2⟩ := join_above h1 h2
    exfalso
    rcases hn with hn | hn | ⟨rfl, hn⟩
    · rw [j1] at hn; cases hn
    · rw [j2] at hn; cases hn
    · obtain ⟨q1, q2⟩ := h4 rfl
      rw [join_least q1 q2] at hn
      cases hn
theorem best_take {a b c d : Int} {i : Nat} {p x : Int × Int} {sm : Bool} (h1 : rightT a b = true) (h2 : rightT c d = true) (h : Best06 a b c d i p sm) (hi : i < 242) (hx : allT[i]? = some x)
    (ha : wideT x.1 x.2 a b = true) (hc : wideT x.1 x.2 c d = true) (hn : sm = false ∨ wideT p.1 p.2 x.1 x.2 = true) : Best06 a b c d (i + 1) x true := by
  obtain ⟨h3, h4, h5⟩ := h
  refine ⟨by omega, fun _ => ⟨ha, hc⟩, fun hm => ⟨rfl, ?_⟩⟩
  rcases take_next hx hm with hm | hm
  · obtain ⟨rfl, rfl⟩ := h5 hm
    rcases hn with hn | hn
    · cases hn
    · have := wide_anti hn (join_least ha hc)
      obtain ⟨x1, x2⟩ := x
      simp only at this
      rw [← this.1, ← this.2]
  · exact hm.symm
def JInv (a b c d : Int) (i : Nat) (st : St) : Prop := ∃ (p : Int × Int) (sm : Bool), Best06 a b c d i p sm ∧ Live Fn.f_haulageref06_Join_k0 (Fn.f_haulageref06_Join_s0 (.ptr 0 0) (.ptr 1 0) (.ptr 2 0) (.p (.vals 2 (allT.map rowT))) (.ptr 3 0) (.p (.bool sm)) (.p (.int .i64 i)))
          [.cells [.p (.int .i64 a), .p (.int .i64 b)], .cells [.p (.int .i64 c), .p (.int .i64 d)], .cells [.p (.int .i64 0), .p (.int .i64 0)], .cells [.p (.int .i64 p.1), .p (.int .i64 p.2)]] st
theorem JInv.mk {a b c d : Int} {i : Nat} {st : St} (p : Int × Int) (sm : Bool) (h : Best06 a b c d i p sm) (l : Live Fn.f_haulageref06_Join_k0 (Fn.f_haulageref06_Join_s0 (.ptr 0 0) (.ptr 1 0) (.ptr 2 0) (.p (.vals 2 (allT.map rowT))) (.ptr 3 0) (.p (.bool sm)) (.p (.int .i64 i))) [.cells [.p (.int .i64 a), .p (.int .i64 b)], .cells [.p (.int .i64 c), .p (.int .i64 d)], .cells [.p (.int .i64 0), .p (.int .i64 0)], .cells [.p (.int .i64 p.1), .p (.int .i64 p.2)]] st) : JInv a b c d i st := ⟨p, sm, h, l⟩
theorem ref_Join (u : U06 E) (hj : E.fn 80 = some Fn.f_haulageref06_Join) (k : Nat) (hall : ∀ m, denF E (k + 260) 97 [] m = some (.ret (.p (.vals 2 (allT.map rowT))), m)) (a b c d : Int) (m : Mem) :
    denF E (k + 261) 80 [.p (tP a b), .p (tP c d)] m =
    some (.ret (if rightT a b && rightT c d then .tup [.p (tP (max a c) (joinM a b c d)), .p (.bool true)] else .tup [.p (tP 0 0), .p (.bool false)]), m) := by
  refine denF_wp hj rfl (args' := [.p (tP a b), .p (tP c d)]) rfl ?_
  have hr := fun a b m => ref_TRight u.t.rRight (k + 259) a b m
  unfold tP at *
  cases h1 : rightT a b with
  | false => simp [Fn.f_haulageref06_Join, hr, h1]
  | true =>
    cases h2 : rightT c d with
    | false => simp [Fn.f_haulageref06_Join, hr, h1, h2]
    | true =>
      simp [Fn.f_haulageref06_Join, hr, hall, h1, h2]
      refine (loop_wp (α := Nat) (I := fun i st => JInv a b c d i st) (meas := fun i => 242 - i)
        (Q := fun e st => ∃ t : List AV, e = .exit 0 ∧ st.ds = [] ∧ st.ts.length = 59 ∧ st.ts.getD 4 (.tup []) = .ptr 2 0 ∧ st.ts.getD 7 (.tup []) = .ptr 3 0 ∧ st.ts.getD 8 (.tup []) = .p (.bool true) ∧ st.m = [.cells [.p (.int .i64 a), .p (.int .i64 b)], .cells [.p (.int .i64 c), .p (.int .i64 d)], .cells [.p (.int .i64 0), .p (.int .i64 0)], .cells [.p (.int .i64 (max a c)), .p (.int .i64 (joinM a b c d))]]) ?_ (k + 260) 0 _ (JInv.mk (0, 0) false (best_0 a b c d (0, 0)) ⟨rfl, rfl, rfl, rfl⟩) (by omega)).mono ?_
      · rintro i st ⟨p, sm, hb, hlive⟩
        rw [loopF_live hlive]
        have hW := fun a b c d m => ref_Wide u.t (k + 258) a b c d m
        unfold tP at hW
        have f5 := u.t.rWide
        have p5 : Fn.f_haulageref06_Wide.pure = true := rfl
        have hlen : (allT.map rowT).length = 242 := by rw [List.length_map, allT_len]
        by_cases hi : i < 242
        · have hi' : (i : Int) < 242 := by omega
          obtain ⟨x, hx⟩ : ∃ x, allT[i]? = some x := ⟨_, List.getElem?_eq_getElem (by rw [allT_len]; exact hi)⟩
          have hrow : (allT.map rowT)[i]? = some [.int .i64 x.1, .int .i64 x.2] := by rw [List.getElem?_map, hx]; rfl
          have hw : IntKind.i64.wrap ((i : Int) + 1) = i + 1 := wrap_i64 (by omega) (by omega)
          generalize hR : allT.map rowT = R at *
          cases c1 : wideT x.1 x.2 a b with
          | false =>
            have := best_stay h1 h2 hb hi hx (.inl c1)
            simp [Fn.f_haulageref06_Join_b0, Fn.f_haulageref06_Join_s0, hi, hi', hrow, hlen, hw, hW, f5, p5, c1]
            exact ⟨i + 1, by omega, JInv.mk p sm this ⟨rfl, by rw [hR]; rfl, rfl, rfl⟩⟩
          | true =>
            cases c2 : wideT x.1 x.2 c d with
            | false =>
              have := best_stay h1 h2 hb hi hx (.inr (.inl c2))
              simp [Fn.f_haulageref06_Join_b0, Fn.f_haulageref06_Join_s0, hi, hi', hrow, hlen, hw, hW, f5, p5, c1, c2]
              exact ⟨i + 1, by omega, JInv.mk p sm this ⟨rfl, by rw [hR]; rfl, rfl, rfl⟩⟩
            | true =>
              cases sm with
              | false =>
                have := best_take h1 h2 hb hi hx c1 c2 (.inl rfl)
                simp [Fn.f_haulageref06_Join_b0, Fn.f_haulageref06_Join_s0, hi, hi', hrow, hlen, hw, hW, f5, p5, c1, c2]
                exact ⟨i + 1, by omega, JInv.mk x true this ⟨rfl, by rw [hR]; rfl, rfl, rfl⟩⟩
              | true =>
                cases c3 : wideT p.1 p.2 x.1 x.2 with
                | false =>
                  have := best_stay h1 h2 hb hi hx (.inr (.inr ⟨rfl, c3⟩))
                  simp [Fn.f_haulageref06_Join_b0, Fn.f_haulageref06_Join_s0, hi, hi', hrow, hlen, hw, hW, f5, p5, c1, c2, c3]
                  exact ⟨i + 1, by omega, JInv.mk p true this ⟨rfl, by rw [hR]; rfl, rfl, rfl⟩⟩
                | true =>
                  have := best_take h1 h2 hb hi hx c1 c2 (.inr c3)
                  simp [Fn.f_haulageref06_Join_b0, Fn.f_haulageref06_Join_s0, hi, hi', hrow, hlen, hw, hW, f5, p5, c1, c2, c3]
                  exact ⟨i + 1, by omega, JInv.mk x true this ⟨rfl, by rw [hR]; rfl, rfl, rfl⟩⟩
        · have hi2 : i = 242 := by have := hb.1; omega
          subst hi2
          obtain ⟨_, _, h5⟩ := hb
          obtain ⟨rfl, rfl⟩ := h5 (by rw [List.take_of_length_le (by rw [allT_len]; exact Nat.le_refl _)]; exact right_mem (join_right h1 h2))
          generalize hR : allT.map rowT = R at *
          simp [Fn.f_haulageref06_Join_b0, Fn.f_haulageref06_Join_s0, hlen]
      · rintro e st ⟨_, rfl, q1, q2, q3, q4, q5, q6⟩
        obtain ⟨ts, m', ds⟩ := st
        simp only at q1 q2 q3 q4 q5 q6
        subst q1 q6
        match ts, q2, q3, q4, q5 with
        | t0 :: t1 :: t2 :: t3 :: t4 :: t5 :: t6 :: t7 :: t8 :: t9 :: t10 :: t11 :: t12 :: t13 :: t14 :: t15 :: t16 :: t17 :: t18 :: t19 :: t20 :: t21 :: t22 :: t23 :: t24 :: t25 :: t26 :: t27 :: t28 :: t29 :: t30 :: t31 :: t32 :: t33 :: t34 :: t35 :: t36 :: t37 :: t38 :: t39 :: t40 :: t41 :: t42 :: t43 :: t44 :: t45 :: t46 :: t47 :: t48 :: t49 :: t50 :: t51 :: t52 :: t53 :: t54 :: t55 :: t56 :: t57 :: t58 :: [], q2, q3, q4, q5 =>
          simp at q3 q4 q5
          simp [q3, q4, q5]
theorem law_TypJoins (u : U06 E) (hj : E.fn 80 = some Fn.f_haulageref06_Join) (h : E.fn 215 = some Fn.f_haulagelaw06_TypJoins) (k : Nat) (hlv : ∀ m, denF E (k + 400) 78 [] m = some (.ret (.p (.bool true)), m))
    (hall : ∀ m, denF E (k + 399) 97 [] m = some (.ret (.p (.vals 2 (allT.map rowT))), m)) {x0 x1 : List PV} (c0 : Confs [.int .i64, .int .i64] x0) (c1 : Confs [.int .i64, .int .i64] x1) (m : Mem) :
    denF E (k + 401) 215 [.p (.agg x0), .p (.agg x1)] m = some (.ret (.p (.bool true)), m) := by
  obtain ⟨a, b, rfl, _, _⟩ := conf_type c0
  obtain ⟨c, d, rfl, _, _⟩ := conf_type c1
  rw [denF_pure h rfl]
  have hJ := fun m => typ_Join u.t (k + 397) a b c d m
  have hK := fun m => ref_Join u hj (k + 139) hall a b c d m
  unfold tP at *
  cases hq : (rightT a b && rightT c d) with
  | true =>
    rw [hq, if_pos rfl] at hJ hK
    generalize max a c = x at *
    generalize joinM a b c d = y at *
    simp (maxSteps := 1000000) [Fn.f_haulagelaw06_TypJoins, hlv, hJ, hK, eq_tP]
  | false =>
    rw [hq] at hJ hK
    simp only [Bool.false_eq_true, if_false] at hJ hK
    simp (maxSteps := 1000000) [Fn.f_haulagelaw06_TypJoins, hlv, hJ, hK, eq_tP]
end Hx
