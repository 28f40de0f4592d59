/-
  HxU10e: the document's reader of changes: a column.
-/
import Derived.Test.YtifcegbomagcpaaDoorHxU10s
import Derived.Test.YtifcegbomagcpaaDoorHxU10s
namespace Hx
open Go
set_option linter.unusedSimpArgs false
set_option linter.unusedVariables false
set_option maxHeartbeats 32000000
set_option maxRecDepth 20000
variable {E : Env}
attribute [-simp] List.getD_eq_getElem?_getD getElem?_pos
def PR.sane {α : Type} (p : PR α) : Prop := ∀ e q, p = .bad e q → e ≠ 0
theorem pName_sane (r : List UInt8) : (pName r).sane := by
  intro e q h
  unfold pName at h
  split at h
  · cases h; decide
  split at h
  · cases h
  · cases h; decide
theorem pKind_sane (r : List UInt8) : (pKind r).sane := by
  intro e q h
  unfold pKind at h
  split at h
  · cases h
  · rename_i h1; cases h; exact h1
theorem pValue_sane (b : Bool) (r : List UInt8) : (pValue b r).sane := by
  intro e q h
  unfold pValue at h
  split at h
  · rename_i h1; cases h; exact h1
  split at h
  · cases h; decide
  · cases h
theorem pWant_sane (w r : List UInt8) : (pWant w r).sane := by
  intro e q h
  unfold pWant at h
  split at h
  · cases h
  · cases h; decide
theorem pWantS_sane (c : UInt8) (r : List UInt8) : (pWantS c r).sane := by
  intro e q h
  unfold pWantS at h
  split at h
  · cases h
  · cases h; decide
theorem bind_sane {α β : Type} {p : PR α} {f : α → List UInt8 → PR β} (h : p.sane) (hf : ∀ v r, (f v r).sane) : (p.bind f).sane := by
  cases p with
  | bad e q => intro e' q' h'; cases h'; exact h e q rfl
  | ok v r => exact hf v r
theorem ok_sane {α : Type} (v : α) (r : List UInt8) : (PR.ok v r).sane := by intro e q h; cases h
theorem pCol_sane (r : List UInt8) : (pCol r).sane := by
  unfold pCol
  refine bind_sane (pName_sane _) fun n r => bind_sane (pKind_sane _) fun t r => ?_
  unfold pColTail
  split
  · exact bind_sane (pValue_sane _ _) fun v r => ok_sane _ _
  · exact ok_sane _ _
theorem pColsF_sane : ∀ (k : Nat) (l : List Col) (r : List UInt8), (pColsF k l r).sane
  | 0, _, _ => by intro e q h; cases h; decide
  | k + 1, l, r => by
    unfold pColsF
    refine bind_sane (pCol_sane _) fun c r => ?_
    split
    · exact pColsF_sane k _ _
    · exact bind_sane (pWantS_sane _ _) fun _ r => ok_sane _ _
theorem pCols_sane (r : List UInt8) : (pCols r).sane := by
  unfold pCols
  exact bind_sane (pWantS_sane _ _) fun _ r => pColsF_sane _ _ _
theorem step_cases {α : Type} {p : PR α} (hg : p.sane) (s r : List UInt8) (e : Int) : (e ≠ 0 ∧ pAt s p r e = pB s r e) ∨ (∃ e' q, e = 0 ∧ p = .bad e' q ∧ e' ≠ 0 ∧ pAt s p r e = pB s q e') ∨ (∃ v q, e = 0 ∧ p = .ok v q ∧ pAt s p r e = pB s q 0) := by
  by_cases he : e = 0
  · subst he
    cases hp : p with
    | bad e' q => exact .inr (.inl ⟨e', q, rfl, rfl, hg e' q hp, by unfold pAt; rw [if_pos rfl]; rfl⟩)
    | ok v q => exact .inr (.inr ⟨v, q, rfl, rfl, by unfold pAt; rw [if_pos rfl]; rfl⟩)
  · exact .inl ⟨he, by unfold pAt; rw [if_neg he]⟩
theorem pAt_bad {α : Type} {p : PR α} {s r q : List UInt8} {e : Int} (h : p = .bad e q) : pAt s p r 0 = pB s q e := by
  subst h; unfold pAt; rw [if_pos rfl]; rfl
theorem pAt_ok {α : Type} {p : PR α} {v : α} {s r q : List UInt8} (h : p = .ok v q) : pAt s p r 0 = pB s q 0 := by
  subst h; unfold pAt; rw [if_pos rfl]; rfl
theorem pAt_err {α : Type} {p : PR α} {s r : List UInt8} {e : Int} (h : e ≠ 0) : pAt s p r e = pB s r e := by
  unfold pAt; rw [if_neg h]
theorem P_columnT (w : D10 E) {s r : List UInt8} {e : Int} (hs : (s.length : Int) ≤ 1000000000) (hr : r <:+ s) (k : Nat) (hk : s.length + 320 ≤ k) (id : Nat) (m : Mem) (hm : m[id]? = some (pB s r e)) :
    ∃ (l : Mem) (c : Col), denF E (k + 1) 263 [.ptr id 0] m = some (.ret (colOut c), m.set id (pAt s (pCol r) r e) ++ l) ∧ ∀ v q, e = 0 → pCol r = .ok v q → c = v := by
  have u := w.u
  have bl : BlanksOk E := blanks_ok u
  have hid := own_id hm
  obtain ⟨j, rfl⟩ : ∃ j, k = j + 1 := ⟨k - 1, by omega⟩
  obtain ⟨i, hji⟩ : ∃ i, j = i + 1 := ⟨j - 1, by omega⟩
  have hq : ∀ x : Blk, (m.set id x).length = m.length := fun x => List.length_set
  have hap1 : ∀ (l : List Blk) (x : Blk), (m ++ l).set id x = m.set id x ++ l := fun l x => by rw [List.set_append_left _ _ hid]
  have hap2 : ∀ (l : List Blk) (x y : Blk), (m.set id x ++ l).set id y = m.set id y ++ l := fun l x y => by rw [List.set_append_left _ _ (by rw [List.length_set]; exact hid), List.set_set]
  have hap3 : ∀ (l : List Blk) (x : Blk), (m.set id x ++ l)[id]? = some x := fun l x => by rw [List.getElem?_append_left (by rw [List.length_set]; exact hid)]; exact List.getElem?_set_self hid
  have hself : ∀ x : Blk, (m.set id x)[id]? = some x := fun x => List.getElem?_set_self hid
  have hget : (m ++ [Blk.cells zCol])[id]? = some (pB s r e) := by rw [List.getElem?_append_left hid]; exact hm
  have hid1 : id < m.length + 1 := by omega
  have hid2 : id < m.length + 2 := by omega
  have hidl : ∀ n, id < m.length + n := fun n => by omega
  obtain ⟨n, hN, hNv⟩ := P_nameT w hs hr j (by omega) id _ hget
  rw [hap1] at hN
  have g0 := fun (x a : Blk) (l : Mem) => app_at0 (hq x) a l
  have s0 := fun (x a c : Blk) (l : Mem) => app_set0 (hq x) a c l
  have gK : ∀ (x a c : Blk) (l l' : Mem), (m.set id x ++ a :: (l ++ c :: l'))[m.length + (l.length + 1)]? = some c := fun x a c l l' => by
    rw [List.getElem?_append_right (by rw [hq]; omega), hq, Nat.add_sub_cancel_left, List.getElem?_cons_succ, List.getElem?_append_right (Nat.le_refl _), Nat.sub_self]; rfl
  have sK : ∀ (x a c d : Blk) (l l' : Mem), (m.set id x ++ a :: (l ++ c :: l')).set (m.length + (l.length + 1)) d = m.set id x ++ a :: (l ++ d :: l') := fun x a c d l l' => by
    rw [List.set_append_right _ _ (by rw [hq]; omega), hq, Nat.add_sub_cancel_left, List.set_cons_succ, List.set_append_right _ _ (Nat.le_refl _), Nat.sub_self]; rfl
  have hbad : ∀ (q1 : List UInt8) (e1 : Int) (kd mx : Int) (q2 : List UInt8) (e2 : Int) (l : Mem), e2 ≠ 0 → pAt s (pName r) r e = pB s q1 e1 →
      denF E (j + 1) 264 [.ptr id 0] (m.set id (pB s q1 e1) ++ [.cells zCol]) = some (.ret (.p (.agg [.int .i64 kd, .int .i64 mx])), m.set id (pB s q2 e2) ++ [.cells zCol] ++ l) →
      ∃ l' : Mem, denF E (j + 1 + 1) 263 [.ptr id 0] m = some (.ret (colOut { name := n, kind := kd, max := mx, null := false, dk := 0, dn := 0, ds := [] }), m.set id (pB s q2 e2) ++ l') := by
    intro q1 e1 kd mx q2 e2 l he2 h1 hK
    rw [h1] at hN
    have hb : (e2 == 0) = false := by simpa using he2
    refine ⟨.cells [.p (.int .i64 0), .p (.str n), .p (.int .i64 kd), .p (.int .i64 mx), .p (.bool false), .p (.int .i64 0), .p (.int .i64 0), .p (.str [])] :: (l ++ [.cells [.p (.int .i64 0), .p (.str n), .p (.int .i64 kd), .p (.int .i64 mx), .p (.bool false), .p (.int .i64 0), .p (.int .i64 0), .p (.str [])]]), denF_wp_own w.column rfl ?_⟩
    unfold pB zCol at *
    simp (maxSteps := 8000000) [Fn.f_haulageref10_P_column, hN, hK, hb, g0, s0, gK, sK, hap2, hap3, hid, hidl, colOut, colP, bne]
  rcases step_cases (pName_sane r) s r e with ⟨he, h1⟩ | ⟨e1, q1, rfl, hp, he1, h1⟩ | ⟨v, r1, rfl, hp, h1⟩
  · obtain ⟨l, kd, mx, hK, _⟩ := P_kindT w hs hr j (by omega) id (m.set id (pB s r e) ++ [.cells zCol]) (hap3 _ _)
    rw [hap2, pAt_err he] at hK
    obtain ⟨l', h⟩ := hbad r e kd mx r e l he h1 hK
    exact ⟨l', _, by rw [pAt_err he]; exact h, fun v q h0 => absurd h0 he⟩
  · have hr1 := pName_rest hr
    rw [hp] at hr1
    obtain ⟨l, kd, mx, hK, _⟩ := P_kindT w hs hr1 j (by omega) id (m.set id (pB s q1 e1) ++ [.cells zCol]) (hap3 _ _)
    simp only [PR.rest] at hK
    rw [hap2, pAt_err he1] at hK
    obtain ⟨l', h⟩ := hbad q1 e1 kd mx q1 e1 l he1 h1 hK
    have hc : pCol r = .bad e1 q1 := by unfold pCol; rw [hp]; rfl
    exact ⟨l', _, by rw [pAt_bad hc]; exact h, fun v q _ h2 => by rw [hc] at h2; cases h2⟩
  have hnv := hNv v r1 rfl hp
  subst hnv
  have hr1 := pName_rest hr
  rw [hp] at hr1
  simp only [PR.rest] at hr1
  obtain ⟨l, kd, mx, hK, hKv⟩ := P_kindT w hs hr1 j (by omega) id (m.set id (pB s r1 0) ++ [.cells zCol]) (hap3 _ _)
  rw [hap2] at hK
  rcases step_cases (pKind_sane r1) s r1 0 with ⟨he, _⟩ | ⟨e2, q2, _, hp2, he2, h2⟩ | ⟨t, r2, _, hp2, h2⟩
  · exact absurd rfl he
  · rw [h2] at hK
    obtain ⟨l', h⟩ := hbad r1 0 kd mx q2 e2 l he2 h1 hK
    have hc : pCol r = .bad e2 q2 := by unfold pCol; rw [hp]; simp only [PR.bind]; rw [hp2]
    exact ⟨l', _, by rw [pAt_bad hc]; exact h, fun v q _ h2 => by rw [hc] at h2; cases h2⟩
  have ht := hKv t r2 rfl hp2
  subst ht
  rw [h2] at hK
  rw [h1] at hN
  have hr2 := pKind_rest hr1
  rw [hp2] at hr2
  simp only [PR.rest] at hr2
  have hc : pCol r = pColTail n (kd, mx) (pTake wNul r2).1 (pTake wNul r2).2 := by unfold pCol; rw [hp]; simp only [PR.bind]; rw [hp2]
  have tPk : ∀ (q : List UInt8) (X : Mem), q <:+ s → denF E (j + 1) 258 [.ptr id 0] (m.set id (pB s q 0) ++ X) = some (.ret (.p (.str (wordOf (skipB q)))), m.set id (pB s (skipB q) 0) ++ X) := by
    intro q X hq'
    have hB := bl hs hq' i (by omega) id _ (hap3 X _)
    have := P_peek u hs (suf_skip hq') (i + 1) (by omega) id (m.set id (pB s q 0) ++ X) (by rw [List.length_append, hq]; omega) hB
    rw [hap2] at this
    rw [hji]; exact this
  have tWn : ∀ (q x : List UInt8) (X : Mem), q <:+ s → x ≠ [40] → x ≠ [41] → x ≠ [44] → wordOf (skipB q) = x → denF E (j + 1) 262 [.ptr id 0, .p (.str x)] (m.set id (pB s (skipB q) 0) ++ X) = some (.ret (.tup []), m.set id (pB s ((skipB q).drop x.length) 0) ++ X) := by
    intro q x X hq' h1 h2 h3 hx
    have := P_wantW u w.want bl hs (suf_skip hq') x h1 h2 h3 j (by omega) id _ (hap3 X _)
    unfold pWant at this
    rw [skipB_skip, if_pos hx, hap2] at this
    exact this
  rw [hc]
  obtain ⟨b1, r3, hT1, hN1⟩ : ∃ b1 r3, pTake wNul r2 = (b1, r3) ∧ ((b1 = true ∧ wordOf (skipB r2) = wNul ∧ r3 = (skipB r2).drop 4) ∨ (b1 = false ∧ (wordOf (skipB r2) == [110, 117, 108, 108]) = false ∧ r3 = skipB r2)) := by
    unfold pTake
    by_cases h : wordOf (skipB r2) = wNul
    · rw [if_pos h]; exact ⟨_, _, rfl, .inl ⟨rfl, h, rfl⟩⟩
    · rw [if_neg h]; exact ⟨_, _, rfl, .inr ⟨rfl, by simpa [wNul] using h, rfl⟩⟩
  have hr3 := pTake_rest wNul hr2
  rw [hT1] at hr3 ⊢
  simp only at hr3 ⊢
  obtain ⟨b2, r4, hT2, hN2⟩ : ∃ b2 r4, pTake wDef r3 = (b2, r4) ∧ ((b2 = true ∧ wordOf (skipB r3) = wDef ∧ r4 = (skipB r3).drop 7) ∨ (b2 = false ∧ (wordOf (skipB r3) == [100, 101, 102, 97, 117, 108, 116]) = false ∧ r4 = skipB r3)) := by
    unfold pTake
    by_cases h : wordOf (skipB r3) = wDef
    · rw [if_pos h]; exact ⟨_, _, rfl, .inl ⟨rfl, h, rfl⟩⟩
    · rw [if_neg h]; exact ⟨_, _, rfl, .inr ⟨rfl, by simpa [wDef] using h, rfl⟩⟩
  have hr4 := pTake_rest wDef hr3
  rw [hT2] at hr4
  simp only at hr4
  unfold pColTail
  rw [hT2]
  have p1 := fun X => tPk r2 X hr2
  have p2 := fun X => tPk r3 X hr3
  have w1 := fun X h => tWn r2 [110, 117, 108, 108] X hr2 (by decide) (by decide) (by decide) h
  have w2 := fun X h => tWn r3 [100, 101, 102, 97, 117, 108, 116] X hr3 (by decide) (by decide) (by decide) h
  rcases hN2 with ⟨rfl, hw2, e4⟩ | ⟨rfl, hw2, e4⟩
  · have w2' := fun X => w2 X hw2
    simp only [List.length_cons, List.length_nil, Nat.zero_add, Nat.reduceAdd] at w2'
    rw [← e4] at w2'
    unfold wDef at hw2
    simp only [if_true]
    obtain ⟨l2, v, hV, hVv⟩ := P_valueT w (e := 0) hs hr4 false j (by omega) id (m.set id (pB s r4 0) ++ (.cells zCol :: (l ++ [.cells [.p (.int .i64 0), .p (.str n), .p (.int .i64 kd), .p (.int .i64 mx), .p (.bool b1), .p (.int .i64 0), .p (.int .i64 0), .p (.str [])]]))) (hap3 _ _)
    rw [hap2] at hV
    have hfin : pAt s ((pValue false r4).bind fun v r => PR.ok (⟨n, kd, mx, b1, v.1, v.2.1, v.2.2⟩ : Col) r) r 0 = pAt s (pValue false r4) r4 0 := by
      cases pValue false r4 <;> rfl
    rw [hfin]
    refine ⟨.cells [.p (.int .i64 0), .p (.str n), .p (.int .i64 kd), .p (.int .i64 mx), .p (.bool b1), .p (.int .i64 v.1), .p (.int .i64 v.2.1), .p (.str v.2.2)] :: (l ++ .cells [.p (.int .i64 0), .p (.str n), .p (.int .i64 kd), .p (.int .i64 mx), .p (.bool b1), .p (.int .i64 v.1), .p (.int .i64 v.2.1), .p (.str v.2.2)] :: l2), ⟨n, kd, mx, b1, v.1, v.2.1, v.2.2⟩, denF_wp_own w.column rfl ?_, ?_⟩
    · generalize pAt s (pValue false r4) r4 0 = B at *
      unfold vOut at hV
      rcases hN1 with ⟨rfl, hw1, e3⟩ | ⟨rfl, hw1, e3⟩
      · have w1' := fun X => w1 X hw1
        simp only [List.length_cons, List.length_nil, Nat.zero_add, Nat.reduceAdd] at w1'
        rw [← e3] at w1'
        unfold wNul at hw1
        unfold pB zCol at *
        simp (maxSteps := 8000000) [Fn.f_haulageref10_P_column, hN, hK, p1, p2, w1', w2', hw1, hw2, hV, g0, s0, gK, sK, hap2, hap3, hid, hidl, colOut, colP, bne]
      · rw [← e3] at p1 hw1
        unfold pB zCol at *
        simp (maxSteps := 8000000) [Fn.f_haulageref10_P_column, hN, hK, p1, p2, w2', hw1, hw2, hV, g0, s0, gK, sK, hap2, hap3, hid, hidl, colOut, colP, bne]
    · intro v' q _ h
      cases hv : pValue false r4 with
      | bad e q => rw [hv] at h; cases h
      | ok v1 q1 =>
        rw [hv] at h
        have := hVv v1 q1 rfl hv
        subst this
        simp only [PR.bind, PR.ok.injEq] at h
        exact h.1
  · rw [← e4] at p2 hw2
    simp only [Bool.false_eq_true, if_false]
    have hfin : pAt s (PR.ok (⟨n, kd, mx, b1, 0, 0, []⟩ : Col) r4) r 0 = pB s r4 0 := pAt_ok rfl
    rw [hfin]
    refine ⟨.cells [.p (.int .i64 0), .p (.str n), .p (.int .i64 kd), .p (.int .i64 mx), .p (.bool b1), .p (.int .i64 0), .p (.int .i64 0), .p (.str [])] :: (l ++ [.cells [.p (.int .i64 0), .p (.str n), .p (.int .i64 kd), .p (.int .i64 mx), .p (.bool b1), .p (.int .i64 0), .p (.int .i64 0), .p (.str [])]]), ⟨n, kd, mx, b1, 0, 0, []⟩, denF_wp_own w.column rfl ?_, ?_⟩
    · rcases hN1 with ⟨rfl, hw1, e3⟩ | ⟨rfl, hw1, e3⟩
      · have w1' := fun X => w1 X hw1
        simp only [List.length_cons, List.length_nil, Nat.zero_add, Nat.reduceAdd] at w1'
        rw [← e3] at w1'
        unfold wNul at hw1
        unfold pB zCol at *
        simp (maxSteps := 8000000) [Fn.f_haulageref10_P_column, hN, hK, p1, p2, w1', hw1, hw2, g0, s0, gK, sK, hap2, hap3, hid, hidl, colOut, colP, bne]
      · rw [← e3] at p1 hw1
        unfold pB zCol at *
        simp (maxSteps := 8000000) [Fn.f_haulageref10_P_column, hN, hK, p1, p2, hw1, hw2, g0, s0, gK, sK, hap2, hap3, hid, hidl, colOut, colP, bne]
    · intro v' q _ h
      simp only [PR.ok.injEq] at h
      exact h.1
end Hx
