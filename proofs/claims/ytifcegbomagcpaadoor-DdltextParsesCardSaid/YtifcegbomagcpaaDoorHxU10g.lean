/-
  HxU10g: the document's reader of changes: a change, by its word's number.
-/
import Derived.Test.YtifcegbomagcpaaDoorHxU10q
import Derived.Test.YtifcegbomagcpaaDoorHxU10q
import Derived.Test.YtifcegbomagcpaaDoorHxU10v
namespace Hx
open Go
set_option linter.unusedSimpArgs false
set_option linter.unusedVariables false
set_option maxHeartbeats 32000000
set_option maxRecDepth 20000
variable {E : Env}
attribute [-simp] List.getD_eq_getElem?_getD getElem?_pos
def PchR (p : PR Ddl) (o : Out) : Prop := ∃ d c, o = .ret (mkAgg (ddlC d c)) ∧ rowsAny c ∧ ∀ v q, p = .ok v q → d = v ∧ colsAV v.cols c

theorem Pch_0 (w : D10 E) (hn : E.fn 241 = some Fn.f_haulageref10_P_change) (ho : E.fn 259 = some Fn.f_haulageref10_op) {s r : List UInt8} (hs : (s.length : Int) ≤ 1000000000) (hr : r <:+ s) (k : Nat) (hk : s.length + 350 ≤ k) (id : Nat) (m : Mem) (hm : m[id]? = some (pB s r 0)) (hop : opOf (wordOf (skipB r)) = 0) :
    ∃ (o : Out) (m1 : Mem), denF E (k + 1) 241 [.ptr id 0] m = some (o, m1) ∧ PchR (pChange r) o ∧ ∃ l, m1 = m.set id (pAt s (pChange r) r 0) ++ l := by
  have u := w.u
  have bl : BlanksOk E := blanks_ok u
  have hid := own_id hm
  obtain ⟨j, rfl⟩ : ∃ j, k = j + 1 := ⟨k - 1, by omega⟩
  obtain ⟨i, hji⟩ : ∃ i, j = i + 1 := ⟨j - 1, by omega⟩
  refine denF_wp_ex hn rfl ?_
  have hq : ∀ x : Blk, (m.set id x).length = m.length := fun x => List.length_set
  have hap1 : ∀ (l : List Blk) (x : Blk), (m ++ l).set id x = m.set id x ++ l := fun l x => by rw [List.set_append_left _ _ hid]
  have hap2 : ∀ (l : List Blk) (x y : Blk), (m.set id x ++ l).set id y = m.set id y ++ l := fun l x y => by rw [List.set_append_left _ _ (by rw [List.length_set]; exact hid), List.set_set]
  have hap3 : ∀ (l : List Blk) (x : Blk), (m.set id x ++ l)[id]? = some x := fun l x => by rw [List.getElem?_append_left (by rw [List.length_set]; exact hid)]; exact List.getElem?_set_self hid
  have hself : ∀ x : Blk, (m.set id x)[id]? = some x := fun x => List.getElem?_set_self hid
  have hget : (m ++ [Blk.cells (zDdl 0)])[id]? = some (pB s r 0) := by rw [List.getElem?_append_left hid]; exact hm
  have hBl := bl hs hr i (by omega) id _ hget
  have hPk := P_peek u hs (suf_skip hr) (i + 1) (by omega) id _ (by rw [List.length_append]; omega) hBl
  rw [hap1, ← hji] at hPk
  have hO := fun m => ref_op ho (wordOf (skipB r)) j (by omega) m
  rw [hop] at hO
  have g0 := fun (x a : Blk) (l : Mem) => app_at0 (hq x) a l
  have g1 := fun (x a b : Blk) (l : Mem) => app_at1 (hq x) a b l
  have s0 := fun (x a c : Blk) (l : Mem) => app_set0 (hq x) a c l
  have s1 := fun (x a b c : Blk) (l : Mem) => app_set1 (hq x) a b c l
  have hidl : ∀ n, id < m.length + n := fun n => by omega
  have hwl := word_len (skipB r)
  have hpl := place_drop (suf_skip hr) hwl
  have hle := place_le (s := s) (r := skipB r)
  have hlen := suf_len (suf_skip hr)
  have hc : pChange r = .bad 5 (skipB r) := by unfold pChange; rw [hop]; rfl
  have hb := fun X : Mem => P_bad0 u (s := s) (r := skipB r) 5 j id (m.set id (pB s (skipB r) 0) ++ X) (hap3 X _)
  rw [pAt_bad hc, hc]
  unfold zDdl pB at *
  simp (maxSteps := 8000000) [Fn.f_haulageref10_P_change, hPk, hO, hself, hq, hid, hidl, hb, g0, g1, s0, s1, hap2, hap3]
  exact ⟨_, _, ⟨rfl, rfl⟩, ⟨{ op := 0 }, _, rfl, .inl rfl, fun v q h => by cases h⟩, _, rfl⟩
theorem Pch_1 (w : D10 E) (hn : E.fn 241 = some Fn.f_haulageref10_P_change) (ho : E.fn 259 = some Fn.f_haulageref10_op) {s r : List UInt8} (hs : (s.length : Int) ≤ 1000000000) (hr : r <:+ s) (k : Nat) (hk : s.length + 350 ≤ k) (id : Nat) (m : Mem) (hm : m[id]? = some (pB s r 0)) (hop : opOf (wordOf (skipB r)) = 1) :
    ∃ (o : Out) (m1 : Mem), denF E (k + 1) 241 [.ptr id 0] m = some (o, m1) ∧ PchR (pChange r) o ∧ ∃ l, m1 = m.set id (pAt s (pChange r) r 0) ++ l := by
  have u := w.u
  have bl : BlanksOk E := blanks_ok u
  have hid := own_id hm
  obtain ⟨j, rfl⟩ : ∃ j, k = j + 1 := ⟨k - 1, by omega⟩
  obtain ⟨i, hji⟩ : ∃ i, j = i + 1 := ⟨j - 1, by omega⟩
  refine denF_wp_ex hn rfl ?_
  have hq : ∀ x : Blk, (m.set id x).length = m.length := fun x => List.length_set
  have hap1 : ∀ (l : List Blk) (x : Blk), (m ++ l).set id x = m.set id x ++ l := fun l x => by rw [List.set_append_left _ _ hid]
  have hap2 : ∀ (l : List Blk) (x y : Blk), (m.set id x ++ l).set id y = m.set id y ++ l := fun l x y => by rw [List.set_append_left _ _ (by rw [List.length_set]; exact hid), List.set_set]
  have hap3 : ∀ (l : List Blk) (x : Blk), (m.set id x ++ l)[id]? = some x := fun l x => by rw [List.getElem?_append_left (by rw [List.length_set]; exact hid)]; exact List.getElem?_set_self hid
  have hself : ∀ x : Blk, (m.set id x)[id]? = some x := fun x => List.getElem?_set_self hid
  have hget : (m ++ [Blk.cells (zDdl 0)])[id]? = some (pB s r 0) := by rw [List.getElem?_append_left hid]; exact hm
  have hBl := bl hs hr i (by omega) id _ hget
  have hPk := P_peek u hs (suf_skip hr) (i + 1) (by omega) id _ (by rw [List.length_append]; omega) hBl
  rw [hap1, ← hji] at hPk
  have hO := fun m => ref_op ho (wordOf (skipB r)) j (by omega) m
  rw [hop] at hO
  have g0 := fun (x a : Blk) (l : Mem) => app_at0 (hq x) a l
  have g1 := fun (x a b : Blk) (l : Mem) => app_at1 (hq x) a b l
  have s0 := fun (x a c : Blk) (l : Mem) => app_set0 (hq x) a c l
  have s1 := fun (x a b c : Blk) (l : Mem) => app_set1 (hq x) a b c l
  have hidl : ∀ n, id < m.length + n := fun n => by omega
  have hwl := word_len (skipB r)
  have hpl := place_drop (suf_skip hr) hwl
  have hle := place_le (s := s) (r := skipB r)
  have hlen := suf_len (suf_skip hr)
  have hwr : IntKind.i64.wrap ((placeOf10 s (skipB r) : Int) + (wordOf (skipB r)).length) = ((placeOf10 s ((skipB r).drop (wordOf (skipB r)).length) : Nat) : Int) := by rw [wrap_i64 (by omega) (by omega), hpl]; omega
  have hr1 : (skipB r).drop (wordOf (skipB r)).length <:+ s := suf_drop (suf_skip hr) _
  have hpc : pChange r = (pName ((skipB r).drop (wordOf (skipB r)).length)).bind fun t r' => pRest 1 t r' := by unfold pChange; rw [hop]; rfl
  generalize (skipB r).drop (wordOf (skipB r)).length = r1 at *
  generalize wordOf (skipB r) = wd at *
  obtain ⟨v1, H1, V1⟩ := P_nameT w (e := 0) hs hr1 j (by omega) id (m.set id (pB s r1 0) ++ (.cells (zDdl 0) :: .cells [.p (.int .i64 1), .p (.str []), .p (.str []), .p (.str []), .p (.str []), .p (.int .i64 0), .p (.int .i64 0), .p (.bool false), .p (.int .i64 0), .p (.int .i64 0), .p (.str []), .p .nils] :: [])) (hap3 _ _)
  rw [hap2] at H1
  have hr2 := pName_rest hr1
  rcases step_cases (pName_sane r1) s r1 0 with ⟨he, _⟩ | ⟨e1, q1, _, hp1, he, h1⟩ | ⟨n1, r2, _, hp1, h1⟩
  · exact absurd rfl he
  · rw [h1] at H1
    rw [hp1] at hr2
    simp only [PR.rest] at hr2
    obtain ⟨o2, m2, H2, ⟨v2, rfl, A2, V2⟩, l2, rfl⟩ := P_columnsT w (e := e1) hs hr2 j (by omega) id (m.set id (pB s q1 e1) ++ (.cells (zDdl 0) :: .cells [.p (.int .i64 1), .p (.str v1), .p (.str []), .p (.str []), .p (.str []), .p (.int .i64 0), .p (.int .i64 0), .p (.bool false), .p (.int .i64 0), .p (.int .i64 0), .p (.str []), .p .nils] :: [])) (hap3 _ _)
    rw [hap2, pAt_err he] at H2
    have H3 := P_wantT w (e := e1) hs hr2 [107, 101, 121] (by decide) (by decide) (by decide) j (by omega) id (m.set id (pB s q1 e1) ++ (.cells (zDdl 0) :: .cells [.p (.int .i64 1), .p (.str v1), .p (.str []), .p (.str []), .p (.str []), .p (.int .i64 0), .p (.int .i64 0), .p (.bool false), .p (.int .i64 0), .p (.int .i64 0), .p (.str []), v2] :: l2)) (hap3 _ _)
    rw [hap2, pAt_err he] at H3
    obtain ⟨v4, H4, V4⟩ := P_nameT w (e := e1) hs hr2 j (by omega) id (m.set id (pB s q1 e1) ++ (.cells (zDdl 0) :: .cells [.p (.int .i64 1), .p (.str v1), .p (.str []), .p (.str []), .p (.str []), .p (.int .i64 0), .p (.int .i64 0), .p (.bool false), .p (.int .i64 0), .p (.int .i64 0), .p (.str []), v2] :: l2)) (hap3 _ _)
    rw [hap2, pAt_err he] at H4
    have hc : pChange r = .bad e1 q1 := by rw [hpc]; simp only [pRest_1, wKey, wTo, PR.bind, hp1]
    rw [pAt_bad hc, hc]
    unfold zDdl pB at *
    rcases A2 with rfl | ⟨rows, tk, hrows, rfl⟩
    · simp (maxSteps := 8000000) [Fn.f_haulageref10_P_change, hPk, hO, hself, hq, hid, hidl, hwr, H1, H2, H3, H4,  g0, g1, s0, s1, hap2, hap3]
      exact ⟨_, _, ⟨rfl, rfl⟩, ⟨{ op := 1, table := v1, key := v4 }, _, rfl, .inl rfl, fun v q h => by cases h⟩, _, rfl⟩
    · simp (maxSteps := 8000000) [Fn.f_haulageref10_P_change, hPk, hO, hself, hq, hid, hidl, hwr, H1, H2, H3, H4,  g0, g1, s0, s1, hap2, hap3]
      exact ⟨_, _, ⟨rfl, rfl⟩, ⟨{ op := 1, table := v1, key := v4 }, _, rfl, .inr ⟨_, _, hrows, rfl⟩, fun v q h => by cases h⟩, _, rfl⟩
  rw [h1] at H1
  rw [hp1] at hr2
  simp only [PR.rest] at hr2
  have hv1 := V1 n1 r2 rfl hp1
  subst hv1
  obtain ⟨o2, m2, H2, ⟨v2, rfl, A2, V2⟩, l2, rfl⟩ := P_columnsT w (e := 0) hs hr2 j (by omega) id (m.set id (pB s r2 0) ++ (.cells (zDdl 0) :: .cells [.p (.int .i64 1), .p (.str v1), .p (.str []), .p (.str []), .p (.str []), .p (.int .i64 0), .p (.int .i64 0), .p (.bool false), .p (.int .i64 0), .p (.int .i64 0), .p (.str []), .p .nils] :: [])) (hap3 _ _)
  rw [hap2] at H2
  have hr3 := pCols_rest hr2
  rcases step_cases (pCols_sane r2) s r2 0 with ⟨he, _⟩ | ⟨e1, q1, _, hp2, he, h1⟩ | ⟨n2, r3, _, hp2, h1⟩
  · exact absurd rfl he
  · rw [h1] at H2
    rw [hp2] at hr3
    simp only [PR.rest] at hr3
    have H3 := P_wantT w (e := e1) hs hr3 [107, 101, 121] (by decide) (by decide) (by decide) j (by omega) id (m.set id (pB s q1 e1) ++ (.cells (zDdl 0) :: .cells [.p (.int .i64 1), .p (.str v1), .p (.str []), .p (.str []), .p (.str []), .p (.int .i64 0), .p (.int .i64 0), .p (.bool false), .p (.int .i64 0), .p (.int .i64 0), .p (.str []), v2] :: l2)) (hap3 _ _)
    rw [hap2, pAt_err he] at H3
    obtain ⟨v4, H4, V4⟩ := P_nameT w (e := e1) hs hr3 j (by omega) id (m.set id (pB s q1 e1) ++ (.cells (zDdl 0) :: .cells [.p (.int .i64 1), .p (.str v1), .p (.str []), .p (.str []), .p (.str []), .p (.int .i64 0), .p (.int .i64 0), .p (.bool false), .p (.int .i64 0), .p (.int .i64 0), .p (.str []), v2] :: l2)) (hap3 _ _)
    rw [hap2, pAt_err he] at H4
    have hc : pChange r = .bad e1 q1 := by rw [hpc]; simp only [pRest_1, wKey, wTo, PR.bind, hp1, hp2]
    rw [pAt_bad hc, hc]
    unfold zDdl pB at *
    rcases A2 with rfl | ⟨rows, tk, hrows, rfl⟩
    · simp (maxSteps := 8000000) [Fn.f_haulageref10_P_change, hPk, hO, hself, hq, hid, hidl, hwr, H1, H2, H3, H4,  g0, g1, s0, s1, hap2, hap3]
      exact ⟨_, _, ⟨rfl, rfl⟩, ⟨{ op := 1, table := v1, key := v4 }, _, rfl, .inl rfl, fun v q h => by cases h⟩, _, rfl⟩
    · simp (maxSteps := 8000000) [Fn.f_haulageref10_P_change, hPk, hO, hself, hq, hid, hidl, hwr, H1, H2, H3, H4,  g0, g1, s0, s1, hap2, hap3]
      exact ⟨_, _, ⟨rfl, rfl⟩, ⟨{ op := 1, table := v1, key := v4 }, _, rfl, .inr ⟨_, _, hrows, rfl⟩, fun v q h => by cases h⟩, _, rfl⟩
  rw [h1] at H2
  rw [hp2] at hr3
  simp only [PR.rest] at hr3
  obtain ⟨hcne, tk, rfl⟩ := V2 n2 r3 rfl hp2
  have H3 := P_wantT w (e := 0) hs hr3 [107, 101, 121] (by decide) (by decide) (by decide) j (by omega) id (m.set id (pB s r3 0) ++ (.cells (zDdl 0) :: .cells [.p (.int .i64 1), .p (.str v1), .p (.str []), .p (.str []), .p (.str []), .p (.int .i64 0), .p (.int .i64 0), .p (.bool false), .p (.int .i64 0), .p (.int .i64 0), .p (.str []), .tv 8 (n2.map colP) tk] :: l2)) (hap3 _ _)
  rw [hap2] at H3
  have hr4 := pWant_rest [107, 101, 121] hr3
  rcases step_cases (pWant_sane [107, 101, 121] r3) s r3 0 with ⟨he, _⟩ | ⟨e1, q1, _, hp3, he, h1⟩ | ⟨n3, r4, _, hp3, h1⟩
  · exact absurd rfl he
  · rw [h1] at H3
    rw [hp3] at hr4
    simp only [PR.rest] at hr4
    obtain ⟨v4, H4, V4⟩ := P_nameT w (e := e1) hs hr4 j (by omega) id (m.set id (pB s q1 e1) ++ (.cells (zDdl 0) :: .cells [.p (.int .i64 1), .p (.str v1), .p (.str []), .p (.str []), .p (.str []), .p (.int .i64 0), .p (.int .i64 0), .p (.bool false), .p (.int .i64 0), .p (.int .i64 0), .p (.str []), .tv 8 (n2.map colP) tk] :: l2)) (hap3 _ _)
    rw [hap2, pAt_err he] at H4
    have hc : pChange r = .bad e1 q1 := by rw [hpc]; simp only [pRest_1, wKey, wTo, PR.bind, hp1, hp2, hp3]
    rw [pAt_bad hc, hc]
    unfold zDdl pB at *
    simp (maxSteps := 8000000) [Fn.f_haulageref10_P_change, hPk, hO, hself, hq, hid, hidl, hwr, H1, H2, H3, H4,  g0, g1, s0, s1, hap2, hap3]
    exact ⟨_, _, ⟨rfl, rfl⟩, ⟨{ op := 1, table := v1, cols := n2, key := v4 }, _, rfl, .inr ⟨_, _, by simpa using hcne, rfl⟩, fun v q h => by cases h⟩, _, rfl⟩
  rw [h1] at H3
  rw [hp3] at hr4
  simp only [PR.rest] at hr4
  obtain ⟨v4, H4, V4⟩ := P_nameT w (e := 0) hs hr4 j (by omega) id (m.set id (pB s r4 0) ++ (.cells (zDdl 0) :: .cells [.p (.int .i64 1), .p (.str v1), .p (.str []), .p (.str []), .p (.str []), .p (.int .i64 0), .p (.int .i64 0), .p (.bool false), .p (.int .i64 0), .p (.int .i64 0), .p (.str []), .tv 8 (n2.map colP) tk] :: l2)) (hap3 _ _)
  rw [hap2] at H4
  have hr5 := pName_rest hr4
  rcases step_cases (pName_sane r4) s r4 0 with ⟨he, _⟩ | ⟨e1, q1, _, hp4, he, h1⟩ | ⟨n4, r5, _, hp4, h1⟩
  · exact absurd rfl he
  · rw [h1] at H4
    rw [hp4] at hr5
    simp only [PR.rest] at hr5
    have hc : pChange r = .bad e1 q1 := by rw [hpc]; simp only [pRest_1, wKey, wTo, PR.bind, hp1, hp2, hp3, hp4]
    rw [pAt_bad hc, hc]
    unfold zDdl pB at *
    simp (maxSteps := 8000000) [Fn.f_haulageref10_P_change, hPk, hO, hself, hq, hid, hidl, hwr, H1, H2, H3, H4,  g0, g1, s0, s1, hap2, hap3]
    exact ⟨_, _, ⟨rfl, rfl⟩, ⟨{ op := 1, table := v1, cols := n2, key := v4 }, _, rfl, .inr ⟨_, _, by simpa using hcne, rfl⟩, fun v q h => by cases h⟩, _, rfl⟩
  rw [h1] at H4
  rw [hp4] at hr5
  simp only [PR.rest] at hr5
  have hv4 := V4 n4 r5 rfl hp4
  subst hv4
  have hc := hpc
  simp only [pRest_1, wKey, wTo, PR.bind, hp1, hp2, hp3, hp4] at hc
  rw [pAt_ok hc, hc]
  unfold zDdl pB at *
  simp (maxSteps := 8000000) [Fn.f_haulageref10_P_change, hPk, hO, hself, hq, hid, hidl, hwr, H1, H2, H3, H4,  g0, g1, s0, s1, hap2, hap3]
  refine ⟨_, _, ⟨rfl, rfl⟩, ⟨{ op := 1, table := v1, cols := n2, key := v4 }, _, rfl, .inr ⟨_, _, by simpa using hcne, rfl⟩, fun v q h => ?_⟩, _, rfl⟩
  cases h
  exact ⟨rfl, .inr ⟨hcne, _, rfl⟩⟩
theorem Pch_2 (w : D10 E) (hn : E.fn 241 = some Fn.f_haulageref10_P_change) (ho : E.fn 259 = some Fn.f_haulageref10_op) {s r : List UInt8} (hs : (s.length : Int) ≤ 1000000000) (hr : r <:+ s) (k : Nat) (hk : s.length + 350 ≤ k) (id : Nat) (m : Mem) (hm : m[id]? = some (pB s r 0)) (hop : opOf (wordOf (skipB r)) = 2) :
    ∃ (o : Out) (m1 : Mem), denF E (k + 1) 241 [.ptr id 0] m = some (o, m1) ∧ PchR (pChange r) o ∧ ∃ l, m1 = m.set id (pAt s (pChange r) r 0) ++ l := by
  have u := w.u
  have bl : BlanksOk E := blanks_ok u
  have hid := own_id hm
  obtain ⟨j, rfl⟩ : ∃ j, k = j + 1 := ⟨k - 1, by omega⟩
  obtain ⟨i, hji⟩ : ∃ i, j = i + 1 := ⟨j - 1, by omega⟩
  refine denF_wp_ex hn rfl ?_
  have hq : ∀ x : Blk, (m.set id x).length = m.length := fun x => List.length_set
  have hap1 : ∀ (l : List Blk) (x : Blk), (m ++ l).set id x = m.set id x ++ l := fun l x => by rw [List.set_append_left _ _ hid]
  have hap2 : ∀ (l : List Blk) (x y : Blk), (m.set id x ++ l).set id y = m.set id y ++ l := fun l x y => by rw [List.set_append_left _ _ (by rw [List.length_set]; exact hid), List.set_set]
  have hap3 : ∀ (l : List Blk) (x : Blk), (m.set id x ++ l)[id]? = some x := fun l x => by rw [List.getElem?_append_left (by rw [List.length_set]; exact hid)]; exact List.getElem?_set_self hid
  have hself : ∀ x : Blk, (m.set id x)[id]? = some x := fun x => List.getElem?_set_self hid
  have hget : (m ++ [Blk.cells (zDdl 0)])[id]? = some (pB s r 0) := by rw [List.getElem?_append_left hid]; exact hm
  have hBl := bl hs hr i (by omega) id _ hget
  have hPk := P_peek u hs (suf_skip hr) (i + 1) (by omega) id _ (by rw [List.length_append]; omega) hBl
  rw [hap1, ← hji] at hPk
  have hO := fun m => ref_op ho (wordOf (skipB r)) j (by omega) m
  rw [hop] at hO
  have g0 := fun (x a : Blk) (l : Mem) => app_at0 (hq x) a l
  have g1 := fun (x a b : Blk) (l : Mem) => app_at1 (hq x) a b l
  have s0 := fun (x a c : Blk) (l : Mem) => app_set0 (hq x) a c l
  have s1 := fun (x a b c : Blk) (l : Mem) => app_set1 (hq x) a b c l
  have hidl : ∀ n, id < m.length + n := fun n => by omega
  have hwl := word_len (skipB r)
  have hpl := place_drop (suf_skip hr) hwl
  have hle := place_le (s := s) (r := skipB r)
  have hlen := suf_len (suf_skip hr)
  have hwr : IntKind.i64.wrap ((placeOf10 s (skipB r) : Int) + (wordOf (skipB r)).length) = ((placeOf10 s ((skipB r).drop (wordOf (skipB r)).length) : Nat) : Int) := by rw [wrap_i64 (by omega) (by omega), hpl]; omega
  have hr1 : (skipB r).drop (wordOf (skipB r)).length <:+ s := suf_drop (suf_skip hr) _
  have hpc : pChange r = (pName ((skipB r).drop (wordOf (skipB r)).length)).bind fun t r' => pRest 2 t r' := by unfold pChange; rw [hop]; rfl
  generalize (skipB r).drop (wordOf (skipB r)).length = r1 at *
  generalize wordOf (skipB r) = wd at *
  obtain ⟨v1, H1, V1⟩ := P_nameT w (e := 0) hs hr1 j (by omega) id (m.set id (pB s r1 0) ++ (.cells (zDdl 0) :: .cells [.p (.int .i64 2), .p (.str []), .p (.str []), .p (.str []), .p (.str []), .p (.int .i64 0), .p (.int .i64 0), .p (.bool false), .p (.int .i64 0), .p (.int .i64 0), .p (.str []), .p .nils] :: [])) (hap3 _ _)
  rw [hap2] at H1
  have hr2 := pName_rest hr1
  rcases step_cases (pName_sane r1) s r1 0 with ⟨he, _⟩ | ⟨e1, q1, _, hp1, he, h1⟩ | ⟨n1, r2, _, hp1, h1⟩
  · exact absurd rfl he
  · rw [h1] at H1
    rw [hp1] at hr2
    simp only [PR.rest] at hr2
    have hc : pChange r = .bad e1 q1 := by rw [hpc]; simp only [pRest_2, wKey, wTo, PR.bind, hp1]
    rw [pAt_bad hc, hc]
    unfold zDdl pB at *
    simp (maxSteps := 8000000) [Fn.f_haulageref10_P_change, hPk, hO, hself, hq, hid, hidl, hwr, H1,  g0, g1, s0, s1, hap2, hap3]
    exact ⟨_, _, ⟨rfl, rfl⟩, ⟨{ op := 2, table := v1 }, _, rfl, .inl rfl, fun v q h => by cases h⟩, _, rfl⟩
  rw [h1] at H1
  rw [hp1] at hr2
  simp only [PR.rest] at hr2
  have hv1 := V1 n1 r2 rfl hp1
  subst hv1
  have hc := hpc
  simp only [pRest_2, wKey, wTo, PR.bind, hp1] at hc
  rw [pAt_ok hc, hc]
  unfold zDdl pB at *
  simp (maxSteps := 8000000) [Fn.f_haulageref10_P_change, hPk, hO, hself, hq, hid, hidl, hwr, H1,  g0, g1, s0, s1, hap2, hap3]
  exact ⟨_, _, ⟨rfl, rfl⟩, ⟨{ op := 2, table := v1 }, _, rfl, .inl rfl, fun v q h => by cases h; exact ⟨rfl, .inl ⟨rfl, rfl⟩⟩⟩, _, rfl⟩
theorem Pch_3 (w : D10 E) (hn : E.fn 241 = some Fn.f_haulageref10_P_change) (ho : E.fn 259 = some Fn.f_haulageref10_op) {s r : List UInt8} (hs : (s.length : Int) ≤ 1000000000) (hr : r <:+ s) (k : Nat) (hk : s.length + 350 ≤ k) (id : Nat) (m : Mem) (hm : m[id]? = some (pB s r 0)) (hop : opOf (wordOf (skipB r)) = 3) :
    ∃ (o : Out) (m1 : Mem), denF E (k + 1) 241 [.ptr id 0] m = some (o, m1) ∧ PchR (pChange r) o ∧ ∃ l, m1 = m.set id (pAt s (pChange r) r 0) ++ l := by
  have u := w.u
  have bl : BlanksOk E := blanks_ok u
  have hid := own_id hm
  obtain ⟨j, rfl⟩ : ∃ j, k = j + 1 := ⟨k - 1, by omega⟩
  obtain ⟨i, hji⟩ : ∃ i, j = i + 1 := ⟨j - 1, by omega⟩
  refine denF_wp_ex hn rfl ?_
  have hq : ∀ x : Blk, (m.set id x).length = m.length := fun x => List.length_set
  have hap1 : ∀ (l : List Blk) (x : Blk), (m ++ l).set id x = m.set id x ++ l := fun l x => by rw [List.set_append_left _ _ hid]
  have hap2 : ∀ (l : List Blk) (x y : Blk), (m.set id x ++ l).set id y = m.set id y ++ l := fun l x y => by rw [List.set_append_left _ _ (by rw [List.length_set]; exact hid), List.set_set]
  have hap3 : ∀ (l : List Blk) (x : Blk), (m.set id x ++ l)[id]? = some x := fun l x => by rw [List.getElem?_append_left (by rw [List.length_set]; exact hid)]; exact List.getElem?_set_self hid
  have hself : ∀ x : Blk, (m.set id x)[id]? = some x := fun x => List.getElem?_set_self hid
  have hget : (m ++ [Blk.cells (zDdl 0)])[id]? = some (pB s r 0) := by rw [List.getElem?_append_left hid]; exact hm
  have hBl := bl hs hr i (by omega) id _ hget
  have hPk := P_peek u hs (suf_skip hr) (i + 1) (by omega) id _ (by rw [List.length_append]; omega) hBl
  rw [hap1, ← hji] at hPk
  have hO := fun m => ref_op ho (wordOf (skipB r)) j (by omega) m
  rw [hop] at hO
  have g0 := fun (x a : Blk) (l : Mem) => app_at0 (hq x) a l
  have g1 := fun (x a b : Blk) (l : Mem) => app_at1 (hq x) a b l
  have s0 := fun (x a c : Blk) (l : Mem) => app_set0 (hq x) a c l
  have s1 := fun (x a b c : Blk) (l : Mem) => app_set1 (hq x) a b c l
  have hidl : ∀ n, id < m.length + n := fun n => by omega
  have hwl := word_len (skipB r)
  have hpl := place_drop (suf_skip hr) hwl
  have hle := place_le (s := s) (r := skipB r)
  have hlen := suf_len (suf_skip hr)
  have hwr : IntKind.i64.wrap ((placeOf10 s (skipB r) : Int) + (wordOf (skipB r)).length) = ((placeOf10 s ((skipB r).drop (wordOf (skipB r)).length) : Nat) : Int) := by rw [wrap_i64 (by omega) (by omega), hpl]; omega
  have hr1 : (skipB r).drop (wordOf (skipB r)).length <:+ s := suf_drop (suf_skip hr) _
  have hpc : pChange r = (pName ((skipB r).drop (wordOf (skipB r)).length)).bind fun t r' => pRest 3 t r' := by unfold pChange; rw [hop]; rfl
  generalize (skipB r).drop (wordOf (skipB r)).length = r1 at *
  generalize wordOf (skipB r) = wd at *
  obtain ⟨v1, H1, V1⟩ := P_nameT w (e := 0) hs hr1 j (by omega) id (m.set id (pB s r1 0) ++ (.cells (zDdl 0) :: .cells [.p (.int .i64 3), .p (.str []), .p (.str []), .p (.str []), .p (.str []), .p (.int .i64 0), .p (.int .i64 0), .p (.bool false), .p (.int .i64 0), .p (.int .i64 0), .p (.str []), .p .nils] :: [])) (hap3 _ _)
  rw [hap2] at H1
  have hr2 := pName_rest hr1
  rcases step_cases (pName_sane r1) s r1 0 with ⟨he, _⟩ | ⟨e1, q1, _, hp1, he, h1⟩ | ⟨n1, r2, _, hp1, h1⟩
  · exact absurd rfl he
  · rw [h1] at H1
    rw [hp1] at hr2
    simp only [PR.rest] at hr2
    have H2 := P_wantT w (e := e1) hs hr2 [116, 111] (by decide) (by decide) (by decide) j (by omega) id (m.set id (pB s q1 e1) ++ (.cells (zDdl 0) :: .cells [.p (.int .i64 3), .p (.str v1), .p (.str []), .p (.str []), .p (.str []), .p (.int .i64 0), .p (.int .i64 0), .p (.bool false), .p (.int .i64 0), .p (.int .i64 0), .p (.str []), .p .nils] :: [])) (hap3 _ _)
    rw [hap2, pAt_err he] at H2
    obtain ⟨v3, H3, V3⟩ := P_nameT w (e := e1) hs hr2 j (by omega) id (m.set id (pB s q1 e1) ++ (.cells (zDdl 0) :: .cells [.p (.int .i64 3), .p (.str v1), .p (.str []), .p (.str []), .p (.str []), .p (.int .i64 0), .p (.int .i64 0), .p (.bool false), .p (.int .i64 0), .p (.int .i64 0), .p (.str []), .p .nils] :: [])) (hap3 _ _)
    rw [hap2, pAt_err he] at H3
    have hc : pChange r = .bad e1 q1 := by rw [hpc]; simp only [pRest_3, wKey, wTo, PR.bind, hp1]
    rw [pAt_bad hc, hc]
    unfold zDdl pB at *
    simp (maxSteps := 8000000) [Fn.f_haulageref10_P_change, hPk, hO, hself, hq, hid, hidl, hwr, H1, H2, H3,  g0, g1, s0, s1, hap2, hap3]
    exact ⟨_, _, ⟨rfl, rfl⟩, ⟨{ op := 3, table := v1, to := v3 }, _, rfl, .inl rfl, fun v q h => by cases h⟩, _, rfl⟩
  rw [h1] at H1
  rw [hp1] at hr2
  simp only [PR.rest] at hr2
  have hv1 := V1 n1 r2 rfl hp1
  subst hv1
  have H2 := P_wantT w (e := 0) hs hr2 [116, 111] (by decide) (by decide) (by decide) j (by omega) id (m.set id (pB s r2 0) ++ (.cells (zDdl 0) :: .cells [.p (.int .i64 3), .p (.str v1), .p (.str []), .p (.str []), .p (.str []), .p (.int .i64 0), .p (.int .i64 0), .p (.bool false), .p (.int .i64 0), .p (.int .i64 0), .p (.str []), .p .nils] :: [])) (hap3 _ _)
  rw [hap2] at H2
  have hr3 := pWant_rest [116, 111] hr2
  rcases step_cases (pWant_sane [116, 111] r2) s r2 0 with ⟨he, _⟩ | ⟨e1, q1, _, hp2, he, h1⟩ | ⟨n2, r3, _, hp2, h1⟩
  · exact absurd rfl he
  · rw [h1] at H2
    rw [hp2] at hr3
    simp only [PR.rest] at hr3
    obtain ⟨v3, H3, V3⟩ := P_nameT w (e := e1) hs hr3 j (by omega) id (m.set id (pB s q1 e1) ++ (.cells (zDdl 0) :: .cells [.p (.int .i64 3), .p (.str v1), .p (.str []), .p (.str []), .p (.str []), .p (.int .i64 0), .p (.int .i64 0), .p (.bool false), .p (.int .i64 0), .p (.int .i64 0), .p (.str []), .p .nils] :: [])) (hap3 _ _)
    rw [hap2, pAt_err he] at H3
    have hc : pChange r = .bad e1 q1 := by rw [hpc]; simp only [pRest_3, wKey, wTo, PR.bind, hp1, hp2]
    rw [pAt_bad hc, hc]
    unfold zDdl pB at *
    simp (maxSteps := 8000000) [Fn.f_haulageref10_P_change, hPk, hO, hself, hq, hid, hidl, hwr, H1, H2, H3,  g0, g1, s0, s1, hap2, hap3]
    exact ⟨_, _, ⟨rfl, rfl⟩, ⟨{ op := 3, table := v1, to := v3 }, _, rfl, .inl rfl, fun v q h => by cases h⟩, _, rfl⟩
  rw [h1] at H2
  rw [hp2] at hr3
  simp only [PR.rest] at hr3
  obtain ⟨v3, H3, V3⟩ := P_nameT w (e := 0) hs hr3 j (by omega) id (m.set id (pB s r3 0) ++ (.cells (zDdl 0) :: .cells [.p (.int .i64 3), .p (.str v1), .p (.str []), .p (.str []), .p (.str []), .p (.int .i64 0), .p (.int .i64 0), .p (.bool false), .p (.int .i64 0), .p (.int .i64 0), .p (.str []), .p .nils] :: [])) (hap3 _ _)
  rw [hap2] at H3
  have hr4 := pName_rest hr3
  rcases step_cases (pName_sane r3) s r3 0 with ⟨he, _⟩ | ⟨e1, q1, _, hp3, he, h1⟩ | ⟨n3, r4, _, hp3, h1⟩
  · exact absurd rfl he
  · rw [h1] at H3
    rw [hp3] at hr4
    simp only [PR.rest] at hr4
    have hc : pChange r = .bad e1 q1 := by rw [hpc]; simp only [pRest_3, wKey, wTo, PR.bind, hp1, hp2, hp3]
    rw [pAt_bad hc, hc]
    unfold zDdl pB at *
    simp (maxSteps := 8000000) [Fn.f_haulageref10_P_change, hPk, hO, hself, hq, hid, hidl, hwr, H1, H2, H3,  g0, g1, s0, s1, hap2, hap3]
    exact ⟨_, _, ⟨rfl, rfl⟩, ⟨{ op := 3, table := v1, to := v3 }, _, rfl, .inl rfl, fun v q h => by cases h⟩, _, rfl⟩
  rw [h1] at H3
  rw [hp3] at hr4
  simp only [PR.rest] at hr4
  have hv3 := V3 n3 r4 rfl hp3
  subst hv3
  have hc := hpc
  simp only [pRest_3, wKey, wTo, PR.bind, hp1, hp2, hp3] at hc
  rw [pAt_ok hc, hc]
  unfold zDdl pB at *
  simp (maxSteps := 8000000) [Fn.f_haulageref10_P_change, hPk, hO, hself, hq, hid, hidl, hwr, H1, H2, H3,  g0, g1, s0, s1, hap2, hap3]
  exact ⟨_, _, ⟨rfl, rfl⟩, ⟨{ op := 3, table := v1, to := v3 }, _, rfl, .inl rfl, fun v q h => by cases h; exact ⟨rfl, .inl ⟨rfl, rfl⟩⟩⟩, _, rfl⟩
theorem Pch_4 (w : D10 E) (hn : E.fn 241 = some Fn.f_haulageref10_P_change) (ho : E.fn 259 = some Fn.f_haulageref10_op) {s r : List UInt8} (hs : (s.length : Int) ≤ 1000000000) (hr : r <:+ s) (k : Nat) (hk : s.length + 350 ≤ k) (id : Nat) (m : Mem) (hm : m[id]? = some (pB s r 0)) (hop : opOf (wordOf (skipB r)) = 4) :
    ∃ (o : Out) (m1 : Mem), denF E (k + 1) 241 [.ptr id 0] m = some (o, m1) ∧ PchR (pChange r) o ∧ ∃ l, m1 = m.set id (pAt s (pChange r) r 0) ++ l := by
  have u := w.u
  have bl : BlanksOk E := blanks_ok u
  have hid := own_id hm
  obtain ⟨j, rfl⟩ : ∃ j, k = j + 1 := ⟨k - 1, by omega⟩
  obtain ⟨i, hji⟩ : ∃ i, j = i + 1 := ⟨j - 1, by omega⟩
  refine denF_wp_ex hn rfl ?_
  have hq : ∀ x : Blk, (m.set id x).length = m.length := fun x => List.length_set
  have hap1 : ∀ (l : List Blk) (x : Blk), (m ++ l).set id x = m.set id x ++ l := fun l x => by rw [List.set_append_left _ _ hid]
  have hap2 : ∀ (l : List Blk) (x y : Blk), (m.set id x ++ l).set id y = m.set id y ++ l := fun l x y => by rw [List.set_append_left _ _ (by rw [List.length_set]; exact hid), List.set_set]
  have hap3 : ∀ (l : List Blk) (x : Blk), (m.set id x ++ l)[id]? = some x := fun l x => by rw [List.getElem?_append_left (by rw [List.length_set]; exact hid)]; exact List.getElem?_set_self hid
  have hself : ∀ x : Blk, (m.set id x)[id]? = some x := fun x => List.getElem?_set_self hid
  have hget : (m ++ [Blk.cells (zDdl 0)])[id]? = some (pB s r 0) := by rw [List.getElem?_append_left hid]; exact hm
  have hBl := bl hs hr i (by omega) id _ hget
  have hPk := P_peek u hs (suf_skip hr) (i + 1) (by omega) id _ (by rw [List.length_append]; omega) hBl
  rw [hap1, ← hji] at hPk
  have hO := fun m => ref_op ho (wordOf (skipB r)) j (by omega) m
  rw [hop] at hO
  have g0 := fun (x a : Blk) (l : Mem) => app_at0 (hq x) a l
  have g1 := fun (x a b : Blk) (l : Mem) => app_at1 (hq x) a b l
  have s0 := fun (x a c : Blk) (l : Mem) => app_set0 (hq x) a c l
  have s1 := fun (x a b c : Blk) (l : Mem) => app_set1 (hq x) a b c l
  have hidl : ∀ n, id < m.length + n := fun n => by omega
  have hwl := word_len (skipB r)
  have hpl := place_drop (suf_skip hr) hwl
  have hle := place_le (s := s) (r := skipB r)
  have hlen := suf_len (suf_skip hr)
  have hwr : IntKind.i64.wrap ((placeOf10 s (skipB r) : Int) + (wordOf (skipB r)).length) = ((placeOf10 s ((skipB r).drop (wordOf (skipB r)).length) : Nat) : Int) := by rw [wrap_i64 (by omega) (by omega), hpl]; omega
  have hr1 : (skipB r).drop (wordOf (skipB r)).length <:+ s := suf_drop (suf_skip hr) _
  have hpc : pChange r = (pName ((skipB r).drop (wordOf (skipB r)).length)).bind fun t r' => pRest 4 t r' := by unfold pChange; rw [hop]; rfl
  generalize (skipB r).drop (wordOf (skipB r)).length = r1 at *
  generalize wordOf (skipB r) = wd at *
  obtain ⟨v1, H1, V1⟩ := P_nameT w (e := 0) hs hr1 j (by omega) id (m.set id (pB s r1 0) ++ (.cells (zDdl 0) :: .cells [.p (.int .i64 4), .p (.str []), .p (.str []), .p (.str []), .p (.str []), .p (.int .i64 0), .p (.int .i64 0), .p (.bool false), .p (.int .i64 0), .p (.int .i64 0), .p (.str []), .p .nils] :: [])) (hap3 _ _)
  rw [hap2] at H1
  have hr2 := pName_rest hr1
  rcases step_cases (pName_sane r1) s r1 0 with ⟨he, _⟩ | ⟨e1, q1, _, hp1, he, h1⟩ | ⟨n1, r2, _, hp1, h1⟩
  · exact absurd rfl he
  · rw [h1] at H1
    rw [hp1] at hr2
    simp only [PR.rest] at hr2
    obtain ⟨l2, v2, H2, V2⟩ := P_columnT w (e := e1) hs hr2 j (by omega) id (m.set id (pB s q1 e1) ++ (.cells (zDdl 0) :: .cells [.p (.int .i64 4), .p (.str v1), .p (.str []), .p (.str []), .p (.str []), .p (.int .i64 0), .p (.int .i64 0), .p (.bool false), .p (.int .i64 0), .p (.int .i64 0), .p (.str []), .p .nils] :: [])) (hap3 _ _)
    rw [hap2, pAt_err he] at H2
    have hc : pChange r = .bad e1 q1 := by rw [hpc]; simp only [pRest_4, wKey, wTo, PR.bind, hp1]
    rw [pAt_bad hc, hc]
    unfold colOut colP at *
    have gC : ∀ x a b c : Blk, (m.set id x ++ a :: b :: (l2 ++ [c]))[m.length + (l2.length + 1 + 1)]? = some c := fun x a b c => by
      rw [List.getElem?_append_right (by rw [hq]; omega), hq, Nat.add_sub_cancel_left, List.getElem?_cons_succ, List.getElem?_cons_succ, List.getElem?_append_right (Nat.le_refl _), Nat.sub_self]; rfl
    have sC : ∀ x a b c d : Blk, (m.set id x ++ a :: b :: (l2 ++ [c])).set (m.length + (l2.length + 1 + 1)) d = m.set id x ++ a :: b :: (l2 ++ [d]) := fun x a b c d => by
      rw [List.set_append_right _ _ (by rw [hq]; omega), hq, Nat.add_sub_cancel_left, List.set_cons_succ, List.set_cons_succ, List.set_append_right _ _ (Nat.le_refl _), Nat.sub_self]; rfl
    unfold zDdl pB at *
    simp (maxSteps := 8000000) [Fn.f_haulageref10_P_change, hPk, hO, hself, hq, hid, hidl, hwr, H1, H2,  g0, g1, s0, s1, hap2, hap3, gC, sC]
    exact ⟨_, _, ⟨rfl, rfl⟩, ⟨{ op := 4, table := v1, kind := v2.kind, max := v2.max, null := v2.null, dk := v2.dk, dn := v2.dn, ds := v2.ds, column := v2.name }, _, rfl, .inl rfl, fun v q h => by cases h⟩, _, rfl⟩
  rw [h1] at H1
  rw [hp1] at hr2
  simp only [PR.rest] at hr2
  have hv1 := V1 n1 r2 rfl hp1
  subst hv1
  obtain ⟨l2, v2, H2, V2⟩ := P_columnT w (e := 0) hs hr2 j (by omega) id (m.set id (pB s r2 0) ++ (.cells (zDdl 0) :: .cells [.p (.int .i64 4), .p (.str v1), .p (.str []), .p (.str []), .p (.str []), .p (.int .i64 0), .p (.int .i64 0), .p (.bool false), .p (.int .i64 0), .p (.int .i64 0), .p (.str []), .p .nils] :: [])) (hap3 _ _)
  rw [hap2] at H2
  have hr3 := pCol_rest hr2
  rcases step_cases (pCol_sane r2) s r2 0 with ⟨he, _⟩ | ⟨e1, q1, _, hp2, he, h1⟩ | ⟨n2, r3, _, hp2, h1⟩
  · exact absurd rfl he
  · rw [h1] at H2
    rw [hp2] at hr3
    simp only [PR.rest] at hr3
    have hc : pChange r = .bad e1 q1 := by rw [hpc]; simp only [pRest_4, wKey, wTo, PR.bind, hp1, hp2]
    rw [pAt_bad hc, hc]
    unfold colOut colP at *
    have gC : ∀ x a b c : Blk, (m.set id x ++ a :: b :: (l2 ++ [c]))[m.length + (l2.length + 1 + 1)]? = some c := fun x a b c => by
      rw [List.getElem?_append_right (by rw [hq]; omega), hq, Nat.add_sub_cancel_left, List.getElem?_cons_succ, List.getElem?_cons_succ, List.getElem?_append_right (Nat.le_refl _), Nat.sub_self]; rfl
    have sC : ∀ x a b c d : Blk, (m.set id x ++ a :: b :: (l2 ++ [c])).set (m.length + (l2.length + 1 + 1)) d = m.set id x ++ a :: b :: (l2 ++ [d]) := fun x a b c d => by
      rw [List.set_append_right _ _ (by rw [hq]; omega), hq, Nat.add_sub_cancel_left, List.set_cons_succ, List.set_cons_succ, List.set_append_right _ _ (Nat.le_refl _), Nat.sub_self]; rfl
    unfold zDdl pB at *
    simp (maxSteps := 8000000) [Fn.f_haulageref10_P_change, hPk, hO, hself, hq, hid, hidl, hwr, H1, H2,  g0, g1, s0, s1, hap2, hap3, gC, sC]
    exact ⟨_, _, ⟨rfl, rfl⟩, ⟨{ op := 4, table := v1, kind := v2.kind, max := v2.max, null := v2.null, dk := v2.dk, dn := v2.dn, ds := v2.ds, column := v2.name }, _, rfl, .inl rfl, fun v q h => by cases h⟩, _, rfl⟩
  rw [h1] at H2
  rw [hp2] at hr3
  simp only [PR.rest] at hr3
  have hv2 := V2 n2 r3 rfl hp2
  subst hv2
  have hc := hpc
  simp only [pRest_4, wKey, wTo, PR.bind, hp1, hp2] at hc
  rw [pAt_ok hc, hc]
  unfold colOut colP at *
  have gC : ∀ x a b c : Blk, (m.set id x ++ a :: b :: (l2 ++ [c]))[m.length + (l2.length + 1 + 1)]? = some c := fun x a b c => by
    rw [List.getElem?_append_right (by rw [hq]; omega), hq, Nat.add_sub_cancel_left, List.getElem?_cons_succ, List.getElem?_cons_succ, List.getElem?_append_right (Nat.le_refl _), Nat.sub_self]; rfl
  have sC : ∀ x a b c d : Blk, (m.set id x ++ a :: b :: (l2 ++ [c])).set (m.length + (l2.length + 1 + 1)) d = m.set id x ++ a :: b :: (l2 ++ [d]) := fun x a b c d => by
    rw [List.set_append_right _ _ (by rw [hq]; omega), hq, Nat.add_sub_cancel_left, List.set_cons_succ, List.set_cons_succ, List.set_append_right _ _ (Nat.le_refl _), Nat.sub_self]; rfl
  unfold zDdl pB at *
  simp (maxSteps := 8000000) [Fn.f_haulageref10_P_change, hPk, hO, hself, hq, hid, hidl, hwr, H1, H2,  g0, g1, s0, s1, hap2, hap3, gC, sC]
  exact ⟨_, _, ⟨rfl, rfl⟩, ⟨{ op := 4, table := v1, kind := v2.kind, max := v2.max, null := v2.null, dk := v2.dk, dn := v2.dn, ds := v2.ds, column := v2.name }, _, rfl, .inl rfl, fun v q h => by cases h; exact ⟨rfl, .inl ⟨rfl, rfl⟩⟩⟩, _, rfl⟩
theorem Pch_5 (w : D10 E) (hn : E.fn 241 = some Fn.f_haulageref10_P_change) (ho : E.fn 259 = some Fn.f_haulageref10_op) {s r : List UInt8} (hs : (s.length : Int) ≤ 1000000000) (hr : r <:+ s) (k : Nat) (hk : s.length + 350 ≤ k) (id : Nat) (m : Mem) (hm : m[id]? = some (pB s r 0)) (hop : opOf (wordOf (skipB r)) = 5) :
    ∃ (o : Out) (m1 : Mem), denF E (k + 1) 241 [.ptr id 0] m = some (o, m1) ∧ PchR (pChange r) o ∧ ∃ l, m1 = m.set id (pAt s (pChange r) r 0) ++ l := by
  have u := w.u
  have bl : BlanksOk E := blanks_ok u
  have hid := own_id hm
  obtain ⟨j, rfl⟩ : ∃ j, k = j + 1 := ⟨k - 1, by omega⟩
  obtain ⟨i, hji⟩ : ∃ i, j = i + 1 := ⟨j - 1, by omega⟩
  refine denF_wp_ex hn rfl ?_
  have hq : ∀ x : Blk, (m.set id x).length = m.length := fun x => List.length_set
  have hap1 : ∀ (l : List Blk) (x : Blk), (m ++ l).set id x = m.set id x ++ l := fun l x => by rw [List.set_append_left _ _ hid]
  have hap2 : ∀ (l : List Blk) (x y : Blk), (m.set id x ++ l).set id y = m.set id y ++ l := fun l x y => by rw [List.set_append_left _ _ (by rw [List.length_set]; exact hid), List.set_set]
  have hap3 : ∀ (l : List Blk) (x : Blk), (m.set id x ++ l)[id]? = some x := fun l x => by rw [List.getElem?_append_left (by rw [List.length_set]; exact hid)]; exact List.getElem?_set_self hid
  have hself : ∀ x : Blk, (m.set id x)[id]? = some x := fun x => List.getElem?_set_self hid
  have hget : (m ++ [Blk.cells (zDdl 0)])[id]? = some (pB s r 0) := by rw [List.getElem?_append_left hid]; exact hm
  have hBl := bl hs hr i (by omega) id _ hget
  have hPk := P_peek u hs (suf_skip hr) (i + 1) (by omega) id _ (by rw [List.length_append]; omega) hBl
  rw [hap1, ← hji] at hPk
  have hO := fun m => ref_op ho (wordOf (skipB r)) j (by omega) m
  rw [hop] at hO
  have g0 := fun (x a : Blk) (l : Mem) => app_at0 (hq x) a l
  have g1 := fun (x a b : Blk) (l : Mem) => app_at1 (hq x) a b l
  have s0 := fun (x a c : Blk) (l : Mem) => app_set0 (hq x) a c l
  have s1 := fun (x a b c : Blk) (l : Mem) => app_set1 (hq x) a b c l
  have hidl : ∀ n, id < m.length + n := fun n => by omega
  have hwl := word_len (skipB r)
  have hpl := place_drop (suf_skip hr) hwl
  have hle := place_le (s := s) (r := skipB r)
  have hlen := suf_len (suf_skip hr)
  have hwr : IntKind.i64.wrap ((placeOf10 s (skipB r) : Int) + (wordOf (skipB r)).length) = ((placeOf10 s ((skipB r).drop (wordOf (skipB r)).length) : Nat) : Int) := by rw [wrap_i64 (by omega) (by omega), hpl]; omega
  have hr1 : (skipB r).drop (wordOf (skipB r)).length <:+ s := suf_drop (suf_skip hr) _
  have hpc : pChange r = (pName ((skipB r).drop (wordOf (skipB r)).length)).bind fun t r' => pRest 5 t r' := by unfold pChange; rw [hop]; rfl
  generalize (skipB r).drop (wordOf (skipB r)).length = r1 at *
  generalize wordOf (skipB r) = wd at *
  obtain ⟨v1, H1, V1⟩ := P_nameT w (e := 0) hs hr1 j (by omega) id (m.set id (pB s r1 0) ++ (.cells (zDdl 0) :: .cells [.p (.int .i64 5), .p (.str []), .p (.str []), .p (.str []), .p (.str []), .p (.int .i64 0), .p (.int .i64 0), .p (.bool false), .p (.int .i64 0), .p (.int .i64 0), .p (.str []), .p .nils] :: [])) (hap3 _ _)
  rw [hap2] at H1
  have hr2 := pName_rest hr1
  rcases step_cases (pName_sane r1) s r1 0 with ⟨he, _⟩ | ⟨e1, q1, _, hp1, he, h1⟩ | ⟨n1, r2, _, hp1, h1⟩
  · exact absurd rfl he
  · rw [h1] at H1
    rw [hp1] at hr2
    simp only [PR.rest] at hr2
    obtain ⟨v2, H2, V2⟩ := P_nameT w (e := e1) hs hr2 j (by omega) id (m.set id (pB s q1 e1) ++ (.cells (zDdl 0) :: .cells [.p (.int .i64 5), .p (.str v1), .p (.str []), .p (.str []), .p (.str []), .p (.int .i64 0), .p (.int .i64 0), .p (.bool false), .p (.int .i64 0), .p (.int .i64 0), .p (.str []), .p .nils] :: [])) (hap3 _ _)
    rw [hap2, pAt_err he] at H2
    have hc : pChange r = .bad e1 q1 := by rw [hpc]; simp only [pRest_5, wKey, wTo, PR.bind, hp1]
    rw [pAt_bad hc, hc]
    unfold zDdl pB at *
    simp (maxSteps := 8000000) [Fn.f_haulageref10_P_change, hPk, hO, hself, hq, hid, hidl, hwr, H1, H2,  g0, g1, s0, s1, hap2, hap3]
    exact ⟨_, _, ⟨rfl, rfl⟩, ⟨{ op := 5, table := v1, column := v2 }, _, rfl, .inl rfl, fun v q h => by cases h⟩, _, rfl⟩
  rw [h1] at H1
  rw [hp1] at hr2
  simp only [PR.rest] at hr2
  have hv1 := V1 n1 r2 rfl hp1
  subst hv1
  obtain ⟨v2, H2, V2⟩ := P_nameT w (e := 0) hs hr2 j (by omega) id (m.set id (pB s r2 0) ++ (.cells (zDdl 0) :: .cells [.p (.int .i64 5), .p (.str v1), .p (.str []), .p (.str []), .p (.str []), .p (.int .i64 0), .p (.int .i64 0), .p (.bool false), .p (.int .i64 0), .p (.int .i64 0), .p (.str []), .p .nils] :: [])) (hap3 _ _)
  rw [hap2] at H2
  have hr3 := pName_rest hr2
  rcases step_cases (pName_sane r2) s r2 0 with ⟨he, _⟩ | ⟨e1, q1, _, hp2, he, h1⟩ | ⟨n2, r3, _, hp2, h1⟩
  · exact absurd rfl he
  · rw [h1] at H2
    rw [hp2] at hr3
    simp only [PR.rest] at hr3
    have hc : pChange r = .bad e1 q1 := by rw [hpc]; simp only [pRest_5, wKey, wTo, PR.bind, hp1, hp2]
    rw [pAt_bad hc, hc]
    unfold zDdl pB at *
    simp (maxSteps := 8000000) [Fn.f_haulageref10_P_change, hPk, hO, hself, hq, hid, hidl, hwr, H1, H2,  g0, g1, s0, s1, hap2, hap3]
    exact ⟨_, _, ⟨rfl, rfl⟩, ⟨{ op := 5, table := v1, column := v2 }, _, rfl, .inl rfl, fun v q h => by cases h⟩, _, rfl⟩
  rw [h1] at H2
  rw [hp2] at hr3
  simp only [PR.rest] at hr3
  have hv2 := V2 n2 r3 rfl hp2
  subst hv2
  have hc := hpc
  simp only [pRest_5, wKey, wTo, PR.bind, hp1, hp2] at hc
  rw [pAt_ok hc, hc]
  unfold zDdl pB at *
  simp (maxSteps := 8000000) [Fn.f_haulageref10_P_change, hPk, hO, hself, hq, hid, hidl, hwr, H1, H2,  g0, g1, s0, s1, hap2, hap3]
  exact ⟨_, _, ⟨rfl, rfl⟩, ⟨{ op := 5, table := v1, column := v2 }, _, rfl, .inl rfl, fun v q h => by cases h; exact ⟨rfl, .inl ⟨rfl, rfl⟩⟩⟩, _, rfl⟩
theorem Pch_6 (w : D10 E) (hn : E.fn 241 = some Fn.f_haulageref10_P_change) (ho : E.fn 259 = some Fn.f_haulageref10_op) {s r : List UInt8} (hs : (s.length : Int) ≤ 1000000000) (hr : r <:+ s) (k : Nat) (hk : s.length + 350 ≤ k) (id : Nat) (m : Mem) (hm : m[id]? = some (pB s r 0)) (hop : opOf (wordOf (skipB r)) = 6) :
    ∃ (o : Out) (m1 : Mem), denF E (k + 1) 241 [.ptr id 0] m = some (o, m1) ∧ PchR (pChange r) o ∧ ∃ l, m1 = m.set id (pAt s (pChange r) r 0) ++ l := by
  have u := w.u
  have bl : BlanksOk E := blanks_ok u
  have hid := own_id hm
  obtain ⟨j, rfl⟩ : ∃ j, k = j + 1 := ⟨k - 1, by omega⟩
  obtain ⟨i, hji⟩ : ∃ i, j = i + 1 := ⟨j - 1, by omega⟩
  refine denF_wp_ex hn rfl ?_
  have hq : ∀ x : Blk, (m.set id x).length = m.length := fun x => List.length_set
  have hap1 : ∀ (l : List Blk) (x : Blk), (m ++ l).set id x = m.set id x ++ l := fun l x => by rw [List.set_append_left _ _ hid]
  have hap2 : ∀ (l : List Blk) (x y : Blk), (m.set id x ++ l).set id y = m.set id y ++ l := fun l x y => by rw [List.set_append_left _ _ (by rw [List.length_set]; exact hid), List.set_set]
  have hap3 : ∀ (l : List Blk) (x : Blk), (m.set id x ++ l)[id]? = some x := fun l x => by rw [List.getElem?_append_left (by rw [List.length_set]; exact hid)]; exact List.getElem?_set_self hid
  have hself : ∀ x : Blk, (m.set id x)[id]? = some x := fun x => List.getElem?_set_self hid
  have hget : (m ++ [Blk.cells (zDdl 0)])[id]? = some (pB s r 0) := by rw [List.getElem?_append_left hid]; exact hm
  have hBl := bl hs hr i (by omega) id _ hget
  have hPk := P_peek u hs (suf_skip hr) (i + 1) (by omega) id _ (by rw [List.length_append]; omega) hBl
  rw [hap1, ← hji] at hPk
  have hO := fun m => ref_op ho (wordOf (skipB r)) j (by omega) m
  rw [hop] at hO
  have g0 := fun (x a : Blk) (l : Mem) => app_at0 (hq x) a l
  have g1 := fun (x a b : Blk) (l : Mem) => app_at1 (hq x) a b l
  have s0 := fun (x a c : Blk) (l : Mem) => app_set0 (hq x) a c l
  have s1 := fun (x a b c : Blk) (l : Mem) => app_set1 (hq x) a b c l
  have hidl : ∀ n, id < m.length + n := fun n => by omega
  have hwl := word_len (skipB r)
  have hpl := place_drop (suf_skip hr) hwl
  have hle := place_le (s := s) (r := skipB r)
  have hlen := suf_len (suf_skip hr)
  have hwr : IntKind.i64.wrap ((placeOf10 s (skipB r) : Int) + (wordOf (skipB r)).length) = ((placeOf10 s ((skipB r).drop (wordOf (skipB r)).length) : Nat) : Int) := by rw [wrap_i64 (by omega) (by omega), hpl]; omega
  have hr1 : (skipB r).drop (wordOf (skipB r)).length <:+ s := suf_drop (suf_skip hr) _
  have hpc : pChange r = (pName ((skipB r).drop (wordOf (skipB r)).length)).bind fun t r' => pRest 6 t r' := by unfold pChange; rw [hop]; rfl
  generalize (skipB r).drop (wordOf (skipB r)).length = r1 at *
  generalize wordOf (skipB r) = wd at *
  obtain ⟨v1, H1, V1⟩ := P_nameT w (e := 0) hs hr1 j (by omega) id (m.set id (pB s r1 0) ++ (.cells (zDdl 0) :: .cells [.p (.int .i64 6), .p (.str []), .p (.str []), .p (.str []), .p (.str []), .p (.int .i64 0), .p (.int .i64 0), .p (.bool false), .p (.int .i64 0), .p (.int .i64 0), .p (.str []), .p .nils] :: [])) (hap3 _ _)
  rw [hap2] at H1
  have hr2 := pName_rest hr1
  rcases step_cases (pName_sane r1) s r1 0 with ⟨he, _⟩ | ⟨e1, q1, _, hp1, he, h1⟩ | ⟨n1, r2, _, hp1, h1⟩
  · exact absurd rfl he
  · rw [h1] at H1
    rw [hp1] at hr2
    simp only [PR.rest] at hr2
    obtain ⟨v2, H2, V2⟩ := P_nameT w (e := e1) hs hr2 j (by omega) id (m.set id (pB s q1 e1) ++ (.cells (zDdl 0) :: .cells [.p (.int .i64 6), .p (.str v1), .p (.str []), .p (.str []), .p (.str []), .p (.int .i64 0), .p (.int .i64 0), .p (.bool false), .p (.int .i64 0), .p (.int .i64 0), .p (.str []), .p .nils] :: [])) (hap3 _ _)
    rw [hap2, pAt_err he] at H2
    have H3 := P_wantT w (e := e1) hs hr2 [116, 111] (by decide) (by decide) (by decide) j (by omega) id (m.set id (pB s q1 e1) ++ (.cells (zDdl 0) :: .cells [.p (.int .i64 6), .p (.str v1), .p (.str v2), .p (.str []), .p (.str []), .p (.int .i64 0), .p (.int .i64 0), .p (.bool false), .p (.int .i64 0), .p (.int .i64 0), .p (.str []), .p .nils] :: [])) (hap3 _ _)
    rw [hap2, pAt_err he] at H3
    obtain ⟨v4, H4, V4⟩ := P_nameT w (e := e1) hs hr2 j (by omega) id (m.set id (pB s q1 e1) ++ (.cells (zDdl 0) :: .cells [.p (.int .i64 6), .p (.str v1), .p (.str v2), .p (.str []), .p (.str []), .p (.int .i64 0), .p (.int .i64 0), .p (.bool false), .p (.int .i64 0), .p (.int .i64 0), .p (.str []), .p .nils] :: [])) (hap3 _ _)
    rw [hap2, pAt_err he] at H4
    have hc : pChange r = .bad e1 q1 := by rw [hpc]; simp only [pRest_6, wKey, wTo, PR.bind, hp1]
    rw [pAt_bad hc, hc]
    unfold zDdl pB at *
    simp (maxSteps := 8000000) [Fn.f_haulageref10_P_change, hPk, hO, hself, hq, hid, hidl, hwr, H1, H2, H3, H4,  g0, g1, s0, s1, hap2, hap3]
    exact ⟨_, _, ⟨rfl, rfl⟩, ⟨{ op := 6, table := v1, column := v2, to := v4 }, _, rfl, .inl rfl, fun v q h => by cases h⟩, _, rfl⟩
  rw [h1] at H1
  rw [hp1] at hr2
  simp only [PR.rest] at hr2
  have hv1 := V1 n1 r2 rfl hp1
  subst hv1
  obtain ⟨v2, H2, V2⟩ := P_nameT w (e := 0) hs hr2 j (by omega) id (m.set id (pB s r2 0) ++ (.cells (zDdl 0) :: .cells [.p (.int .i64 6), .p (.str v1), .p (.str []), .p (.str []), .p (.str []), .p (.int .i64 0), .p (.int .i64 0), .p (.bool false), .p (.int .i64 0), .p (.int .i64 0), .p (.str []), .p .nils] :: [])) (hap3 _ _)
  rw [hap2] at H2
  have hr3 := pName_rest hr2
  rcases step_cases (pName_sane r2) s r2 0 with ⟨he, _⟩ | ⟨e1, q1, _, hp2, he, h1⟩ | ⟨n2, r3, _, hp2, h1⟩
  · exact absurd rfl he
  · rw [h1] at H2
    rw [hp2] at hr3
    simp only [PR.rest] at hr3
    have H3 := P_wantT w (e := e1) hs hr3 [116, 111] (by decide) (by decide) (by decide) j (by omega) id (m.set id (pB s q1 e1) ++ (.cells (zDdl 0) :: .cells [.p (.int .i64 6), .p (.str v1), .p (.str v2), .p (.str []), .p (.str []), .p (.int .i64 0), .p (.int .i64 0), .p (.bool false), .p (.int .i64 0), .p (.int .i64 0), .p (.str []), .p .nils] :: [])) (hap3 _ _)
    rw [hap2, pAt_err he] at H3
    obtain ⟨v4, H4, V4⟩ := P_nameT w (e := e1) hs hr3 j (by omega) id (m.set id (pB s q1 e1) ++ (.cells (zDdl 0) :: .cells [.p (.int .i64 6), .p (.str v1), .p (.str v2), .p (.str []), .p (.str []), .p (.int .i64 0), .p (.int .i64 0), .p (.bool false), .p (.int .i64 0), .p (.int .i64 0), .p (.str []), .p .nils] :: [])) (hap3 _ _)
    rw [hap2, pAt_err he] at H4
    have hc : pChange r = .bad e1 q1 := by rw [hpc]; simp only [pRest_6, wKey, wTo, PR.bind, hp1, hp2]
    rw [pAt_bad hc, hc]
    unfold zDdl pB at *
    simp (maxSteps := 8000000) [Fn.f_haulageref10_P_change, hPk, hO, hself, hq, hid, hidl, hwr, H1, H2, H3, H4,  g0, g1, s0, s1, hap2, hap3]
    exact ⟨_, _, ⟨rfl, rfl⟩, ⟨{ op := 6, table := v1, column := v2, to := v4 }, _, rfl, .inl rfl, fun v q h => by cases h⟩, _, rfl⟩
  rw [h1] at H2
  rw [hp2] at hr3
  simp only [PR.rest] at hr3
  have hv2 := V2 n2 r3 rfl hp2
  subst hv2
  have H3 := P_wantT w (e := 0) hs hr3 [116, 111] (by decide) (by decide) (by decide) j (by omega) id (m.set id (pB s r3 0) ++ (.cells (zDdl 0) :: .cells [.p (.int .i64 6), .p (.str v1), .p (.str v2), .p (.str []), .p (.str []), .p (.int .i64 0), .p (.int .i64 0), .p (.bool false), .p (.int .i64 0), .p (.int .i64 0), .p (.str []), .p .nils] :: [])) (hap3 _ _)
  rw [hap2] at H3
  have hr4 := pWant_rest [116, 111] hr3
  rcases step_cases (pWant_sane [116, 111] r3) s r3 0 with ⟨he, _⟩ | ⟨e1, q1, _, hp3, he, h1⟩ | ⟨n3, r4, _, hp3, h1⟩
  · exact absurd rfl he
  · rw [h1] at H3
    rw [hp3] at hr4
    simp only [PR.rest] at hr4
    obtain ⟨v4, H4, V4⟩ := P_nameT w (e := e1) hs hr4 j (by omega) id (m.set id (pB s q1 e1) ++ (.cells (zDdl 0) :: .cells [.p (.int .i64 6), .p (.str v1), .p (.str v2), .p (.str []), .p (.str []), .p (.int .i64 0), .p (.int .i64 0), .p (.bool false), .p (.int .i64 0), .p (.int .i64 0), .p (.str []), .p .nils] :: [])) (hap3 _ _)
    rw [hap2, pAt_err he] at H4
    have hc : pChange r = .bad e1 q1 := by rw [hpc]; simp only [pRest_6, wKey, wTo, PR.bind, hp1, hp2, hp3]
    rw [pAt_bad hc, hc]
    unfold zDdl pB at *
    simp (maxSteps := 8000000) [Fn.f_haulageref10_P_change, hPk, hO, hself, hq, hid, hidl, hwr, H1, H2, H3, H4,  g0, g1, s0, s1, hap2, hap3]
    exact ⟨_, _, ⟨rfl, rfl⟩, ⟨{ op := 6, table := v1, column := v2, to := v4 }, _, rfl, .inl rfl, fun v q h => by cases h⟩, _, rfl⟩
  rw [h1] at H3
  rw [hp3] at hr4
  simp only [PR.rest] at hr4
  obtain ⟨v4, H4, V4⟩ := P_nameT w (e := 0) hs hr4 j (by omega) id (m.set id (pB s r4 0) ++ (.cells (zDdl 0) :: .cells [.p (.int .i64 6), .p (.str v1), .p (.str v2), .p (.str []), .p (.str []), .p (.int .i64 0), .p (.int .i64 0), .p (.bool false), .p (.int .i64 0), .p (.int .i64 0), .p (.str []), .p .nils] :: [])) (hap3 _ _)
  rw [hap2] at H4
  have hr5 := pName_rest hr4
  rcases step_cases (pName_sane r4) s r4 0 with ⟨he, _⟩ | ⟨e1, q1, _, hp4, he, h1⟩ | ⟨n4, r5, _, hp4, h1⟩
  · exact absurd rfl he
  · rw [h1] at H4
    rw [hp4] at hr5
    simp only [PR.rest] at hr5
    have hc : pChange r = .bad e1 q1 := by rw [hpc]; simp only [pRest_6, wKey, wTo, PR.bind, hp1, hp2, hp3, hp4]
    rw [pAt_bad hc, hc]
    unfold zDdl pB at *
    simp (maxSteps := 8000000) [Fn.f_haulageref10_P_change, hPk, hO, hself, hq, hid, hidl, hwr, H1, H2, H3, H4,  g0, g1, s0, s1, hap2, hap3]
    exact ⟨_, _, ⟨rfl, rfl⟩, ⟨{ op := 6, table := v1, column := v2, to := v4 }, _, rfl, .inl rfl, fun v q h => by cases h⟩, _, rfl⟩
  rw [h1] at H4
  rw [hp4] at hr5
  simp only [PR.rest] at hr5
  have hv4 := V4 n4 r5 rfl hp4
  subst hv4
  have hc := hpc
  simp only [pRest_6, wKey, wTo, PR.bind, hp1, hp2, hp3, hp4] at hc
  rw [pAt_ok hc, hc]
  unfold zDdl pB at *
  simp (maxSteps := 8000000) [Fn.f_haulageref10_P_change, hPk, hO, hself, hq, hid, hidl, hwr, H1, H2, H3, H4,  g0, g1, s0, s1, hap2, hap3]
  exact ⟨_, _, ⟨rfl, rfl⟩, ⟨{ op := 6, table := v1, column := v2, to := v4 }, _, rfl, .inl rfl, fun v q h => by cases h; exact ⟨rfl, .inl ⟨rfl, rfl⟩⟩⟩, _, rfl⟩
theorem Pch_7 (w : D10 E) (hn : E.fn 241 = some Fn.f_haulageref10_P_change) (ho : E.fn 259 = some Fn.f_haulageref10_op) {s r : List UInt8} (hs : (s.length : Int) ≤ 1000000000) (hr : r <:+ s) (k : Nat) (hk : s.length + 350 ≤ k) (id : Nat) (m : Mem) (hm : m[id]? = some (pB s r 0)) (hop : opOf (wordOf (skipB r)) = 7) :
    ∃ (o : Out) (m1 : Mem), denF E (k + 1) 241 [.ptr id 0] m = some (o, m1) ∧ PchR (pChange r) o ∧ ∃ l, m1 = m.set id (pAt s (pChange r) r 0) ++ l := by
  have u := w.u
  have bl : BlanksOk E := blanks_ok u
  have hid := own_id hm
  obtain ⟨j, rfl⟩ : ∃ j, k = j + 1 := ⟨k - 1, by omega⟩
  obtain ⟨i, hji⟩ : ∃ i, j = i + 1 := ⟨j - 1, by omega⟩
  refine denF_wp_ex hn rfl ?_
  have hq : ∀ x : Blk, (m.set id x).length = m.length := fun x => List.length_set
  have hap1 : ∀ (l : List Blk) (x : Blk), (m ++ l).set id x = m.set id x ++ l := fun l x => by rw [List.set_append_left _ _ hid]
  have hap2 : ∀ (l : List Blk) (x y : Blk), (m.set id x ++ l).set id y = m.set id y ++ l := fun l x y => by rw [List.set_append_left _ _ (by rw [List.length_set]; exact hid), List.set_set]
  have hap3 : ∀ (l : List Blk) (x : Blk), (m.set id x ++ l)[id]? = some x := fun l x => by rw [List.getElem?_append_left (by rw [List.length_set]; exact hid)]; exact List.getElem?_set_self hid
  have hself : ∀ x : Blk, (m.set id x)[id]? = some x := fun x => List.getElem?_set_self hid
  have hget : (m ++ [Blk.cells (zDdl 0)])[id]? = some (pB s r 0) := by rw [List.getElem?_append_left hid]; exact hm
  have hBl := bl hs hr i (by omega) id _ hget
  have hPk := P_peek u hs (suf_skip hr) (i + 1) (by omega) id _ (by rw [List.length_append]; omega) hBl
  rw [hap1, ← hji] at hPk
  have hO := fun m => ref_op ho (wordOf (skipB r)) j (by omega) m
  rw [hop] at hO
  have g0 := fun (x a : Blk) (l : Mem) => app_at0 (hq x) a l
  have g1 := fun (x a b : Blk) (l : Mem) => app_at1 (hq x) a b l
  have s0 := fun (x a c : Blk) (l : Mem) => app_set0 (hq x) a c l
  have s1 := fun (x a b c : Blk) (l : Mem) => app_set1 (hq x) a b c l
  have hidl : ∀ n, id < m.length + n := fun n => by omega
  have hwl := word_len (skipB r)
  have hpl := place_drop (suf_skip hr) hwl
  have hle := place_le (s := s) (r := skipB r)
  have hlen := suf_len (suf_skip hr)
  have hwr : IntKind.i64.wrap ((placeOf10 s (skipB r) : Int) + (wordOf (skipB r)).length) = ((placeOf10 s ((skipB r).drop (wordOf (skipB r)).length) : Nat) : Int) := by rw [wrap_i64 (by omega) (by omega), hpl]; omega
  have hr1 : (skipB r).drop (wordOf (skipB r)).length <:+ s := suf_drop (suf_skip hr) _
  have hpc : pChange r = (pName ((skipB r).drop (wordOf (skipB r)).length)).bind fun t r' => pRest 7 t r' := by unfold pChange; rw [hop]; rfl
  generalize (skipB r).drop (wordOf (skipB r)).length = r1 at *
  generalize wordOf (skipB r) = wd at *
  obtain ⟨v1, H1, V1⟩ := P_nameT w (e := 0) hs hr1 j (by omega) id (m.set id (pB s r1 0) ++ (.cells (zDdl 0) :: .cells [.p (.int .i64 7), .p (.str []), .p (.str []), .p (.str []), .p (.str []), .p (.int .i64 0), .p (.int .i64 0), .p (.bool false), .p (.int .i64 0), .p (.int .i64 0), .p (.str []), .p .nils] :: [])) (hap3 _ _)
  rw [hap2] at H1
  have hr2 := pName_rest hr1
  rcases step_cases (pName_sane r1) s r1 0 with ⟨he, _⟩ | ⟨e1, q1, _, hp1, he, h1⟩ | ⟨n1, r2, _, hp1, h1⟩
  · exact absurd rfl he
  · rw [h1] at H1
    rw [hp1] at hr2
    simp only [PR.rest] at hr2
    obtain ⟨v2, H2, V2⟩ := P_nameT w (e := e1) hs hr2 j (by omega) id (m.set id (pB s q1 e1) ++ (.cells (zDdl 0) :: .cells [.p (.int .i64 7), .p (.str v1), .p (.str []), .p (.str []), .p (.str []), .p (.int .i64 0), .p (.int .i64 0), .p (.bool false), .p (.int .i64 0), .p (.int .i64 0), .p (.str []), .p .nils] :: [])) (hap3 _ _)
    rw [hap2, pAt_err he] at H2
    obtain ⟨l3, ka, kb, H3, V3⟩ := P_kindT w (e := e1) hs hr2 j (by omega) id (m.set id (pB s q1 e1) ++ (.cells (zDdl 0) :: .cells [.p (.int .i64 7), .p (.str v1), .p (.str v2), .p (.str []), .p (.str []), .p (.int .i64 0), .p (.int .i64 0), .p (.bool false), .p (.int .i64 0), .p (.int .i64 0), .p (.str []), .p .nils] :: [])) (hap3 _ _)
    rw [hap2, pAt_err he] at H3
    have hc : pChange r = .bad e1 q1 := by rw [hpc]; simp only [pRest_7, wKey, wTo, PR.bind, hp1]
    rw [pAt_bad hc, hc]
    unfold zDdl pB at *
    simp (maxSteps := 8000000) [Fn.f_haulageref10_P_change, hPk, hO, hself, hq, hid, hidl, hwr, H1, H2, H3,  g0, g1, s0, s1, hap2, hap3]
    exact ⟨_, _, ⟨rfl, rfl⟩, ⟨{ op := 7, table := v1, column := v2, kind := ka, max := kb }, _, rfl, .inl rfl, fun v q h => by cases h⟩, _, rfl⟩
  rw [h1] at H1
  rw [hp1] at hr2
  simp only [PR.rest] at hr2
  have hv1 := V1 n1 r2 rfl hp1
  subst hv1
  obtain ⟨v2, H2, V2⟩ := P_nameT w (e := 0) hs hr2 j (by omega) id (m.set id (pB s r2 0) ++ (.cells (zDdl 0) :: .cells [.p (.int .i64 7), .p (.str v1), .p (.str []), .p (.str []), .p (.str []), .p (.int .i64 0), .p (.int .i64 0), .p (.bool false), .p (.int .i64 0), .p (.int .i64 0), .p (.str []), .p .nils] :: [])) (hap3 _ _)
  rw [hap2] at H2
  have hr3 := pName_rest hr2
  rcases step_cases (pName_sane r2) s r2 0 with ⟨he, _⟩ | ⟨e1, q1, _, hp2, he, h1⟩ | ⟨n2, r3, _, hp2, h1⟩
  · exact absurd rfl he
  · rw [h1] at H2
    rw [hp2] at hr3
    simp only [PR.rest] at hr3
    obtain ⟨l3, ka, kb, H3, V3⟩ := P_kindT w (e := e1) hs hr3 j (by omega) id (m.set id (pB s q1 e1) ++ (.cells (zDdl 0) :: .cells [.p (.int .i64 7), .p (.str v1), .p (.str v2), .p (.str []), .p (.str []), .p (.int .i64 0), .p (.int .i64 0), .p (.bool false), .p (.int .i64 0), .p (.int .i64 0), .p (.str []), .p .nils] :: [])) (hap3 _ _)
    rw [hap2, pAt_err he] at H3
    have hc : pChange r = .bad e1 q1 := by rw [hpc]; simp only [pRest_7, wKey, wTo, PR.bind, hp1, hp2]
    rw [pAt_bad hc, hc]
    unfold zDdl pB at *
    simp (maxSteps := 8000000) [Fn.f_haulageref10_P_change, hPk, hO, hself, hq, hid, hidl, hwr, H1, H2, H3,  g0, g1, s0, s1, hap2, hap3]
    exact ⟨_, _, ⟨rfl, rfl⟩, ⟨{ op := 7, table := v1, column := v2, kind := ka, max := kb }, _, rfl, .inl rfl, fun v q h => by cases h⟩, _, rfl⟩
  rw [h1] at H2
  rw [hp2] at hr3
  simp only [PR.rest] at hr3
  have hv2 := V2 n2 r3 rfl hp2
  subst hv2
  obtain ⟨l3, ka, kb, H3, V3⟩ := P_kindT w (e := 0) hs hr3 j (by omega) id (m.set id (pB s r3 0) ++ (.cells (zDdl 0) :: .cells [.p (.int .i64 7), .p (.str v1), .p (.str v2), .p (.str []), .p (.str []), .p (.int .i64 0), .p (.int .i64 0), .p (.bool false), .p (.int .i64 0), .p (.int .i64 0), .p (.str []), .p .nils] :: [])) (hap3 _ _)
  rw [hap2] at H3
  have hr4 := pKind_rest hr3
  rcases step_cases (pKind_sane r3) s r3 0 with ⟨he, _⟩ | ⟨e1, q1, _, hp3, he, h1⟩ | ⟨n3, r4, _, hp3, h1⟩
  · exact absurd rfl he
  · rw [h1] at H3
    rw [hp3] at hr4
    simp only [PR.rest] at hr4
    have hc : pChange r = .bad e1 q1 := by rw [hpc]; simp only [pRest_7, wKey, wTo, PR.bind, hp1, hp2, hp3]
    rw [pAt_bad hc, hc]
    unfold zDdl pB at *
    simp (maxSteps := 8000000) [Fn.f_haulageref10_P_change, hPk, hO, hself, hq, hid, hidl, hwr, H1, H2, H3,  g0, g1, s0, s1, hap2, hap3]
    exact ⟨_, _, ⟨rfl, rfl⟩, ⟨{ op := 7, table := v1, column := v2, kind := ka, max := kb }, _, rfl, .inl rfl, fun v q h => by cases h⟩, _, rfl⟩
  rw [h1] at H3
  rw [hp3] at hr4
  simp only [PR.rest] at hr4
  have hv3 := V3 n3 r4 rfl hp3
  subst hv3
  have hc := hpc
  simp only [pRest_7, wKey, wTo, PR.bind, hp1, hp2, hp3] at hc
  rw [pAt_ok hc, hc]
  unfold zDdl pB at *
  simp (maxSteps := 8000000) [Fn.f_haulageref10_P_change, hPk, hO, hself, hq, hid, hidl, hwr, H1, H2, H3,  g0, g1, s0, s1, hap2, hap3]
  exact ⟨_, _, ⟨rfl, rfl⟩, ⟨{ op := 7, table := v1, column := v2, kind := ka, max := kb }, _, rfl, .inl rfl, fun v q h => by cases h; exact ⟨rfl, .inl ⟨rfl, rfl⟩⟩⟩, _, rfl⟩
theorem Pch_8 (w : D10 E) (hn : E.fn 241 = some Fn.f_haulageref10_P_change) (ho : E.fn 259 = some Fn.f_haulageref10_op) {s r : List UInt8} (hs : (s.length : Int) ≤ 1000000000) (hr : r <:+ s) (k : Nat) (hk : s.length + 350 ≤ k) (id : Nat) (m : Mem) (hm : m[id]? = some (pB s r 0)) (hop : opOf (wordOf (skipB r)) = 8) :
    ∃ (o : Out) (m1 : Mem), denF E (k + 1) 241 [.ptr id 0] m = some (o, m1) ∧ PchR (pChange r) o ∧ ∃ l, m1 = m.set id (pAt s (pChange r) r 0) ++ l := by
  have u := w.u
  have bl : BlanksOk E := blanks_ok u
  have hid := own_id hm
  obtain ⟨j, rfl⟩ : ∃ j, k = j + 1 := ⟨k - 1, by omega⟩
  obtain ⟨i, hji⟩ : ∃ i, j = i + 1 := ⟨j - 1, by omega⟩
  refine denF_wp_ex hn rfl ?_
  have hq : ∀ x : Blk, (m.set id x).length = m.length := fun x => List.length_set
  have hap1 : ∀ (l : List Blk) (x : Blk), (m ++ l).set id x = m.set id x ++ l := fun l x => by rw [List.set_append_left _ _ hid]
  have hap2 : ∀ (l : List Blk) (x y : Blk), (m.set id x ++ l).set id y = m.set id y ++ l := fun l x y => by rw [List.set_append_left _ _ (by rw [List.length_set]; exact hid), List.set_set]
  have hap3 : ∀ (l : List Blk) (x : Blk), (m.set id x ++ l)[id]? = some x := fun l x => by rw [List.getElem?_append_left (by rw [List.length_set]; exact hid)]; exact List.getElem?_set_self hid
  have hself : ∀ x : Blk, (m.set id x)[id]? = some x := fun x => List.getElem?_set_self hid
  have hget : (m ++ [Blk.cells (zDdl 0)])[id]? = some (pB s r 0) := by rw [List.getElem?_append_left hid]; exact hm
  have hBl := bl hs hr i (by omega) id _ hget
  have hPk := P_peek u hs (suf_skip hr) (i + 1) (by omega) id _ (by rw [List.length_append]; omega) hBl
  rw [hap1, ← hji] at hPk
  have hO := fun m => ref_op ho (wordOf (skipB r)) j (by omega) m
  rw [hop] at hO
  have g0 := fun (x a : Blk) (l : Mem) => app_at0 (hq x) a l
  have g1 := fun (x a b : Blk) (l : Mem) => app_at1 (hq x) a b l
  have s0 := fun (x a c : Blk) (l : Mem) => app_set0 (hq x) a c l
  have s1 := fun (x a b c : Blk) (l : Mem) => app_set1 (hq x) a b c l
  have hidl : ∀ n, id < m.length + n := fun n => by omega
  have hwl := word_len (skipB r)
  have hpl := place_drop (suf_skip hr) hwl
  have hle := place_le (s := s) (r := skipB r)
  have hlen := suf_len (suf_skip hr)
  have hwr : IntKind.i64.wrap ((placeOf10 s (skipB r) : Int) + (wordOf (skipB r)).length) = ((placeOf10 s ((skipB r).drop (wordOf (skipB r)).length) : Nat) : Int) := by rw [wrap_i64 (by omega) (by omega), hpl]; omega
  have hr1 : (skipB r).drop (wordOf (skipB r)).length <:+ s := suf_drop (suf_skip hr) _
  have hpc : pChange r = (pName ((skipB r).drop (wordOf (skipB r)).length)).bind fun t r' => pRest 8 t r' := by unfold pChange; rw [hop]; rfl
  generalize (skipB r).drop (wordOf (skipB r)).length = r1 at *
  generalize wordOf (skipB r) = wd at *
  obtain ⟨v1, H1, V1⟩ := P_nameT w (e := 0) hs hr1 j (by omega) id (m.set id (pB s r1 0) ++ (.cells (zDdl 0) :: .cells [.p (.int .i64 8), .p (.str []), .p (.str []), .p (.str []), .p (.str []), .p (.int .i64 0), .p (.int .i64 0), .p (.bool false), .p (.int .i64 0), .p (.int .i64 0), .p (.str []), .p .nils] :: [])) (hap3 _ _)
  rw [hap2] at H1
  have hr2 := pName_rest hr1
  rcases step_cases (pName_sane r1) s r1 0 with ⟨he, _⟩ | ⟨e1, q1, _, hp1, he, h1⟩ | ⟨n1, r2, _, hp1, h1⟩
  · exact absurd rfl he
  · rw [h1] at H1
    rw [hp1] at hr2
    simp only [PR.rest] at hr2
    obtain ⟨v2, H2, V2⟩ := P_nameT w (e := e1) hs hr2 j (by omega) id (m.set id (pB s q1 e1) ++ (.cells (zDdl 0) :: .cells [.p (.int .i64 8), .p (.str v1), .p (.str []), .p (.str []), .p (.str []), .p (.int .i64 0), .p (.int .i64 0), .p (.bool false), .p (.int .i64 0), .p (.int .i64 0), .p (.str []), .p .nils] :: [])) (hap3 _ _)
    rw [hap2, pAt_err he] at H2
    obtain ⟨l3, v3, H3, V3⟩ := P_valueT w (e := e1) hs hr2 true j (by omega) id (m.set id (pB s q1 e1) ++ (.cells (zDdl 0) :: .cells [.p (.int .i64 8), .p (.str v1), .p (.str v2), .p (.str []), .p (.str []), .p (.int .i64 0), .p (.int .i64 0), .p (.bool false), .p (.int .i64 0), .p (.int .i64 0), .p (.str []), .p .nils] :: [])) (hap3 _ _)
    rw [hap2, pAt_err he] at H3
    have hc : pChange r = .bad e1 q1 := by rw [hpc]; simp only [pRest_8, wKey, wTo, PR.bind, hp1]
    rw [pAt_bad hc, hc]
    unfold vOut at *
    unfold zDdl pB at *
    simp (maxSteps := 8000000) [Fn.f_haulageref10_P_change, hPk, hO, hself, hq, hid, hidl, hwr, H1, H2, H3,  g0, g1, s0, s1, hap2, hap3]
    exact ⟨_, _, ⟨rfl, rfl⟩, ⟨{ op := 8, table := v1, column := v2, dk := v3.1, dn := v3.2.1, ds := v3.2.2 }, _, rfl, .inl rfl, fun v q h => by cases h⟩, _, rfl⟩
  rw [h1] at H1
  rw [hp1] at hr2
  simp only [PR.rest] at hr2
  have hv1 := V1 n1 r2 rfl hp1
  subst hv1
  obtain ⟨v2, H2, V2⟩ := P_nameT w (e := 0) hs hr2 j (by omega) id (m.set id (pB s r2 0) ++ (.cells (zDdl 0) :: .cells [.p (.int .i64 8), .p (.str v1), .p (.str []), .p (.str []), .p (.str []), .p (.int .i64 0), .p (.int .i64 0), .p (.bool false), .p (.int .i64 0), .p (.int .i64 0), .p (.str []), .p .nils] :: [])) (hap3 _ _)
  rw [hap2] at H2
  have hr3 := pName_rest hr2
  rcases step_cases (pName_sane r2) s r2 0 with ⟨he, _⟩ | ⟨e1, q1, _, hp2, he, h1⟩ | ⟨n2, r3, _, hp2, h1⟩
  · exact absurd rfl he
  · rw [h1] at H2
    rw [hp2] at hr3
    simp only [PR.rest] at hr3
    obtain ⟨l3, v3, H3, V3⟩ := P_valueT w (e := e1) hs hr3 true j (by omega) id (m.set id (pB s q1 e1) ++ (.cells (zDdl 0) :: .cells [.p (.int .i64 8), .p (.str v1), .p (.str v2), .p (.str []), .p (.str []), .p (.int .i64 0), .p (.int .i64 0), .p (.bool false), .p (.int .i64 0), .p (.int .i64 0), .p (.str []), .p .nils] :: [])) (hap3 _ _)
    rw [hap2, pAt_err he] at H3
    have hc : pChange r = .bad e1 q1 := by rw [hpc]; simp only [pRest_8, wKey, wTo, PR.bind, hp1, hp2]
    rw [pAt_bad hc, hc]
    unfold vOut at *
    unfold zDdl pB at *
    simp (maxSteps := 8000000) [Fn.f_haulageref10_P_change, hPk, hO, hself, hq, hid, hidl, hwr, H1, H2, H3,  g0, g1, s0, s1, hap2, hap3]
    exact ⟨_, _, ⟨rfl, rfl⟩, ⟨{ op := 8, table := v1, column := v2, dk := v3.1, dn := v3.2.1, ds := v3.2.2 }, _, rfl, .inl rfl, fun v q h => by cases h⟩, _, rfl⟩
  rw [h1] at H2
  rw [hp2] at hr3
  simp only [PR.rest] at hr3
  have hv2 := V2 n2 r3 rfl hp2
  subst hv2
  obtain ⟨l3, v3, H3, V3⟩ := P_valueT w (e := 0) hs hr3 true j (by omega) id (m.set id (pB s r3 0) ++ (.cells (zDdl 0) :: .cells [.p (.int .i64 8), .p (.str v1), .p (.str v2), .p (.str []), .p (.str []), .p (.int .i64 0), .p (.int .i64 0), .p (.bool false), .p (.int .i64 0), .p (.int .i64 0), .p (.str []), .p .nils] :: [])) (hap3 _ _)
  rw [hap2] at H3
  have hr4 := pValue_rest true hr3
  rcases step_cases (pValue_sane true r3) s r3 0 with ⟨he, _⟩ | ⟨e1, q1, _, hp3, he, h1⟩ | ⟨n3, r4, _, hp3, h1⟩
  · exact absurd rfl he
  · rw [h1] at H3
    rw [hp3] at hr4
    simp only [PR.rest] at hr4
    have hc : pChange r = .bad e1 q1 := by rw [hpc]; simp only [pRest_8, wKey, wTo, PR.bind, hp1, hp2, hp3]
    rw [pAt_bad hc, hc]
    unfold vOut at *
    unfold zDdl pB at *
    simp (maxSteps := 8000000) [Fn.f_haulageref10_P_change, hPk, hO, hself, hq, hid, hidl, hwr, H1, H2, H3,  g0, g1, s0, s1, hap2, hap3]
    exact ⟨_, _, ⟨rfl, rfl⟩, ⟨{ op := 8, table := v1, column := v2, dk := v3.1, dn := v3.2.1, ds := v3.2.2 }, _, rfl, .inl rfl, fun v q h => by cases h⟩, _, rfl⟩
  rw [h1] at H3
  rw [hp3] at hr4
  simp only [PR.rest] at hr4
  have hv3 := (V3 n3 r4 rfl hp3).symm
  subst hv3
  have hc := hpc
  simp only [pRest_8, wKey, wTo, PR.bind, hp1, hp2, hp3] at hc
  rw [pAt_ok hc, hc]
  unfold vOut at *
  unfold zDdl pB at *
  simp (maxSteps := 8000000) [Fn.f_haulageref10_P_change, hPk, hO, hself, hq, hid, hidl, hwr, H1, H2, H3,  g0, g1, s0, s1, hap2, hap3]
  exact ⟨_, _, ⟨rfl, rfl⟩, ⟨{ op := 8, table := v1, column := v2, dk := v3.1, dn := v3.2.1, ds := v3.2.2 }, _, rfl, .inl rfl, fun v q h => by cases h; exact ⟨rfl, .inl ⟨rfl, rfl⟩⟩⟩, _, rfl⟩
end Hx
