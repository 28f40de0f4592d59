/-
  HxS15b: which columns and tables are right, as the document says.
-/
import Derived.Test.YtfobhbameffplaaHxS15a
import Derived.Test.YtfobhbameffplaaHxU25o
namespace Hx
open Go
set_option linter.unusedSimpArgs false
set_option linter.unusedVariables false
set_option maxHeartbeats 64000000
set_option maxRecDepth 20000
variable {E : Env}
attribute [-simp] List.getD_eq_getElem?_getD getElem?_pos
structure B15 (E : Env) : Prop where
  q3 : Q03 E
  q1 : Q01 E
  n4 : QN4 E
  vright : E.fn 34 = some Fn.f_haulageref05_Right
  nright : E.fn 188 = some Fn.f_haulageref04_Right
  tright : E.fn 85 = some Fn.f_haulageref06_Right
  fits : E.fn 87 = some Fn.f_haulageref06_Fits
  column : E.fn 189 = some Fn.f_haulageref08_Column
  table : E.fn 172 = some Fn.f_haulageref08_Table
  right : E.fn 140 = some Fn.f_haulageref08_Right
  row : E.fn 173 = some Fn.f_haulageref08_Row
  key : E.fn 157 = some Fn.f_haulageref08_Key
  find : E.fn 154 = some Fn.f_haulageref08_Find
  col : E.fn 190 = some Fn.f_haulageref08_Col
  byId : E.fn 180 = some Fn.f_haulageref08_ById
def fitsB (k mx : Int) (v : Val) : Bool := rightT k mx && (rightV v.1 v.2.1 v.2.2 && (v.1 == k && (decide (k < 3) || decide ((v.2.2.length : Int) ≤ mx))))
theorem ref_TFits (u : B15 E) (k0 mx : Int) (v : Val) (hv : isI64 v.2.1) (k : Nat) (hk : 450 ≤ k) (m : Mem) :
    denF E (k + 1) 87 [.p (.agg [.int .i64 k0, .int .i64 mx]), .p (.agg (valP v))] m = some (.ret (.p (.bool (fitsB k0 mx v))), m) := by
  obtain ⟨j, rfl⟩ : ∃ j, k = j + 1 := ⟨k - 1, by omega⟩
  have hT := fun m => ref_TRight u.tright j k0 mx m
  have hV := fun m => ref_VRightLQ u.q3 u.q1 u.vright v.1 v.2.1 v.2.2 hv j (by omega) m
  unfold tP at hT
  unfold vP at hV
  refine denF_wp u.fits rfl (args' := [.p (.agg [.int .i64 k0, .int .i64 mx]), .p (.agg (valP v))]) rfl ?_
  unfold fitsB
  cases h1 : rightT k0 mx with
  | false => rw [h1] at hT; simp (maxSteps := 4000000) [Fn.f_haulageref06_Fits, valP, hT]
  | true =>
    rw [h1] at hT
    cases h2 : rightV v.1 v.2.1 v.2.2 with
    | false => rw [h2] at hV; simp (maxSteps := 4000000) [Fn.f_haulageref06_Fits, valP, hT, hV]
    | true =>
      rw [h2] at hV
      cases h3 : (v.1 == k0) with
      | false => simp (maxSteps := 4000000) [Fn.f_haulageref06_Fits, valP, hT, hV, h3]
      | true =>
        by_cases h4 : k0 < 3
        · simp (maxSteps := 4000000) [Fn.f_haulageref06_Fits, valP, hT, hV, h3, h4]
        · simp (maxSteps := 4000000) [Fn.f_haulageref06_Fits, valP, hT, hV, h3, h4]
def dflt (c : Int × Col) : Val := (c.2.dk, c.2.dn, c.2.ds)
def zvB (v : Val) : Bool := v.1 == 0 && (v.2.1 == 0 && v.2.2 == [])
theorem zvB_iff {v : Val} : zvB v = true ↔ v = zv := by
  obtain ⟨a, b, c⟩ := v
  simp [zvB, zv]
def columnB (c : Int × Col) : Bool := decide (0 ≤ c.1) && (decide (c.1 < 200) && (rightN c.2.name && (rightT c.2.kind c.2.max && (zvB (dflt c) || fitsB c.2.kind c.2.max (dflt c)))))
theorem ref_Column (u : B15 E) (c : Int × Col) (hc : isI64 c.2.dn) (k : Nat) (hk : 500 ≤ k) (m : Mem) :
    denF E (k + 1) 189 [.p (.agg (colQ c))] m = some (.ret (.p (.bool (columnB c))), m) := by
  obtain ⟨j, rfl⟩ : ∃ j, k = j + 1 := ⟨k - 1, by omega⟩
  have hN := fun m => ref_NRightLQ u.n4 u.nright c.2.name j (by omega) m
  have hT := fun m => ref_TRight u.tright j c.2.kind c.2.max m
  have hF := fun m => ref_TFits u c.2.kind c.2.max (dflt c) hc j (by omega) m
  have hZ := @eq_vP c.2.dk c.2.dn 0 0 c.2.ds []
  unfold tP at hT
  simp only [valP, dflt] at hF
  refine denF_wp u.column rfl (args' := [.p (.agg (colQ c))]) rfl ?_
  unfold columnB
  simp only [zvB, dflt]
  by_cases h1 : 0 ≤ c.1
  · by_cases h2 : c.1 < 200
    · cases h3 : rightN c.2.name with
      | false => rw [h3] at hN; simp (maxSteps := 4000000) [Fn.f_haulageref08_Column, colQ, h1, h2, hN]
      | true =>
        rw [h3] at hN
        cases h4 : rightT c.2.kind c.2.max with
        | false => rw [h4] at hT; simp (maxSteps := 4000000) [Fn.f_haulageref08_Column, colQ, h1, h2, hN, hT]
        | true =>
          rw [h4] at hT
          cases h5 : (c.2.dk == 0 && (c.2.dn == 0 && c.2.ds == [])) with
          | true => rw [h5] at hZ; simp (maxSteps := 4000000) [Fn.f_haulageref08_Column, colQ, h1, h2, hN, hT, hZ]
          | false => rw [h5] at hZ; simp (maxSteps := 4000000) [Fn.f_haulageref08_Column, colQ, h1, h2, hN, hT, hZ, hF]
    · simp (maxSteps := 4000000) [Fn.f_haulageref08_Column, colQ, h1, h2]
  · simp (maxSteps := 4000000) [Fn.f_haulageref08_Column, colQ, h1]
def colFact (t : Tbl) (i : Nat) : Bool := match t.cols[i]? with
  | none => true
  | some c => columnB c && (decide (c.1 < t.next) && ((i == 0 || (match t.cols[i - 1]? with | some d => decide (d.1 < c.1) | none => true)) && colAt t c.2.name == i))
def keyCol (t : Tbl) (c : Int × Col) : Bool := c.1 == t.key && !c.2.null
def tableB (t : Tbl) : Bool := decide (0 ≤ t.id) && (rightN t.name && (decide (1 ≤ t.cols.length) && (decide (t.cols.length ≤ 10) && (decide (t.next ≤ 200) && ((List.range t.cols.length).all (colFact t) && t.cols.any (keyCol t))))))
structure TblOk (t : Tbl) : Prop where
  f : TblF t
  i : ∀ c ∈ t.cols, isI64 c.2.dn
theorem p189 : Fn.f_haulageref08_Column.pure = true := rfl
theorem p190 : Fn.f_haulageref08_Col.pure = true := rfl
theorem any_take_key {t : Tbl} {i : Nat} {c : Int × Col} (h : t.cols[i]? = some c) : (t.cols.take (i + 1)).any (keyCol t) = ((t.cols.take i).any (keyCol t) || keyCol t c) := by
  obtain ⟨h1, h2⟩ := List.getElem?_eq_some_iff.1 h
  rw [List.take_succ_eq_append_getElem h1, List.any_append, h2]; simp
def TabInv (t : Tbl) (i : Nat) (m : Mem) (kb : Bool) : Prop := m[0]? = some (.cells ((tblP t).map .p)) ∧ (∀ j, j < i → colFact t j = true) ∧ kb = (t.cols.take i).any (keyCol t)
theorem ref_Table (u : B15 E) {t : Tbl} (ht : TblOk t) (k : Nat) (hk : 600 ≤ k) (m : Mem) :
    denF E (k + 1) 172 [.p (.agg (tblP t))] m = some (.ret (.p (.bool (tableB t))), m) := by
  obtain ⟨j, rfl⟩ : ∃ j, k = j + 1 := ⟨k - 1, by omega⟩
  have f1 := ht.f.flat
  unfold PV.flat at f1
  have hN := fun m => ref_NRightLQ u.n4 u.nright t.name j (by omega) m
  have hlenv : lenV (.p t.sl) = some t.cols.length := by rcases ht.f with ⟨h1, h2⟩ | h2 <;> rw [h2] <;> simp [*]
  unfold tableB
  by_cases h1 : 0 ≤ t.id
  · have h1' : ¬ t.id < 0 := by omega
    cases h2 : rightN t.name with
    | false => 
      rw [h2] at hN
      refine denF_wp u.table rfl (args' := [.p (.agg (tblP t))]) rfl ?_
      simp (maxSteps := 4000000) [Fn.f_haulageref08_Table, tblP, f1, h1, h1', hN]
    | true =>
      rw [h2] at hN
      by_cases h3 : 1 ≤ t.cols.length
      · have h3' : ¬ (t.cols.length : Int) < 1 := by omega
        have h30 : ¬ t.cols.length = 0 := by omega
        by_cases h4 : t.cols.length ≤ 10
        · have h4' : ¬ (10 : Int) < t.cols.length := by omega
          by_cases h5 : t.next ≤ 200
          · have h5' : ¬ 200 < t.next := by omega
            have hK := fun n m => ref_Col u.col ht.f n (by omega) j (by omega) m
            have hmain : Wp (iter (loopF E (denF E (j + 1)) (j + 1) Fn.f_haulageref08_Table_k0 Fn.f_haulageref08_Table_b0) (j + 1) ⟨[.p (.agg (tblP t)), .ptr 0 0, .p (.bool false), .p (.bool false), .p (.int .i64 0), .tup [], .ptr 0 0, .p (.int .i64 t.id), .p (.bool false), .p (.bool false), .ptr 0 1, .p (.str t.name), .p (.bool true), .p (.bool false), .p (.bool false), .p (.bool false), .ptr 0 4, .p t.sl, .p (.int .i64 t.cols.length), .p (.bool false), .p (.bool false), .p (.bool false), .ptr 0 4, .p t.sl, .p (.int .i64 t.cols.length), .p (.bool false), .p (.bool false), .p (.bool false), .ptr 0 3, .p (.int .i64 t.next), .p (.bool false), .p (.bool false)] ++ List.replicate 60 (.tup []), [.cells ((tblP t).map .p)], []⟩)
                (fun e st => st.ds = [] ∧ st.ts.length = 92 ∧ ((e = .exit 0 ∧ (List.range t.cols.length).all (colFact t) = true ∧ st.ts.getD 3 (.tup []) = .p (.bool (t.cols.any (keyCol t)))) ∨ (e = .ret ∧ (List.range t.cols.length).all (colFact t) = false ∧ st.ts.getD 2 (.tup []) = .p (.bool false)))) := by
              refine loop_wp (α := Nat × Mem × Bool) (I := fun a st => a.1 ≤ t.cols.length ∧ TabInv t a.1 a.2.1 a.2.2 ∧ Live Fn.f_haulageref08_Table_k0 (Fn.f_haulageref08_Table_s0 (.ptr 0 0) (.p (.bool a.2.2)) (.p (.int .i64 a.1))) a.2.1 st) (meas := fun a => t.cols.length - a.1) ?_ (j + 1) (0, [.cells ((tblP t).map .p)], false) _ ⟨Nat.zero_le _, ⟨rfl, by simp, by simp⟩, rfl, rfl, rfl, rfl⟩ (by simp only [Nat.sub_zero]; omega)
              rintro ⟨i, m, kb⟩ st ⟨hi, ⟨hm, hfact, hkb⟩, hlive⟩
              simp only at hi hm hfact hkb hlive
              rw [loopF_live hlive]
              by_cases hlt : i < t.cols.length
              · have hlt' : (i : Int) < t.cols.length := by omega
                obtain ⟨c, hc⟩ : ∃ c, t.cols[i]? = some c := ⟨_, List.getElem?_eq_getElem hlt⟩
                have hw : IntKind.i64.wrap ((i : Int) + 1) = ((i + 1 : Nat) : Int) := by rw [wrap_i64 (by omega) (by omega)]; omega
                have hC := fun m => ref_Column u c (ht.i c (List.mem_of_getElem? hc)) j (by omega) m
                have hK := fun m => hK c.2.name m
                have hany := any_take_key hc
                rw [← hkb] at hany
                have g0 : ∀ l : Mem, (m ++ l)[0]? = some (.cells ((tblP t).map .p)) := fun l => get_app5 hm
                have hf0 : colFact t i = (columnB c && (decide (c.1 < t.next) && ((i == 0 || (match t.cols[i - 1]? with | some d => decide (d.1 < c.1) | none => true)) && colAt t c.2.name == i))) := by unfold colFact; rw [hc]
                have hbad : colFact t i = false → (List.range t.cols.length).all (colFact t) = false := by
                  intro h
                  rw [List.all_eq_false]
                  exact ⟨i, List.mem_range.2 hlt, by rw [h]; simp⟩
                have hgood : colFact t i = true → ∀ q, q < i + 1 → colFact t q = true := by
                  intro h q hq
                  rcases Nat.lt_or_ge q i with h1 | h1
                  · exact hfact q h1
                  · obtain rfl : q = i := by omega
                    exact h
                simp only [tblP, List.map_cons, List.map_nil] at g0
                simp only [colQ] at hC
                simp only [tblP] at hK
                obtain hs | hs := ht.f
                · rw [hs.1] at hlt; simp at hlt
                have gm := hm
                simp only [tblP, List.map_cons, List.map_nil] at gm
                rw [hs] at g0 hK gm
                cases q1 : columnB c with
                | false =>
                  rw [q1] at hC hf0
                  have hb := hbad (by rw [hf0]; rfl)
                  simp (maxSteps := 4000000) [Fn.f_haulageref08_Table_b0, Fn.f_haulageref08_Table_s0, hlt, hlt', hc, colQ, ln_at0, ln_set0, g0, gm, hC, u.column, p189, hb, -List.all_eq_false]
                | true =>
                  rw [q1] at hC hf0
                  by_cases q2 : c.1 < t.next
                  · have q2' : ¬ t.next ≤ c.1 := by omega
                    simp only [q2, decide_true, Bool.true_and] at hf0
                    by_cases q3 : i = 0
                    · have q3i : ((i : Nat) == 0) = true := by simpa using q3
                      rw [q3i] at hf0
                      simp only [Bool.true_or, Bool.true_and] at hf0
                      have q3' : ¬ (0 : Int) < i := by omega
                      have q30 : ¬ 0 < i := by omega
                      cases q4 : (colAt t c.2.name == (i : Int)) with
                      | false =>
                        have hb := hbad (by rw [hf0]; exact q4)
                        simp (maxSteps := 4000000) [Fn.f_haulageref08_Table_b0, Fn.f_haulageref08_Table_s0, hlt, hlt', hc, colQ, ln_at0, ln_set0, g0, gm, hC, hK, u.column, u.col, p189, p190, q2', q3', q30, q4, hb, bne, -List.all_eq_false]
                      | true =>
                        have hg := hgood (by rw [hf0]; exact q4)
                        have q6 : colAt t c.2.name = (i : Int) := by simpa using q4
                        have hfin : ∀ kb', kb' = (kb || keyCol t c) → TabInv t (i + 1) (m ++ [Blk.cells ((colQ c).map .p)]) kb' := fun kb' h => ⟨get_app5 hm, hg, by rw [h, hany]⟩
                        simp only [colQ, List.map_cons, List.map_nil] at hfin
                        cases kb with
                        | true =>
                          simp (maxSteps := 4000000) [Fn.f_haulageref08_Table_b0, Fn.f_haulageref08_Table_s0, hlt, hlt', hc, colQ, ln_at0, ln_set0, g0, gm, hC, hK, u.column, u.col, p189, p190, q2', q3', q30, q6, hw, bne, -Int.natCast_add]
                          exact ⟨i + 1, by omega, hlt, _, .inr ⟨hfin true rfl, rfl, rfl, rfl, rfl⟩⟩
                        | false =>
                          cases z1 : (c.1 == t.key) with
                          | false =>
                            simp (maxSteps := 4000000) [Fn.f_haulageref08_Table_b0, Fn.f_haulageref08_Table_s0, hlt, hlt', hc, colQ, ln_at0, ln_set0, g0, gm, hC, hK, u.column, u.col, p189, p190, q2', q3', q30, q6, z1, hw, bne, -Int.natCast_add]
                            exact ⟨i + 1, by omega, hlt, _, .inl ⟨hfin false (by simp [keyCol, z1]), rfl, rfl, rfl, rfl⟩⟩
                          | true =>
                            cases z2 : c.2.null with
                            | true =>
                              rw [z2] at hfin hC
                              simp (maxSteps := 4000000) [Fn.f_haulageref08_Table_b0, Fn.f_haulageref08_Table_s0, hlt, hlt', hc, colQ, ln_at0, ln_set0, g0, gm, hC, hK, u.column, u.col, p189, p190, q2', q3', q30, q6, z1, z2, hw, bne, -Int.natCast_add]
                              exact ⟨i + 1, by omega, hlt, _, .inl ⟨hfin false (by simp [keyCol, z1, z2]), rfl, rfl, rfl, rfl⟩⟩
                            | false =>
                              rw [z2] at hfin hC
                              simp (maxSteps := 4000000) [Fn.f_haulageref08_Table_b0, Fn.f_haulageref08_Table_s0, hlt, hlt', hc, colQ, ln_at0, ln_set0, g0, gm, hC, hK, u.column, u.col, p189, p190, q2', q3', q30, q6, z1, z2, hw, bne, -Int.natCast_add]
                              exact ⟨i + 1, by omega, hlt, _, .inr ⟨hfin true (by simp [keyCol, z1, z2]), rfl, rfl, rfl, rfl⟩⟩
                    · have q3' : (0 : Int) < i := by omega
                      have q30 : 0 < i := by omega
                      have q3b : (i == 0) = false := by simpa using q3
                      rw [q3b] at hf0
                      simp only [Bool.false_or] at hf0
                      obtain ⟨d, hd⟩ : ∃ d, t.cols[i - 1]? = some d := ⟨_, List.getElem?_eq_getElem (by omega)⟩
                      rw [hd] at hf0
                      simp only at hf0
                      have hw1 : IntKind.i64.wrap ((i : Int) - 1) = ((i - 1 : Nat) : Int) := by rw [wrap_i64 (by omega) (by omega)]; omega
                      by_cases q5 : d.1 < c.1
                      · have q5' : ¬ c.1 ≤ d.1 := by omega
                        simp only [q5, decide_true, Bool.true_and] at hf0
                        cases q4 : (colAt t c.2.name == (i : Int)) with
                        | false =>
                          have hb := hbad (by rw [hf0]; exact q4)
                          simp (maxSteps := 4000000) [Fn.f_haulageref08_Table_b0, Fn.f_haulageref08_Table_s0, hlt, hlt', hc, colQ, ln_at0, ln_set0, g0, gm, hC, hK, u.column, u.col, p189, p190, q2', hd, q3', q30, hw1, q5', q4, hb, bne, -List.all_eq_false]
                        | true =>
                          have hg := hgood (by rw [hf0]; exact q4)
                          have q6 : colAt t c.2.name = (i : Int) := by simpa using q4
                          have hfin : ∀ kb', kb' = (kb || keyCol t c) → TabInv t (i + 1) (m ++ [Blk.cells ((colQ c).map .p)]) kb' := fun kb' h => ⟨get_app5 hm, hg, by rw [h, hany]⟩
                          simp only [colQ, List.map_cons, List.map_nil] at hfin
                          cases kb with
                          | true =>
                            simp (maxSteps := 4000000) [Fn.f_haulageref08_Table_b0, Fn.f_haulageref08_Table_s0, hlt, hlt', hc, colQ, ln_at0, ln_set0, g0, gm, hC, hK, u.column, u.col, p189, p190, q2', hd, q3', q30, hw1, q5', q6, hw, bne, -Int.natCast_add]
                            exact ⟨i + 1, by omega, hlt, _, .inr ⟨hfin true rfl, rfl, rfl, rfl, rfl⟩⟩
                          | false =>
                            cases z1 : (c.1 == t.key) with
                            | false =>
                              simp (maxSteps := 4000000) [Fn.f_haulageref08_Table_b0, Fn.f_haulageref08_Table_s0, hlt, hlt', hc, colQ, ln_at0, ln_set0, g0, gm, hC, hK, u.column, u.col, p189, p190, q2', hd, q3', q30, hw1, q5', q6, z1, hw, bne, -Int.natCast_add]
                              exact ⟨i + 1, by omega, hlt, _, .inl ⟨hfin false (by simp [keyCol, z1]), rfl, rfl, rfl, rfl⟩⟩
                            | true =>
                              cases z2 : c.2.null with
                              | true =>
                                rw [z2] at hfin hC
                                simp (maxSteps := 4000000) [Fn.f_haulageref08_Table_b0, Fn.f_haulageref08_Table_s0, hlt, hlt', hc, colQ, ln_at0, ln_set0, g0, gm, hC, hK, u.column, u.col, p189, p190, q2', hd, q3', q30, hw1, q5', q6, z1, z2, hw, bne, -Int.natCast_add]
                                exact ⟨i + 1, by omega, hlt, _, .inl ⟨hfin false (by simp [keyCol, z1, z2]), rfl, rfl, rfl, rfl⟩⟩
                              | false =>
                                rw [z2] at hfin hC
                                simp (maxSteps := 4000000) [Fn.f_haulageref08_Table_b0, Fn.f_haulageref08_Table_s0, hlt, hlt', hc, colQ, ln_at0, ln_set0, g0, gm, hC, hK, u.column, u.col, p189, p190, q2', hd, q3', q30, hw1, q5', q6, z1, z2, hw, bne, -Int.natCast_add]
                                exact ⟨i + 1, by omega, hlt, _, .inr ⟨hfin true (by simp [keyCol, z1, z2]), rfl, rfl, rfl, rfl⟩⟩
                      · have q5' : c.1 ≤ d.1 := by omega
                        have hb := hbad (by rw [hf0]; simp [q5])
                        simp (maxSteps := 4000000) [Fn.f_haulageref08_Table_b0, Fn.f_haulageref08_Table_s0, hlt, hlt', hc, colQ, ln_at0, ln_set0, g0, gm, hC, hK, u.column, u.col, p189, p190, q2', hd, q3', q30, hw1, q5', hb, bne, -List.all_eq_false]
                  · have q2' : t.next ≤ c.1 := by omega
                    have hb := hbad (by rw [hf0]; simp [q2])
                    simp (maxSteps := 4000000) [Fn.f_haulageref08_Table_b0, Fn.f_haulageref08_Table_s0, hlt, hlt', hc, colQ, ln_at0, ln_set0, g0, gm, hC, u.column, p189, q2', hb, -List.all_eq_false]
              · have hlt' : ¬ (i : Int) < t.cols.length := by omega
                obtain rfl : i = t.cols.length := by omega
                rw [List.take_length] at hkb
                have hall : (List.range t.cols.length).all (colFact t) = true := by
                  rw [List.all_eq_true]
                  intro x hx
                  exact hfact x (List.mem_range.1 hx)
                simp only [tblP, List.map_cons, List.map_nil] at hm
                obtain hs | hs := ht.f
                · rw [hs.1] at h3; simp at h3
                rw [hs] at hm
                simp (maxSteps := 4000000) [Fn.f_haulageref08_Table_b0, Fn.f_haulageref08_Table_s0, hm, hall, hkb, -List.all_eq_true]
            obtain ⟨e, st, hrun, hds, hlen, hq⟩ := hmain
            obtain ⟨ts', m', ds⟩ := st
            simp only at hds hlen hq
            subst hds
            refine denF_wp u.table rfl (args' := [.p (.agg (tblP t))]) rfl ?_
            obtain hs | hs := ht.f
            · rw [hs.1] at h3; simp at h3
            simp only [List.replicate, List.cons_append, List.nil_append, tblP, List.map_cons, List.map_nil, hs] at hrun
            rcases hq with ⟨rfl, hq, h7⟩ | ⟨rfl, hq, h7⟩
            · have hx := expand_ts 92 ts' hlen
              simp only [List.range, List.range.loop, List.map_cons, List.map_nil] at hx
              rw [hq]
              simp (maxSteps := 4000000) [Fn.f_haulageref08_Table, tblP, hs, h1, h1', hN, h3, h3', h30, h4, h4', h5, h5', hrun]
              rw [hx]
              simp [h7]
            · rw [hq]
              simp (maxSteps := 4000000) [Fn.f_haulageref08_Table, tblP, hs, h1, h1', hN, h3, h3', h30, h4, h4', h5, h5', hrun, h7]
          · have h5' : 200 < t.next := by omega
            refine denF_wp u.table rfl (args' := [.p (.agg (tblP t))]) rfl ?_
            rcases ht.f with ⟨hs, _⟩ | hs
            · rw [hs] at h3; simp at h3
            · simp (maxSteps := 4000000) [Fn.f_haulageref08_Table, tblP, hs, h1, h1', hN, h3, h3', h30, h4, h4', h5, h5']
        · have h4' : (10 : Int) < t.cols.length := by omega
          refine denF_wp u.table rfl (args' := [.p (.agg (tblP t))]) rfl ?_
          rcases ht.f with ⟨hs, _⟩ | hs
          · rw [hs] at h3; simp at h3
          · simp (maxSteps := 4000000) [Fn.f_haulageref08_Table, tblP, hs, h1, h1', hN, h3, h3', h30, h4, h4']
      · have h30 : t.cols = [] := List.eq_nil_of_length_eq_zero (by omega)
        refine denF_wp u.table rfl (args' := [.p (.agg (tblP t))]) rfl ?_
        rcases ht.f with ⟨_, hs⟩ | hs
        · simp (maxSteps := 4000000) [Fn.f_haulageref08_Table, tblP, hs, h1, h1', hN, h30]
        · rw [h30] at hs
          simp (maxSteps := 4000000) [Fn.f_haulageref08_Table, tblP, hs, h1, h1', hN, h30]
  · have h1' : t.id < 0 := by omega
    refine denF_wp u.table rfl (args' := [.p (.agg (tblP t))]) rfl ?_
    simp (maxSteps := 4000000) [Fn.f_haulageref08_Table, tblP, f1, h1, h1']
end Hx
