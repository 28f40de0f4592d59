/-
  HxS15j: what is wrong with a change of a table, as the document says (as far as it is needed).
-/
import Derived.Test.YtfobhbameffplaaHxS15h
import Derived.Test.YtfobhbameffplaaHxFn10b
namespace Hx
open Go
set_option linter.unusedSimpArgs false
set_option linter.unusedVariables false
set_option maxHeartbeats 64000000
set_option maxRecDepth 20000
variable {E : Env}
attribute [-simp] List.getD_eq_getElem?_getD getElem?_pos
structure G15 (E : Env) : Prop extends B15 E where
  wide : E.fn 88 = some Fn.f_haulageref06_Wide
  preset : E.fn 200 = some Fn.f_haulageref09_preset
  add : E.fn 201 = some Fn.f_haulageref09_add
  wrong : E.fn 197 = some Fn.f_haulageref09_wrong
  create : E.fn 195 = some Fn.f_haulageref09_create
  cast : E.fn 82 = some Fn.f_haulageref06_Cast
  digits : E.fn 40 = some Fn.f_haulageref05_Digits
  made : E.fn 196 = some Fn.f_haulageref09_made
  tab9 : E.fn 198 = some Fn.f_haulageref09_Table
  plain9 : E.fn 194 = some Fn.f_haulageref09_Plain
  apply9 : E.fn 179 = some Fn.f_haulageref09_Apply
theorem ref_preset (u : G15 E) (k0 mx : Int) (v : Val) (hv : isI64 v.2.1) (k : Nat) (hk : 460 ≤ k) (m : Mem) :
    denF E (k + 1) 200 [.p (.agg [.int .i64 k0, .int .i64 mx]), .p (.agg (valP v))] m = some (.ret (.p (.bool (okW k0 mx v))), m) := by
  obtain ⟨j, rfl⟩ : ∃ j, k = j + 1 := ⟨k - 1, by omega⟩
  have hF := fun m => ref_TFits u.toB15 k0 mx v hv j (by omega) m
  have hZ := @eq_vP v.1 v.2.1 0 0 v.2.2 []
  simp only [valP] at hF
  refine denF_wp u.preset rfl (args' := [.p (.agg [.int .i64 k0, .int .i64 mx]), .p (.agg (valP v))]) rfl ?_
  unfold okW
  cases h : zvB v with
  | true =>
    unfold zvB at h
    rw [h] at hZ
    simp (maxSteps := 4000000) [Fn.f_haulageref09_preset, valP, hZ]
  | false =>
    unfold zvB at h
    rw [h] at hZ
    simp (maxSteps := 4000000) [Fn.f_haulageref09_preset, valP, hZ, hF]
def dvl (d : Ddl) : Val := (d.dk, d.dn, d.ds)
theorem ref_add (u : G15 E) {t : Tbl} (ht : TblF t) (hcl : t.cols.length ≤ 20) (d : Ddl) {sl : PV} (hsl : sl.flat = true) (hd : isI64 d.dn) (k : Nat) (hk : 500 ≤ k) :
    ∃ e : Int, (e = 0 → rightT d.kind d.max = true ∧ okW d.kind d.max (dvl d) = true) ∧ ∀ m, denF E (k + 1) 201 [.p (.agg (tblP t)), .p (.agg (dV d sl))] m = some (.ret (.p (.int .i64 e)), m) := by
  obtain ⟨j, rfl⟩ : ∃ j, k = j + 1 := ⟨k - 1, by omega⟩
  have f1 := ht.flat
  have f2 := hsl
  unfold PV.flat at f1 f2
  have hN := fun m => ref_NRightLQ u.n4 u.nright d.column j (by omega) m
  have hC := fun m => ref_Col u.col ht d.column (by omega) j (by omega) m
  have hT := fun m => ref_TRight u.tright j d.kind d.max m
  have hP := fun m => ref_preset u d.kind d.max (dvl d) hd j (by omega) m
  have hZ := @eq_vP d.dk d.dn 0 0 d.ds []
  unfold tP at hT
  simp only [tblP] at hC
  simp only [valP, dvl] at hP
  have run : ∀ (e : Int), (∀ m, denF E (j + 2) 201 [.p (.agg (tblP t)), .p (.agg (dV d sl))] m = some (.ret (.p (.int .i64 e)), m)) → ∀ m, denF E (j + 1 + 1) 201 [.p (.agg (tblP t)), .p (.agg (dV d sl))] m = some (.ret (.p (.int .i64 e)), m) := fun e h => h
  by_cases q1 : (10 : Int) ≤ t.cols.length
  · refine ⟨3, by simp, run _ fun m => ?_⟩
    refine denF_wp u.add rfl (args' := [.p (.agg (tblP t)), .p (.agg (dV d sl))]) rfl ?_
    rcases ht with ⟨h1, h2⟩ | h2
    · rw [h1] at q1; simp at q1
    · rw [h2] at f1
      simp (maxSteps := 4000000) [Fn.f_haulageref09_add, tblP, dV, f2, h2, q1]
  by_cases q2 : (200 : Int) ≤ t.next
  · refine ⟨3, by simp, run _ fun m => ?_⟩
    refine denF_wp u.add rfl (args' := [.p (.agg (tblP t)), .p (.agg (dV d sl))]) rfl ?_
    rcases ht with ⟨h1, h2⟩ | h2
    · simp (maxSteps := 4000000) [Fn.f_haulageref09_add, tblP, dV, f2, h2, q2]
    · simp (maxSteps := 4000000) [Fn.f_haulageref09_add, tblP, dV, f2, h2, q1, q2]
  have q1' : ¬ 10 ≤ t.cols.length := by omega
  cases q3 : rightN d.column with
  | false =>
    rw [q3] at hN
    refine ⟨8, by simp, run _ fun m => ?_⟩
    refine denF_wp u.add rfl (args' := [.p (.agg (tblP t)), .p (.agg (dV d sl))]) rfl ?_
    rcases ht with ⟨h1, h2⟩ | h2
    all_goals simp (maxSteps := 4000000) [Fn.f_haulageref09_add, tblP, dV, f2, h2, q1, q1', q2, hN]
  | true =>
  rw [q3] at hN
  by_cases q4 : 0 ≤ colAt t d.column
  · refine ⟨14, by simp, run _ fun m => ?_⟩
    refine denF_wp u.add rfl (args' := [.p (.agg (tblP t)), .p (.agg (dV d sl))]) rfl ?_
    rcases ht with ⟨h1, h2⟩ | h2
    all_goals
      rw [h2] at hC
      simp (maxSteps := 4000000) [Fn.f_haulageref09_add, tblP, dV, f2, h2, q1, q1', q2, hN, hC, q4]
  cases q5 : rightT d.kind d.max with
  | false =>
    rw [q5] at hT
    refine ⟨9, by simp, run _ fun m => ?_⟩
    refine denF_wp u.add rfl (args' := [.p (.agg (tblP t)), .p (.agg (dV d sl))]) rfl ?_
    rcases ht with ⟨h1, h2⟩ | h2
    all_goals
      rw [h2] at hC
      simp (maxSteps := 4000000) [Fn.f_haulageref09_add, tblP, dV, f2, h2, q1, q1', q2, hN, hC, q4, hT]
  | true =>
  rw [q5] at hT
  cases q6 : okW d.kind d.max (dvl d) with
  | false =>
    simp only [dvl] at q6
    rw [q6] at hP
    refine ⟨10, by simp, run _ fun m => ?_⟩
    refine denF_wp u.add rfl (args' := [.p (.agg (tblP t)), .p (.agg (dV d sl))]) rfl ?_
    rcases ht with ⟨h1, h2⟩ | h2
    all_goals
      rw [h2] at hC
      simp (maxSteps := 4000000) [Fn.f_haulageref09_add, tblP, dV, f2, h2, q1, q1', q2, hN, hC, q4, hT, hP]
  | true =>
  simp only [dvl] at q6
  rw [q6] at hP
  have fin : ∃ e : Int, ∀ m, denF E (j + 2) 201 [.p (.agg (tblP t)), .p (.agg (dV d sl))] m = some (.ret (.p (.int .i64 e)), m) := by
    cases q7 : d.null with
    | true =>
      refine ⟨0, fun m => ?_⟩
      refine denF_wp u.add rfl (args' := [.p (.agg (tblP t)), .p (.agg (dV d sl))]) rfl ?_
      rcases ht with ⟨h1, h2⟩ | h2
      all_goals
        rw [h2] at hC
        simp (maxSteps := 4000000) [Fn.f_haulageref09_add, tblP, dV, f2, h2, q1, q1', q2, hN, hC, q4, hT, hP, q7]
    | false =>
      cases q8 : (d.dk == 0 && (d.dn == 0 && d.ds == [])) with
      | true =>
        rw [q8] at hZ
        refine ⟨11, fun m => ?_⟩
        refine denF_wp u.add rfl (args' := [.p (.agg (tblP t)), .p (.agg (dV d sl))]) rfl ?_
        rcases ht with ⟨h1, h2⟩ | h2
        all_goals
          rw [h2] at hC
          simp (maxSteps := 4000000) [Fn.f_haulageref09_add, tblP, dV, f2, h2, q1, q1', q2, hN, hC, q4, hT, hP, q7, hZ]
      | false =>
        rw [q8] at hZ
        refine ⟨0, fun m => ?_⟩
        refine denF_wp u.add rfl (args' := [.p (.agg (tblP t)), .p (.agg (dV d sl))]) rfl ?_
        rcases ht with ⟨h1, h2⟩ | h2
        all_goals
          rw [h2] at hC
          simp (maxSteps := 4000000) [Fn.f_haulageref09_add, tblP, dV, f2, h2, q1, q1', q2, hN, hC, q4, hT, hP, q7, hZ]
  obtain ⟨e, he⟩ := fin
  exact ⟨e, fun _ => ⟨rfl, rfl⟩, run _ he⟩
theorem ref_wrong9 (u : G15 E) {tp : PV} {ts : List Tbl} (htp : TabQ tp ts) (htl : (ts.length : Int) ≤ 1000) {t : Tbl} (ht : TblF t) (hcl : t.cols.length ≤ 20) (d : Ddl) {sl : PV} (hsl : sl.flat = true) (hd : isI64 d.dn) (k : Nat) (hk : 1100 ≤ k) :
    ∃ e : Int, (e = 0 → (d.op = 4 → rightT d.kind d.max = true ∧ okW d.kind d.max (dvl d) = true) ∧ (5 ≤ d.op → ∃ (i : Nat) (c : Int × Col), colAt t d.column = (i : Int) ∧ t.cols[i]? = some c ∧ (d.op = 5 → c.1 ≠ t.key) ∧ (d.op = 7 → wideT d.kind d.max c.2.kind c.2.max = true) ∧ (d.op = 8 → okW c.2.kind c.2.max (dvl d) = true))) ∧ ∀ m, denF E (k + 1) 197 [.p (.agg [tp]), .p (.agg (tblP t)), .p (.agg (dV d sl))] m = some (.ret (.p (.int .i64 e)), m) := by
  obtain ⟨j, rfl⟩ : ∃ j, k = j + 1 := ⟨k - 1, by omega⟩
  have f0 := htp.flat
  have f1 := ht.flat
  have f2 := hsl
  unfold PV.flat at f0 f1 f2
  by_cases o2 : d.op = 2
  · refine ⟨0, fun _ => ⟨fun h => by omega, fun h => by omega⟩, fun m => ?_⟩
    refine denF_wp u.wrong rfl (args' := [.p (.agg [tp]), .p (.agg (tblP t)), .p (.agg (dV d sl))]) rfl ?_
    simp (maxSteps := 4000000) [Fn.f_haulageref09_wrong, tblP, dV, f0, f1, f2, o2]
  have b2 : (d.op == 2) = false := by simpa using o2
  by_cases o3 : d.op = 3
  · have hN := fun m => ref_NRightLQ u.n4 u.nright d.to j (by omega) m
    have hF := fun m => ref_Find u.find htp d.to (by omega) j (by omega) m
    have fin : ∃ e : Int, ∀ m, denF E (j + 2) 197 [.p (.agg [tp]), .p (.agg (tblP t)), .p (.agg (dV d sl))] m = some (.ret (.p (.int .i64 e)), m) := by
      cases q1 : rightN d.to with
      | false =>
        rw [q1] at hN
        refine ⟨8, fun m => ?_⟩
        refine denF_wp u.wrong rfl (args' := [.p (.agg [tp]), .p (.agg (tblP t)), .p (.agg (dV d sl))]) rfl ?_
        simp (maxSteps := 4000000) [Fn.f_haulageref09_wrong, tblP, dV, f0, f1, f2, o3, hN]
      | true =>
        rw [q1] at hN
        by_cases q2 : 0 ≤ tabAt ts d.to
        · refine ⟨14, fun m => ?_⟩
          refine denF_wp u.wrong rfl (args' := [.p (.agg [tp]), .p (.agg (tblP t)), .p (.agg (dV d sl))]) rfl ?_
          simp (maxSteps := 4000000) [Fn.f_haulageref09_wrong, tblP, dV, f0, f1, f2, o3, hN, hF, q2]
        · refine ⟨0, fun m => ?_⟩
          refine denF_wp u.wrong rfl (args' := [.p (.agg [tp]), .p (.agg (tblP t)), .p (.agg (dV d sl))]) rfl ?_
          simp (maxSteps := 4000000) [Fn.f_haulageref09_wrong, tblP, dV, f0, f1, f2, o3, hN, hF, q2]
    obtain ⟨e, he⟩ := fin
    exact ⟨e, fun _ => ⟨fun h => by omega, fun h => by omega⟩, he⟩
  have b3 : (d.op == 3) = false := by simpa using o3
  by_cases o4 : d.op = 4
  · obtain ⟨e, h1, h2⟩ := ref_add u ht hcl d hsl hd j (by omega)
    simp only [tblP, dV] at h2
    refine ⟨e, fun h => ⟨fun _ => h1 h, fun h => by omega⟩, fun m => ?_⟩
    refine denF_wp u.wrong rfl (args' := [.p (.agg [tp]), .p (.agg (tblP t)), .p (.agg (dV d sl))]) rfl ?_
    rw [o4] at h2
    simp (maxSteps := 4000000) [Fn.f_haulageref09_wrong, tblP, dV, f0, f1, f2, o4, h2]
  have b4 : (d.op == 4) = false := by simpa using o4
  have hC := fun m => ref_Col u.col ht d.column (by omega) j (by omega) m
  simp only [tblP] at hC
  rcases posI_cases (fun c : Int × Col => c.2.name == d.column) t.cols 0 with ⟨q, _⟩ | ⟨i, c, q, hc, _⟩
  · have q : colAt t d.column = -1 := q
    rw [q] at hC
    refine ⟨13, by simp, fun m => ?_⟩
    refine denF_wp u.wrong rfl (args' := [.p (.agg [tp]), .p (.agg (tblP t)), .p (.agg (dV d sl))]) rfl ?_
    simp (maxSteps := 4000000) [Fn.f_haulageref09_wrong, tblP, dV, f0, f1, f2, b2, b3, b4, o2, o3, o4, hC]
  have q : colAt t d.column = (i : Int) := by unfold colAt; rw [q]; simp
  rw [q] at hC
  have hil := (List.getElem?_eq_some_iff.1 hc).1
  have hs2 : t.sl = .vals 8 (t.cols.map colQ) := by
    rcases ht with ⟨h, _⟩ | h
    · rw [h] at hil; simp at hil
    · exact h
  have hi0 : (0 : Int) ≤ i := by omega
  have hi0' : ¬ (i : Int) < 0 := by omega
  rw [hs2] at hC f1
  by_cases o5 : d.op = 5
  · cases q1 : (c.1 == t.key) with
    | true =>
      refine ⟨15, by simp, fun m => ?_⟩
      refine denF_wp u.wrong rfl (args' := [.p (.agg [tp]), .p (.agg (tblP t)), .p (.agg (dV d sl))]) rfl ?_
      simp (maxSteps := 4000000) [Fn.f_haulageref09_wrong, tblP, dV, colQ, f0, f1, f2, hs2, o5, hC, hc, hil, hi0', q1]
    | false =>
      refine ⟨0, fun _ => ⟨fun h => by omega, fun _ => ⟨i, c, q, hc, fun _ => by simpa using q1, fun h => by omega, fun h => by omega⟩⟩, fun m => ?_⟩
      refine denF_wp u.wrong rfl (args' := [.p (.agg [tp]), .p (.agg (tblP t)), .p (.agg (dV d sl))]) rfl ?_
      simp (maxSteps := 4000000) [Fn.f_haulageref09_wrong, tblP, dV, colQ, f0, f1, f2, hs2, o5, hC, hc, hil, hi0', q1]
  have b5 : (d.op == 5) = false := by simpa using o5
  by_cases o6 : d.op = 6
  · have hN := fun m => ref_NRightLQ u.n4 u.nright d.to j (by omega) m
    have hF := fun m => ref_Col u.col ht d.to (by omega) j (by omega) m
    simp only [tblP] at hF
    rw [hs2] at hF
    have fin : ∃ e : Int, ∀ m, denF E (j + 2) 197 [.p (.agg [tp]), .p (.agg (tblP t)), .p (.agg (dV d sl))] m = some (.ret (.p (.int .i64 e)), m) := by
      cases q1 : rightN d.to with
      | false =>
        rw [q1] at hN
        refine ⟨8, fun m => ?_⟩
        refine denF_wp u.wrong rfl (args' := [.p (.agg [tp]), .p (.agg (tblP t)), .p (.agg (dV d sl))]) rfl ?_
        simp (maxSteps := 4000000) [Fn.f_haulageref09_wrong, tblP, dV, colQ, f0, f1, f2, hs2, o6, hC, hc, hil, hi0', hN]
      | true =>
        rw [q1] at hN
        by_cases q2 : 0 ≤ colAt t d.to
        · refine ⟨14, fun m => ?_⟩
          refine denF_wp u.wrong rfl (args' := [.p (.agg [tp]), .p (.agg (tblP t)), .p (.agg (dV d sl))]) rfl ?_
          simp (maxSteps := 4000000) [Fn.f_haulageref09_wrong, tblP, dV, colQ, f0, f1, f2, hs2, o6, hC, hc, hil, hi0', hN, hF, q2]
        · refine ⟨0, fun m => ?_⟩
          refine denF_wp u.wrong rfl (args' := [.p (.agg [tp]), .p (.agg (tblP t)), .p (.agg (dV d sl))]) rfl ?_
          simp (maxSteps := 4000000) [Fn.f_haulageref09_wrong, tblP, dV, colQ, f0, f1, f2, hs2, o6, hC, hc, hil, hi0', hN, hF, q2]
    obtain ⟨e, he⟩ := fin
    exact ⟨e, fun _ => ⟨fun h => by omega, fun h => ⟨i, c, q, hc, fun h => by omega, fun h => by omega, fun h => by omega⟩⟩, he⟩
  have b6 : (d.op == 6) = false := by simpa using o6
  by_cases o7 : d.op = 7
  · have hT := fun m => ref_TRight u.tright j d.kind d.max m
    have hW := fun m => ref_WideQ u.tright u.wide (j - 1) d.kind d.max c.2.kind c.2.max m
    rw [show j - 1 + 2 = j + 1 by omega] at hW
    unfold tP at hT hW
    cases q1 : rightT d.kind d.max with
    | false =>
      rw [q1] at hT
      refine ⟨9, by simp, fun m => ?_⟩
      refine denF_wp u.wrong rfl (args' := [.p (.agg [tp]), .p (.agg (tblP t)), .p (.agg (dV d sl))]) rfl ?_
      simp (maxSteps := 4000000) [Fn.f_haulageref09_wrong, tblP, dV, colQ, f0, f1, f2, hs2, o7, hC, hc, hil, hi0', hT]
    | true =>
      rw [q1] at hT
      cases q2 : wideT d.kind d.max c.2.kind c.2.max with
      | false =>
        rw [q2] at hW
        refine ⟨16, by simp, fun m => ?_⟩
        refine denF_wp u.wrong rfl (args' := [.p (.agg [tp]), .p (.agg (tblP t)), .p (.agg (dV d sl))]) rfl ?_
        simp (maxSteps := 4000000) [Fn.f_haulageref09_wrong, tblP, dV, colQ, f0, f1, f2, hs2, o7, hC, hc, hil, hi0', hT, hW]
      | true =>
        rw [q2] at hW
        refine ⟨0, fun _ => ⟨fun h => by omega, fun _ => ⟨i, c, q, hc, fun h => by omega, fun h => q2, fun h => by omega⟩⟩, fun m => ?_⟩
        refine denF_wp u.wrong rfl (args' := [.p (.agg [tp]), .p (.agg (tblP t)), .p (.agg (dV d sl))]) rfl ?_
        simp (maxSteps := 4000000) [Fn.f_haulageref09_wrong, tblP, dV, colQ, f0, f1, f2, hs2, o7, hC, hc, hil, hi0', hT, hW]
  have b7 : (d.op == 7) = false := by simpa using o7
  by_cases o8 : d.op = 8
  · have hP := fun m => ref_preset u c.2.kind c.2.max (dvl d) hd j (by omega) m
    simp only [valP, dvl] at hP
    cases q1 : okW c.2.kind c.2.max (dvl d) with
    | false =>
      simp only [dvl] at q1
      rw [q1] at hP
      refine ⟨10, by simp, fun m => ?_⟩
      refine denF_wp u.wrong rfl (args' := [.p (.agg [tp]), .p (.agg (tblP t)), .p (.agg (dV d sl))]) rfl ?_
      simp (maxSteps := 4000000) [Fn.f_haulageref09_wrong, tblP, dV, colQ, f0, f1, f2, hs2, o8, hC, hc, hil, hi0', hP]
    | true =>
      refine ⟨0, fun _ => ⟨fun h => by omega, fun _ => ⟨i, c, q, hc, fun h => by omega, fun h => by omega, fun h => q1⟩⟩, fun m => ?_⟩
      simp only [dvl] at q1
      rw [q1] at hP
      refine denF_wp u.wrong rfl (args' := [.p (.agg [tp]), .p (.agg (tblP t)), .p (.agg (dV d sl))]) rfl ?_
      simp (maxSteps := 4000000) [Fn.f_haulageref09_wrong, tblP, dV, colQ, f0, f1, f2, hs2, o8, hC, hc, hil, hi0', hP]
  have b8 : (d.op == 8) = false := by simpa using o8
  refine ⟨0, fun _ => ⟨fun h => by omega, fun _ => ⟨i, c, q, hc, fun h => by omega, fun h => by omega, fun h => by omega⟩⟩, fun m => ?_⟩
  refine denF_wp u.wrong rfl (args' := [.p (.agg [tp]), .p (.agg (tblP t)), .p (.agg (dV d sl))]) rfl ?_
  simp (maxSteps := 4000000) [Fn.f_haulageref09_wrong, tblP, dV, colQ, f0, f1, f2, hs2, o2, o3, o4, o5, o6, o7, o8, b2, b3, b4, b5, b6, b7, b8, hC, hc, hil, hi0']
end Hx
