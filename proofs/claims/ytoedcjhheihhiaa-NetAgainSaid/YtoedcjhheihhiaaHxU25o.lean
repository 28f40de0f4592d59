/-
  HxU25o: how many rows there are, as the document says; which changes are tried.
-/
import Derived.Test.YtoedcjhheihhiaaHxU25n
namespace Hx
open Go
set_option linter.unusedSimpArgs false
set_option linter.unusedVariables false
set_option maxHeartbeats 64000000
set_option maxRecDepth 20000
variable {E : Env}
attribute [-simp] List.getD_eq_getElem?_getD getElem?_pos

structure W25 (E : Env) : Prop where
  f09 : F09 E
  change : E.fn 139 = some Fn.f_haulagelaw15_FewChange
  few : E.fn 124 = some Fn.f_haulagelaw25_few
def SmallC (c : Ch) : Prop := rowsN c.cs ≤ 20 ∧ rowsN c.sl ≤ 20
theorem law_FewChange (u : W25 E) {c : Ch} (h : ChOk c) (k : Nat) (hk : 100 ≤ k) : ∃ b : Bool, (b = true → SmallC c) ∧ ∀ m, denF E (k + 1) 139 [.p (.agg (chV c))] m = some (.ret (.p (.bool b)), m) := by
  obtain ⟨j, rfl⟩ : ∃ j, k = j + 1 := ⟨k - 1, by omega⟩
  obtain ⟨c1, c2⟩ := h.f
  obtain ⟨⟨cells, hc⟩, ⟨cols, hd⟩⟩ := h
  have hL := fun m => law_Few u.f09 c.d hd j (by omega) m
  unfold PV.flat at c1 c2
  unfold SmallC
  rw [rowsN_cel hc, rowsN_sl hd]
  simp only [dV] at hL
  cases q1 : decide (IntKind.i64.wrap ((c.table.length : Int) + c.ks.length) > 400) with
  | true =>
    refine ⟨false, by simp, fun m => ?_⟩
    refine denF_wp u.change rfl (args' := [.p (.agg (chV c))]) rfl ?_
    have q1' : 400 < IntKind.i64.wrap ((c.table.length : Int) + c.ks.length) := of_decide_eq_true q1
    simp (maxSteps := 8000000) [Fn.f_haulagelaw15_FewChange, chV, c1, c2, q1']
  | false =>
    have q1' : ¬ 400 < IntKind.i64.wrap ((c.table.length : Int) + c.ks.length) := of_decide_eq_false q1
    by_cases q2 : cells.length ≤ 20
    · have q2' : ¬ (20 : Int) < cells.length := by omega
      cases q3 : fewB c.d cols with
      | false =>
        rw [q3] at hL
        refine ⟨false, by simp, fun m => ?_⟩
        refine denF_wp u.change rfl (args' := [.p (.agg (chV c))]) rfl ?_
        rcases hc with ⟨rfl, hc⟩ | hc
        · simp (maxSteps := 8000000) [Fn.f_haulagelaw15_FewChange, chV, c1, c2, q1', hc, hL]
        · simp (maxSteps := 8000000) [Fn.f_haulagelaw15_FewChange, chV, c1, c2, q1', hc, q2', hL]
      | true =>
        rw [q3] at hL
        have hcl : cols.length ≤ 20 := by
          unfold fewB at q3
          simp only [Bool.and_eq_true, decide_eq_true_eq] at q3
          have := q3.2.1
          omega
        have hmain : Wp (iter (loopF E (denF E (j + 1)) (j + 1) Fn.f_haulagelaw15_FewChange_k0 Fn.f_haulagelaw15_FewChange_b0) (j + 1) ⟨[.p (.agg (chV c)), .ptr 0 0, .p (.bool false), .p (.int .i64 0), .ptr 0 2, .p (.str c.table), .p (.int .i64 c.table.length), .ptr 0 3, .ptr 0 5, .p (.str c.ks), .p (.int .i64 c.ks.length), .p (.int .i64 (IntKind.i64.wrap ((c.table.length : Int) + c.ks.length))), .p (.bool false), .p (.bool false), .ptr 0 6, .p c.cs, .p (.int .i64 cells.length), .p (.bool false), .p (.bool false), .p (.bool false), .ptr 0 7, .p (.agg (dV c.d c.sl)), .p (.bool true), .p (.bool false), .p (.bool false)] ++ List.replicate 24 (.tup []), [.cells ((chV c).map .p)], []⟩)
            (fun e st => st.ds = [] ∧ st.ts.length = 49 ∧ (e = .exit 0 ∨ (e = .ret ∧ st.ts.getD 2 (.tup []) = .p (.bool false)))) := by
          refine loop_wp (α := Nat) (I := fun i st => i ≤ cells.length ∧ Live Fn.f_haulagelaw15_FewChange_k0 (Fn.f_haulagelaw15_FewChange_s0 (.ptr 0 0) (.p (.int .i64 i))) [.cells ((chV c).map .p)] st) (meas := fun i => cells.length - i) ?_ (j + 1) 0 _ ⟨Nat.zero_le _, rfl, rfl, rfl, rfl⟩ (by omega)
          rintro i st ⟨hi, hlive⟩
          rw [loopF_live hlive]
          by_cases hlt : i < cells.length
          · have hlt' : (i : Int) < cells.length := by omega
            obtain ⟨x, hx⟩ : ∃ x, cells[i]? = some x := ⟨_, List.getElem?_eq_getElem hlt⟩
            have hw : IntKind.i64.wrap ((i : Int) + 1) = ((i + 1 : Nat) : Int) := by rw [wrap_i64 (by omega) (by omega)]; omega
            rcases hc with ⟨rfl, hc⟩ | hc
            · simp at hlt
            by_cases hb : 400 < IntKind.i64.wrap ((x.name.length : Int) + x.vs.length)
            · simp (maxSteps := 8000000) [Fn.f_haulagelaw15_FewChange_b0, Fn.f_haulagelaw15_FewChange_s0, hlt, hlt', hx, chV, celP, hc, c1, c2, hb]
            · simp (maxSteps := 8000000) [Fn.f_haulagelaw15_FewChange_b0, Fn.f_haulagelaw15_FewChange_s0, hlt, hlt', hx, chV, celP, hc, c1, c2, hb, hw, -Int.natCast_add]
              exact ⟨i + 1, by omega, hlt, rfl, rfl, rfl, rfl⟩
          · have hlt' : ¬ (i : Int) < cells.length := by omega
            rcases hc with ⟨rfl, hc⟩ | hc
            · obtain rfl : i = 0 := by simpa using hi
              simp (maxSteps := 8000000) [Fn.f_haulagelaw15_FewChange_b0, Fn.f_haulagelaw15_FewChange_s0, chV, hc]
            · simp (maxSteps := 8000000) [Fn.f_haulagelaw15_FewChange_b0, Fn.f_haulagelaw15_FewChange_s0, chV, hc, hlt']
        obtain ⟨e, st, hrun, hds, hlen, hq⟩ := hmain
        obtain ⟨ts, m', ds⟩ := st
        simp only at hds hlen hq
        subst hds
        simp only [List.replicate, List.cons_append, List.nil_append, chV, List.map_cons, List.map_nil, dV] at hrun
        rcases hq with rfl | ⟨rfl, h2⟩
        · refine ⟨true, fun _ => ⟨q2, hcl⟩, fun m => ?_⟩
          refine denF_wp u.change rfl (args' := [.p (.agg (chV c))]) rfl ?_
          have hx := expand_ts 49 ts hlen
          simp only [List.range, List.range.loop, List.map_cons, List.map_nil] at hx
          rcases hc with ⟨rfl, hc⟩ | hc
          · rw [hc] at hrun
            simp only [List.length_nil, Int.natCast_zero] at hrun
            simp (maxSteps := 8000000) [Fn.f_haulagelaw15_FewChange, chV, c1, c2, q1', hc, hL, hrun]
            rw [hx]
            simp
          · rw [hc] at hrun
            simp (maxSteps := 8000000) [Fn.f_haulagelaw15_FewChange, chV, c1, c2, q1', hc, q2', hL, hrun]
            rw [hx]
            simp
        · refine ⟨false, by simp, fun m => ?_⟩
          refine denF_wp u.change rfl (args' := [.p (.agg (chV c))]) rfl ?_
          rcases hc with ⟨rfl, hc⟩ | hc
          · rw [hc] at hrun
            simp only [List.length_nil, Int.natCast_zero] at hrun
            simp (maxSteps := 8000000) [Fn.f_haulagelaw15_FewChange, chV, c1, c2, q1', hc, hL, hrun, h2]
          · rw [hc] at hrun
            simp (maxSteps := 8000000) [Fn.f_haulagelaw15_FewChange, chV, c1, c2, q1', hc, q2', hL, hrun, h2]
    · refine ⟨false, by simp, fun m => ?_⟩
      refine denF_wp u.change rfl (args' := [.p (.agg (chV c))]) rfl ?_
      have q2' : (20 : Int) < cells.length := by omega
      rcases hc with ⟨rfl, hc⟩ | hc
      · simp at q2
      · simp (maxSteps := 8000000) [Fn.f_haulagelaw15_FewChange, chV, c1, c2, q1', hc, q2']
theorem law_few25 (u : W25 E) {sl : PV} {l : List Ch} (hl : LQ sl l) (hf : ∀ c ∈ l, ChOk c) (k : Nat) (hk : 200 ≤ k) : ∃ b : Bool, (b = true → l.length ≤ 60 ∧ ∀ c ∈ l, SmallC c) ∧ ∀ m, denF E (k + 1) 124 [.p sl] m = some (.ret (.p (.bool b)), m) := by
  obtain ⟨j, rfl⟩ : ∃ j, k = j + 1 := ⟨k - 1, by omega⟩
  by_cases q1 : l.length ≤ 60
  · have q1' : ¬ (60 : Int) < l.length := by omega
    have hmain : Wp (iter (loopF E (denF E (j + 1)) (j + 1) Fn.f_haulagelaw25_few_k0 Fn.f_haulagelaw25_few_b0) (j + 1) ⟨[.p sl, .tup [], .p (.bool false), .p (.int .i64 0), .p sl, .p (.int .i64 l.length), .p (.bool false)] ++ List.replicate 12 (.tup []), [], []⟩)
        (fun e st => st.ds = [] ∧ st.ts.length = 19 ∧ ((e = .exit 0 ∧ ∀ c ∈ l, SmallC c) ∨ (e = .ret ∧ st.ts.getD 2 (.tup []) = .p (.bool false)))) := by
      refine loop_wp (α := Nat) (I := fun i st => i ≤ l.length ∧ (∀ c ∈ l.take i, SmallC c) ∧ Live Fn.f_haulagelaw25_few_k0 (Fn.f_haulagelaw25_few_s0 (.p sl) (.p (.int .i64 i))) [] st) (meas := fun i => l.length - i) ?_ (j + 1) 0 _ ⟨Nat.zero_le _, by simp, rfl, rfl, rfl, rfl⟩ (by omega)
      rintro i st ⟨hi, hsm, hlive⟩
      rw [loopF_live hlive]
      by_cases hlt : i < l.length
      · have hlt' : (i : Int) < l.length := by omega
        obtain ⟨c, hc⟩ : ∃ c, l[i]? = some c := ⟨_, List.getElem?_eq_getElem hlt⟩
        have hw : IntKind.i64.wrap ((i : Int) + 1) = ((i + 1 : Nat) : Int) := by rw [wrap_i64 (by omega) (by omega)]; omega
        obtain ⟨b, hb1, hb2⟩ := law_FewChange u (hf c (List.mem_of_getElem? hc)) j (by omega)
        simp only [chV] at hb2
        rcases hl with ⟨rfl, rfl⟩ | rfl
        · simp at hlt
        cases b with
        | false => simp (maxSteps := 8000000) [Fn.f_haulagelaw25_few_b0, Fn.f_haulagelaw25_few_s0, hlt, hlt', hc, chV, hb2]
        | true =>
          simp (maxSteps := 8000000) [Fn.f_haulagelaw25_few_b0, Fn.f_haulagelaw25_few_s0, hlt, hlt', hc, chV, hb2, hw, -Int.natCast_add]
          refine ⟨i + 1, by omega, hlt, ?_, rfl, rfl, rfl, rfl⟩
          intro x hx
          obtain ⟨h1, h2⟩ := List.getElem?_eq_some_iff.1 hc
          rw [List.take_succ_eq_append_getElem h1, h2] at hx
          rcases List.mem_append.1 hx with hx | hx
          · exact hsm x hx
          · obtain rfl : x = c := by simpa using hx
            exact hb1 rfl
      · have hlt' : ¬ (i : Int) < l.length := by omega
        rw [List.take_of_length_le (by omega)] at hsm
        rcases hl with ⟨rfl, rfl⟩ | rfl
        · obtain rfl : i = 0 := by simpa using hi
          simp [Fn.f_haulagelaw25_few_b0, Fn.f_haulagelaw25_few_s0]
        · simp [Fn.f_haulagelaw25_few_b0, Fn.f_haulagelaw25_few_s0, hlt']
          exact hsm
    obtain ⟨e, st, hrun, hds, hlen, hq⟩ := hmain
    obtain ⟨ts, m', ds⟩ := st
    simp only at hds hlen hq
    subst hds
    simp only [List.replicate, List.cons_append, List.nil_append] at hrun
    rcases hq with ⟨rfl, hs⟩ | ⟨rfl, h2⟩
    · refine ⟨true, fun _ => ⟨q1, hs⟩, fun m => ?_⟩
      refine denF_wp u.few rfl (args' := [.p sl]) rfl ?_
      have hx := expand_ts 19 ts hlen
      simp only [List.range, List.range.loop, List.map_cons, List.map_nil] at hx
      rcases hl with ⟨rfl, rfl⟩ | rfl
      all_goals
        try simp only [List.length_nil, Int.natCast_zero] at hrun
        simp (maxSteps := 8000000) [Fn.f_haulagelaw25_few, q1', hrun]
        rw [hx]
        simp
    · refine ⟨false, by simp, fun m => ?_⟩
      refine denF_wp u.few rfl (args' := [.p sl]) rfl ?_
      rcases hl with ⟨rfl, rfl⟩ | rfl
      all_goals
        try simp only [List.length_nil, Int.natCast_zero] at hrun
        simp (maxSteps := 8000000) [Fn.f_haulagelaw25_few, q1', hrun, h2]
  · refine ⟨false, by simp, fun m => ?_⟩
    refine denF_wp u.few rfl (args' := [.p sl]) rfl ?_
    have q1' : (60 : Int) < l.length := by omega
    rcases hl with ⟨rfl, rfl⟩ | rfl
    · simp at q1
    · simp (maxSteps := 8000000) [Fn.f_haulagelaw25_few, q1']
end Hx
