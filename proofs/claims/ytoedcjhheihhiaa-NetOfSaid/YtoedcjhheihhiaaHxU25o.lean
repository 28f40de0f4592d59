/-
  HxU25o: how many rows there are, as the document says; which changes are tried.
-/
import Derived.Test.YtoedcjhheihhiaaHxU25n
namespace Hx
open Go
set_option linter.unusedSimpArgs false
set_option linter.unusedVariables false
set_option maxHeartbeats 64000000
set_option maxRecDepth 20000
variable {E : Env}
attribute [-simp] List.getD_eq_getElem?_getD getElem?_pos
def RowInvD (l : List Ch) (i : Nat) (avn : AV) (n : Int) : Prop := ∃ now, NowAt now avn ∧ (∀ c ∈ now, ChF c) ∧ now.length ≤ i ∧ rowsD (l.drop i) now n = rowsD l [] 0 ∧ 0 ≤ n ∧ n ≤ i
theorem ref_Rows (u : R25 E) (h : E.fn 135 = some Fn.f_haulageref25_Rows) {sl : PV} {l : List Ch} (hl : LQ sl l) (hf : ∀ c ∈ l, ChF c) (hn : (l.length : Int) ≤ 1000000) (k : Nat) (hk : l.length + 8 ≤ k) (m : Mem) :
    denF E (k + 1) 135 [.p sl] m = some (.ret (.p (.int .i64 (rowsD l [] 0))), m) := by
  obtain ⟨j, rfl⟩ : ∃ j, k = j + 1 := ⟨k - 1, by omega⟩
  refine denF_wp h rfl (args' := [.p sl]) rfl ?_
  have hmain : Wp (iter (loopF E (denF E (j + 1)) (j + 1) Fn.f_haulageref25_Rows_k0 Fn.f_haulageref25_Rows_b0) (j + 1) ⟨[.p sl, .tup [], .p (.int .i64 0), .p (.int .i64 0), .p .nils, .p (.int .i64 0)] ++ List.replicate 47 (.tup []), [], []⟩)
      (fun e st => e = .exit 0 ∧ st.ds = [] ∧ st.ts.length = 53 ∧ st.ts.getD 3 (.tup []) = .p (.int .i64 (rowsD l [] 0))) := by
    refine loop_wp (α := Nat × Mem × AV × Int) (I := fun a st => a.1 ≤ l.length ∧ RowInvD l a.1 a.2.2.1 a.2.2.2 ∧ Live Fn.f_haulageref25_Rows_k0 (Fn.f_haulageref25_Rows_s0 (.p sl) (.p (.int .i64 a.2.2.2)) a.2.2.1 (.p (.int .i64 a.1))) a.2.1 st) (meas := fun a => l.length - a.1) ?_ (j + 1) (0, [], .p .nils, 0) _ ⟨Nat.zero_le _, ⟨[], .inl ⟨rfl, rfl⟩, by simp, by simp, rfl, Int.le_refl _, by simp⟩, rfl, rfl, rfl, rfl⟩ (by simp only [Nat.sub_zero]; omega)
    rintro ⟨i, m, avn, n⟩ st ⟨hi, ⟨now, hno, hnf, hnl, hsq, hn0, hn1⟩, hlive⟩
    simp only at hi hno hnl hsq hn0 hn1 hlive
    rw [loopF_live hlive]
    by_cases hlt : i < l.length
    · have hlt' : (i : Int) < l.length := by omega
      obtain ⟨c, hc⟩ : ∃ c, l[i]? = some c := ⟨_, List.getElem?_eq_getElem hlt⟩
      have hcf := hf c (List.mem_of_getElem? hc)
      obtain ⟨c1, c2⟩ := id hcf
      unfold PV.flat at c1 c2
      have hw : IntKind.i64.wrap ((i : Int) + 1) = ((i + 1 : Nat) : Int) := by rw [wrap_i64 (by omega) (by omega)]; omega
      have hwn : IntKind.i64.wrap (n + 1) = n + 1 := wrap_i64 (by omega) (by omega)
      rw [rowsD_step hc] at hsq
      rcases hl with ⟨rfl, rfl⟩ | rfl
      · simp at hlt
      by_cases k4 : c.kind = 4
      · rw [if_pos k4] at hsq
        simp (maxSteps := 8000000) [Fn.f_haulageref25_Rows_b0, Fn.f_haulageref25_Rows_s0, hlt, hlt', hc, chV, c1, c2, k4, hw, -Int.natCast_add]
        exact ⟨i + 1, by omega, hlt, _, _, _, ⟨[], .inl ⟨rfl, rfl⟩, by simp, by simp, hsq, hn0, by omega⟩, rfl, rfl, rfl, rfl⟩
      have b4 : (c.kind == 4) = false := by simpa using k4
      rw [if_neg k4] at hsq
      by_cases k1 : 1 ≤ c.kind
      · by_cases k3 : c.kind ≤ 3
        · rw [if_pos ⟨k1, k3⟩] at hsq
          obtain ⟨sn, hs1, hs2, hs3⟩ := hno.strip
          have hL : ∀ m, denF E (j + 1) 168 [avn, .p (.agg (chV c)), .p (.int .i64 now.length)] m = some (.ret (.p (.int .i64 (lastI c now 0 (-1)))), m) := by
            intro m
            rw [pure_args u.last rfl (args' := [.p sn, .p (.agg (chV c)), .p (.int .i64 now.length)]) (by simp only [stripVs, hs1]; rfl)]
            exact ref_last u.same u.last hs2 hnf hcf (by omega) j (by omega) m
          simp only [chV] at hL
          have hnf' : ∀ x ∈ now ++ [c], ChF x := by
            intro x hx
            rcases List.mem_append.1 hx with hx | hx
            · exact hnf x hx
            · obtain rfl : x = c := by simpa using hx
              exact hcf
          have hset : ∀ (x y : Blk), (m ++ [x]).set m.length y = m ++ [y] := fun x y => by rw [List.set_append_right _ _ (Nat.le_refl _), Nat.sub_self]; rfl
          have hget : ∀ (x : Blk), (m ++ [x])[m.length]? = some x := fun x => by rw [List.getElem?_append_right (Nat.le_refl _), Nat.sub_self]; rfl
          have hr1 : now.length * 240 ≤ 70368744177664 := by omega
          have hr2 : now.length ≤ 70368744177664 := by omega
          have hr3 : (now.length + 1) * 240 ≤ 70368744177664 := by omega
          have hr4 : now.length + 1 ≤ 70368744177664 := by omega
          rcases lastI_spec c now 0 (-1) with ⟨ha, hb⟩ | ⟨ha, q, hb, _⟩
          · rw [hb] at hL
            rw [ha] at hsq
            simp only [Bool.false_eq_true, if_false] at hsq
            rcases hno with ⟨rfl, rfl⟩ | ⟨tok, rfl⟩
            · simp at hL
              simp (maxSteps := 8000000) [Fn.f_haulageref25_Rows_b0, Fn.f_haulageref25_Rows_s0, hlt, hlt', hc, chV, c1, c2, b4, k1, k3, k4, hL, hset, hget, room, hw, hwn, -Int.natCast_add]
              exact ⟨i + 1, by omega, hlt, _, _, _, ⟨[] ++ [c], .inr ⟨m.length, by simp [chV]⟩, hnf', by simp, hsq, by omega, by omega⟩, rfl, rfl, rfl, rfl⟩
            · simp (maxSteps := 8000000) [Fn.f_haulageref25_Rows_b0, Fn.f_haulageref25_Rows_s0, hlt, hlt', hc, chV, c1, c2, b4, k1, k3, k4, hL, hset, hget, hr1, hr2, hr3, hr4, room, hw, hwn, -Int.natCast_add]
              exact ⟨i + 1, by omega, hlt, _, _, _, ⟨now ++ [c], .inr ⟨m.length, by simp [chV]⟩, hnf', by simp; omega, hsq, by omega, by omega⟩, rfl, rfl, rfl, rfl⟩
          · rw [hb, Nat.zero_add] at hL
            have hq0 : ¬ (q : Int) < 0 := by omega
            rw [ha] at hsq
            simp only [if_true] at hsq
            rcases hno with ⟨rfl, rfl⟩ | ⟨tok, rfl⟩
            · simp at ha
            · simp (maxSteps := 8000000) [Fn.f_haulageref25_Rows_b0, Fn.f_haulageref25_Rows_s0, hlt, hlt', hc, chV, c1, c2, b4, k1, k3, k4, hL, hq0, hset, hget, hr1, hr2, hr3, hr4, room, hw, hwn, -Int.natCast_add]
              exact ⟨i + 1, by omega, hlt, _, _, _, ⟨now ++ [c], .inr ⟨m.length, by simp [chV]⟩, hnf', by simp; omega, hsq, by omega, by omega⟩, rfl, rfl, rfl, rfl⟩
        · rw [if_neg (fun h => k3 h.2)] at hsq
          simp (maxSteps := 8000000) [Fn.f_haulageref25_Rows_b0, Fn.f_haulageref25_Rows_s0, hlt, hlt', hc, chV, c1, c2, b4, k1, k3, k4, hw, -Int.natCast_add]
          exact ⟨i + 1, by omega, hlt, _, _, _, ⟨now, hno, hnf, by omega, hsq, hn0, by omega⟩, rfl, rfl, rfl, rfl⟩
      · rw [if_neg (fun h => k1 h.1)] at hsq
        simp (maxSteps := 8000000) [Fn.f_haulageref25_Rows_b0, Fn.f_haulageref25_Rows_s0, hlt, hlt', hc, chV, c1, c2, b4, k1, k4, hw, -Int.natCast_add]
        exact ⟨i + 1, by omega, hlt, _, _, _, ⟨now, hno, hnf, by omega, hsq, hn0, by omega⟩, rfl, rfl, rfl, rfl⟩
    · have hlt' : ¬ (i : Int) < l.length := by omega
      obtain rfl : i = l.length := by omega
      rw [List.drop_eq_nil_of_le (Nat.le_refl _)] at hsq
      have hsq : n = rowsD l [] 0 := hsq
      rcases hl with ⟨rfl, rfl⟩ | rfl
      · simp [Fn.f_haulageref25_Rows_b0, Fn.f_haulageref25_Rows_s0, hsq]
      · simp [Fn.f_haulageref25_Rows_b0, Fn.f_haulageref25_Rows_s0, hsq]
  obtain ⟨e, st, hrun, rfl, hds, hlen, g3⟩ := hmain
  obtain ⟨ts, m', ds⟩ := st
  simp only at hds hlen g3
  subst hds
  simp only [List.replicate, List.cons_append, List.nil_append] at hrun
  have hx := expand_ts 53 ts hlen
  simp only [List.range, List.range.loop, List.map_cons, List.map_nil] at hx
  simp [Fn.f_haulageref25_Rows, hrun]
  rw [hx]
  simp [g3]

structure W25 (E : Env) : Prop where
  f09 : F09 E
  change : E.fn 139 = some Fn.f_haulagelaw15_FewChange
  few : E.fn 124 = some Fn.f_haulagelaw25_few
def SmallC (c : Ch) : Prop := rowsN c.cs ≤ 20 ∧ rowsN c.sl ≤ 20
theorem law_FewChange (u : W25 E) {c : Ch} (h : ChOk c) (k : Nat) (hk : 100 ≤ k) : ∃ b : Bool, (b = true → SmallC c) ∧ ∀ m, denF E (k + 1) 139 [.p (.agg (chV c))] m = some (.ret (.p (.bool b)), m) := by
  obtain ⟨j, rfl⟩ : ∃ j, k = j + 1 := ⟨k - 1, by omega⟩
  obtain ⟨c1, c2⟩ := h.f
  obtain ⟨⟨cells, hc⟩, ⟨cols, hd⟩⟩ := h
  have hL := fun m => law_Few u.f09 c.d hd j (by omega) m
  unfold PV.flat at c1 c2
  unfold SmallC
  rw [rowsN_cel hc, rowsN_sl hd]
  simp only [dV] at hL
  cases q1 : decide (IntKind.i64.wrap ((c.table.length : Int) + c.ks.length) > 400) with
  | true =>
    refine ⟨false, by simp, fun m => ?_⟩
    refine denF_wp u.change rfl (args' := [.p (.agg (chV c))]) rfl ?_
    have q1' : 400 < IntKind.i64.wrap ((c.table.length : Int) + c.ks.length) := of_decide_eq_true q1
    simp (maxSteps := 8000000) [Fn.f_haulagelaw15_FewChange, chV, c1, c2, q1']
  | false =>
    have q1' : ¬ 400 < IntKind.i64.wrap ((c.table.length : Int) + c.ks.length) := of_decide_eq_false q1
    by_cases q2 : cells.length ≤ 20
    · have q2' : ¬ (20 : Int) < cells.length := by omega
      cases q3 : fewB c.d cols with
      | false =>
        rw [q3] at hL
        refine ⟨false, by simp, fun m => ?_⟩
        refine denF_wp u.change rfl (args' := [.p (.agg (chV c))]) rfl ?_
        rcases hc with ⟨rfl, hc⟩ | hc
        · simp (maxSteps := 8000000) [Fn.f_haulagelaw15_FewChange, chV, c1, c2, q1', hc, hL]
        · simp (maxSteps := 8000000) [Fn.f_haulagelaw15_FewChange, chV, c1, c2, q1', hc, q2', hL]
      | true =>
        rw [q3] at hL
        have hcl : cols.length ≤ 20 := by
          unfold fewB at q3
          simp only [Bool.and_eq_true, decide_eq_true_eq] at q3
          have := q3.2.1
          omega
        have hmain : Wp (iter (loopF E (denF E (j + 1)) (j + 1) Fn.f_haulagelaw15_FewChange_k0 Fn.f_haulagelaw15_FewChange_b0) (j + 1) ⟨[.p (.agg (chV c)), .ptr 0 0, .p (.bool false), .p (.int .i64 0), .ptr 0 2, .p (.str c.table), .p (.int .i64 c.table.length), .ptr 0 3, .ptr 0 5, .p (.str c.ks), .p (.int .i64 c.ks.length), .p (.int .i64 (IntKind.i64.wrap ((c.table.length : Int) + c.ks.length))), .p (.bool false), .p (.bool false), .ptr 0 6, .p c.cs, .p (.int .i64 cells.length), .p (.bool false), .p (.bool false), .p (.bool false), .ptr 0 7, .p (.agg (dV c.d c.sl)), .p (.bool true), .p (.bool false), .p (.bool false)] ++ List.replicate 24 (.tup []), [.cells ((chV c).map .p)], []⟩)
            (fun e st => st.ds = [] ∧ st.ts.length = 49 ∧ (e = .exit 0 ∨ (e = .ret ∧ st.ts.getD 2 (.tup []) = .p (.bool false)))) := by
          refine loop_wp (α := Nat) (I := fun i st => i ≤ cells.length ∧ Live Fn.f_haulagelaw15_FewChange_k0 (Fn.f_haulagelaw15_FewChange_s0 (.ptr 0 0) (.p (.int .i64 i))) [.cells ((chV c).map .p)] st) (meas := fun i => cells.length - i) ?_ (j + 1) 0 _ ⟨Nat.zero_le _, rfl, rfl, rfl, rfl⟩ (by omega)
          rintro i st ⟨hi, hlive⟩
          rw [loopF_live hlive]
          by_cases hlt : i < cells.length
          · have hlt' : (i : Int) < cells.length := by omega
            obtain ⟨x, hx⟩ : ∃ x, cells[i]? = some x := ⟨_, List.getElem?_eq_getElem hlt⟩
            have hw : IntKind.i64.wrap ((i : Int) + 1) = ((i + 1 : Nat) : Int) := by rw [wrap_i64 (by omega) (by omega)]; omega
            rcases hc with ⟨rfl, hc⟩ | hc
            · simp at hlt
            by_cases hb : 400 < IntKind.i64.wrap ((x.name.length : Int) + x.vs.length)
            · simp (maxSteps := 8000000) [Fn.f_haulagelaw15_FewChange_b0, Fn.f_haulagelaw15_FewChange_s0, hlt, hlt', hx, chV, celP, hc, c1, c2, hb]
            · simp (maxSteps := 8000000) [Fn.f_haulagelaw15_FewChange_b0, Fn.f_haulagelaw15_FewChange_s0, hlt, hlt', hx, chV, celP, hc, c1, c2, hb, hw, -Int.natCast_add]
              exact ⟨i + 1, by omega, hlt, rfl, rfl, rfl, rfl⟩
          · have hlt' : ¬ (i : Int) < cells.length := by omega
            rcases hc with ⟨rfl, hc⟩ | hc
            · obtain rfl : i = 0 := by simpa using hi
              simp (maxSteps := 8000000) [Fn.f_haulagelaw15_FewChange_b0, Fn.f_haulagelaw15_FewChange_s0, chV, hc]
            · simp (maxSteps := 8000000) [Fn.f_haulagelaw15_FewChange_b0, Fn.f_haulagelaw15_FewChange_s0, chV, hc, hlt']
        obtain ⟨e, st, hrun, hds, hlen, hq⟩ := hmain
        obtain ⟨ts, m', ds⟩ := st
        simp only at hds hlen hq
        subst hds
        simp only [List.replicate, List.cons_append, List.nil_append, chV, List.map_cons, List.map_nil, dV] at hrun
        rcases hq with rfl | ⟨rfl, h2⟩
        · refine ⟨true, fun _ => ⟨q2, hcl⟩, fun m => ?_⟩
          refine denF_wp u.change rfl (args' := [.p (.agg (chV c))]) rfl ?_
          have hx := expand_ts 49 ts hlen
          simp only [List.range, List.range.loop, List.map_cons, List.map_nil] at hx
          rcases hc with ⟨rfl, hc⟩ | hc
          · rw [hc] at hrun
            simp only [List.length_nil, Int.natCast_zero] at hrun
            simp (maxSteps := 8000000) [Fn.f_haulagelaw15_FewChange, chV, c1, c2, q1', hc, hL, hrun]
            rw [hx]
            simp
          · rw [hc] at hrun
            simp (maxSteps := 8000000) [Fn.f_haulagelaw15_FewChange, chV, c1, c2, q1', hc, q2', hL, hrun]
            rw [hx]
            simp
        · refine ⟨false, by simp, fun m => ?_⟩
          refine denF_wp u.change rfl (args' := [.p (.agg (chV c))]) rfl ?_
          rcases hc with ⟨rfl, hc⟩ | hc
          · rw [hc] at hrun
            simp only [List.length_nil, Int.natCast_zero] at hrun
            simp (maxSteps := 8000000) [Fn.f_haulagelaw15_FewChange, chV, c1, c2, q1', hc, hL, hrun, h2]
          · rw [hc] at hrun
            simp (maxSteps := 8000000) [Fn.f_haulagelaw15_FewChange, chV, c1, c2, q1', hc, q2', hL, hrun, h2]
    · refine ⟨false, by simp, fun m => ?_⟩
      refine denF_wp u.change rfl (args' := [.p (.agg (chV c))]) rfl ?_
      have q2' : (20 : Int) < cells.length := by omega
      rcases hc with ⟨rfl, hc⟩ | hc
      · simp at q2
      · simp (maxSteps := 8000000) [Fn.f_haulagelaw15_FewChange, chV, c1, c2, q1', hc, q2']
theorem law_few25 (u : W25 E) {sl : PV} {l : List Ch} (hl : LQ sl l) (hf : ∀ c ∈ l, ChOk c) (k : Nat) (hk : 200 ≤ k) : ∃ b : Bool, (b = true → l.length ≤ 60 ∧ ∀ c ∈ l, SmallC c) ∧ ∀ m, denF E (k + 1) 124 [.p sl] m = some (.ret (.p (.bool b)), m) := by
  obtain ⟨j, rfl⟩ : ∃ j, k = j + 1 := ⟨k - 1, by omega⟩
  by_cases q1 : l.length ≤ 60
  · have q1' : ¬ (60 : Int) < l.length := by omega
    have hmain : Wp (iter (loopF E (denF E (j + 1)) (j + 1) Fn.f_haulagelaw25_few_k0 Fn.f_haulagelaw25_few_b0) (j + 1) ⟨[.p sl, .tup [], .p (.bool false), .p (.int .i64 0), .p sl, .p (.int .i64 l.length), .p (.bool false)] ++ List.replicate 12 (.tup []), [], []⟩)
        (fun e st => st.ds = [] ∧ st.ts.length = 19 ∧ ((e = .exit 0 ∧ ∀ c ∈ l, SmallC c) ∨ (e = .ret ∧ st.ts.getD 2 (.tup []) = .p (.bool false)))) := by
      refine loop_wp (α := Nat) (I := fun i st => i ≤ l.length ∧ (∀ c ∈ l.take i, SmallC c) ∧ Live Fn.f_haulagelaw25_few_k0 (Fn.f_haulagelaw25_few_s0 (.p sl) (.p (.int .i64 i))) [] st) (meas := fun i => l.length - i) ?_ (j + 1) 0 _ ⟨Nat.zero_le _, by simp, rfl, rfl, rfl, rfl⟩ (by omega)
      rintro i st ⟨hi, hsm, hlive⟩
      rw [loopF_live hlive]
      by_cases hlt : i < l.length
      · have hlt' : (i : Int) < l.length := by omega
        obtain ⟨c, hc⟩ : ∃ c, l[i]? = some c := ⟨_, List.getElem?_eq_getElem hlt⟩
        have hw : IntKind.i64.wrap ((i : Int) + 1) = ((i + 1 : Nat) : Int) := by rw [wrap_i64 (by omega) (by omega)]; omega
        obtain ⟨b, hb1, hb2⟩ := law_FewChange u (hf c (List.mem_of_getElem? hc)) j (by omega)
        simp only [chV] at hb2
        rcases hl with ⟨rfl, rfl⟩ | rfl
        · simp at hlt
        cases b with
        | false => simp (maxSteps := 8000000) [Fn.f_haulagelaw25_few_b0, Fn.f_haulagelaw25_few_s0, hlt, hlt', hc, chV, hb2]
        | true =>
          simp (maxSteps := 8000000) [Fn.f_haulagelaw25_few_b0, Fn.f_haulagelaw25_few_s0, hlt, hlt', hc, chV, hb2, hw, -Int.natCast_add]
          refine ⟨i + 1, by omega, hlt, ?_, rfl, rfl, rfl, rfl⟩
          intro x hx
          obtain ⟨h1, h2⟩ := List.getElem?_eq_some_iff.1 hc
          rw [List.take_succ_eq_append_getElem h1, h2] at hx
          rcases List.mem_append.1 hx with hx | hx
          · exact hsm x hx
          · obtain rfl : x = c := by simpa using hx
            exact hb1 rfl
      · have hlt' : ¬ (i : Int) < l.length := by omega
        rw [List.take_of_length_le (by omega)] at hsm
        rcases hl with ⟨rfl, rfl⟩ | rfl
        · obtain rfl : i = 0 := by simpa using hi
          simp [Fn.f_haulagelaw25_few_b0, Fn.f_haulagelaw25_few_s0]
        · simp [Fn.f_haulagelaw25_few_b0, Fn.f_haulagelaw25_few_s0, hlt']
          exact hsm
    obtain ⟨e, st, hrun, hds, hlen, hq⟩ := hmain
    obtain ⟨ts, m', ds⟩ := st
    simp only at hds hlen hq
    subst hds
    simp only [List.replicate, List.cons_append, List.nil_append] at hrun
    rcases hq with ⟨rfl, hs⟩ | ⟨rfl, h2⟩
    · refine ⟨true, fun _ => ⟨q1, hs⟩, fun m => ?_⟩
      refine denF_wp u.few rfl (args' := [.p sl]) rfl ?_
      have hx := expand_ts 19 ts hlen
      simp only [List.range, List.range.loop, List.map_cons, List.map_nil] at hx
      rcases hl with ⟨rfl, rfl⟩ | rfl
      all_goals
        try simp only [List.length_nil, Int.natCast_zero] at hrun
        simp (maxSteps := 8000000) [Fn.f_haulagelaw25_few, q1', hrun]
        rw [hx]
        simp
    · refine ⟨false, by simp, fun m => ?_⟩
      refine denF_wp u.few rfl (args' := [.p sl]) rfl ?_
      rcases hl with ⟨rfl, rfl⟩ | rfl
      all_goals
        try simp only [List.length_nil, Int.natCast_zero] at hrun
        simp (maxSteps := 8000000) [Fn.f_haulagelaw25_few, q1', hrun, h2]
  · refine ⟨false, by simp, fun m => ?_⟩
    refine denF_wp u.few rfl (args' := [.p sl]) rfl ?_
    have q1' : (60 : Int) < l.length := by omega
    rcases hl with ⟨rfl, rfl⟩ | rfl
    · simp at q1
    · simp (maxSteps := 8000000) [Fn.f_haulagelaw25_few, q1']
end Hx
