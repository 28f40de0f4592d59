/- The laws of this seat on the evaluator. -/
import Derived.Test.YtfobhbameffplaaHxS15u
import Derived.Test.YtfobhbameffplaaHxU03d
import Derived.Test.YtfobhbameffplaaHxT15b
import Derived.Test.YtfobhbameffplaaHxS15y
import Derived.Test.YtfobhbameffplaaHxRow
import Derived.Test.YtfobhbameffplaaRows
import Derived.Test.YtfobhbameffplaaHxArg
import Derived.WalkKit
namespace Hx
open Go
set_option linter.unusedSimpArgs false
set_option linter.unusedVariables false
set_option maxHeartbeats 64000000
set_option maxRecDepth 20000
variable {E : Env}
attribute [-simp] List.getD_eq_getElem?_getD getElem?_pos
structure I15 (E : Env) : Prop where
  l : L09 E
  same : E.fn 128 = some Fn.f_haulageref15_Same
  rows : E.fn 150 = some Fn.f_haulageref15_SameRows
  cat : E.fn 149 = some Fn.f_haulageref08_Same
  tab : E.fn 175 = some Fn.f_haulageref08_SameTable
  row : E.fn 176 = some Fn.f_haulageref08_SameRow
theorem p150 : Fn.f_haulageref15_SameRows.pure = true := rfl
theorem p175 : Fn.f_haulageref08_SameTable.pure = true := rfl
theorem p176 : Fn.f_haulageref08_SameRow.pure = true := rfl
theorem ref_SameTableX (u : I15 E) {t : Tbl} (ht : TblF t) (hl : t.cols.length ≤ 1000) (k : Nat) (hk : 2000 ≤ k) (m : Mem) :
    denF E (k + 1) 175 [.p (.agg (tblP t)), .p (.agg (tblP t))] m = some (.ret (.p (.bool true)), m) := by
  obtain ⟨j, rfl⟩ : ∃ j, k = j + 1 := ⟨k - 1, by omega⟩
  have hC := fun m => ref_SameCols u.l.cols ht ht (by omega) j (by omega) m
  rw [sameQs_self] at hC
  have f1 := ht.flat
  unfold PV.flat at f1
  refine denF_wp u.tab rfl (args' := [.p (.agg (tblP t)), .p (.agg (tblP t))]) rfl ?_
  simp (maxSteps := 4000000) [Fn.f_haulageref08_SameTable, tblP, f1, hC]
theorem ref_SameCatX (u : I15 E) {tp : PV} {ts : List Tbl} (ht : TabQ tp ts) (hok : ∀ t ∈ ts, TblG t) (hl : ts.length ≤ 1000) (k : Nat) (hk : 3000 ≤ k) (m : Mem) :
    denF E (k + 1) 149 [.p (.agg [tp]), .p (.agg [tp])] m = some (.ret (.p (.bool true)), m) := by
  obtain ⟨j, rfl⟩ : ∃ j, k = j + 1 := ⟨k - 1, by omega⟩
  have f1 := ht.flat
  unfold PV.flat at f1
  have hmain : ∀ st, Live Fn.f_haulageref08_Same_k0 (Fn.f_haulageref08_Same_s0 (.ptr 0 0) (.ptr 1 0) (.p (.int .i64 0))) [.cells [.p tp], .cells [.p tp]] st →
      Wp (iter (loopF E (denF E (j + 1)) (j + 1) Fn.f_haulageref08_Same_k0 Fn.f_haulageref08_Same_b0) (j + 1) st) (fun e st => e = .exit 0 ∧ st.ds = [] ∧ st.ts.length = 32) := by
    intro st0 hst0
    refine loop_wp (α := Nat) (I := fun s st => s ≤ ts.length ∧ Live Fn.f_haulageref08_Same_k0 (Fn.f_haulageref08_Same_s0 (.ptr 0 0) (.ptr 1 0) (.p (.int .i64 s))) [.cells [.p tp], .cells [.p tp]] st) (meas := fun s => ts.length - s) ?_ (j + 1) 0 _ ⟨Nat.zero_le _, hst0⟩ (by simp only [Nat.sub_zero]; omega)
    rintro i st ⟨hi, hlive⟩
    rw [loopF_live hlive]
    by_cases hlt : i < ts.length
    · have hlt' : (i : Int) < ts.length := by omega
      obtain ⟨t, hc⟩ : ∃ t, ts[i]? = some t := ⟨_, List.getElem?_eq_getElem hlt⟩
      have hg := hok t (List.mem_of_getElem? hc)
      have hS := fun m => ref_SameTableX u hg.ok.f (by have := hg.len; omega) j (by omega) m
      have hw : IntKind.i64.wrap ((i : Int) + 1) = ((i + 1 : Nat) : Int) := by rw [wrap_i64 (by omega) (by omega)]; omega
      have ft := hg.ok.f.flat
      unfold PV.flat at ft
      simp only [tblP] at hS
      rcases ht with ⟨rfl, rfl⟩ | rfl
      · simp at hlt
      simp (maxSteps := 4000000) [Fn.f_haulageref08_Same_b0, Fn.f_haulageref08_Same_s0, tblP, ft, hlt, hlt', hc, hS, u.tab, p175, hw, -Int.natCast_add]
      exact ⟨i + 1, by omega, hlt, rfl, rfl, rfl, rfl⟩
    · have hlt' : ¬ (i : Int) < ts.length := by omega
      rcases ht with ⟨rfl, rfl⟩ | rfl
      · obtain rfl : i = 0 := by simpa using hi
        simp (maxSteps := 4000000) [Fn.f_haulageref08_Same_b0, Fn.f_haulageref08_Same_s0]
      · simp (maxSteps := 4000000) [Fn.f_haulageref08_Same_b0, Fn.f_haulageref08_Same_s0, hlt, hlt']
  refine denF_wp u.cat rfl (args' := [.p (.agg [tp]), .p (.agg [tp])]) rfl ?_
  rcases ht with ⟨rfl, rfl⟩ | rfl
  all_goals
    simp (maxSteps := 4000000) [Fn.f_haulageref08_Same, bne]
    refine (hmain _ ⟨rfl, rfl, rfl, rfl⟩).mono ?_
    rintro e st ⟨rfl, hds, hlen⟩
    obtain ⟨ts', m', ds⟩ := st
    simp only at hds hlen
    subst hds
    have hx := expand_ts 32 ts' hlen
    simp only [List.range, List.range.loop, List.map_cons, List.map_nil] at hx
    rw [hx]
    simp
theorem ref_SameRowX (u : I15 E) (r : Row) (hl : r.length ≤ 1000) (k : Nat) (hk : 2000 ≤ k) (m : Mem) :
    denF E (k + 1) 176 [.p (.vals 3 (r.map valP)), .p (.vals 3 (r.map valP))] m = some (.ret (.p (.bool true)), m) := by
  have hmain : ∀ st m0, Live Fn.f_haulageref08_SameRow_k0 (Fn.f_haulageref08_SameRow_s0 (.p (.vals 3 (r.map valP))) (.p (.vals 3 (r.map valP))) (.p (.int .i64 0))) m0 st →
      Wp (iter (loopF E (denF E k) k Fn.f_haulageref08_SameRow_k0 Fn.f_haulageref08_SameRow_b0) k st) (fun e st => e = .exit 0 ∧ st.ds = [] ∧ st.ts.length = 26) := by
    intro st0 m0 hst0
    refine loop_wp (α := Nat) (I := fun s st => s ≤ r.length ∧ Live Fn.f_haulageref08_SameRow_k0 (Fn.f_haulageref08_SameRow_s0 (.p (.vals 3 (r.map valP))) (.p (.vals 3 (r.map valP))) (.p (.int .i64 s))) m0 st) (meas := fun s => r.length - s) ?_ k 0 _ ⟨Nat.zero_le _, hst0⟩ (by simp only [Nat.sub_zero]; omega)
    rintro i st ⟨hi, hlive⟩
    rw [loopF_live hlive]
    by_cases hlt : i < r.length
    · have hlt' : (i : Int) < r.length := by omega
      obtain ⟨v, hc⟩ : ∃ v, r[i]? = some v := ⟨_, List.getElem?_eq_getElem hlt⟩
      have hw : IntKind.i64.wrap ((i : Int) + 1) = ((i + 1 : Nat) : Int) := by rw [wrap_i64 (by omega) (by omega)]; omega
      have hE := eq_valP v v
      rw [decide_eq_true rfl] at hE
      simp only [valP] at hE
      simp (maxSteps := 4000000) [Fn.f_haulageref08_SameRow_b0, Fn.f_haulageref08_SameRow_s0, valP, hlt, hlt', hc, hE, hw, -Int.natCast_add]
      exact ⟨i + 1, by omega, hlt, rfl, rfl, rfl, rfl⟩
    · have hlt' : ¬ (i : Int) < r.length := by omega
      simp (maxSteps := 4000000) [Fn.f_haulageref08_SameRow_b0, Fn.f_haulageref08_SameRow_s0, hlt, hlt']
  refine denF_wp u.row rfl (args' := [.p (.vals 3 (r.map valP)), .p (.vals 3 (r.map valP))]) rfl ?_
  simp (maxSteps := 4000000) [Fn.f_haulageref08_SameRow, bne]
  refine (hmain _ _ ⟨rfl, rfl, rfl, rfl⟩).mono ?_
  rintro e st ⟨rfl, hds, hlen⟩
  obtain ⟨ts', m', ds⟩ := st
  simp only at hds hlen
  subst hds
  have hx := expand_ts 26 ts' hlen
  simp only [List.range, List.range.loop, List.map_cons, List.map_nil] at hx
  rw [hx]
  simp
theorem ref_SameRowsX (u : I15 E) {p q : PV} {z : List Row} (hp : ListQ p z) (hq : ListQ q z) (hr : ∀ r ∈ z, r.length ≤ 1000) (hl : z.length ≤ 1000) (k : Nat) (hk : 3000 ≤ k) (m : Mem) :
    denF E (k + 1) 150 [.p p, .p q] m = some (.ret (.p (.bool true)), m) := by
  obtain ⟨j, rfl⟩ : ∃ j, k = j + 1 := ⟨k - 1, by omega⟩
  have hmain : ∀ st m0, Live Fn.f_haulageref15_SameRows_k0 (Fn.f_haulageref15_SameRows_s0 (.p p) (.p q) (.p (.int .i64 0))) m0 st →
      Wp (iter (loopF E (denF E (j + 1)) (j + 1) Fn.f_haulageref15_SameRows_k0 Fn.f_haulageref15_SameRows_b0) (j + 1) st) (fun e st => e = .exit 0 ∧ st.ds = [] ∧ st.ts.length = 27) := by
    intro st0 m0 hst0
    refine loop_wp (α := Nat) (I := fun s st => s ≤ z.length ∧ Live Fn.f_haulageref15_SameRows_k0 (Fn.f_haulageref15_SameRows_s0 (.p p) (.p q) (.p (.int .i64 s))) m0 st) (meas := fun s => z.length - s) ?_ (j + 1) 0 _ ⟨Nat.zero_le _, hst0⟩ (by simp only [Nat.sub_zero]; omega)
    rintro i st ⟨hi, hlive⟩
    rw [loopF_live hlive]
    by_cases hlt : i < z.length
    · have hlt' : (i : Int) < z.length := by omega
      obtain ⟨v, hc⟩ : ∃ v, z[i]? = some v := ⟨_, List.getElem?_eq_getElem hlt⟩
      have hS := fun m => ref_SameRowX u v (hr v (List.mem_of_getElem? hc)) j (by omega) m
      have hw : IntKind.i64.wrap ((i : Int) + 1) = ((i + 1 : Nat) : Int) := by rw [wrap_i64 (by omega) (by omega)]; omega
      rcases hp with ⟨rfl, rfl⟩ | rfl
      · simp at hlt
      rcases hq with ⟨h0, rfl⟩ | rfl
      · rw [h0] at hlt; simp at hlt
      simp (maxSteps := 4000000) [Fn.f_haulageref15_SameRows_b0, Fn.f_haulageref15_SameRows_s0, ZP, rowP, hlt, hlt', hc, hS, u.row, p176, hw, -Int.natCast_add]
      exact ⟨i + 1, by omega, hlt, rfl, rfl, rfl, rfl⟩
    · have hlt' : ¬ (i : Int) < z.length := by omega
      rcases hp with ⟨rfl, rfl⟩ | rfl
      · obtain rfl : i = 0 := by simpa using hi
        simp (maxSteps := 4000000) [Fn.f_haulageref15_SameRows_b0, Fn.f_haulageref15_SameRows_s0]
      · simp (maxSteps := 4000000) [Fn.f_haulageref15_SameRows_b0, Fn.f_haulageref15_SameRows_s0, ZP, hlt, hlt']
  have lp : lenV (.p p) = some z.length := by
    rcases hp with ⟨rfl, rfl⟩ | rfl
    · rfl
    · simp [ZP]
  have lq : lenV (.p q) = some z.length := by
    rcases hq with ⟨rfl, rfl⟩ | rfl
    · rfl
    · simp [ZP]
  refine denF_wp u.rows rfl (args' := [.p p, .p q]) (by rcases hp with ⟨_, rfl⟩ | rfl <;> rcases hq with ⟨_, rfl⟩ | rfl <;> rfl) ?_
  rcases hp with ⟨rfl, rfl⟩ | rfl
  all_goals
    rcases hq with ⟨h0, rfl⟩ | rfl
    all_goals
      try subst h0
      simp (maxSteps := 4000000) [Fn.f_haulageref15_SameRows, ZP, bne]
      refine (hmain _ _ ⟨rfl, rfl, rfl, rfl⟩).mono ?_
      rintro e st ⟨rfl, hds, hlen⟩
      obtain ⟨ts', m', ds⟩ := st
      simp only at hds hlen
      subst hds
      have hx := expand_ts 27 ts' hlen
      simp only [List.range, List.range.loop, List.map_cons, List.map_nil] at hx
      rw [hx]
      simp
theorem ref_SameX (u : I15 E) {tp r1 r2 : PV} {ts : List Tbl} {es1 es2 : List RE} (h1 : StG tp r1 ts es1) (h2 : StG tp r2 ts es2) (hz : es1.map (·.2.2) = es2.map (·.2.2)) (k : Nat) (hk : 4000 ≤ k) (m : Mem) :
    denF E (k + 1) 128 [.p (.agg [tp, r1]), .p (.agg [tp, r2])] m = some (.ret (.p (.bool true)), m) := by
  obtain ⟨j, rfl⟩ : ∃ j, k = j + 1 := ⟨k - 1, by omega⟩
  have hC := fun m => ref_SameCatX u h1.tp h1.t h1.n j (by omega) m
  have f0 := h1.tp.flat
  have f1 := h1.rp.flat
  have f2 := h2.rp.flat
  unfold PV.flat at f0 f1 f2
  have hlen : es1.length = es2.length := by simpa using congrArg List.length hz
  have hn := h1.n
  have hl := h1.len
  have hmain : ∀ st, Live Fn.f_haulageref15_Same_k0 (Fn.f_haulageref15_Same_s0 (.ptr 0 0) (.ptr 1 0) (.p (.int .i64 0))) [.cells [.p tp, .p r1], .cells [.p tp, .p r2]] st →
      Wp (iter (loopF E (denF E (j + 1)) (j + 1) Fn.f_haulageref15_Same_k0 Fn.f_haulageref15_Same_b0) (j + 1) st) (fun e st => e = .exit 0 ∧ st.ds = [] ∧ st.ts.length = 57) := by
    intro st0 hst0
    refine loop_wp (α := Nat) (I := fun s st => s ≤ es1.length ∧ Live Fn.f_haulageref15_Same_k0 (Fn.f_haulageref15_Same_s0 (.ptr 0 0) (.ptr 1 0) (.p (.int .i64 s))) [.cells [.p tp, .p r1], .cells [.p tp, .p r2]] st) (meas := fun s => es1.length - s) ?_ (j + 1) 0 _ ⟨Nat.zero_le _, hst0⟩ (by simp only [Nat.sub_zero]; omega)
    rintro i st ⟨hi, hlive⟩
    rw [loopF_live hlive]
    by_cases hlt : i < es1.length
    · have hlt' : (i : Int) < es1.length := by omega
      have hlt2 : i < es2.length := by omega
      obtain ⟨x, hx⟩ : ∃ x, es1[i]? = some x := ⟨_, List.getElem?_eq_getElem hlt⟩
      obtain ⟨y, hy⟩ : ∃ y, es2[i]? = some y := ⟨_, List.getElem?_eq_getElem hlt2⟩
      obtain ⟨t, ht⟩ : ∃ t, ts[i]? = some t := ⟨_, List.getElem?_eq_getElem (by omega)⟩
      have hid : x.1 = y.1 := by
        have e := h1.ids.trans h2.ids.symm
        have e := congrArg (fun l : List Int => l[i]?) e
        simp only [List.getElem?_map, hx, hy, Option.map_some, Option.some.injEq] at e
        exact e
      have hrz : x.2.2 = y.2.2 := by
        have e := congrArg (fun l : List (List Row) => l[i]?) hz
        simp only [List.getElem?_map, hx, hy, Option.map_some, Option.some.injEq] at e
        exact e
      have q1 := h1.q x (List.mem_of_getElem? hx)
      have q2 := h2.q y (List.mem_of_getElem? hy)
      rw [← hrz] at q2
      have hS := fun m => ref_SameRowsX u q1 q2 (fun r hr => by
        have hf := (h1.fit i t x ht hx r hr).len
        have := (h1.t t (List.mem_of_getElem? ht)).len
        omega) (by have := h1.few x (List.mem_of_getElem? hx); omega) j (by omega) m
      have hw : IntKind.i64.wrap ((i : Int) + 1) = ((i + 1 : Nat) : Int) := by rw [wrap_i64 (by omega) (by omega)]; omega
      rcases h1.rp with ⟨h0, _⟩ | e1
      · rw [h0] at hlt; simp at hlt
      rcases h2.rp with ⟨h0, _⟩ | e2
      · rw [h0] at hlt2; simp at hlt2
      subst e1 e2
      obtain ⟨x1, x2, x3⟩ := x
      obtain ⟨y1, y2, y3⟩ := y
      simp only at hid hS
      subst hid
      simp (maxSteps := 4000000) [Fn.f_haulageref15_Same_b0, Fn.f_haulageref15_Same_s0, RZ, reP, hlt, hlt', hlt2, hx, hy, hS, u.rows, p150, hw, bne, -Int.natCast_add]
      exact ⟨i + 1, by omega, hlt, rfl, rfl, rfl, rfl⟩
    · have hlt' : ¬ (i : Int) < es1.length := by omega
      rcases h1.rp with ⟨h0, e1⟩ | e1
      · have hi0 : i = 0 := by rw [h0] at hi; simpa using hi
        subst hi0 e1
        simp (maxSteps := 4000000) [Fn.f_haulageref15_Same_b0, Fn.f_haulageref15_Same_s0]
      · subst e1
        simp (maxSteps := 4000000) [Fn.f_haulageref15_Same_b0, Fn.f_haulageref15_Same_s0, RZ, hlt, hlt']
  have l1 : ∀ r : PV, ∀ es : List RE, RsQ r es → es.length = es1.length → ∃ n : Nat, (r = .nils ∧ n = 0 ∧ es1.length = 0) ∨ (r = .vals 2 (RZ es) ∧ n = es1.length ∧ (RZ es).length = es1.length) := by
    intro r es h he
    rcases h with ⟨h0, h⟩ | h
    · exact ⟨0, .inl ⟨h, rfl, by rw [← he, h0]; rfl⟩⟩
    · exact ⟨_, .inr ⟨h, rfl, by rw [RZ_len, he]⟩⟩
  refine denF_wp u.same rfl (args' := [.p (.agg [tp, r1]), .p (.agg [tp, r2])]) rfl ?_
  have key : (lenV (.p r1) = some es1.length) ∧ lenV (.p r2) = some es1.length := by
    constructor
    · rcases h1.rp with ⟨h0, h⟩ | h
      · rw [h, h0]; rfl
      · rw [h]; simp [RZ]
    · rcases h2.rp with ⟨h0, h⟩ | h
      · rw [h, hlen, h0]; rfl
      · rw [h, hlen]; simp [RZ]
  have e1 := h1.rp
  have e2 := h2.rp
  rcases e1 with ⟨h01, e1⟩ | e1 <;> rcases e2 with ⟨h02, e2⟩ | e2
  · have hlen' : es1.length = 0 := by rw [h01]; rfl
    subst e1 e2
    simp (maxSteps := 4000000) [Fn.f_haulageref15_Same, RZ, f0, hC, bne]
    refine (hmain _ ⟨rfl, rfl, rfl, rfl⟩).mono ?_
    rintro e st ⟨rfl, hds, hl2⟩
    obtain ⟨ts', m', ds⟩ := st
    simp only at hds hl2
    subst hds
    have hx := expand_ts 57 ts' hl2
    simp only [List.range, List.range.loop, List.map_cons, List.map_nil] at hx
    rw [hx]
    simp
  · have hlen' : es2.length = 0 := by rw [← hlen, h01]; rfl
    subst e1 e2
    simp (maxSteps := 4000000) [Fn.f_haulageref15_Same, RZ, f0, hC, hlen', bne]
    refine (hmain _ ⟨rfl, rfl, rfl, rfl⟩).mono ?_
    rintro e st ⟨rfl, hds, hl2⟩
    obtain ⟨ts', m', ds⟩ := st
    simp only at hds hl2
    subst hds
    have hx := expand_ts 57 ts' hl2
    simp only [List.range, List.range.loop, List.map_cons, List.map_nil] at hx
    rw [hx]
    simp
  · have hlen' : es1.length = 0 := by rw [hlen, h02]; rfl
    subst e1 e2
    simp (maxSteps := 4000000) [Fn.f_haulageref15_Same, RZ, f0, hC, hlen', bne]
    refine (hmain _ ⟨rfl, rfl, rfl, rfl⟩).mono ?_
    rintro e st ⟨rfl, hds, hl2⟩
    obtain ⟨ts', m', ds⟩ := st
    simp only at hds hl2
    subst hds
    have hx := expand_ts 57 ts' hl2
    simp only [List.range, List.range.loop, List.map_cons, List.map_nil] at hx
    rw [hx]
    simp
  · have hlen' := hlen.symm
    subst e1 e2
    simp (maxSteps := 4000000) [Fn.f_haulageref15_Same, RZ, f0, hC, hlen', bne]
    refine (hmain _ ⟨rfl, rfl, rfl, rfl⟩).mono ?_
    rintro e st ⟨rfl, hds, hl2⟩
    obtain ⟨ts', m', ds⟩ := st
    simp only at hds hl2
    subst hds
    have hx := expand_ts 57 ts' hl2
    simp only [List.range, List.range.loop, List.map_cons, List.map_nil] at hx
    rw [hx]
    simp
end Hx

namespace Hx
open Go
set_option linter.unusedSimpArgs false
set_option linter.unusedVariables false
set_option maxHeartbeats 64000000
set_option maxRecDepth 20000
variable {E : Env}
attribute [-simp] List.getD_eq_getElem?_getD getElem?_pos
def colU : List PV → Int × Col
  | [.int _ a, .str b, .int _ c, .int _ d, .bool e, .int _ f, .int _ g, .str i] => (a, ⟨b, c, d, e, f, g, i⟩)
  | _ => (0, ⟨[], 0, 0, false, 0, 0, []⟩)
def colsOf : PV → List (Int × Col)
  | .vals _ rows => rows.map colU
  | _ => []
theorem colsOf_eq {cs : PV} {l : List (Int × Col)} (h : SlQ cs l) : colsOf cs = l := by
  rcases h with ⟨rfl, rfl⟩ | rfl
  · rfl
  · show (l.map colQ).map colU = l
    rw [List.map_map]
    have : (colU ∘ colQ) = id := by
      funext c
      rfl
    rw [this, List.map_id]
theorem conf_colI {r : List PV} (h : Confs colSh r) : ∃ c : Int × Col, r = colQ c ∧ isI64 c.2.dn := by
  unfold colSh at h
  simp only [Confs, Conf] at h
  obtain ⟨_, _, rfl, ⟨a, rfl, _⟩, _, _, rfl, ⟨b, rfl, _⟩, _, _, rfl, ⟨c, rfl, _⟩, _, _, rfl, ⟨d, rfl, _⟩, _, _, rfl, ⟨e, rfl⟩, _, _, rfl, ⟨f, rfl, _⟩, _, _, rfl, ⟨g, rfl, g1, g2⟩, _, _, rfl, ⟨i, rfl, _⟩, rfl⟩ := h
  exact ⟨(a, ⟨b, c, d, e, f, g, i⟩), rfl, g1, g2⟩
theorem conf_celI {r : List PV} (h : Confs celSh r) : ∃ c : Cel, r = celP c ∧ isI64 c.vn := by
  unfold celSh at h
  simp only [Confs, Conf] at h
  obtain ⟨_, _, rfl, ⟨a, rfl, _⟩, _, _, rfl, ⟨b, rfl, _⟩, _, _, rfl, ⟨c, rfl, _⟩, _, _, rfl, ⟨d, rfl, _⟩, _, _, rfl, ⟨e, rfl, e1, e2⟩, _, _, rfl, ⟨f, rfl, _⟩, rfl⟩ := h
  exact ⟨⟨a, b, c, d, e, f⟩, rfl, e1, e2⟩
theorem conf_list {α : Type} {sh : List Sh} {f : α → List PV} {P : α → Prop} (hc : ∀ r, Confs sh r → ∃ a, r = f a ∧ P a) : ∀ {rows : List (List PV)}, (∀ r ∈ rows, Confs sh r) → ∃ l : List α, rows = l.map f ∧ ∀ a ∈ l, P a
  | [], _ => ⟨[], rfl, by simp⟩
  | r :: rows, h => by
    obtain ⟨a, h1, h2⟩ := hc r (h r (by simp))
    obtain ⟨l, h3, h4⟩ := conf_list (rows := rows) hc (fun x hx => h x (by simp [hx]))
    refine ⟨a :: l, by rw [h1, h3]; rfl, ?_⟩
    intro x hx
    rcases List.mem_cons.1 hx with rfl | hx
    · exact h2
    · exact h4 x hx
theorem conf_slice {α : Type} {n : Nat} {sh : List Sh} {f : α → List PV} {P : α → Prop} (hc : ∀ r, Confs sh r → ∃ a, r = f a ∧ P a) {v : PV} (h : Conf (.slice n sh) v) : ∃ l : List α, ((l = [] ∧ v = .nils) ∨ v = .vals n (l.map f)) ∧ ∀ a ∈ l, P a := by
  rw [Conf] at h
  rcases h with rfl | ⟨rows, rfl, _, hr⟩
  · exact ⟨[], .inl ⟨rfl, rfl⟩, by simp⟩
  · obtain ⟨l, rfl, h2⟩ := conf_list hc hr
    exact ⟨l, .inr rfl, h2⟩
theorem conf_chI {r : List PV} (h : Confs chSh r) : ∃ c : Ch, r = chV c ∧ ChOk c ∧ ChI c := by
  unfold chSh at h
  simp only [Confs] at h
  obtain ⟨x1, _, rfl, h1, x2, _, rfl, h2, x3, _, rfl, h3, x4, _, rfl, h4, x5, _, rfl, h5, x6, _, rfl, h6, x7, _, rfl, h7, x8, _, rfl, h8, x9, _, rfl, h9, x10, _, rfl, h10, x11, _, rfl, h11, x12, _, rfl, h12, x13, _, rfl, h13, x14, _, rfl, h14, x15, _, rfl, h15, x16, _, rfl, h16, x17, _, rfl, h17, x18, _, rfl, h18, x19, _, rfl, h19, rfl⟩ := h
  obtain ⟨cels, k7, i7⟩ := conf_slice (fun r => conf_celI) h7
  obtain ⟨cols, k19, i19⟩ := conf_slice (fun r => conf_colI) h19
  clear h7 h19
  simp only [Conf] at *
  obtain ⟨a1, rfl, _⟩ := h1
  obtain ⟨a2, rfl, _⟩ := h2
  obtain ⟨a3, rfl, _⟩ := h3
  obtain ⟨a4, rfl, _⟩ := h4
  obtain ⟨a5, rfl, _⟩ := h5
  obtain ⟨a6, rfl, _⟩ := h6
  obtain ⟨a8, rfl, _⟩ := h8
  obtain ⟨a9, rfl, _⟩ := h9
  obtain ⟨a10, rfl, _⟩ := h10
  obtain ⟨a11, rfl, _⟩ := h11
  obtain ⟨a12, rfl, _⟩ := h12
  obtain ⟨a13, rfl, _⟩ := h13
  obtain ⟨a14, rfl, _⟩ := h14
  obtain ⟨a15, rfl⟩ := h15
  obtain ⟨a16, rfl, _⟩ := h16
  obtain ⟨a17, rfl, q1, q2⟩ := h17
  obtain ⟨a18, rfl, _⟩ := h18
  refine ⟨⟨a1, a2, a3, a4, a5, a6, x7, ⟨a8, a9, a10, a11, a12, a13, a14, a15, a16, a17, a18, []⟩, x19⟩, rfl, ⟨⟨cels, k7⟩, ⟨cols, k19⟩⟩, ⟨⟨q1, q2⟩, ?_, ?_⟩⟩
  · intro l hl x hx
    rw [← celsOf_eq hl, celsOf_eq (l := cels) k7] at hx
    exact i7 x hx
  · intro l hl x hx
    rw [← colsOf_eq hl, colsOf_eq (l := cols) k19] at hx
    exact i19 x hx
theorem conf_LI {v : PV} (h : Conf (.slice 19 chSh) v) : ∃ l : List Ch, LQ v l ∧ ∀ c ∈ l, ChOk c ∧ ChI c := conf_slice (fun r => conf_chI) h
def valSh : List Sh := [.int .i64, .int .i64, .str]
def tabSh : List Sh := [.int .i64, .str, .int .i64, .int .i64, .slice 8 colSh]
def rowsSh : List Sh := [.int .i64, .slice 1 [.slice 3 valSh]]
def stSh : List Sh := [.slice 5 tabSh, .slice 2 rowsSh]
theorem conf_val {r : List PV} (h : Confs valSh r) : ∃ v : Val, r = valP v ∧ isI64 v.2.1 := by
  unfold valSh at h
  simp only [Confs, Conf] at h
  obtain ⟨_, _, rfl, ⟨a, rfl, _⟩, _, _, rfl, ⟨b, rfl, b1, b2⟩, _, _, rfl, ⟨c, rfl, _⟩, rfl⟩ := h
  exact ⟨(a, b, c), rfl, b1, b2⟩
theorem conf_tab {r : List PV} (h : Confs tabSh r) : ∃ t : Tbl, r = tblP t ∧ TblOk t := by
  unfold tabSh at h
  simp only [Confs] at h
  obtain ⟨x1, _, rfl, h1, x2, _, rfl, h2, x3, _, rfl, h3, x4, _, rfl, h4, x5, _, rfl, h5, rfl⟩ := h
  obtain ⟨cols, k5, i5⟩ := conf_slice (fun r => conf_colI) h5
  clear h5
  simp only [Conf] at *
  obtain ⟨a1, rfl, _⟩ := h1
  obtain ⟨a2, rfl, _⟩ := h2
  obtain ⟨a3, rfl, _⟩ := h3
  obtain ⟨a4, rfl, _⟩ := h4
  exact ⟨⟨a1, a2, a3, a4, cols, x5⟩, rfl, ⟨k5, i5⟩⟩
theorem conf_row {r : List PV} (h : Confs [.slice 3 valSh] r) : ∃ x : PV × Row, r = [x.1] ∧ RowQ x.1 x.2 ∧ ∀ v ∈ x.2, isI64 v.2.1 := by
  simp only [Confs] at h
  obtain ⟨x1, _, rfl, h1, rfl⟩ := h
  obtain ⟨l, k1, i1⟩ := conf_slice (fun r => conf_val) h1
  exact ⟨(x1, l), rfl, k1, i1⟩
theorem conf_rows {r : List PV} (h : Confs rowsSh r) : ∃ e : RawE, r = [.int .i64 e.1, e.2.1] ∧ RawL e.2.1 e.2.2 ∧ ∀ x ∈ e.2.2, ∀ v ∈ x.2, isI64 v.2.1 := by
  unfold rowsSh at h
  simp only [Confs] at h
  obtain ⟨x1, _, rfl, h1, x2, _, rfl, h2, rfl⟩ := h
  obtain ⟨l, k2, i2⟩ := conf_slice (fun r => conf_row) h2
  clear h2
  simp only [Conf] at *
  obtain ⟨a1, rfl, _⟩ := h1
  exact ⟨(a1, x2, l), rfl, ⟨k2, fun x hx => (i2 x hx).1⟩, fun x hx => (i2 x hx).2⟩
theorem conf_state {r : List PV} (h : Confs stSh r) : ∃ (tp rp : PV) (ts : List Tbl) (es : List RawE), r = [tp, rp] ∧ TabQ tp ts ∧ TabsOk ts ∧ RawS rp es ∧ ∀ e ∈ es, ∀ x ∈ e.2.2, ∀ v ∈ x.2, isI64 v.2.1 := by
  unfold stSh at h
  simp only [Confs] at h
  obtain ⟨x1, _, rfl, h1, x2, _, rfl, h2, rfl⟩ := h
  obtain ⟨ts, k1, i1⟩ := conf_slice (fun r => conf_tab) h1
  obtain ⟨es, k2, i2⟩ := conf_slice (fun r => conf_rows) h2
  exact ⟨x1, x2, ts, es, rfl, k1, i1, ⟨k2, fun e he => (i2 e he).1⟩, fun e he => (i2 e he).2⟩
structure T26 (E : Env) : Prop where
  k : K15 E
  i : I15 E
  few : Few15 E
  n : N25 E
  s : S25 E
  c : C25 E
  w : W25 E
  of : E.fn 127 = some Fn.f_net_Of
  rising : E.fn 141 = some Fn.f_haulageref15_rising
  right : E.fn 125 = some Fn.f_haulageref15_Right
def Tried26 (c : Ch) : Prop := ChT c
theorem tried26_kind (c : Ch) (k : Int) (h : Tried26 c) : Tried26 { c with kind := k } := ⟨⟨h.ok.cs, h.ok.sl⟩, ⟨h.i.d, h.i.cs, h.i.sl⟩, h.sl, h.cs⟩
theorem law_NetDoes (t : T26 E) (h : E.fn 284 = some Fn.f_haulagelaw25_NetDoes) (k : Nat) (hlv : ∀ m, denF E (k + 7999) 122 [] m = some (.ret (.p (.bool true)), m)) {x0 : List PV} {x1 : PV} (c0 : Confs stSh x0) (c1 : Conf (.slice 19 chSh) x1) (m : Mem) :
    denF E (k + 8000) 284 [.p (.agg x0), .p x1] m = some (.ret (.p (.bool true)), m) := by
  obtain ⟨tp, rp, ts, es, rfl, htp, hok, hrp, hi64⟩ := conf_state c0
  obtain ⟨l, hl, hlc⟩ := conf_LI c1
  have f1 := htp.flat
  have f2 := hrp.flat
  have f3 : x1.flat = true := by rcases hl with ⟨_, rfl⟩ | rfl <;> rfl
  have g1 := f1
  have g2 := f2
  have f3' := f3
  have f3c : x1.cells = [x1] := by rcases hl with ⟨_, rfl⟩ | rfl <;> rfl
  have lenl : lenV (.p x1) = some l.length := by
    rcases hl with ⟨h1, h2⟩ | h2
    · rw [h1, h2]; rfl
    · rw [h2]; simp
  unfold PV.flat at g1 g2 f3
  unfold PV.cells at f3c
  obtain ⟨b1, hb1, hF⟩ := law_FewState t.few htp (fun x hx => (hok x hx).f) hrp (k + 7998) (by omega)
  obtain ⟨b2, hb2, hG⟩ := law_few25 t.w hl (fun c hc => (hlc c hc).1) (k + 7998) (by omega)
  refine denF_wp h rfl (args' := [.p (.agg [tp, rp]), .p x1]) rfl ?_
  cases b1 with
  | false => simp (maxSteps := 8000000) [Fn.f_haulagelaw25_NetDoes, g1, g2, hlv, hF]
  | true =>
  have hfew := hb1 rfl
  obtain ⟨b3, hb3, hR⟩ := ref_SRight t.k.toC15 t.rising t.right htp hok hrp hfew hi64 (k + 7998) (by omega)
  cases b2 with
  | false => simp (maxSteps := 8000000) [Fn.f_haulagelaw25_NetDoes, g1, g2, hlv, hF, hG]
  | true =>
  obtain ⟨hn, hsm⟩ := hb2 rfl
  cases b3 with
  | false => simp (maxSteps := 8000000) [Fn.f_haulagelaw25_NetDoes, g1, g2, hlv, hF, hG, hR]
  | true =>
  have hs : StG (⟨tp, ts⟩ : Cat15).tp rp (⟨tp, ts⟩ : Cat15).ts (es.map toRE) := hb3 rfl
  have htr : ∀ c ∈ l, Tried26 c := fun c hc => ⟨(hlc c hc).1, (hlc c hc).2, by have := (hsm c hc).2; omega, by have := (hsm c hc).1; omega⟩
  have hA := ref_Apply20 t.k hs hl htr (by omega) (k + 7995) (by omega)
  have hw0 := wf_of E (k + 7995 + 1) hs
  cases ha : applyL (mdl15 E (k + 7995 + 1)) (⟨tp, ts⟩, rowsZ (es.map toRE)) l with
  | none =>
    rw [ha] at hA
    obtain ⟨er, tp', rp', he, t1, t2, hrun⟩ := hA
    have heb : (er == 0) = false := by simpa using he
    have hrun : ∀ m, denF E (k + 7999) 126 [.p (.agg [tp, rp]), .p (.agg [.int .i64 0, x1])] m = some (.ret (.tup [.p (.agg [tp', rp']), .p (.int .i64 er)]), m) := hrun
    unfold PV.flat at t1 t2
    simp (maxSteps := 8000000) [Fn.f_haulagelaw25_NetDoes, g1, g2, f3, f3c, t1, t2, hlv, hF, hG, hR, hrun, he, heb, bne]
  | some w =>
    rw [ha] at hA
    obtain ⟨rpw, esw, hsw, hzw, hrunw⟩ := hA
    obtain ⟨m', hm1, hm2, hm3⟩ := net_law (mdl_ok E (k + 7995 + 1)) l [] [] _ _ w (run_start hw0) ha
    rw [List.nil_append] at hm1
    have hm1 : ofP plainB l [] [] = (m', 0) := hm1
    simp only [List.length_nil, Nat.zero_add] at hm3
    obtain ⟨o1, ho1, hO⟩ := net_Of t.n t.s t.c t.of hl (fun c hc => ⟨(hlc c hc).1, by have := (hsm c hc).1; omega, by have := (hsm c hc).2; omega⟩) (by omega) (k + 7998) (by omega)
    obtain ⟨hP, -⟩ := ofP_P tried26_kind (pl := plainB) l [] [] htr (by simp) (by simp)
    rw [hm1] at ho1 hO hP
    simp only at ho1 hO hP
    have hA2 := ref_Apply20 t.k hs ho1 hP (by omega) (k + 7995) (by omega)
    rw [hm2] at hA2
    obtain ⟨rpx, esx, hsx, hzx, hrunx⟩ := hA2
    have hrunw : ∀ m, denF E (k + 7999) 126 [.p (.agg [tp, rp]), .p (.agg [.int .i64 0, x1])] m = some (.ret (.tup [.p (.agg [w.1.tp, rpw]), .p (.int .i64 0)]), m) := hrunw
    have hrunx : ∀ m, denF E (k + 7999) 126 [.p (.agg [tp, rp]), .p (.agg [.int .i64 0, o1])] m = some (.ret (.tup [.p (.agg [w.1.tp, rpx]), .p (.int .i64 0)]), m) := hrunx
    have hS := fun m => ref_SameX t.i hsx hsw (hzx.trans hzw.symm) (k + 7998) (by omega) m
    have q1 := hsw.tp.flat
    have q2 := hsw.rp.flat
    have q3 := hsx.rp.flat
    have q4 : o1.flat = true := by rcases ho1 with ⟨_, rfl⟩ | rfl <;> rfl
    have q4c : o1.cells = [o1] := by rcases ho1 with ⟨_, rfl⟩ | rfl <;> rfl
    have hle : (m'.length : Int) ≤ l.length := by omega
    unfold PV.flat at q1 q2 q3 q4
    unfold PV.cells at q4c
    have hS2 := fun m => ref_SameX t.i hsw hsw rfl (k + 7998) (by omega) m
    have hm4 : l = [] → m' = [] := fun h => List.length_eq_zero_iff.1 (by rw [h] at hm3; simpa using hm3)
    generalize w.1.tp = wtp at *
    rcases hl with ⟨rfl, rfl⟩ | rfl
    all_goals
      rcases ho1 with ⟨rfl, rfl⟩ | rfl
      all_goals
        try simp only [List.length_nil, Int.natCast_zero] at hle hm3
        simp (maxSteps := 8000000) [Fn.f_haulagelaw25_NetDoes, g1, g2, q1, q2, q3, hlv, hF, hG, hR, hrunw, hO, hrunx, hS, hS2, hle, hm3, bne]
        try exact hm4 rfl
end Hx

namespace Hx
open Go Go.RowKit
end Hx

namespace Go.Proofs.Ytfobhbameffplaa.Tab
open Go _root_.Hx Go.RowKit
def gl (g : Nat) : List PV := match g with
  | _ => []
def E : Env := envOf L gl
theorem link : Link F E := link_of all_ok
theorem globs {W : World} (h : laidMetH Try.prog [] W) : ∀ g, RPcells F (cx0 W) (F.gnum g) 0 (E.gl g) := by
  intro g
  match g with
  | _ => exact trivial
noncomputable def laidWorld (os : Os) : World :=
  World.holding Try.prog os ⟨#[], #[], []⟩
theorem t26 : T26 E := by repeat' constructor
theorem lives (k : Nat) (m : Mem) : denF E (k + 119) 122 [] m = some (.ret (.p (.bool true)), m) := by
  kernel_rfl
end Go.Proofs.Ytfobhbameffplaa.Tab
