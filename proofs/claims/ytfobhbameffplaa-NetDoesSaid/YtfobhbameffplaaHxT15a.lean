/-
  HxT15a: which states are tried.
-/
import Derived.Test.YtfobhbameffplaaHxS15f
namespace Hx
open Go
set_option linter.unusedSimpArgs false
set_option linter.unusedVariables false
set_option maxHeartbeats 64000000
set_option maxRecDepth 20000
variable {E : Env}
attribute [-simp] List.getD_eq_getElem?_getD getElem?_pos
structure Few15 (E : Env) : Prop where
  f : F09 E
  state : E.fn 123 = some Fn.f_haulagelaw15_FewState
  all : E.fn 137 = some Fn.f_haulagelaw08_FewAll
  vals : E.fn 138 = some Fn.f_haulagelaw08_FewValues
def RawL (p : PV) (ps : List (PV × Row)) : Prop := ((ps = [] ∧ p = .nils) ∨ p = .vals 1 (ps.map fun x => [x.1])) ∧ ∀ x ∈ ps, RowQ x.1 x.2
abbrev RawE := Int × PV × List (PV × Row)
def RawS (rp : PV) (es : List RawE) : Prop := ((es = [] ∧ rp = .nils) ∨ rp = .vals 2 (es.map fun e => [.int .i64 e.1, e.2.1])) ∧ ∀ e ∈ es, RawL e.2.1 e.2.2
theorem RawL.flat {p : PV} {z : List (PV × Row)} (h : RawL p z) : p.flat = true := by rcases h.1 with ⟨_, rfl⟩ | rfl <;> rfl
theorem RawS.flat {p : PV} {z : List RawE} (h : RawS p z) : p.flat = true := by rcases h.1 with ⟨_, rfl⟩ | rfl <;> rfl
theorem law_Few8T (u : Few15 E) {t : Tbl} (ht : TblF t) (k : Nat) (hk : 100 ≤ k) : ∃ b : Bool, ∀ m, denF E (k + 1) 169 [.p (.agg (tblP t))] m = some (.ret (.p (.bool b)), m) := by
  obtain ⟨j, rfl⟩ : ∃ j, k = j + 1 := ⟨k - 1, by omega⟩
  have f1 := ht.flat
  unfold PV.flat at f1
  have hS := fun s m => law_short u.f s j m
  have hx : ∃ v, (∃ b : Bool, v = .p (.bool b)) ∧ ∀ m, denF E (j + 1 + 1) 169 [.p (.agg (tblP t))] m = some (.ret v, m) := by
    refine denF_ex u.f.few8 rfl (args' := [.p (.agg (tblP t))]) rfl ?_
    by_cases hl : t.cols.length ≤ 20
    · have hmain : ∀ st, Live Fn.f_haulagelaw08_Few_k0 (Fn.f_haulagelaw08_Few_s0 (.ptr 0 0) (.p (.int .i64 0))) [.cells ((tblP t).map .p)] st →
          Wp (iter (loopF E (denF E (j + 1)) (j + 1) Fn.f_haulagelaw08_Few_k0 Fn.f_haulagelaw08_Few_b0) (j + 1) st) (fun e st => st.ds = [] ∧ st.ts.length = 40 ∧ (e = .exit 0 ∨ (e = .ret ∧ st.ts.getD 2 (.tup []) = .p (.bool false)))) := by
        intro st0 hst0
        refine loop_wp (α := Nat) (I := fun i st => i ≤ t.cols.length ∧ Live Fn.f_haulagelaw08_Few_k0 (Fn.f_haulagelaw08_Few_s0 (.ptr 0 0) (.p (.int .i64 i))) [.cells ((tblP t).map .p)] st) (meas := fun i => t.cols.length - i) ?_ (j + 1) 0 _ ⟨Nat.zero_le _, hst0⟩ (by omega)
        rintro i st ⟨hi, hlive⟩
        rw [loopF_live hlive]
        by_cases hlt : i < t.cols.length
        · have hlt' : (i : Int) < t.cols.length := by omega
          obtain ⟨c, hc⟩ : ∃ c, t.cols[i]? = some c := ⟨_, List.getElem?_eq_getElem hlt⟩
          have hw : IntKind.i64.wrap ((i : Int) + 1) = ((i + 1 : Nat) : Int) := by rw [wrap_i64 (by omega) (by omega)]; omega
          have hs2 : t.sl = .vals 8 (t.cols.map colQ) := by
            rcases ht with ⟨h, _⟩ | h
            · rw [h] at hlt; simp at hlt
            · exact h
          have s1 := fun m => hS c.2.name m
          have s2 := fun m => hS c.2.ds m
          cases q1 : decide ((c.2.name.length : Int) ≤ 200) with
          | false =>
            rw [q1] at s1
            simp [Fn.f_haulagelaw08_Few_b0, Fn.f_haulagelaw08_Few_s0, tblP, hs2, hlt, hlt', hc, colQ, s1]
          | true =>
            rw [q1] at s1
            cases q2 : decide ((c.2.ds.length : Int) ≤ 200) with
            | false =>
              rw [q2] at s2
              simp [Fn.f_haulagelaw08_Few_b0, Fn.f_haulagelaw08_Few_s0, tblP, hs2, hlt, hlt', hc, colQ, s1, s2]
            | true =>
              rw [q2] at s2
              simp [Fn.f_haulagelaw08_Few_b0, Fn.f_haulagelaw08_Few_s0, tblP, hs2, hlt, hlt', hc, colQ, s1, s2, hw, -Int.natCast_add]
              exact ⟨i + 1, by omega, hlt, rfl, rfl, rfl, rfl⟩
        · have hlt' : ¬ (i : Int) < t.cols.length := by omega
          rcases ht with ⟨h0, hs⟩ | hs
          · have hi0 : i = 0 := by rw [h0] at hi; simpa using hi
            subst hi0
            simp [Fn.f_haulagelaw08_Few_b0, Fn.f_haulagelaw08_Few_s0, tblP, hs]
          · simp [Fn.f_haulagelaw08_Few_b0, Fn.f_haulagelaw08_Few_s0, tblP, hs, hlt']
      have hl' : ¬ (20 : Int) < t.cols.length := by omega
      have hl3 : ¬ 20 < t.cols.length := by omega
      have s1 := fun m => hS t.name m
      cases q1 : decide ((t.name.length : Int) ≤ 200) with
      | false =>
        rw [q1] at s1
        rcases ht with ⟨h0, hs⟩ | hs
        all_goals simp (maxSteps := 4000000) [Fn.f_haulagelaw08_Few, tblP, hs, s1, hl', hl3]
      | true =>
        rw [q1] at s1
        rcases ht with ⟨h0, hs⟩ | hs
        all_goals
          simp (maxSteps := 4000000) [Fn.f_haulagelaw08_Few, tblP, hs, s1, hl', hl3]
          simp only [tblP, hs, List.map_cons, List.map_nil] at hmain
          refine (hmain _ ⟨rfl, rfl, rfl, rfl⟩).mono ?_
          rintro e st ⟨hds, hlen, rfl | ⟨rfl, h2⟩⟩
          · obtain ⟨ts', m', ds⟩ := st
            simp only at hds hlen
            subst hds
            have hx := expand_ts 40 ts' hlen
            simp only [List.range, List.range.loop, List.map_cons, List.map_nil] at hx
            rw [hx]
            simp
          · obtain ⟨ts', m', ds⟩ := st
            simp only at hds hlen h2
            subst hds
            simp [h2]
    · have hl' : (20 : Int) < t.cols.length := by omega
      have hl3 : 20 < t.cols.length := by omega
      rcases ht with ⟨h0, hs⟩ | hs
      · rw [h0] at hl; simp at hl
      · simp (maxSteps := 4000000) [Fn.f_haulagelaw08_Few, tblP, hs, hl', hl3]
  obtain ⟨v, ⟨b, rfl⟩, hrun⟩ := hx
  exact ⟨b, hrun⟩
theorem law_FewAll (u : Few15 E) {tp : PV} {ts : List Tbl} (htp : TabQ tp ts) (ht : ∀ t ∈ ts, TblF t) (k : Nat) (hk : 200 ≤ k) : ∃ b : Bool, ∀ m, denF E (k + 1) 137 [.p (.agg [tp])] m = some (.ret (.p (.bool b)), m) := by
  obtain ⟨j, rfl⟩ : ∃ j, k = j + 1 := ⟨k - 1, by omega⟩
  have f1 := htp.flat
  unfold PV.flat at f1
  have hx : ∃ v, (∃ b : Bool, v = .p (.bool b)) ∧ ∀ m, denF E (j + 1 + 1) 137 [.p (.agg [tp])] m = some (.ret v, m) := by
    refine denF_ex u.all rfl (args' := [.p (.agg [tp])]) rfl ?_
    by_cases hl : ts.length ≤ 10
    · have hmain : ∀ st, Live Fn.f_haulagelaw08_FewAll_k0 (Fn.f_haulagelaw08_FewAll_s0 (.ptr 0 0) (.p (.int .i64 0))) [.cells [.p tp]] st →
          Wp (iter (loopF E (denF E (j + 1)) (j + 1) Fn.f_haulagelaw08_FewAll_k0 Fn.f_haulagelaw08_FewAll_b0) (j + 1) st) (fun e st => st.ds = [] ∧ st.ts.length = 22 ∧ (e = .exit 0 ∨ (e = .ret ∧ st.ts.getD 2 (.tup []) = .p (.bool false)))) := by
        intro st0 hst0
        refine loop_wp (α := Nat) (I := fun i st => i ≤ ts.length ∧ Live Fn.f_haulagelaw08_FewAll_k0 (Fn.f_haulagelaw08_FewAll_s0 (.ptr 0 0) (.p (.int .i64 i))) [.cells [.p tp]] st) (meas := fun i => ts.length - i) ?_ (j + 1) 0 _ ⟨Nat.zero_le _, hst0⟩ (by omega)
        rintro i st ⟨hi, hlive⟩
        rw [loopF_live hlive]
        by_cases hlt : i < ts.length
        · have hlt' : (i : Int) < ts.length := by omega
          obtain ⟨t, hc⟩ : ∃ t, ts[i]? = some t := ⟨_, List.getElem?_eq_getElem hlt⟩
          have htf := ht t (List.mem_of_getElem? hc)
          have hw : IntKind.i64.wrap ((i : Int) + 1) = ((i + 1 : Nat) : Int) := by rw [wrap_i64 (by omega) (by omega)]; omega
          obtain ⟨b, hB⟩ := law_Few8T u htf j (by omega)
          have ff := htf.flat
          unfold PV.flat at ff
          simp only [tblP] at hB
          rcases htp with ⟨rfl, rfl⟩ | rfl
          · simp at hlt
          cases b with
          | false => simp [Fn.f_haulagelaw08_FewAll_b0, Fn.f_haulagelaw08_FewAll_s0, tblP, ff, hlt, hlt', hc, hB]
          | true =>
            simp [Fn.f_haulagelaw08_FewAll_b0, Fn.f_haulagelaw08_FewAll_s0, tblP, ff, hlt, hlt', hc, hB, hw, -Int.natCast_add]
            exact ⟨i + 1, by omega, hlt, rfl, rfl, rfl, rfl⟩
        · have hlt' : ¬ (i : Int) < ts.length := by omega
          rcases htp with ⟨rfl, rfl⟩ | rfl
          · obtain rfl : i = 0 := by simpa using hi
            simp [Fn.f_haulagelaw08_FewAll_b0, Fn.f_haulagelaw08_FewAll_s0]
          · simp [Fn.f_haulagelaw08_FewAll_b0, Fn.f_haulagelaw08_FewAll_s0, hlt']
      have hl' : ¬ (10 : Int) < ts.length := by omega
      have hl3 : ¬ 10 < ts.length := by omega
      rcases htp with ⟨rfl, rfl⟩ | rfl
      all_goals
        simp (maxSteps := 4000000) [Fn.f_haulagelaw08_FewAll, hl', hl3]
        refine (hmain _ ⟨rfl, rfl, rfl, rfl⟩).mono ?_
        rintro e st ⟨hds, hlen, rfl | ⟨rfl, h2⟩⟩
        · obtain ⟨ts', m', ds⟩ := st
          simp only at hds hlen
          subst hds
          have hx := expand_ts 22 ts' hlen
          simp only [List.range, List.range.loop, List.map_cons, List.map_nil] at hx
          rw [hx]
          simp
        · obtain ⟨ts', m', ds⟩ := st
          simp only at hds hlen h2
          subst hds
          simp [h2]
    · have hl' : (10 : Int) < ts.length := by omega
      have hl3 : 10 < ts.length := by omega
      rcases htp with ⟨rfl, rfl⟩ | rfl
      · simp at hl
      · simp (maxSteps := 4000000) [Fn.f_haulagelaw08_FewAll, hl', hl3]
  obtain ⟨v, ⟨b, rfl⟩, hrun⟩ := hx
  exact ⟨b, hrun⟩
theorem law_FewValues (u : Few15 E) {p : PV} {r : Row} (hp : RowQ p r) (k : Nat) (hk : 200 ≤ k) : ∃ b : Bool, (b = true → r.length ≤ 20) ∧ ∀ m, denF E (k + 1) 138 [.p p] m = some (.ret (.p (.bool b)), m) := by
  obtain ⟨j, rfl⟩ : ∃ j, k = j + 1 := ⟨k - 1, by omega⟩
  have hS := fun s m => law_short u.f s j m
  have hx : ∃ v, (∃ b : Bool, v = .p (.bool b) ∧ (b = true → r.length ≤ 20)) ∧ ∀ m, denF E (j + 1 + 1) 138 [.p p] m = some (.ret v, m) := by
    refine denF_ex u.vals rfl (args' := [.p p]) (by rcases hp with ⟨_, rfl⟩ | rfl <;> rfl) ?_
    by_cases hl : r.length ≤ 20
    · have hmain : ∀ st m0, Live Fn.f_haulagelaw08_FewValues_k0 (Fn.f_haulagelaw08_FewValues_s0 (.p p) (.p (.int .i64 0))) m0 st →
          Wp (iter (loopF E (denF E (j + 1)) (j + 1) Fn.f_haulagelaw08_FewValues_k0 Fn.f_haulagelaw08_FewValues_b0) (j + 1) st) (fun e st => st.ds = [] ∧ st.ts.length = 20 ∧ (e = .exit 0 ∨ (e = .ret ∧ st.ts.getD 2 (.tup []) = .p (.bool false)))) := by
        intro st0 m0 hst0
        refine loop_wp (α := Nat) (I := fun i st => i ≤ r.length ∧ Live Fn.f_haulagelaw08_FewValues_k0 (Fn.f_haulagelaw08_FewValues_s0 (.p p) (.p (.int .i64 i))) m0 st) (meas := fun i => r.length - i) ?_ (j + 1) 0 _ ⟨Nat.zero_le _, hst0⟩ (by omega)
        rintro i st ⟨hi, hlive⟩
        rw [loopF_live hlive]
        by_cases hlt : i < r.length
        · have hlt' : (i : Int) < r.length := by omega
          obtain ⟨v, hc⟩ : ∃ v, r[i]? = some v := ⟨_, List.getElem?_eq_getElem hlt⟩
          have hw : IntKind.i64.wrap ((i : Int) + 1) = ((i + 1 : Nat) : Int) := by rw [wrap_i64 (by omega) (by omega)]; omega
          have s1 := fun m => hS v.2.2 m
          rcases hp with ⟨rfl, rfl⟩ | rfl
          · simp at hlt
          cases q1 : decide ((v.2.2.length : Int) ≤ 200) with
          | false =>
            rw [q1] at s1
            simp [Fn.f_haulagelaw08_FewValues_b0, Fn.f_haulagelaw08_FewValues_s0, valP, hlt, hlt', hc, s1]
          | true =>
            rw [q1] at s1
            simp [Fn.f_haulagelaw08_FewValues_b0, Fn.f_haulagelaw08_FewValues_s0, valP, hlt, hlt', hc, s1, hw, -Int.natCast_add]
            exact ⟨i + 1, by omega, hlt, rfl, rfl, rfl, rfl⟩
        · have hlt' : ¬ (i : Int) < r.length := by omega
          rcases hp with ⟨rfl, rfl⟩ | rfl
          · obtain rfl : i = 0 := by simpa using hi
            simp [Fn.f_haulagelaw08_FewValues_b0, Fn.f_haulagelaw08_FewValues_s0]
          · simp [Fn.f_haulagelaw08_FewValues_b0, Fn.f_haulagelaw08_FewValues_s0, hlt']
      have hl' : ¬ (20 : Int) < r.length := by omega
      have hl3 : ¬ 20 < r.length := by omega
      rcases hp with ⟨rfl, rfl⟩ | rfl
      all_goals
        simp (maxSteps := 4000000) [Fn.f_haulagelaw08_FewValues, hl', hl3]
        refine (hmain _ _ ⟨rfl, rfl, rfl, rfl⟩).mono ?_
        rintro e st ⟨hds, hlen, rfl | ⟨rfl, h2⟩⟩
        · obtain ⟨ts', m', ds⟩ := st
          simp only at hds hlen
          subst hds
          have hx := expand_ts 20 ts' hlen
          simp only [List.range, List.range.loop, List.map_cons, List.map_nil] at hx
          rw [hx]
          simp [hl]
        · obtain ⟨ts', m', ds⟩ := st
          simp only at hds hlen h2
          subst hds
          simp [h2]
    · have hl' : (20 : Int) < r.length := by omega
      have hl3 : 20 < r.length := by omega
      rcases hp with ⟨rfl, rfl⟩ | rfl
      · simp at hl
      · simp (maxSteps := 4000000) [Fn.f_haulagelaw08_FewValues, hl', hl3]
  obtain ⟨v, ⟨b, rfl, hb⟩, hrun⟩ := hx
  exact ⟨b, hb, hrun⟩
structure FewSt (es : List RawE) : Prop where
  len : es.length ≤ 10
  rows : ∀ e ∈ es, e.2.2.length ≤ 210 ∧ ∀ x ∈ e.2.2, x.2.length ≤ 20
theorem few_in (u : Few15 E) {tp rp : PV} {es : List RawE} (hrp : rp = .vals 2 (es.map fun e => [.int .i64 e.1, e.2.1])) {i : Nat} {e : RawE} (he : es[i]? = some e) (hr : RawL e.2.1 e.2.2) (hl : e.2.2.length ≤ 210) (j : Nat) (hj : 1000 ≤ j) (st0 : St)
    (hst0 : Live Fn.f_haulagelaw15_FewState_k1 (Fn.f_haulagelaw15_FewState_s1 (.ptr 0 0) (.p (.int .i64 i)) (.p (.int .i64 0))) [.cells [.p tp, .p rp]] st0) :
    Wp (iter (loopF E (denF E (j + 1)) (j + 1) Fn.f_haulagelaw15_FewState_k1 Fn.f_haulagelaw15_FewState_b1) (j + 1) st0)
      (fun ex st => st.ds = [] ∧ st.ts.length = 52 ∧ ((ex = .ret ∧ st.ts.getD 2 (.tup []) = .p (.bool false)) ∨ (ex = .exit 2 ∧ st.m = [.cells [.p tp, .p rp]] ∧ st.ts.getD 1 (.tup []) = .ptr 0 0 ∧ st.ts.getD 3 (.tup []) = .p (.int .i64 i) ∧ ∀ x ∈ e.2.2, x.2.length ≤ 20))) := by
  obtain ⟨e1, e2, e3⟩ := e
  obtain ⟨hr1, hr2⟩ := hr
  simp only at hr1 hr2 hl ⊢
  have hil := (List.getElem?_eq_some_iff.1 he).1
  subst hrp
  refine loop_wp (α := Nat) (I := fun k st => k ≤ e3.length ∧ (∀ (q : Nat) x, q < k → e3[q]? = some x → x.2.length ≤ 20) ∧ Live Fn.f_haulagelaw15_FewState_k1 (Fn.f_haulagelaw15_FewState_s1 (.ptr 0 0) (.p (.int .i64 i)) (.p (.int .i64 k))) [.cells [.p tp, .p (.vals 2 (es.map fun e => [.int .i64 e.1, e.2.1]))]] st) (meas := fun k => e3.length - k) ?_ (j + 1) 0 _ ⟨Nat.zero_le _, fun q x h => absurd h (Nat.not_lt_zero _), hst0⟩ (by omega)
  rintro k st ⟨hk, hf, hlive⟩
  rw [loopF_live hlive]
  by_cases hlt : k < e3.length
  · have hlt' : (k : Int) < e3.length := by omega
    obtain ⟨x, hx⟩ : ∃ x, e3[k]? = some x := ⟨_, List.getElem?_eq_getElem hlt⟩
    obtain ⟨b, hb, hB⟩ := law_FewValues u (hr2 x (List.mem_of_getElem? hx)) j (by omega)
    have hw : IntKind.i64.wrap ((k : Int) + 1) = ((k + 1 : Nat) : Int) := by rw [wrap_i64 (by omega) (by omega)]; omega
    rcases hr1 with ⟨rfl, rfl⟩ | rfl
    · simp at hlt
    cases b with
    | false => simp (maxSteps := 4000000) [Fn.f_haulagelaw15_FewState_b1, Fn.f_haulagelaw15_FewState_s1, he, hil, hlt, hlt', hx, hB]
    | true =>
      simp (maxSteps := 4000000) [Fn.f_haulagelaw15_FewState_b1, Fn.f_haulagelaw15_FewState_s1, he, hil, hlt, hlt', hx, hB, hw, -Int.natCast_add]
      refine ⟨k + 1, by omega, hlt, ?_, rfl, rfl, rfl, rfl⟩
      intro q p r hq hqx
      rcases Nat.lt_or_ge q k with h | h
      · exact hf q (p, r) h hqx
      · obtain rfl : q = k := by omega
        rw [hx] at hqx
        obtain rfl := Option.some.inj hqx
        exact hb rfl
  · have hlt' : ¬ (k : Int) < e3.length := by omega
    have hall : ∀ x ∈ e3, x.2.length ≤ 20 := by
      intro x hx
      obtain ⟨q, hq⟩ := List.getElem?_of_mem hx
      exact hf q x (by have := (List.getElem?_eq_some_iff.1 hq).1; omega) hq
    have hall2 : ∀ (a : PV) (b : List Val), (a, b) ∈ e3 → b.length ≤ 20 := fun a b h => hall (a, b) h
    rcases hr1 with ⟨rfl, rfl⟩ | rfl
    · have hk0 : k = 0 := by simpa using hk
      subst hk0
      simp (maxSteps := 4000000) [Fn.f_haulagelaw15_FewState_b1, Fn.f_haulagelaw15_FewState_s1, he, hil]
    · simp (maxSteps := 4000000) [Fn.f_haulagelaw15_FewState_b1, Fn.f_haulagelaw15_FewState_s1, he, hil, hlt']
      exact hall2
theorem law_FewState (u : Few15 E) {tp rp : PV} {ts : List Tbl} {es : List RawE} (htp : TabQ tp ts) (ht : ∀ t ∈ ts, TblF t) (hrp : RawS rp es) (k : Nat) (hk : 2000 ≤ k) : ∃ b : Bool, (b = true → FewSt es) ∧ ∀ m, denF E (k + 1) 123 [.p (.agg [tp, rp])] m = some (.ret (.p (.bool b)), m) := by
  obtain ⟨j, rfl⟩ : ∃ j, k = j + 1 := ⟨k - 1, by omega⟩
  have f1 := htp.flat
  have f2 := hrp.flat
  unfold PV.flat at f1 f2
  obtain ⟨ba, hA⟩ := law_FewAll u htp ht j (by omega)
  obtain ⟨hr1, hr2⟩ := hrp
  have hx : ∃ v, (∃ b : Bool, v = .p (.bool b) ∧ (b = true → FewSt es)) ∧ ∀ m, denF E (j + 1 + 1) 123 [.p (.agg [tp, rp])] m = some (.ret v, m) := by
    refine denF_ex u.state rfl (args' := [.p (.agg [tp, rp])]) rfl ?_
    cases ba with
    | false => simp (maxSteps := 4000000) [Fn.f_haulagelaw15_FewState, f1, f2, hA]
    | true =>
    by_cases hl : es.length ≤ 10
    · have hmain : ∀ st, Live Fn.f_haulagelaw15_FewState_k0 (Fn.f_haulagelaw15_FewState_s0 (.ptr 0 0) (.p (.int .i64 0))) [.cells [.p tp, .p rp]] st →
          Wp (iter (loopF E (denF E (j + 1)) (j + 1) Fn.f_haulagelaw15_FewState_k0 Fn.f_haulagelaw15_FewState_b0) (j + 1) st) (fun e st => st.ds = [] ∧ st.ts.length = 52 ∧ ((e = .exit 0 ∧ FewSt es) ∨ (e = .ret ∧ st.ts.getD 2 (.tup []) = .p (.bool false)))) := by
        intro st0 hst0
        refine loop_wp (α := Nat) (I := fun i st => i ≤ es.length ∧ (∀ (q : Nat) e, q < i → es[q]? = some e → e.2.2.length ≤ 210 ∧ ∀ x ∈ e.2.2, x.2.length ≤ 20) ∧ Live Fn.f_haulagelaw15_FewState_k0 (Fn.f_haulagelaw15_FewState_s0 (.ptr 0 0) (.p (.int .i64 i))) [.cells [.p tp, .p rp]] st) (meas := fun i => es.length - i) ?_ (j + 1) 0 _ ⟨Nat.zero_le _, fun q x h => absurd h (Nat.not_lt_zero _), hst0⟩ (by omega)
        rintro i st ⟨hi, hf, hlive⟩
        rw [loopF_live hlive]
        by_cases hlt : i < es.length
        · have hlt' : (i : Int) < es.length := by omega
          obtain ⟨e, he⟩ : ∃ e, es[i]? = some e := ⟨_, List.getElem?_eq_getElem hlt⟩
          have hre := hr2 e (List.mem_of_getElem? he)
          have hw : IntKind.i64.wrap ((i : Int) + 1) = ((i + 1 : Nat) : Int) := by rw [wrap_i64 (by omega) (by omega)]; omega
          rcases hr1 with ⟨rfl, rfl⟩ | hrv
          · simp at hlt
          by_cases hq : e.2.2.length ≤ 210
          · have hq' : ¬ (210 : Int) < e.2.2.length := by omega
            have hq3 : ¬ 210 < e.2.2.length := by omega
            have hin := fun st0 h0 => few_in u (tp := tp) hrv he hre hq j (by omega) st0 h0
            obtain ⟨e1, e2, e3⟩ := e
            simp only at hre hq hq' hq3 hin
            subst hrv
            rcases hre.1 with ⟨h0, rfl⟩ | rfl
            · simp (maxSteps := 4000000) [Fn.f_haulagelaw15_FewState_b0, Fn.f_haulagelaw15_FewState_s0, hlt, hlt', he]
              refine (hin _ ⟨rfl, rfl, rfl, rfl⟩).mono ?_
              rintro ex st ⟨hds, hlen, ⟨rfl, h2⟩ | ⟨rfl, hm, h1, h3, hok⟩⟩
              · simp [hds, hlen, h2]
              · obtain ⟨ts', mm, ds⟩ := st
                simp only at hds hlen hm h1 h3
                subst hds hm
                have hx := expand_ts 52 ts' hlen
                simp only [List.range, List.range.loop, List.map_cons, List.map_nil] at hx
                rw [h1, h3] at hx
                rw [hx]
                simp (maxSteps := 4000000) [hw, -Int.natCast_add]
                refine ⟨i + 1, by omega, hlt, ?_, rfl, rfl, rfl, rfl⟩
                intro q a b c hqi hqx
                rcases Nat.lt_or_ge q i with h | h
                · exact ⟨(hf q (a, b, c) h hqx).1, fun p r hpr => (hf q (a, b, c) h hqx).2 (p, r) hpr⟩
                · obtain rfl : q = i := by omega
                  rw [he] at hqx
                  cases hqx
                  exact ⟨hq, fun p r hpr => hok (p, r) hpr⟩
            · simp (maxSteps := 4000000) [Fn.f_haulagelaw15_FewState_b0, Fn.f_haulagelaw15_FewState_s0, hlt, hlt', he, hq', hq3]
              refine (hin _ ⟨rfl, rfl, rfl, rfl⟩).mono ?_
              rintro ex st ⟨hds, hlen, ⟨rfl, h2⟩ | ⟨rfl, hm, h1, h3, hok⟩⟩
              · simp [hds, hlen, h2]
              · obtain ⟨ts', mm, ds⟩ := st
                simp only at hds hlen hm h1 h3
                subst hds hm
                have hx := expand_ts 52 ts' hlen
                simp only [List.range, List.range.loop, List.map_cons, List.map_nil] at hx
                rw [h1, h3] at hx
                rw [hx]
                simp (maxSteps := 4000000) [hw, -Int.natCast_add]
                refine ⟨i + 1, by omega, hlt, ?_, rfl, rfl, rfl, rfl⟩
                intro q a b c hqi hqx
                rcases Nat.lt_or_ge q i with h | h
                · exact ⟨(hf q (a, b, c) h hqx).1, fun p r hpr => (hf q (a, b, c) h hqx).2 (p, r) hpr⟩
                · obtain rfl : q = i := by omega
                  rw [he] at hqx
                  cases hqx
                  exact ⟨hq, fun p r hpr => hok (p, r) hpr⟩
          · have hq' : (210 : Int) < e.2.2.length := by omega
            have hq3 : 210 < e.2.2.length := by omega
            obtain ⟨e1, e2, e3⟩ := e
            simp only at hre hq' hq3
            subst hrv
            rcases hre.1 with ⟨h0, _⟩ | rfl
            · rw [h0] at hq3; simp at hq3
            simp (maxSteps := 4000000) [Fn.f_haulagelaw15_FewState_b0, Fn.f_haulagelaw15_FewState_s0, hlt, hlt', he, hq', hq3]
        · have hlt' : ¬ (i : Int) < es.length := by omega
          have hfin : FewSt es := ⟨hl, fun e he => by
            obtain ⟨q, hq⟩ := List.getElem?_of_mem he
            exact hf q e (by have := (List.getElem?_eq_some_iff.1 hq).1; omega) hq⟩
          rcases hr1 with ⟨rfl, rfl⟩ | rfl
          · obtain rfl : i = 0 := by simpa using hi
            simp [Fn.f_haulagelaw15_FewState_b0, Fn.f_haulagelaw15_FewState_s0, hfin]
          · simp [Fn.f_haulagelaw15_FewState_b0, Fn.f_haulagelaw15_FewState_s0, hlt', hfin]
      have hl' : ¬ (10 : Int) < es.length := by omega
      have hl3 : ¬ 10 < es.length := by omega
      rcases hr1 with ⟨rfl, rfl⟩ | rfl
      all_goals
        simp (maxSteps := 4000000) [Fn.f_haulagelaw15_FewState, f1, hA, hl', hl3]
        refine (hmain _ ⟨rfl, rfl, rfl, rfl⟩).mono ?_
        rintro e st ⟨hds, hlen, ⟨rfl, hok⟩ | ⟨rfl, h2⟩⟩
        · obtain ⟨ts', m', ds⟩ := st
          simp only at hds hlen
          subst hds
          have hx := expand_ts 52 ts' hlen
          simp only [List.range, List.range.loop, List.map_cons, List.map_nil] at hx
          rw [hx]
          simp [hok]
        · obtain ⟨ts', m', ds⟩ := st
          simp only at hds hlen h2
          subst hds
          simp [h2]
    · have hl' : (10 : Int) < es.length := by omega
      have hl3 : 10 < es.length := by omega
      rcases hr1 with ⟨rfl, rfl⟩ | rfl
      · simp at hl
      · simp (maxSteps := 4000000) [Fn.f_haulagelaw15_FewState, f1, hA, hl', hl3]
  obtain ⟨v, ⟨b, rfl, hb⟩, hrun⟩ := hx
  exact ⟨b, hb, hrun⟩
end Hx
