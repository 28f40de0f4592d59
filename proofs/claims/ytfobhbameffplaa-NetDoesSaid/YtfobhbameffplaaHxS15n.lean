/-
  HxS15n: tables that are right, and what a change makes of them (plain).
-/
import Derived.Test.YtfobhbameffplaaHxS15l
import Derived.Test.YtfobhbameffplaaHxS15h
namespace Hx
open Go
set_option linter.unusedSimpArgs false
set_option linter.unusedVariables false
set_option maxHeartbeats 64000000
set_option maxRecDepth 20000
variable {E : Env}
attribute [-simp] List.getD_eq_getElem?_getD getElem?_pos
theorem create_in (call : Caller) (d : Ddl) {rows : List (Int × Col)} (hrl : rows.length ≤ 1000) (i : Nat) (hi : i < rows.length) (c : Int × Col) (q : Nat) (m : Mem) (m1 : m[1]? = some (.cells ((dV d (.vals 8 (rows.map colQ))).map .p))) (mq : m[q]? = some (.cells ((colQ c).map .p))) (n : Nat) (hn : 2000 ≤ n) (st0 : St)
    (hst0 : Live Fn.f_haulageref09_create_k1 (Fn.f_haulageref09_create_s1 (.ptr 1 0) (.p (.int .i64 i)) (.ptr q 0) (.p (.int .i64 0))) m st0) :
    Wp (iter (loopF E call n Fn.f_haulageref09_create_k1 Fn.f_haulageref09_create_b1) n st0)
      (fun e st => st.ds = [] ∧ st.ts.length = 96 ∧ ((e = .ret ∧ st.ts.getD 6 (.tup []) = .p (.int .i64 14)) ∨ (e = .exit 3 ∧ st.m = m ∧ st.ts.getD 4 (.tup []) = .ptr 1 0 ∧ st.ts.getD 7 (.tup []) = .p (.int .i64 i) ∧ st.ts.getD 8 (.tup []) = .ptr q 0))) := by
  refine loop_wp (α := Nat) (I := fun s st => s ≤ i ∧ Live Fn.f_haulageref09_create_k1 (Fn.f_haulageref09_create_s1 (.ptr 1 0) (.p (.int .i64 i)) (.ptr q 0) (.p (.int .i64 s))) m st) (meas := fun s => i - s) ?_ n 0 _ ⟨Nat.zero_le _, hst0⟩ (by simp only [Nat.sub_zero]; omega)
  rintro k st ⟨hk, hlive⟩
  rw [loopF_live hlive]
  by_cases hlt : k < i
  · have hlt' : (k : Int) < i := by omega
    have hlt2 : k < rows.length := by omega
    obtain ⟨x, hx⟩ : ∃ x, rows[k]? = some x := ⟨_, List.getElem?_eq_getElem hlt2⟩
    have hw : IntKind.i64.wrap ((k : Int) + 1) = ((k + 1 : Nat) : Int) := by rw [wrap_i64 (by omega) (by omega)]; omega
    have l1 := idx_lt m1
    have lq := idx_lt mq
    simp only [dV, colQ, List.map_cons, List.map_nil] at m1 mq
    cases q1 : (x.2.name == c.2.name) with
    | true => simp (maxSteps := 4000000) [Fn.f_haulageref09_create_b1, Fn.f_haulageref09_create_s1, colQ, hlt, hlt', hlt2, hx, m1, mq, l1, lq, q1]
    | false =>
      simp (maxSteps := 4000000) [Fn.f_haulageref09_create_b1, Fn.f_haulageref09_create_s1, colQ, hlt, hlt', hlt2, hx, m1, mq, l1, lq, q1, hw, -Int.natCast_add]
      exact ⟨k + 1, by omega, hlt, rfl, rfl, rfl, rfl⟩
  · have hlt' : ¬ (k : Int) < i := by omega
    simp (maxSteps := 4000000) [Fn.f_haulageref09_create_b1, Fn.f_haulageref09_create_s1, hlt, hlt']
structure CreInv (tp : PV) (d : Ddl) (rows : List (Int × Col)) (i : Nat) (m : Mem) : Prop where
  m0 : m[0]? = some (.cells [.p tp])
  m1 : m[1]? = some (.cells ((dV d (.vals 8 (rows.map colQ))).map .p))
  f : ∀ (j : Nat) c, j < i → rows[j]? = some c → rightT c.2.kind c.2.max = true ∧ okW c.2.kind c.2.max (dflt c) = true
theorem create_loop (u : G15 E) (tp : PV) (d : Ddl) {rows : List (Int × Col)} (hrl : rows.length ≤ 1000) (hri : ∀ c ∈ rows, isI64 c.2.dn) (j : Nat) (hk : 2000 ≤ j) (st0 : St)
    (hst0 : Live Fn.f_haulageref09_create_k0 (Fn.f_haulageref09_create_s0 (.ptr 1 0) (.p (.int .i64 0))) [.cells [.p tp], .cells ((dV d (.vals 8 (rows.map colQ))).map .p)] st0) :
    Wp (iter (loopF E (denF E (j + 1)) (j + 1) Fn.f_haulageref09_create_k0 Fn.f_haulageref09_create_b0) (j + 1) st0)
      (fun e st => st.ds = [] ∧ st.ts.length = 96 ∧ ((e = .ret ∧ ∃ x : Int, x ≠ 0 ∧ st.ts.getD 6 (.tup []) = .p (.int .i64 x)) ∨ (e = .exit 1 ∧ st.ts.getD 4 (.tup []) = .ptr 1 0 ∧ CreInv tp d rows rows.length st.m))) := by
  refine loop_wp (α := Nat × Mem) (I := fun s st => s.1 ≤ rows.length ∧ CreInv tp d rows s.1 s.2 ∧ Live Fn.f_haulageref09_create_k0 (Fn.f_haulageref09_create_s0 (.ptr 1 0) (.p (.int .i64 s.1))) s.2 st) (meas := fun s => rows.length - s.1) ?_ (j + 1) (0, _) _ ⟨Nat.zero_le _, ⟨rfl, rfl, fun j c h => absurd h (Nat.not_lt_zero _)⟩, hst0⟩ (by simp only [Nat.sub_zero]; omega)
  rintro ⟨i, m⟩ st ⟨hi, hinv, hlive⟩
  have ⟨m0, m1, hf⟩ := hinv
  simp only at hi m0 m1 hf hlive
  rw [loopF_live hlive]
  by_cases hlt : i < rows.length
  · have hlt' : (i : Int) < rows.length := by omega
    obtain ⟨c, hc⟩ : ∃ c, rows[i]? = some c := ⟨_, List.getElem?_eq_getElem hlt⟩
    have hci := hri c (List.mem_of_getElem? hc)
    have hw : IntKind.i64.wrap ((i : Int) + 1) = ((i + 1 : Nat) : Int) := by rw [wrap_i64 (by omega) (by omega)]; omega
    have hN := fun m => ref_NRightLQ u.n4 u.nright c.2.name j (by omega) m
    have hT := fun m => ref_TRight u.tright j c.2.kind c.2.max m
    have hP := fun m => ref_preset u c.2.kind c.2.max (dflt c) hci j (by omega) m
    simp only [valP, dflt] at hP
    unfold tP at hT
    have g1' := fun l : Mem => get_app5 (l := l) m1
    have g1 := g1'
    have m1' := m1
    simp only [dV, colQ, List.map_cons, List.map_nil] at m1 g1
    cases q1 : rightN c.2.name with
    | false =>
      rw [q1] at hN
      simp (maxSteps := 4000000) [Fn.f_haulageref09_create_b0, Fn.f_haulageref09_create_s0, colQ, hlt, hlt', hc, m1, g1, ln_at0, ln_set0, hN]
    | true =>
      rw [q1] at hN
      simp (maxSteps := 4000000) [Fn.f_haulageref09_create_b0, Fn.f_haulageref09_create_s0, colQ, hlt, hlt', hc, m1, g1, ln_at0, ln_set0, hN]
      refine (create_in (E := E) (denF E (j + 1)) d hrl i hlt c m.length (m ++ [.cells ((colQ c).map .p)]) (g1' _) (ln_at0 _ _) (j + 1) (by omega) _ ⟨rfl, rfl, rfl, rfl⟩).mono ?_
      rintro e st ⟨hds, hlen, ⟨rfl, h6⟩ | ⟨rfl, hm, h4, h7, h8⟩⟩
      · simp [hds, hlen, h6]
      · obtain ⟨ts', mm, ds⟩ := st
        simp only at hds hlen hm h4 h7 h8
        subst hds hm
        have hx := expand_ts 96 ts' hlen
        simp only [List.range, List.range.loop, List.map_cons, List.map_nil] at hx
        rw [h4, h7, h8] at hx
        rw [hx]
        cases q2 : rightT c.2.kind c.2.max with
        | false =>
          rw [q2] at hT
          simp (maxSteps := 4000000) [colQ, g1, ln_at0, hT]
        | true =>
          rw [q2] at hT
          cases q3 : okW c.2.kind c.2.max (dflt c) with
          | false =>
            simp only [dflt] at q3
            rw [q3] at hP
            simp (maxSteps := 4000000) [colQ, g1, ln_at0, hT, hP]
          | true =>
            have hinv' : CreInv tp d rows (i + 1) (m ++ [.cells ((colQ c).map .p)]) := ⟨get_app5 m0, g1' _, by
              intro k x hk hxk
              rcases Nat.lt_or_ge k i with h | h
              · exact hf k x h hxk
              · obtain rfl : k = i := by omega
                rw [hc] at hxk; cases hxk
                exact ⟨q2, q3⟩⟩
            simp only [dflt] at q3
            rw [q3] at hP
            simp only [colQ, List.map_cons, List.map_nil] at hinv'
            simp (maxSteps := 4000000) [colQ, g1, ln_at0, hT, hP, hw, -Int.natCast_add]
            exact ⟨i + 1, by omega, hlt, _, hinv', rfl, rfl, rfl, rfl⟩
  · have hlt' : ¬ (i : Int) < rows.length := by omega
    obtain rfl : i = rows.length := by omega
    simp only [dV, List.map_cons, List.map_nil] at m1
    simp (maxSteps := 4000000) [Fn.f_haulageref09_create_b0, Fn.f_haulageref09_create_s0, m1, hlt']
    exact hinv
structure CreOk (ts : List Tbl) (d : Ddl) (rows : List (Int × Col)) (id : Int) : Prop where
  id : idAt ts id = -1
  ne : rows ≠ []
  len : rows.length ≤ 10
  ok : ∀ c ∈ rows, rightT c.2.kind c.2.max = true ∧ okW c.2.kind c.2.max (dflt c) = true
  key : ∃ (k : Nat) (c : Int × Col), rows[k]? = some c ∧ c.2.name = d.key
theorem ref_create (u : G15 E) {tp : PV} {ts : List Tbl} (htp : TabQ tp ts) (htl : (ts.length : Int) ≤ 1000) (d : Ddl) {sl : PV} {rows : List (Int × Col)} (hsl : SlQ sl rows) (hrl : rows.length ≤ 1000) (hri : ∀ c ∈ rows, isI64 c.2.dn) (id : Int) (n : Nat) (hk : 2500 ≤ n) :
    ∃ e : Int, (e = 0 → CreOk ts d rows id) ∧ ∀ m, denF E (n + 1) 195 [.p (.agg [tp]), .p (.agg (dV d sl)), .p (.int .i64 id)] m = some (.ret (.p (.int .i64 e)), m) := by
  obtain ⟨j, rfl⟩ : ∃ j, n = j + 1 := ⟨n - 1, by omega⟩
  have f0 := htp.flat
  have f2 := hsl.flat
  unfold PV.flat at f0 f2
  have hx : ∃ v, (∃ e : Int, v = .p (.int .i64 e) ∧ (e = 0 → CreOk ts d rows id)) ∧ ∀ m, denF E (j + 1 + 1) 195 [.p (.agg [tp]), .p (.agg (dV d sl)), .p (.int .i64 id)] m = some (.ret v, m) := by
    refine denF_ex u.create rfl (args' := [.p (.agg [tp]), .p (.agg (dV d sl)), .p (.int .i64 id)]) rfl ?_
    have hN := fun m => ref_NRightLQ u.n4 u.nright d.table j (by omega) m
    have hF := fun m => ref_Find u.find htp d.table (by omega) j (by omega) m
    have hB := fun m => ref_ById u.byId htp id (by omega) j (by omega) m
    have hC := fun m => ref_Col u.col (t := ⟨0, [], 0, 0, rows, sl⟩) hsl d.key (by simp only; omega) j (by simp only; omega) m
    simp only [tblP] at hC
    have tlen : lenV (.p tp) = some ts.length := by
      rcases htp with ⟨rfl, rfl⟩ | rfl
      · rfl
      · simp
    have bad : ∀ x : Int, x ≠ 0 → ∃ e : Int, x = e ∧ (e = 0 → CreOk ts d rows id) := fun x hx => ⟨x, rfl, fun h => absurd h hx⟩
    cases q1 : rightN d.table with
    | false =>
      rw [q1] at hN
      simp (maxSteps := 4000000) [Fn.f_haulageref09_create, dV, f0, f2, hN]
    | true =>
    rw [q1] at hN
    by_cases q2 : 0 ≤ tabAt ts d.table
    · simp (maxSteps := 4000000) [Fn.f_haulageref09_create, dV, f0, f2, hN, hF, q2]
    by_cases q3 : (6 : Int) ≤ ts.length
    · rcases htp with ⟨rfl, rfl⟩ | rfl
      · simp at q3
      · simp (maxSteps := 4000000) [Fn.f_haulageref09_create, dV, f2, hN, hF, q2, q3]
    by_cases q4 : 0 ≤ idAt ts id
    · rcases htp with ⟨rfl, rfl⟩ | rfl
      all_goals simp (maxSteps := 4000000) [Fn.f_haulageref09_create, dV, f2, hN, hF, hB, q2, q3, q4]
    have q4' : idAt ts id = -1 := by
      rcases posI_cases (fun t : Tbl => t.id == id) ts 0 with ⟨h, _⟩ | ⟨k, x, h, _⟩
      · exact h
      · exact absurd (by unfold idAt; rw [h]; omega) q4
    by_cases q5 : rows = []
    · have hsl2 : lenV (.p sl) = some 0 := by
        rcases hsl with ⟨_, rfl⟩ | rfl
        · rfl
        · rw [q5]; rfl
      rcases htp with ⟨rfl, rfl⟩ | rfl
      all_goals
        rcases hsl with ⟨_, rfl⟩ | rfl
        · simp (maxSteps := 4000000) [Fn.f_haulageref09_create, dV, hN, hF, hB, q2, q3, q4]
        · simp (maxSteps := 4000000) [Fn.f_haulageref09_create, dV, hN, hF, hB, q2, q3, q4, q5]
    rcases hsl with ⟨h, _⟩ | rfl
    · exact absurd h q5
    have q5b : ((rows.length : Int) == 0) = false := by
      rw [beq_eq_false_iff_ne]
      intro h
      exact q5 (List.length_eq_zero_iff.1 (by omega))
    by_cases q6 : (10 : Int) < rows.length
    · rcases htp with ⟨rfl, rfl⟩ | rfl
      all_goals simp (maxSteps := 4000000) [Fn.f_haulageref09_create, dV, hN, hF, hB, q2, q3, q4, q5, q5b, q6]
    have q6' : rows.length ≤ 10 := by omega
    have hl := fun st0 hs => create_loop u tp d hrl hri j (by omega) st0 hs
    have hCe : (0 ≤ colAt ⟨0, [], 0, 0, rows, .vals 8 (rows.map colQ)⟩ d.key) → ∃ (k : Nat) (c : Int × Col), colAt ⟨0, [], 0, 0, rows, .vals 8 (rows.map colQ)⟩ d.key = (k : Int) ∧ rows[k]? = some c ∧ c.2.name = d.key := by
      intro h
      rcases posI_cases (fun c : Int × Col => c.2.name == d.key) rows 0 with ⟨h1, _⟩ | ⟨k, c, h1, h2, h3, _⟩
      · unfold colAt at h; simp only at h; rw [h1] at h; omega
      · exact ⟨k, c, by unfold colAt; simp only; rw [h1]; simp, h2, by simpa using h3⟩
    rcases htp with ⟨rfl, rfl⟩ | rfl
    all_goals
      simp (maxSteps := 4000000) [Fn.f_haulageref09_create, dV, hN, hF, hB, q2, q3, q4, q5, q5b, q6]
      refine (hl _ ⟨rfl, rfl, rfl, rfl⟩).mono ?_
      rintro e st ⟨hds, hlen, ⟨rfl, x, hx0, h6⟩ | ⟨rfl, h4, ⟨m0, m1, hf⟩⟩⟩
      · obtain ⟨ts', m', ds⟩ := st
        simp only at hds hlen h6
        subst hds
        simp [h6]
        intro h; exact absurd h hx0
      · obtain ⟨ts', m', ds⟩ := st
        simp only at hds hlen h4 m0 m1
        subst hds
        have hx := expand_ts 96 ts' hlen
        simp only [List.range, List.range.loop, List.map_cons, List.map_nil] at hx
        rw [h4] at hx
        rw [hx]
        have l1 := idx_lt m1
        simp only [dV, List.map_cons, List.map_nil] at m1
        by_cases q7 : 0 ≤ colAt ⟨0, [], 0, 0, rows, .vals 8 (rows.map colQ)⟩ d.key
        · obtain ⟨k, c, hk1, hk2, hk3⟩ := hCe q7
          rw [hk1] at hC
          have hkl := (List.getElem?_eq_some_iff.1 hk2).1
          have hk0 : ¬ (k : Int) < 0 := by omega
          cases q8 : c.2.null with
          | true => simp (maxSteps := 4000000) [m1, l1, hC, hk2, hkl, hk0, colQ, q8]
          | false =>
            simp (maxSteps := 4000000) [m1, l1, hC, hk2, hkl, hk0, colQ, q8]
            refine ⟨q4', q5, q6', ?_, k, c, hk2, hk3⟩
            intro x hx
            obtain ⟨i, hi⟩ := List.getElem?_of_mem hx
            exact hf i x (List.getElem?_eq_some_iff.1 hi).1 hi
        · have q7' : colAt ⟨0, [], 0, 0, rows, .vals 8 (rows.map colQ)⟩ d.key < 0 := by omega
          simp (maxSteps := 4000000) [m1, l1, hC, q7']
  obtain ⟨v, ⟨e, rfl, h⟩, hrun⟩ := hx
  exact ⟨e, h, hrun⟩
end Hx

namespace Hx
open Go
set_option linter.unusedSimpArgs false
set_option linter.unusedVariables false
set_option maxHeartbeats 8000000
variable {E : Env}
attribute [-simp] List.getD_eq_getElem?_getD getElem?_pos
structure TblG (t : Tbl) : Prop where
  ok : TblOk t
  ne : t.cols ≠ []
  len : t.cols.length ≤ 20
  df : ∀ c ∈ t.cols, okW c.2.kind c.2.max (dflt c) = true
  key : ∃ k : Nat, keyAt t = (k : Int) ∧ k < t.cols.length
def TabStep (ts : List Tbl) (t' : Tbl) : Prop := ∀ k : Nat, idAt ts t'.id = (k : Int) → ∃ t, ts[k]? = some t ∧ MvOk t t'
def GoodT (ts : List Tbl) (t' : Tbl) : Prop := TblG t' ∧ TabStep ts t'
structure TblR (t : Tbl) : Prop where
  g : TblG t
  l10 : t.cols.length ≤ 10
  ids : t.cols.Pairwise fun a b => a.1 < b.1
  next : ∀ c ∈ t.cols, c.1 < t.next
  right : ∀ c ∈ t.cols, rightT c.2.kind c.2.max = true
  name : ∀ c ∈ t.cols, ∀ c' ∈ t.cols, c.2.name = c'.2.name → c = c'
theorem chain_pairwise {α : Type} {f : α → Int} : ∀ {l : List α}, (∀ (i : Nat) a b, l[i]? = some a → l[i + 1]? = some b → f a < f b) → l.Pairwise fun a b => f a < f b
  | [], _ => .nil
  | [a], _ => List.pairwise_singleton _ _
  | a :: b :: l, h => by
    have h1 : (b :: l).Pairwise fun a b => f a < f b := chain_pairwise fun i x y hx hy => h (i + 1) x y (by simpa using hx) (by simpa using hy)
    refine List.pairwise_cons.2 ⟨?_, h1⟩
    have hab := h 0 a b rfl rfl
    intro x hx
    rcases List.mem_cons.1 hx with rfl | hx
    · exact hab
    · have := (List.pairwise_cons.1 h1).1 x hx
      omega
theorem keyAt_of {t : Tbl} {c : Int × Col} (hc : c ∈ t.cols) (hk : c.1 = t.key) : ∃ k : Nat, keyAt t = (k : Int) ∧ k < t.cols.length := by
  rcases posI_cases (fun c : Int × Col => c.1 == t.key) t.cols 0 with ⟨_, h2⟩ | ⟨j, x, h1, h2, _⟩
  · have := h2 c hc
    simp [hk] at this
  · exact ⟨j, by unfold keyAt; rw [h1]; simp, (List.getElem?_eq_some_iff.1 h2).1⟩
theorem tblR_of {t : Tbl} (ht : TblOk t) (h : tableB t = true) : TblR t := by
  unfold tableB at h
  simp only [Bool.and_eq_true, decide_eq_true_eq, List.all_eq_true, List.any_eq_true, List.mem_range] at h
  obtain ⟨h1, h2, h3, h4, h5, h6, c0, hc0, hk0⟩ := h
  have hf : ∀ (i : Nat) c, t.cols[i]? = some c → columnB c = true ∧ c.1 < t.next ∧ (∀ d, 0 < i → t.cols[i - 1]? = some d → d.1 < c.1) ∧ colAt t c.2.name = (i : Int) := by
    intro i c hc
    have hi := (List.getElem?_eq_some_iff.1 hc).1
    have h := h6 i hi
    unfold colFact at h
    rw [hc] at h
    simp only [Bool.and_eq_true, Bool.or_eq_true, decide_eq_true_eq, beq_iff_eq] at h
    obtain ⟨a, b, e, f⟩ := h
    refine ⟨a, b, ?_, f⟩
    intro d hi0 hd
    rcases e with e | e
    · omega
    · rw [hd] at e
      simpa using e
  have hc : ∀ c ∈ t.cols, rightT c.2.kind c.2.max = true ∧ okW c.2.kind c.2.max (dflt c) = true := by
    intro c hm
    obtain ⟨i, hi⟩ := List.getElem?_of_mem hm
    have := (hf i c hi).1
    unfold columnB at this
    simp only [Bool.and_eq_true] at this
    exact ⟨this.2.2.2.1, this.2.2.2.2⟩
  refine ⟨⟨ht, ?_, by omega, fun c hm => (hc c hm).2, ?_⟩, h4, ?_, ?_, fun c hm => (hc c hm).1, ?_⟩
  · intro e
    rw [e] at h3; simp at h3
  · unfold keyCol at hk0
    simp only [Bool.and_eq_true, beq_iff_eq] at hk0
    exact keyAt_of hc0 hk0.1
  · refine chain_pairwise fun i a b ha hb => ?_
    exact (hf (i + 1) b hb).2.2.1 a (by omega) (by simpa using ha)
  · intro c hm
    obtain ⟨i, hi⟩ := List.getElem?_of_mem hm
    exact (hf i c hi).2.1
  · intro c hm c' hm' e
    obtain ⟨i, hi⟩ := List.getElem?_of_mem hm
    obtain ⟨i', hi'⟩ := List.getElem?_of_mem hm'
    have e1 := (hf i c hi).2.2.2
    have e2 := (hf i' c' hi').2.2.2
    rw [e, e2] at e1
    have : i' = i := by omega
    subst this
    rw [hi] at hi'
    exact Option.some.inj hi'
theorem pw_uniq {α : Type} {f : α → Int} {l : List α} (h : l.Pairwise fun a b => f a < f b) {a b : α} (ha : a ∈ l) (hb : b ∈ l) (e : f a = f b) : a = b := by
  induction l with
  | nil => cases ha
  | cons x l ih =>
    obtain ⟨h1, h2⟩ := List.pairwise_cons.1 h
    rcases List.mem_cons.1 ha with ea | ha'
    · rcases List.mem_cons.1 hb with eb | hb'
      · rw [ea, eb]
      · have := h1 b hb'
        rw [← ea] at this; omega
    · rcases List.mem_cons.1 hb with eb | hb'
      · have := h1 a ha'
        rw [← eb] at this; omega
      · exact ih h2 ha' hb'
theorem place_mem {t : Tbl} {i : Int} {k : Nat} (h : placeAt t i = (k : Int)) : ∃ c, t.cols[k]? = some c ∧ c.1 = i := by
  rcases posI_cases (fun c : Int × Col => c.1 == i) t.cols 0 with ⟨h1, _⟩ | ⟨j, x, h1, h2, h3, _⟩
  · unfold placeAt at h; rw [h1] at h; omega
  · unfold placeAt at h
    rw [h1] at h
    have : j = k := by omega
    subst this
    exact ⟨x, h2, by simpa using h3⟩
theorem mv_id {t : Tbl} (r : TblR t) : MvOk t t := by
  intro c hc
  refine ⟨r.g.df c hc, r.g.ok.i c hc, fun k hk => ?_⟩
  obtain ⟨c0, h0, e⟩ := place_mem hk
  have := pw_uniq r.ids (List.mem_of_getElem? h0) hc e
  subst this
  exact ⟨c0, h0, by rw [wide_refl]; exact r.right c0 hc⟩
structure CatR (ts : List Tbl) : Prop where
  r : ∀ t ∈ ts, TblR t
  ids : ts.Pairwise fun a b => a.id < b.id
  len : ts.length ≤ 6
theorem catR_of {ts : List Tbl} (hok : TabsOk ts) (h : catB ts = true) : CatR ts := by
  unfold catB at h
  simp only [Bool.and_eq_true, decide_eq_true_eq, List.all_eq_true, List.mem_range] at h
  obtain ⟨h1, h2⟩ := h
  have hf : ∀ (i : Nat) t, ts[i]? = some t → tableB t = true ∧ (∀ d, 0 < i → ts[i - 1]? = some d → d.id < t.id) := by
    intro i t ht
    have h := h2 i (List.getElem?_eq_some_iff.1 ht).1
    unfold tabFact at h
    rw [ht] at h
    simp only [Bool.and_eq_true, Bool.or_eq_true, beq_iff_eq] at h
    obtain ⟨a, b, _⟩ := h
    refine ⟨a, fun d hi0 hd => ?_⟩
    rcases b with b | b
    · omega
    · rw [hd] at b
      simpa using b
  refine ⟨?_, chain_pairwise fun i a b ha hb => (hf (i + 1) b hb).2 a (by omega) (by simpa using ha), h1⟩
  intro t hm
  obtain ⟨i, hi⟩ := List.getElem?_of_mem hm
  exact tblR_of (hok t hm) (hf i t hi).1
theorem idAt_mem {ts : List Tbl} {i : Int} {k : Nat} (h : idAt ts i = (k : Int)) : ∃ t, ts[k]? = some t ∧ t.id = i := by
  rcases posI_cases (fun t : Tbl => t.id == i) ts 0 with ⟨h1, _⟩ | ⟨j, x, h1, h2, h3, _⟩
  · unfold idAt at h; rw [h1] at h; omega
  · unfold idAt at h
    rw [h1] at h
    have : j = k := by omega
    subst this
    exact ⟨x, h2, by simpa using h3⟩
theorem good_id {ts : List Tbl} (h : CatR ts) {t : Tbl} (ht : t ∈ ts) : GoodT ts t := by
  refine ⟨(h.r t ht).g, fun k hk => ?_⟩
  obtain ⟨t0, h0, e⟩ := idAt_mem hk
  have := pw_uniq h.ids (List.mem_of_getElem? h0) ht e
  subst this
  exact ⟨t0, h0, mv_id (h.r _ ht)⟩
theorem good_made {ts : List Tbl} {d : Ddl} {rows : List (Int × Col)} {id : Int} (hc : CreOk ts d rows id) (hri : ∀ c ∈ rows, isI64 c.2.dn) {t' : Tbl} (h : t'.id = id ∧ keyFact d rows rows.length t'.key ∧ t'.cols = numC 0 rows ∧ TblF t') : GoodT ts t' := by
  obtain ⟨h1, h2, h3, h4⟩ := h
  have hm : ∀ c' ∈ t'.cols, ∃ c ∈ rows, c'.2 = c.2 := by
    intro c' hc'
    rw [h3] at hc'
    obtain ⟨k, hk⟩ := List.getElem?_of_mem hc'
    rw [numC_get] at hk
    cases hq : rows[k]? with
    | none => rw [hq] at hk; cases hk
    | some c =>
      rw [hq] at hk
      simp only [Option.map_some, Option.some.injEq] at hk
      exact ⟨c, List.mem_of_getElem? hq, by rw [← hk]⟩
  refine ⟨⟨⟨h4, ?_⟩, ?_, ?_, ?_, ?_⟩, ?_⟩
  · intro c' hc'
    obtain ⟨c, q1, q2⟩ := hm c' hc'
    rw [q2]; exact hri c q1
  · intro e
    have := congrArg List.length e
    rw [h3, numC_len] at this
    exact hc.ne (List.length_eq_zero_iff.1 (by simpa using this))
  · rw [h3, numC_len]
    have := hc.len
    omega
  · intro c' hc'
    obtain ⟨c, q1, q2⟩ := hm c' hc'
    unfold dflt
    rw [q2]; exact (hc.ok c q1).2
  · have hex : ∃ (j : Nat) (c : Int × Col), t'.key = (j : Int) ∧ j < rows.length ∧ rows[j]? = some c := by
      rcases h2 with ⟨_, q⟩ | ⟨j, c, q1, q2, q3, _⟩
      · obtain ⟨k, c, q1, q2⟩ := hc.key
        exact absurd q2 (q k c (List.getElem?_eq_some_iff.1 q1).1 q1)
      · exact ⟨j, c, q1, q2, q3⟩
    obtain ⟨j, c, q1, q2, q3⟩ := hex
    refine keyAt_of (c := ((j : Int), c.2)) ?_ (by simp only; exact q1.symm)
    rw [h3]
    refine List.mem_of_getElem? (i := j) ?_
    rw [numC_get, q3]; simp
  · intro k hk
    rw [h1, hc.id] at hk
    omega
def MayBe (t : Tbl) (d : Ddl) : Prop := (d.op = 4 → rightT d.kind d.max = true ∧ okW d.kind d.max (dvl d) = true) ∧ (5 ≤ d.op → ∃ (i : Nat) (c : Int × Col), colAt t d.column = (i : Int) ∧ t.cols[i]? = some c ∧ (d.op = 5 → c.1 ≠ t.key) ∧ (d.op = 7 → wideT d.kind d.max c.2.kind c.2.max = true) ∧ (d.op = 8 → okW c.2.kind c.2.max (dvl d) = true))
theorem col_name {t : Tbl} {n : List UInt8} {i : Nat} (h : colAt t n = (i : Int)) : ∃ c, t.cols[i]? = some c ∧ c.2.name = n := by
  rcases posI_cases (fun c : Int × Col => c.2.name == n) t.cols 0 with ⟨h1, _⟩ | ⟨j, x, h1, h2, h3, _⟩
  · unfold colAt at h; rw [h1] at h; omega
  · unfold colAt at h
    rw [h1] at h
    have : j = i := by omega
    subst this
    exact ⟨x, h2, by simpa using h3⟩
theorem may_col {t : Tbl} (r : TblR t) {d : Ddl} (h : MayBe t d) (h5 : 5 ≤ d.op) {c : Int × Col} (hc : c ∈ t.cols) (hn : c.2.name = d.column) : (d.op = 5 → c.1 ≠ t.key) ∧ (d.op = 7 → wideT d.kind d.max c.2.kind c.2.max = true) ∧ (d.op = 8 → okW c.2.kind c.2.max (dvl d) = true) := by
  obtain ⟨i, x, h1, h2, h3⟩ := h.2 h5
  obtain ⟨y, g1, g2⟩ := col_name h1
  rw [h2] at g1
  have hyx := Option.some.inj g1
  subst hyx
  have := r.name x (List.mem_of_getElem? h2) c hc (g2.trans hn.symm)
  subst this
  exact h3
theorem step_fact {t : Tbl} (r : TblR t) {d : Ddl} (hd : isI64 d.dn) (h : MayBe t d) {c c' : Int × Col} (hc : c ∈ t.cols) (hs : stepC d c = some c') : c'.1 = c.1 ∧ wideT c'.2.kind c'.2.max c.2.kind c.2.max = true ∧ okW c'.2.kind c'.2.max (dflt c') = true ∧ isI64 c'.2.dn := by
  have w := r.right c hc
  have w0 : wideT c.2.kind c.2.max c.2.kind c.2.max = true := by rw [wide_refl]; exact w
  have o := r.g.df c hc
  have i := r.g.ok.i c hc
  unfold stepC at hs
  split at hs
  · rename_i hn
    split at hs
    · cases hs
    · split at hs
      · cases hs
        exact ⟨rfl, w0, o, i⟩
      · split at hs
        · rename_i h7
          cases hs
          have wd := (may_col r h (by omega) hc hn).2.1 h7
          obtain ⟨_, k2, k3⟩ := cast_wide (v := dflt c) i wd o
          exact ⟨rfl, wd, k2, k3⟩
        · split at hs
          · rename_i h8
            cases hs
            exact ⟨rfl, w0, (may_col r h (by omega) hc hn).2.2 h8, hd⟩
          · cases hs
            exact ⟨rfl, w0, o, i⟩
  · cases hs
    exact ⟨rfl, w0, o, i⟩
theorem good_tab9 {ts : List Tbl} (h : CatR ts) {t t' : Tbl} (ht : t ∈ ts) {d : Ddl} (hd : isI64 d.dn) (hm : MayBe t d) (h' : t'.id = t.id ∧ t'.key = t.key ∧ t'.cols = cols9 t d ∧ TblF t') : GoodT ts t' := by
  have r := h.r t ht
  obtain ⟨h1, h2, h3, h4⟩ := h'
  have hmem : ∀ c' ∈ t'.cols, (∃ c ∈ t.cols, c'.1 = c.1 ∧ wideT c'.2.kind c'.2.max c.2.kind c.2.max = true ∧ okW c'.2.kind c'.2.max (dflt c') = true ∧ isI64 c'.2.dn) ∨ (c'.1 = t.next ∧ okW c'.2.kind c'.2.max (dflt c') = true ∧ isI64 c'.2.dn) := by
    intro c' hc'
    rw [h3] at hc'
    unfold cols9 at hc'
    rcases List.mem_append.1 hc' with hc' | hc'
    · obtain ⟨c, q1, q2⟩ := List.mem_filterMap.1 hc'
      exact .inl ⟨c, q1, step_fact r hd hm q1 q2⟩
    · split at hc'
      · rename_i o4
        obtain rfl := List.mem_singleton.1 hc'
        exact .inr ⟨rfl, (hm.1 o4).2, hd⟩
      · cases hc'
  have hkey : ∃ c' ∈ t'.cols, c'.1 = t.key := by
    obtain ⟨k, hk, hkl⟩ := r.g.key
    rcases posI_cases (fun c : Int × Col => c.1 == t.key) t.cols 0 with ⟨g1, _⟩ | ⟨j, c, _, g2, g3, _⟩
    · unfold keyAt at hk; rw [g1] at hk; omega
    · have g3 : c.1 = t.key := by simpa using g3
      have hcm := List.mem_of_getElem? g2
      have hsome : ∃ c', stepC d c = some c' := by
        unfold stepC
        split
        · rename_i hn
          split
          · rename_i o5
            exact absurd g3 ((may_col r hm (by omega) hcm hn).1 o5)
          · split
            · exact ⟨_, rfl⟩
            · split
              · exact ⟨_, rfl⟩
              · split <;> exact ⟨_, rfl⟩
        · exact ⟨_, rfl⟩
      obtain ⟨c', hc'⟩ := hsome
      refine ⟨c', ?_, by rw [(step_fact r hd hm hcm hc').1]; exact g3⟩
      rw [h3]
      unfold cols9
      exact List.mem_append.2 (.inl (List.mem_filterMap.2 ⟨c, hcm, hc'⟩))
  obtain ⟨ck, hck, hck2⟩ := hkey
  refine ⟨⟨⟨h4, ?_⟩, ?_, ?_, ?_, keyAt_of hck (hck2.trans h2.symm)⟩, ?_⟩
  · intro c' hc'
    rcases hmem c' hc' with ⟨c, _, _, _, _, q⟩ | ⟨_, _, q⟩ <;> exact q
  · intro e
    rw [e] at hck; cases hck
  · rw [h3]
    unfold cols9
    have g1 := List.length_filterMap_le (stepC d) t.cols
    have g2 := r.g.len
    have g3 : (if d.op = 4 then [newC t d] else []).length ≤ 1 := by split <;> simp
    have g4 := r.l10
    rw [List.length_append]; omega
  · intro c' hc'
    rcases hmem c' hc' with ⟨c, _, _, _, q, _⟩ | ⟨_, q, _⟩ <;> exact q
  · intro k hk
    rw [h1] at hk
    obtain ⟨t0, g0, e⟩ := idAt_mem hk
    have := pw_uniq h.ids (List.mem_of_getElem? g0) ht e
    subst this
    refine ⟨t0, g0, ?_⟩
    intro c' hc'
    rcases hmem c' hc' with ⟨c, q1, q2, q3, q4, q5⟩ | ⟨q1, q2, q3⟩
    · refine ⟨q4, q5, fun k hk => ?_⟩
      obtain ⟨c0, h0, e0⟩ := place_mem hk
      have := pw_uniq r.ids (List.mem_of_getElem? h0) q1 (e0.trans q2)
      subst this
      exact ⟨c0, h0, q3⟩
    · refine ⟨q2, q3, fun k hk => ?_⟩
      obtain ⟨c0, h0, e0⟩ := place_mem hk
      have := r.next c0 (List.mem_of_getElem? h0)
      omega
end Hx
