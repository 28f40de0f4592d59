/-
  HxS15l: a new table, and what is wrong with it, as the document says (as far as it is needed).
-/
import Derived.Test.YtfobhbameffplaaHxS15f
import Derived.Test.YtfobhbameffplaaHxS15j
namespace Hx
open Go
set_option linter.unusedSimpArgs false
set_option linter.unusedVariables false
set_option maxHeartbeats 64000000
set_option maxRecDepth 20000
variable {E : Env}
attribute [-simp] List.getD_eq_getElem?_getD getElem?_pos
def cwDef (d : Ddl) (c : Int × Col) : Val := castW (dflt c) d.kind
def stepC (d : Ddl) (c : Int × Col) : Option (Int × Col) :=
  if c.2.name = d.column then
    if d.op = 5 then none
    else if d.op = 6 then some (c.1, { c.2 with name := d.to })
    else if d.op = 7 then some (c.1, { c.2 with kind := d.kind, max := d.max, dk := (cwDef d c).1, dn := (cwDef d c).2.1, ds := (cwDef d c).2.2 })
    else if d.op = 8 then some (c.1, { c.2 with dk := d.dk, dn := d.dn, ds := d.ds })
    else some c
  else some c
def newC (t : Tbl) (d : Ddl) : Int × Col := (t.next, { name := d.column, kind := d.kind, max := d.max, null := d.null, dk := d.dk, dn := d.dn, ds := d.ds })
def cols9 (t : Tbl) (d : Ddl) : List (Int × Col) := t.cols.filterMap (stepC d) ++ (if d.op = 4 then [newC t d] else [])
theorem OutG.stripC {m : Mem} {z : List (Int × Col)} {av : AV} (h : OutG 8 m (z.map colQ) av) : ∃ o, stripV av = some (.p o) ∧ SlQ o z := by
  rcases h with ⟨h1, rfl⟩ | ⟨tok, rfl, _⟩
  · refine ⟨.nils, by simp, .inl ⟨by simpa using h1, rfl⟩⟩
  · exact ⟨.vals 8 (z.map colQ), by simp, .inr rfl⟩
structure Tab9Inv (t : Tbl) (d : Ddl) (sl : PV) (nm : List UInt8) (i : Nat) (m : Mem) (av : AV) : Prop where
  m0 : m[0]? = some (.cells ((tblP t).map .p))
  m1 : m[1]? = some (.cells ((dV d sl).map .p))
  m2 : m[2]? = some (.cells [.p (.int .i64 0), .p (.str []), .p (.int .i64 0), .p (.int .i64 0), .p .nils])
  m3 : m[3]? = some (.cells [.p (.int .i64 t.id), .p (.str nm), .p (.int .i64 t.key), .p (.int .i64 t.next), av])
  o : OutG 8 m (((t.cols.take i).filterMap (stepC d)).map colQ) av
theorem tab9_loop (u : G15 E) {t : Tbl} (ht : TblF t) (hcl : t.cols.length ≤ 20) (hok : ∀ c ∈ t.cols, okW c.2.kind c.2.max (dflt c) = true ∧ isI64 c.2.dn) (d : Ddl) {sl : PV} (hsl : sl.flat = true) (h7 : d.op = 7 → ∀ c ∈ t.cols, c.2.name = d.column → wideT d.kind d.max c.2.kind c.2.max = true) (nm : List UInt8) (j : Nat) (hk : 1000 ≤ j) (st0 : St)
    (hst0 : Live Fn.f_haulageref09_Table_k0 (Fn.f_haulageref09_Table_s0 (.ptr 0 0) (.ptr 1 0) (.ptr 2 0) (.ptr 3 0) (.p (.int .i64 0))) [.cells ((tblP t).map .p), .cells ((dV d sl).map .p), .cells [.p (.int .i64 0), .p (.str []), .p (.int .i64 0), .p (.int .i64 0), .p .nils], .cells [.p (.int .i64 t.id), .p (.str nm), .p (.int .i64 t.key), .p (.int .i64 t.next), .p .nils]] st0) :
    Wp (iter (loopF E (denF E (j + 1)) (j + 1) Fn.f_haulageref09_Table_k0 Fn.f_haulageref09_Table_b0) (j + 1) st0)
      (fun e st => e = .exit 0 ∧ st.ds = [] ∧ st.ts.length = 123 ∧ st.ts.getD 2 (.tup []) = .ptr 0 0 ∧ st.ts.getD 3 (.tup []) = .ptr 1 0 ∧ st.ts.getD 4 (.tup []) = .ptr 2 0 ∧ st.ts.getD 5 (.tup []) = .ptr 3 0 ∧ ∃ av, Tab9Inv t d sl nm t.cols.length st.m av) := by
  have f1 := ht.flat
  have f2 := hsl
  unfold PV.flat at f1 f2
  refine loop_wp (α := Nat × Mem × AV) (I := fun s st => s.1 ≤ t.cols.length ∧ Tab9Inv t d sl nm s.1 s.2.1 s.2.2 ∧ Live Fn.f_haulageref09_Table_k0 (Fn.f_haulageref09_Table_s0 (.ptr 0 0) (.ptr 1 0) (.ptr 2 0) (.ptr 3 0) (.p (.int .i64 s.1))) s.2.1 st) (meas := fun s => t.cols.length - s.1) ?_ (j + 1) (0, _, .p .nils) _ ⟨Nat.zero_le _, ⟨rfl, rfl, rfl, rfl, .inl ⟨rfl, rfl⟩⟩, hst0⟩ (by simp only [Nat.sub_zero]; omega)
  rintro ⟨i, m, av⟩ st ⟨hi, hinv, hlive⟩
  have ⟨m0, m1, m2, m3, ho⟩ := hinv
  simp only at hi m0 m1 m2 m3 ho hlive
  rw [loopF_live hlive]
  by_cases hlt : i < t.cols.length
  · have hlt' : (i : Int) < t.cols.length := by omega
    obtain ⟨c, hc⟩ : ∃ c, t.cols[i]? = some c := ⟨_, List.getElem?_eq_getElem hlt⟩
    obtain ⟨hok1, hok2⟩ := hok c (List.mem_of_getElem? hc)
    have hs2 : t.sl = .vals 8 (t.cols.map colQ) := by
      rcases ht with ⟨h, _⟩ | h
      · rw [h] at hlt; simp at hlt
      · exact h
    have hw : IntKind.i64.wrap ((i : Int) + 1) = ((i + 1 : Nat) : Int) := by rw [wrap_i64 (by omega) (by omega)]; omega
    have key : ∀ x : Int × Col, stepC d c = some x → ∃ R tok m', appR 8 80 (m ++ [.cells ((colQ x).map .p)]) av (.p (.vals 8 [colQ x])) = some (.tv 8 R tok, m') ∧ m'[3]? = some (.cells [.p (.int .i64 t.id), .p (.str nm), .p (.int .i64 t.key), .p (.int .i64 t.next), av]) ∧ Tab9Inv t d sl nm (i + 1) (m'.set 3 (.cells [.p (.int .i64 t.id), .p (.str nm), .p (.int .i64 t.key), .p (.int .i64 t.next), .tv 8 R tok])) (.tv 8 R tok) := by
      intro x hx
      have hl : ((t.cols.take i).filterMap (stepC d)).length ≤ 20 := by
        have h1 := List.length_filterMap_le (stepC d) (t.cols.take i)
        rw [List.length_take] at h1; omega
      obtain ⟨tok, m', h1, h2, h3, h4⟩ := appR_tv (b := 80) (out_app ho [.cells ((colQ x).map .p)]) (colQ x) (by rw [List.length_map]; omega) (by rw [List.length_map]; omega)
      have g3 := h4 _ _ (get_app5 m3)
      refine ⟨_, tok, m', h1, g3, ?_, ?_, ?_, ?_, ?_⟩
      · rw [List.getElem?_set_ne (by decide)]; exact h4 _ _ (get_app5 m0)
      · rw [List.getElem?_set_ne (by decide)]; exact h4 _ _ (get_app5 m1)
      · rw [List.getElem?_set_ne (by decide)]; exact h4 _ _ (get_app5 m2)
      · rw [List.getElem?_set_self (idx_lt g3)]
      · refine out_set ?_ g3 _
        rw [take_step hc, List.filterMap_append, List.map_append]
        simp only [List.filterMap_cons, hx, List.filterMap_nil, List.map_cons, List.map_nil]
        exact h2
    have g0 : ∀ l : Mem, (m ++ l)[0]? = some (.cells ((tblP t).map .p)) := fun l => get_app5 m0
    have g1 : ∀ l : Mem, (m ++ l)[1]? = some (.cells ((dV d sl).map .p)) := fun l => get_app5 m1
    have g3 := fun l : Mem => get_app5 (l := l) m3
    have m0' := m0
    have m1' := m1
    simp only [tblP, dV, List.map_cons, List.map_nil, hs2] at m0 m1 g0 g1
    cases qn : (c.2.name == d.column) with
    | false =>
      have qn' : ¬ c.2.name = d.column := by simpa using qn
      obtain ⟨R, tok, m', ha, h3, hinv'⟩ := key c (by unfold stepC; rw [if_neg qn'])
      simp only [colQ, List.map_cons, List.map_nil] at ha
      simp (maxSteps := 4000000) [Fn.f_haulageref09_Table_b0, Fn.f_haulageref09_Table_s0, colQ, hlt, hlt', hc, hw, m0, m1, m3, g0, g1, g3, ln_at0, ln_set0, qn, ha, h3, -Int.natCast_add]
      exact ⟨i + 1, by omega, hlt, _, ⟨_, hinv'⟩, rfl, rfl, rfl, rfl⟩
    | true =>
      have qn' : c.2.name = d.column := by simpa using qn
      by_cases o5 : d.op = 5
      · have hstep : stepC d c = none := by unfold stepC; rw [if_pos qn', if_pos o5]
        have hinv' : Tab9Inv t d sl nm (i + 1) (m ++ [.cells ((colQ c).map .p)]) av := by
          refine ⟨get_app5 m0', get_app5 m1', get_app5 m2, get_app5 m3, ?_⟩
          rw [take_step hc, List.filterMap_append]
          simp only [List.filterMap_cons, hstep, List.filterMap_nil, List.append_nil]
          exact out_app ho _
        simp only [colQ, List.map_cons, List.map_nil] at hinv'
        simp (maxSteps := 4000000) [Fn.f_haulageref09_Table_b0, Fn.f_haulageref09_Table_s0, colQ, hlt, hlt', hc, hw, m0, m1, m3, g0, g1, g3, ln_at0, ln_set0, qn, o5, -Int.natCast_add]
        exact ⟨i + 1, by omega, hlt, _, ⟨_, hinv'⟩, rfl, rfl, rfl, rfl⟩
      have b5 : (d.op == 5) = false := by simpa using o5
      by_cases o6 : d.op = 6
      · obtain ⟨R, tok, m', ha, h3, hinv'⟩ := key (c.1, { c.2 with name := d.to }) (by unfold stepC; rw [if_pos qn', if_neg o5, if_pos o6])
        simp only [colQ, List.map_cons, List.map_nil] at ha
        cases qt : (d.to == d.column)
        all_goals
          simp (maxSteps := 4000000) [Fn.f_haulageref09_Table_b0, Fn.f_haulageref09_Table_s0, colQ, hlt, hlt', hc, hw, m0, m1, m3, g0, g1, g3, ln_at0, ln_set0, qn, o6, qt, ha, h3, -Int.natCast_add]
          exact ⟨i + 1, by omega, hlt, _, ⟨_, hinv'⟩, rfl, rfl, rfl, rfl⟩
      have b6 : (d.op == 6) = false := by simpa using o6
      by_cases o7 : d.op = 7
      · obtain ⟨R, tok, m', ha, h3, hinv'⟩ := key (c.1, { c.2 with kind := d.kind, max := d.max, dk := (cwDef d c).1, dn := (cwDef d c).2.1, ds := (cwDef d c).2.2 }) (by unfold stepC; rw [if_pos qn', if_neg o5, if_neg o6, if_pos o7])
        simp only [colQ, List.map_cons, List.map_nil] at ha
        obtain ⟨hcast, -, -⟩ := cast_wide (v := dflt c) hok2 (h7 o7 c (List.mem_of_getElem? hc) qn') hok1
        have hC := fun m => ref_CastQ u.q3 u.q1 u.vright u.tright u.digits u.cast (dflt c).1 (dflt c).2.1 d.kind d.max (dflt c).2.2 hok2 (by have := (okW_right hok1).2; omega) j (by have := (okW_right hok1).2; omega) m
        rw [hcast] at hC
        rw [show castW (dflt c) d.kind = cwDef d c from rfl] at hC
        simp only [castR, vP, tP, dflt] at hC
        generalize cwDef d c = w at *
        simp (maxSteps := 4000000) [Fn.f_haulageref09_Table_b0, Fn.f_haulageref09_Table_s0, colQ, hlt, hlt', hc, hw, m0, m1, m3, g0, g1, g3, ln_at0, ln_set0, qn, o7, hC, u.cast, ha, h3, -Int.natCast_add]
        exact ⟨i + 1, by omega, hlt, _, ⟨_, hinv'⟩, rfl, rfl, rfl, rfl⟩
      have b7 : (d.op == 7) = false := by simpa using o7
      by_cases o8 : d.op = 8
      · obtain ⟨R, tok, m', ha, h3, hinv'⟩ := key (c.1, { c.2 with dk := d.dk, dn := d.dn, ds := d.ds }) (by unfold stepC; rw [if_pos qn', if_neg o5, if_neg o6, if_neg o7, if_pos o8])
        simp only [colQ, List.map_cons, List.map_nil] at ha
        simp (maxSteps := 4000000) [Fn.f_haulageref09_Table_b0, Fn.f_haulageref09_Table_s0, colQ, hlt, hlt', hc, hw, m0, m1, m3, g0, g1, g3, ln_at0, ln_set0, qn, o8, ha, h3, -Int.natCast_add]
        exact ⟨i + 1, by omega, hlt, _, ⟨_, hinv'⟩, rfl, rfl, rfl, rfl⟩
      have b8 : (d.op == 8) = false := by simpa using o8
      obtain ⟨R, tok, m', ha, h3, hinv'⟩ := key c (by unfold stepC; rw [if_pos qn', if_neg o5, if_neg o6, if_neg o7, if_neg o8])
      simp only [colQ, List.map_cons, List.map_nil] at ha
      simp (maxSteps := 4000000) [Fn.f_haulageref09_Table_b0, Fn.f_haulageref09_Table_s0, colQ, hlt, hlt', hc, hw, m0, m1, m3, g0, g1, g3, ln_at0, ln_set0, qn, o5, o6, o7, o8, b5, b6, b7, b8, ha, h3, -Int.natCast_add]
      exact ⟨i + 1, by omega, hlt, _, ⟨_, hinv'⟩, rfl, rfl, rfl, rfl⟩
  · have hlt' : ¬ (i : Int) < t.cols.length := by omega
    obtain rfl : i = t.cols.length := by omega
    simp only [tblP, List.map_cons, List.map_nil] at m0
    rcases ht with ⟨h1, h2⟩ | h2
    · rw [h2] at m0
      have e0 : t.cols.length = 0 := by rw [h1]; rfl
      rw [e0] at hinv ⊢
      simp (maxSteps := 4000000) [Fn.f_haulageref09_Table_b0, Fn.f_haulageref09_Table_s0, m0]
      exact ⟨av, hinv⟩
    · rw [h2] at m0
      simp (maxSteps := 4000000) [Fn.f_haulageref09_Table_b0, Fn.f_haulageref09_Table_s0, m0]
      exact ⟨av, hinv⟩
theorem ref_Table9 (u : G15 E) {t : Tbl} (ht : TblF t) (hcl : t.cols.length ≤ 20) (hok : ∀ c ∈ t.cols, okW c.2.kind c.2.max (dflt c) = true ∧ isI64 c.2.dn) (d : Ddl) {sl : PV} (hsl : sl.flat = true) (h7 : d.op = 7 → ∀ c ∈ t.cols, c.2.name = d.column → wideT d.kind d.max c.2.kind c.2.max = true) (n : Nat) (hk : 1001 ≤ n) :
    ∃ t' : Tbl, (t'.id = t.id ∧ t'.key = t.key ∧ t'.cols = cols9 t d ∧ TblF t') ∧ ∀ m, denF E (n + 1) 198 [.p (.agg (tblP t)), .p (.agg (dV d sl))] m = some (.ret (.p (.agg (tblP t'))), m) := by
  obtain ⟨j, rfl⟩ : ∃ j, n = j + 1 := ⟨n - 1, by omega⟩
  have f1 := ht.flat
  have f2 := hsl
  unfold PV.flat at f1 f2
  have hx : ∃ v, (∃ t' : Tbl, v = .p (.agg (tblP t')) ∧ t'.id = t.id ∧ t'.key = t.key ∧ t'.cols = cols9 t d ∧ TblF t') ∧ ∀ m, denF E (j + 1 + 1) 198 [.p (.agg (tblP t)), .p (.agg (dV d sl))] m = some (.ret v, m) := by
    refine denF_ex u.tab9 rfl (args' := [.p (.agg (tblP t)), .p (.agg (dV d sl))]) rfl ?_
    have fin : ∀ (nm : List UInt8) (nx : Int) (o : PV), SlQ o (cols9 t d) → ∃ t' : Tbl, (t.id = t'.id ∧ nm = t'.name ∧ t.key = t'.key ∧ nx = t'.next ∧ o = t'.sl) ∧ t'.id = t.id ∧ t'.key = t.key ∧ t'.cols = cols9 t d ∧ TblF t' :=
      fun nm nx o ho => ⟨⟨t.id, nm, t.key, nx, cols9 t d, o⟩, ⟨rfl, rfl, rfl, rfl, rfl⟩, rfl, rfl, rfl, ho⟩
    by_cases o4 : d.op = 4
    · simp (maxSteps := 4000000) [Fn.f_haulageref09_Table, tblP, dV, f1, f2, o4]
      have hl := fun st0 hs => tab9_loop u ht hcl hok d hsl h7 t.name j (by omega) st0 hs
      simp only [tblP, dV, List.map_cons, List.map_nil, o4] at hl
      refine (hl _ ⟨rfl, rfl, rfl, rfl⟩).mono ?_
      rintro e st ⟨rfl, hds, hlen, e2, e3, e4, e5, av, hinv⟩
      have ⟨m0, m1, m2, m3, ho⟩ := hinv
      obtain ⟨ts', m', ds⟩ := st
      simp only at hds hlen e2 e3 e4 e5 m0 m1 m2 m3 ho
      subst hds
      have hx := expand_ts 123 ts' hlen
      simp only [List.range, List.range.loop, List.map_cons, List.map_nil] at hx
      rw [e2, e3, e4, e5] at hx
      rw [hx]
      rw [List.take_of_length_le (Nat.le_refl _)] at ho
      have hol : (((t.cols.filterMap (stepC d)).map colQ)).length ≤ 20 := by
        have := List.length_filterMap_le (stepC d) t.cols
        rw [List.length_map]; omega
      obtain ⟨tok, m2', ha, ho2, -, hk2⟩ := appR_tv (b := 80) ho (colQ (newC t d)) (by omega) (by omega)
      have i3 := hk2 _ _ m3
      have i2 := hk2 _ _ m2
      have i0 := hk2 _ _ m0
      simp only [tblP, dV, List.map_cons, List.map_nil] at m0 m1 i0
      have hcol : SlQ (.vals 8 ((t.cols.filterMap (stepC d)).map colQ ++ [colQ (newC t d)])) (cols9 t d) := by
        refine .inr ?_
        unfold cols9
        rw [if_pos o4, List.map_append]; rfl
      generalize (t.cols.filterMap (stepC d)).map colQ ++ [colQ (newC t d)] = R at *
      simp only [colQ, newC] at ha
      have l3 := idx_lt i3
      have l2 := idx_lt i2
      have s1 : ∀ x : Blk, (m2'.set 3 x)[3]? = some x := fun x => List.getElem?_set_self l3
      have s2 : ∀ (x : Blk), (m2'.set 3 x)[0]? = m2'[0]? := fun x => List.getElem?_set_ne (by decide)
      have s3 : ∀ (x : Blk), (m2'.set 3 x)[2]? = m2'[2]? := fun x => List.getElem?_set_ne (by decide)
      have s4 : ∀ (x y : Blk), ((m2'.set 3 x).set 2 y)[2]? = some y := fun x y => List.getElem?_set_self (by rw [List.length_set]; exact l2)
      simp (maxSteps := 4000000) [m0, m1, m3, ha, i0, i2, i3, s1, s2, s3, s4, o4]
      exact fin _ _ _ hcol
    have b4 : (d.op == 4) = false := by simpa using o4
    have gen : ∀ (nm : List UInt8) (st0 : St), Live Fn.f_haulageref09_Table_k0 (Fn.f_haulageref09_Table_s0 (.ptr 0 0) (.ptr 1 0) (.ptr 2 0) (.ptr 3 0) (.p (.int .i64 0))) [.cells ((tblP t).map .p), .cells ((dV d sl).map .p), .cells [.p (.int .i64 0), .p (.str []), .p (.int .i64 0), .p (.int .i64 0), .p .nils], .cells [.p (.int .i64 t.id), .p (.str nm), .p (.int .i64 t.key), .p (.int .i64 t.next), .p .nils]] st0 → Wp (iter (loopF E (denF E (j + 1)) (j + 1) Fn.f_haulageref09_Table_k0 Fn.f_haulageref09_Table_b0) (j + 1) st0)
      (fun e st => e = .exit 0 ∧ st.ds = [] ∧ st.ts.length = 123 ∧ st.ts.getD 2 (.tup []) = .ptr 0 0 ∧ st.ts.getD 3 (.tup []) = .ptr 1 0 ∧ st.ts.getD 4 (.tup []) = .ptr 2 0 ∧ st.ts.getD 5 (.tup []) = .ptr 3 0 ∧ ∃ o, SlQ o (cols9 t d) ∧ ∃ av, (av = .p .nils ∨ ∃ rows tok, av = .tv 8 rows tok) ∧ stripV av = some (.p o) ∧ st.m[1]? = some (.cells ((dV d sl).map .p)) ∧ st.m[2]? = some (.cells [.p (.int .i64 0), .p (.str []), .p (.int .i64 0), .p (.int .i64 0), .p .nils]) ∧ st.m[3]? = some (.cells [.p (.int .i64 t.id), .p (.str nm), .p (.int .i64 t.key), .p (.int .i64 t.next), av])) := by
      intro nm st0 hs
      refine (tab9_loop u ht hcl hok d hsl h7 nm j (by omega) st0 hs).mono ?_
      rintro e st ⟨rfl, hds, hlen, e2, e3, e4, e5, av, hinv⟩
      have ⟨m0, m1, m2, m3, ho⟩ := hinv
      rw [List.take_of_length_le (Nat.le_refl _)] at ho
      obtain ⟨o, q1, q2⟩ := ho.stripC
      refine ⟨rfl, hds, hlen, e2, e3, e4, e5, o, ?_, av, ?_, q1, m1, m2, m3⟩
      · unfold cols9
        rw [if_neg o4, List.append_nil]; exact q2
      · rcases ho with ⟨_, h⟩ | ⟨tok, h, _⟩
        · exact .inl h
        · exact .inr ⟨_, tok, h⟩
    simp only [tblP, dV, List.map_cons, List.map_nil] at gen
    by_cases o3 : d.op = 3
    · simp (maxSteps := 4000000) [Fn.f_haulageref09_Table, tblP, dV, f1, f2, o3]
      rw [o3] at gen
      refine (gen _ _ ⟨rfl, rfl, rfl, rfl⟩).mono ?_
      rintro e st ⟨rfl, hds, hlen, e2, e3, e4, e5, o, ho, av, hav, hst, m1, m2, m3⟩
      obtain ⟨ts', m', ds⟩ := st
      simp only at hds hlen e2 e3 e4 e5 m1 m2 m3
      subst hds
      have hx := expand_ts 123 ts' hlen
      simp only [List.range, List.range.loop, List.map_cons, List.map_nil] at hx
      rw [e2, e3, e4, e5] at hx
      rw [hx]
      have l2 := idx_lt m2
      rcases hav with rfl | ⟨rows, tok, rfl⟩
      all_goals
        simp at hst
        subst hst
        simp (maxSteps := 4000000) [m1, m2, m3, l2]
        exact fin _ _ _ ho
    · have b3 : (d.op == 3) = false := by simpa using o3
      simp (maxSteps := 4000000) [Fn.f_haulageref09_Table, tblP, dV, f1, f2, o3, b3]
      refine (gen _ _ ⟨rfl, rfl, rfl, rfl⟩).mono ?_
      rintro e st ⟨rfl, hds, hlen, e2, e3, e4, e5, o, ho, av, hav, hst, m1, m2, m3⟩
      obtain ⟨ts', m', ds⟩ := st
      simp only at hds hlen e2 e3 e4 e5 m1 m2 m3
      subst hds
      have hx := expand_ts 123 ts' hlen
      simp only [List.range, List.range.loop, List.map_cons, List.map_nil] at hx
      rw [e2, e3, e4, e5] at hx
      rw [hx]
      have l2 := idx_lt m2
      rcases hav with rfl | ⟨rows, tok, rfl⟩
      all_goals
        simp at hst
        subst hst
        simp (maxSteps := 4000000) [m1, m2, m3, l2, o4, b4]
        exact fin _ _ _ ho
  obtain ⟨v, ⟨t', rfl, h⟩, hrun⟩ := hx
  exact ⟨t', h, hrun⟩
end Hx

namespace Hx
open Go
set_option linter.unusedSimpArgs false
set_option linter.unusedVariables false
set_option maxHeartbeats 64000000
set_option maxRecDepth 20000
variable {E : Env}
attribute [-simp] List.getD_eq_getElem?_getD getElem?_pos
theorem OutG.stripC2 {m : Mem} {z : List (Int × Col)} {av : AV} (h : OutG 8 m (z.map colQ) av) : ∃ o, stripV av = some (.p o) ∧ SlQ o z := by
  rcases h with ⟨h1, rfl⟩ | ⟨tok, rfl, _⟩
  · refine ⟨.nils, by simp, .inl ⟨by simpa using h1, rfl⟩⟩
  · exact ⟨.vals 8 (z.map colQ), by simp, .inr rfl⟩
def numC : Nat → List (Int × Col) → List (Int × Col)
  | _, [] => []
  | i, c :: l => ((i : Int), c.2) :: numC (i + 1) l
theorem numC_len : ∀ (i : Nat) (l : List (Int × Col)), (numC i l).length = l.length
  | _, [] => rfl
  | i, c :: l => by simp [numC, numC_len (i + 1) l]
theorem numC_get : ∀ (l : List (Int × Col)) (i k : Nat), (numC i l)[k]? = (l[k]?).map fun c => (((i + k : Nat) : Int), c.2)
  | [], i, k => by simp [numC]
  | c :: l, i, 0 => by simp [numC]
  | c :: l, i, k + 1 => by
    simp only [numC, List.getElem?_cons_succ, numC_get l (i + 1) k]
    congr 1
    funext c
    congr 2
    omega
def keyFact (d : Ddl) (rows : List (Int × Col)) (i : Nat) (key : Int) : Prop := (key = 0 ∧ ∀ (j : Nat) c, j < i → rows[j]? = some c → c.2.name ≠ d.key) ∨ ∃ (j : Nat) (c : Int × Col), key = (j : Int) ∧ j < i ∧ rows[j]? = some c ∧ c.2.name = d.key
structure MadeInv (d : Ddl) (sl : PV) (rows : List (Int × Col)) (id : Int) (i : Nat) (m : Mem) (key : Int) (av : AV) : Prop where
  m0 : m[0]? = some (.cells ((dV d sl).map .p))
  m1 : m[1]? = some (.cells [.p (.int .i64 0), .p (.str []), .p (.int .i64 0), .p (.int .i64 0), .p .nils])
  m2 : m[2]? = some (.cells [.p (.int .i64 id), .p (.str d.table), .p (.int .i64 key), .p (.int .i64 rows.length), av])
  o : OutG 8 m (((numC 0 rows).take i).map colQ) av
  k : keyFact d rows i key
theorem made_loop (u : G15 E) (d : Ddl) {sl : PV} {rows : List (Int × Col)} (hsl : SlQ sl rows) (hrl : rows.length ≤ 1000) (id : Int) (j : Nat) (hk : 2000 ≤ j) (st0 : St)
    (hst0 : Live Fn.f_haulageref09_made_k0 (Fn.f_haulageref09_made_s0 (.ptr 0 0) (.ptr 1 0) (.ptr 2 0) (.p (.int .i64 0))) [.cells ((dV d sl).map .p), .cells [.p (.int .i64 0), .p (.str []), .p (.int .i64 0), .p (.int .i64 0), .p .nils], .cells [.p (.int .i64 id), .p (.str d.table), .p (.int .i64 0), .p (.int .i64 rows.length), .p .nils]] st0) :
    Wp (iter (loopF E (denF E (j + 1)) (j + 1) Fn.f_haulageref09_made_k0 Fn.f_haulageref09_made_b0) (j + 1) st0)
      (fun e st => e = .exit 0 ∧ st.ds = [] ∧ st.ts.length = 43 ∧ st.ts.getD 4 (.tup []) = .ptr 1 0 ∧ st.ts.getD 5 (.tup []) = .ptr 2 0 ∧ ∃ key av, MadeInv d sl rows id rows.length st.m key av) := by
  have f2 := hsl.flat
  unfold PV.flat at f2
  refine loop_wp (α := Nat × Mem × Int × AV) (I := fun s st => s.1 ≤ rows.length ∧ MadeInv d sl rows id s.1 s.2.1 s.2.2.1 s.2.2.2 ∧ Live Fn.f_haulageref09_made_k0 (Fn.f_haulageref09_made_s0 (.ptr 0 0) (.ptr 1 0) (.ptr 2 0) (.p (.int .i64 s.1))) s.2.1 st) (meas := fun s => rows.length - s.1) ?_ (j + 1) (0, _, 0, .p .nils) _ ⟨Nat.zero_le _, ⟨rfl, rfl, rfl, .inl ⟨rfl, rfl⟩, .inl ⟨rfl, fun j c h => absurd h (Nat.not_lt_zero _)⟩⟩, hst0⟩ (by simp only [Nat.sub_zero]; omega)
  rintro ⟨i, m, key, av⟩ st ⟨hi, hinv, hlive⟩
  have ⟨m0, m1, m2, ho, hkf⟩ := hinv
  simp only at hi m0 m1 m2 ho hkf hlive
  rw [loopF_live hlive]
  by_cases hlt : i < rows.length
  · have hlt' : (i : Int) < rows.length := by omega
    obtain ⟨c, hc⟩ : ∃ c, rows[i]? = some c := ⟨_, List.getElem?_eq_getElem hlt⟩
    have hs2 : sl = .vals 8 (rows.map colQ) := by
      rcases hsl with ⟨h, _⟩ | h
      · rw [h] at hlt; simp at hlt
      · exact h
    subst hs2
    have hw : IntKind.i64.wrap ((i : Int) + 1) = ((i + 1 : Nat) : Int) := by rw [wrap_i64 (by omega) (by omega)]; omega
    have hcn : (numC 0 rows)[i]? = some ((i : Int), c.2) := by rw [numC_get, hc]; simp
    have hl : ((numC 0 rows).take i).length ≤ 1000 := by rw [List.length_take, numC_len]; omega
    have step : ∀ (mm : Mem) (key' : Int), mm[0]? = some (.cells ((dV d (.vals 8 (rows.map colQ))).map .p)) → mm[1]? = some (.cells [.p (.int .i64 0), .p (.str []), .p (.int .i64 0), .p (.int .i64 0), .p .nils]) → mm[2]? = some (.cells [.p (.int .i64 id), .p (.str d.table), .p (.int .i64 key'), .p (.int .i64 rows.length), av]) → OutG 8 mm (((numC 0 rows).take i).map colQ) av → keyFact d rows (i + 1) key' →
        ∃ R tok m', appR 8 80 mm av (.p (.vals 8 [colQ ((i : Int), c.2)])) = some (.tv 8 R tok, m') ∧ m'[2]? = some (.cells [.p (.int .i64 id), .p (.str d.table), .p (.int .i64 key'), .p (.int .i64 rows.length), av]) ∧ MadeInv d (.vals 8 (rows.map colQ)) rows id (i + 1) (m'.set 2 (.cells [.p (.int .i64 id), .p (.str d.table), .p (.int .i64 key'), .p (.int .i64 rows.length), .tv 8 R tok])) key' (.tv 8 R tok) := by
      intro mm key' n0 n1 n2 no nk
      obtain ⟨tok, m', h1, h2, h3, h4⟩ := appR_tv (b := 80) no (colQ ((i : Int), c.2)) (by rw [List.length_map]; omega) (by rw [List.length_map]; omega)
      have g2 := h4 _ _ n2
      refine ⟨_, tok, m', h1, g2, ?_, ?_, ?_, ?_, nk⟩
      · rw [List.getElem?_set_ne (by decide)]; exact h4 _ _ n0
      · rw [List.getElem?_set_ne (by decide)]; exact h4 _ _ n1
      · rw [List.getElem?_set_self (idx_lt g2)]
      · refine out_set ?_ g2 _
        rw [take_step hcn, List.map_append]
        exact h2
    have g0 : ∀ l : Mem, (m ++ l)[0]? = some (.cells ((dV d (.vals 8 (rows.map colQ))).map .p)) := fun l => get_app5 m0
    have g2 := fun l : Mem => get_app5 (l := l) m2
    have l0 := idx_lt m0
    have l2 := idx_lt m2
    cases qn : (c.2.name == d.key) with
    | false =>
      have qn' : ¬ c.2.name = d.key := by simpa using qn
      obtain ⟨R, tok, m', ha, h3, hinv'⟩ := step (m ++ [.cells ((colQ ((i : Int), c.2)).map .p)]) key (get_app5 m0) (get_app5 m1) (get_app5 m2) (out_app ho _) (by
        rcases hkf with ⟨h1, h2⟩ | ⟨q, x, h1, h2, h3, h4⟩
        · refine .inl ⟨h1, fun q x hq hx => ?_⟩
          rcases Nat.lt_or_ge q i with h | h
          · exact h2 q x h hx
          · obtain rfl : q = i := by omega
            rw [hc] at hx; cases hx; exact qn'
        · exact .inr ⟨q, x, h1, by omega, h3, h4⟩)
      simp only [dV, colQ, List.map_cons, List.map_nil] at m0 g0 ha
      simp (maxSteps := 4000000) [Fn.f_haulageref09_made_b0, Fn.f_haulageref09_made_s0, colQ, hlt, hlt', hc, hw, m0, m2, g0, g2, ln_at0, ln_set0, qn, ha, h3, -Int.natCast_add]
      exact ⟨i + 1, by omega, hlt, _, ⟨_, _, hinv'⟩, rfl, rfl, rfl, rfl⟩
    | true =>
      have qn' : c.2.name = d.key := by simpa using qn
      obtain ⟨R, tok, m', ha, h3, hinv'⟩ := step ((m ++ [Blk.cells ((colQ ((i : Int), c.2)).map .p)]).set 2 (Blk.cells [.p (.int .i64 id), .p (.str d.table), .p (.int .i64 i), .p (.int .i64 rows.length), av])) i
        (by rw [List.getElem?_set_ne (by decide)]; exact get_app5 m0) (by rw [List.getElem?_set_ne (by decide)]; exact get_app5 m1) (by rw [List.getElem?_set_self (by rw [List.length_append]; omega)]) (out_set (out_app ho _) (get_app5 m2) _) (.inr ⟨i, c, rfl, by omega, hc, qn'⟩)
      have s1 : ∀ (x y : Blk), ((m ++ [y]).set 2 x)[2]? = some x := fun x y => List.getElem?_set_self (by rw [List.length_append]; omega)
      have s2 : ∀ (x y : Blk), ((m ++ [y]).set 2 x)[0]? = (m ++ [y])[0]? := fun x y => List.getElem?_set_ne (by decide)
      have s3 : ∀ (x y : Blk), ((m ++ [y]).set 2 x)[m.length]? = some y := fun x y => by rw [List.getElem?_set_ne (by omega)]; exact ln_at0 _ _
      simp only [dV, colQ, List.map_cons, List.map_nil] at m0 g0 ha
      simp (maxSteps := 4000000) [Fn.f_haulageref09_made_b0, Fn.f_haulageref09_made_s0, colQ, hlt, hlt', hc, hw, m0, m2, g0, g2, ln_at0, ln_set0, qn, s1, s2, s3, ha, h3, -Int.natCast_add]
      exact ⟨i + 1, by omega, hlt, _, ⟨_, _, hinv'⟩, rfl, rfl, rfl, rfl⟩
  · have hlt' : ¬ (i : Int) < rows.length := by omega
    obtain rfl : i = rows.length := by omega
    simp only [dV, List.map_cons, List.map_nil] at m0
    rcases hsl with ⟨h1, rfl⟩ | rfl
    · have e0 : rows.length = 0 := by rw [h1]; rfl
      rw [e0] at hinv ⊢
      simp (maxSteps := 4000000) [Fn.f_haulageref09_made_b0, Fn.f_haulageref09_made_s0, m0]
      exact ⟨_, _, hinv⟩
    · simp (maxSteps := 4000000) [Fn.f_haulageref09_made_b0, Fn.f_haulageref09_made_s0, m0]
      exact ⟨_, _, hinv⟩
theorem ref_made (u : G15 E) (d : Ddl) {sl : PV} {rows : List (Int × Col)} (hsl : SlQ sl rows) (hne : rows ≠ []) (hrl : rows.length ≤ 1000) (id : Int) (n : Nat) (hk : 2001 ≤ n) :
    ∃ t' : Tbl, (t'.id = id ∧ keyFact d rows rows.length t'.key ∧ t'.cols = numC 0 rows ∧ TblF t') ∧ ∀ m, denF E (n + 1) 196 [.p (.agg (dV d sl)), .p (.int .i64 id)] m = some (.ret (.p (.agg (tblP t'))), m) := by
  obtain ⟨j, rfl⟩ : ∃ j, n = j + 1 := ⟨n - 1, by omega⟩
  have f2 := hsl.flat
  unfold PV.flat at f2
  have hx : ∃ v, (∃ t' : Tbl, v = .p (.agg (tblP t')) ∧ t'.id = id ∧ keyFact d rows rows.length t'.key ∧ t'.cols = numC 0 rows ∧ TblF t') ∧ ∀ m, denF E (j + 1 + 1) 196 [.p (.agg (dV d sl)), .p (.int .i64 id)] m = some (.ret v, m) := by
    refine denF_ex u.made rfl (args' := [.p (.agg (dV d sl)), .p (.int .i64 id)]) rfl ?_
    have fin : ∀ (key : Int) (o : PV), keyFact d rows rows.length key → SlQ o (numC 0 rows) → ∃ t' : Tbl, (id = t'.id ∧ d.table = t'.name ∧ key = t'.key ∧ (rows.length : Int) = t'.next ∧ o = t'.sl) ∧ t'.id = id ∧ keyFact d rows rows.length t'.key ∧ t'.cols = numC 0 rows ∧ TblF t' :=
      fun key o hk ho => ⟨⟨id, d.table, key, rows.length, numC 0 rows, o⟩, ⟨rfl, rfl, rfl, rfl, rfl⟩, rfl, hk, rfl, ho⟩
    have hl := fun st0 hs => made_loop u d hsl hrl id j (by omega) st0 hs
    simp only [dV, List.map_cons, List.map_nil] at hl
    rcases hsl with ⟨h1, _⟩ | rfl
    · exact absurd h1 hne
    · simp (maxSteps := 4000000) [Fn.f_haulageref09_made, dV]
      refine (hl _ ⟨rfl, rfl, rfl, rfl⟩).mono ?_
      rintro e st ⟨rfl, hds, hlen, e4, e5, key, av, hinv⟩
      have ⟨m0, m1, m2, ho, hkf⟩ := hinv
      obtain ⟨ts', m', ds⟩ := st
      simp only at hds hlen e4 e5 m0 m1 m2 ho
      subst hds
      have hx := expand_ts 43 ts' hlen
      simp only [List.range, List.range.loop, List.map_cons, List.map_nil] at hx
      rw [e4, e5] at hx
      rw [hx]
      rw [List.take_of_length_le (by rw [numC_len]; exact Nat.le_refl _)] at ho
      obtain ⟨o, q1, q2⟩ := ho.stripC2
      have l1 := idx_lt m1
      rcases ho with ⟨_, rfl⟩ | ⟨tok, rfl, _⟩
      all_goals
        simp at q1
        subst q1
        simp (maxSteps := 4000000) [m1, m2, l1, tblP]
        exact fin _ _ hkf q2
  obtain ⟨v, ⟨t', rfl, h⟩, hrun⟩ := hx
  exact ⟨t', h, hrun⟩
end Hx
