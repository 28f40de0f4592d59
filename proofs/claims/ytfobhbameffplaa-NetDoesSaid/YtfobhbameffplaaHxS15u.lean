/-
  HxS15u: a row that is to be there, or to be another one, as the document says.
-/
import Derived.Test.YtfobhbameffplaaHxS15f
import Derived.Test.YtfobhbameffplaaHxS15s
namespace Hx
open Go
set_option linter.unusedSimpArgs false
set_option linter.unusedVariables false
set_option maxHeartbeats 64000000
set_option maxRecDepth 20000
variable {E : Env}
attribute [-simp] List.getD_eq_getElem?_getD getElem?_pos
theorem p181 : Fn.f_haulageref15_moved.pure = true := rfl
structure K15 (E : Env) : Prop extends D15 E where
  g : G15 E
  p : P15 E
  change : E.fn 153 = some Fn.f_haulageref15_change
  rowf : E.fn 156 = some Fn.f_haulageref15_row
  redo : E.fn 142 = some Fn.f_haulageref15_Redo
  apply20 : E.fn 126 = some Fn.f_haulageref20_Apply
  plainC : E.fn 164 = some Fn.f_haulageref15_PlainChange
def newRows (ts : List Tbl) (zs : List (List Row)) (t' : Tbl) : List Row := match ts[(idAt ts t'.id).toNat]? with
  | none => []
  | some f => if idAt ts t'.id < 0 then [] else movedZ f t' (keyAt t').toNat (zs.getD (idAt ts t'.id).toNat [])
structure StG (tp rp : PV) (ts : List Tbl) (es : List RE) : Prop where
  tp : TabQ tp ts
  rp : RsQ rp es
  len : es.length = ts.length
  n : ts.length ≤ 1000
  t : ∀ t ∈ ts, TblG t
  q : ∀ e ∈ es, ListQ e.2.1 e.2.2
  fit : ∀ (i : Nat) t e, ts[i]? = some t → es[i]? = some e → ∀ r ∈ e.2.2, RowFit t r
  few : ∀ e ∈ es, e.2.2.length ≤ 200
  ids : es.map (·.1) = ts.map (·.id)
  rise : ∀ (i : Nat) t e, ts[i]? = some t → es[i]? = some e → Rise ltV (keyN (keyAt t).toNat) e.2.2
structure ChInv (ts : List Tbl) (zs : List (List Row)) (tp rp tp' : PV) (ts' : List Tbl) (i : Nat) (m : Mem) (av : AV) : Prop where
  m0 : m[0]? = some (.cells [.p tp, .p rp])
  m2 : m[2]? = some (.cells [.p .nils, .p .nils])
  m3 : m[3]? = some (.cells [.p tp'])
  m4 : m[4]? = some (.cells [.p tp', av])
  out : ∃ out : List RE, OutG 2 m (RZ out) av ∧ (∀ e ∈ out, ListQ e.2.1 e.2.2) ∧ out.map (·.2.2) = (ts'.take i).map (newRows ts zs) ∧ out.map (·.1) = (ts'.take i).map (·.id)
theorem ch_step {ts : List Tbl} {zs : List (List Row)} {tp rp tp' : PV} {ts' : List Tbl} {i : Nat} {m : Mem} {av : AV} (h : ChInv ts zs tp rp tp' ts' i m av) {t' : Tbl} (ht : ts'[i]? = some t') (hi : i ≤ 100000) {p : PV} {z : List Row} (hz : ListQ p z) (hn : z = newRows ts zs t') (a b : Blk) :
    ∃ R tok m', appR 2 32 (m ++ [a, b]) av (.p (.vals 2 [[.int .i64 t'.id, p]])) = some (.tv 2 R tok, m') ∧ m'[4]? = some (.cells [.p tp', av]) ∧ ChInv ts zs tp rp tp' ts' (i + 1) (m'.set 4 (.cells [.p tp', .tv 2 R tok])) (.tv 2 R tok) := by
  obtain ⟨m0, m2, m3, m4, out, ho, hq, he, hid⟩ := h
  have hl : out.length = (ts'.take i).length := by simpa using congrArg List.length he
  have hl2 : (ts'.take i).length ≤ i := by rw [List.length_take]; omega
  obtain ⟨tok, m', h1, h2, h3, h4⟩ := appR_tv (b := 32) (out_app ho [a, b]) [.int .i64 t'.id, p] (by rw [RZ_len]; omega) (by rw [RZ_len]; omega)
  have g4 := h4 _ _ (get_app5 m4)
  refine ⟨_, tok, m', h1, g4, ?_, ?_, ?_, ?_, out ++ [(t'.id, p, z)], ?_, ?_, ?_, ?_⟩
  · rw [List.getElem?_set_ne (by decide)]; exact h4 _ _ (get_app5 m0)
  · rw [List.getElem?_set_ne (by decide)]; exact h4 _ _ (get_app5 m2)
  · rw [List.getElem?_set_ne (by decide)]; exact h4 _ _ (get_app5 m3)
  · rw [List.getElem?_set_self (idx_lt g4)]
  · rw [RZ_app]
    exact out_set h2 g4 _
  · intro e hm
    rcases List.mem_append.1 hm with hm | hm
    · exact hq e hm
    · rw [List.mem_singleton.1 hm]; exact hz
  · rw [take_step ht, List.map_append, List.map_append, he, hn]; rfl
  · rw [take_step ht, List.map_append, List.map_append, hid]; rfl
theorem change_loop (u : K15 E) {tp rp : PV} {ts : List Tbl} {es : List RE} (hs : StG tp rp ts es) {tp' : PV} {ts' : List Tbl} (htp' : TabQ tp' ts') (hl' : ts'.length ≤ 100) (hg : ∀ t' ∈ ts', GoodT ts t') (b1 : Blk) (j : Nat) (hj : 3500 ≤ j) (st0 : St)
    (hst0 : Live Fn.f_haulageref15_change_k0 (Fn.f_haulageref15_change_s0 (.ptr 0 0) (.ptr 2 0) (.ptr 3 0) (.ptr 4 0) (.p (.int .i64 0))) [.cells [.p tp, .p rp], b1, .cells [.p .nils, .p .nils], .cells [.p tp'], .cells [.p tp', .p .nils]] st0) :
    Wp (iter (loopF E (denF E (j + 1)) (j + 1) Fn.f_haulageref15_change_k0 Fn.f_haulageref15_change_b0) (j + 1) st0)
      (fun e st => e = .exit 0 ∧ st.ds = [] ∧ st.ts.length = 73 ∧ st.ts.getD 6 (.tup []) = .ptr 2 0 ∧ st.ts.getD 10 (.tup []) = .ptr 4 0 ∧ ∃ av, ChInv ts (es.map (·.2.2)) tp rp tp' ts' ts'.length st.m av) := by
  refine loop_wp (α := Nat × Mem × AV) (I := fun s st => s.1 ≤ ts'.length ∧ ChInv ts (es.map (·.2.2)) tp rp tp' ts' s.1 s.2.1 s.2.2 ∧ Live Fn.f_haulageref15_change_k0 (Fn.f_haulageref15_change_s0 (.ptr 0 0) (.ptr 2 0) (.ptr 3 0) (.ptr 4 0) (.p (.int .i64 s.1))) s.2.1 st) (meas := fun s => ts'.length - s.1) ?_ (j + 1) (0, _, .p .nils) _ ⟨Nat.zero_le _, ⟨rfl, rfl, rfl, rfl, [], .inl ⟨rfl, rfl⟩, by simp, rfl, rfl⟩, hst0⟩ (by simp only [Nat.sub_zero]; omega)
  rintro ⟨i, m, av⟩ st ⟨hi, hinv, hlive⟩
  simp only at hi hinv hlive
  rw [loopF_live hlive]
  have ⟨m0, m2, m3, m4, _⟩ := hinv
  have c0 := idx_lt m0
  have c3 := idx_lt m3
  have c4 := idx_lt m4
  by_cases hlt : i < ts'.length
  · have hlt' : (i : Int) < ts'.length := by omega
    obtain ⟨t', ht'⟩ : ∃ t', ts'[i]? = some t' := ⟨_, List.getElem?_eq_getElem hlt⟩
    obtain ⟨hgt, hst⟩ := hg t' (List.mem_of_getElem? ht')
    have hw : IntKind.i64.wrap ((i : Int) + 1) = ((i + 1 : Nat) : Int) := by rw [wrap_i64 (by omega) (by omega)]; omega
    have hB := fun m => ref_ById u.g.byId hs.tp t'.id (by have := hs.n; omega) j (by have := hs.n; omega) m
    have ft := hgt.ok.f.flat
    have fp := hs.tp.flat
    have fr := hs.rp.flat
    unfold PV.flat at ft fp fr
    have g0 := fun l : Mem => get_app5 (l := l) m0
    have g3 := fun l : Mem => get_app5 (l := l) m3
    have g4 := fun l : Mem => get_app5 (l := l) m4
    rcases htp' with ⟨rfl, rfl⟩ | rfl
    · simp at hlt
    rcases posI_cases (fun t : Tbl => t.id == t'.id) ts 0 with ⟨q, _⟩ | ⟨k, f, q, hf, _⟩
    · have q : idAt ts t'.id = -1 := q
      rw [q] at hB
      have hnr : ([] : List Row) = newRows ts (es.map (·.2.2)) t' := by
        unfold newRows
        rw [q]
        cases ts[(-1 : Int).toNat]? with
        | none => rfl
        | some f => rfl
      obtain ⟨R, tok, m', ha, h4, hinv'⟩ := ch_step hinv ht' (by omega) (p := .nils) (.inl ⟨rfl, rfl⟩) hnr (.cells ((tblP t').map .p)) (.cells [.p (.int .i64 t'.id), .p .nils])
      simp only [tblP, List.map_cons, List.map_nil] at ha
      simp (maxSteps := 4000000) [Fn.f_haulageref15_change_b0, Fn.f_haulageref15_change_s0, tblP, ft, fp, fr, hlt, hlt', ht', hw, m0, m3, m4, c0, c3, c4, g0, g3, g4, ln_at0, ln_at1, ln_set0, ln_set1, hB, ha, h4, -Int.natCast_add]
      exact ⟨i + 1, by omega, hlt, _, ⟨_, hinv'⟩, rfl, rfl, rfl, rfl⟩
    · have q : idAt ts t'.id = (k : Int) := by unfold idAt; rw [q]; simp
      rw [q] at hB
      obtain ⟨f', hf', hmv⟩ := hst k q
      rw [hf] at hf'
      obtain rfl := Option.some.inj hf'
      have hkl := (List.getElem?_eq_some_iff.1 hf).1
      obtain ⟨e, he⟩ : ∃ e, es[k]? = some e := ⟨_, List.getElem?_eq_getElem (by rw [hs.len]; exact hkl)⟩
      have hkl2 : k < es.length := by rw [hs.len]; exact hkl
      obtain ⟨kk, hkk1, hkk2⟩ := hgt.key
      have hgf := hs.t f (List.mem_of_getElem? hf)
      have hzq := hs.q e (List.mem_of_getElem? he)
      obtain ⟨o, ho, hM⟩ := ref_moved u.toD15 hgf.ok hgf.len hgt hmv hkk1 hkk2 hzq (hs.fit k f e hf he) (by have := hs.few e (List.mem_of_getElem? he); omega) j (by omega)
      have hnr : movedZ f t' kk e.2.2 = newRows ts (es.map (·.2.2)) t' := by
        unfold newRows
        rw [q, Int.toNat_natCast, hf, hkk1, Int.toNat_natCast]
        simp only
        rw [if_neg (by omega), List.getD_eq_getElem?_getD, List.getElem?_map, he]; rfl
      obtain ⟨R, tok, m', ha, h4, hinv'⟩ := ch_step hinv ht' (by omega) ho hnr (.cells ((tblP t').map .p)) (.cells [.p (.int .i64 t'.id), .p o])
      have ff := hgf.ok.f.flat
      have fo := ho.flat
      have fo2 : o.cells = [o] := by rcases ho with ⟨_, rfl⟩ | rfl <;> rfl
      unfold PV.flat at ff fo
      unfold PV.cells at fo2
      simp only [tblP, List.map_cons, List.map_nil] at ha hM
      have hk0 : (0 : Int) ≤ k := by omega
      obtain ⟨e1, e2, e3⟩ := e
      rcases hs.tp with ⟨e0, _⟩ | htq
      · rw [e0] at hkl; simp at hkl
      rcases hs.rp with ⟨e0, _⟩ | hrq
      · rw [e0] at hkl2; simp at hkl2
      subst htq hrq
      simp (maxSteps := 4000000) [Fn.f_haulageref15_change_b0, Fn.f_haulageref15_change_s0, RZ, reP, tblP, ft, ff, fo, fo2, hlt, hlt', ht', hw, m0, m3, m4, c0, c3, c4, g0, g3, g4, ln_at0, ln_at1, ln_set0, ln_set1, hB, hf, hkl, he, hkl2, hk0, hM, u.moved, p181, ha, h4, -Int.natCast_add]
      exact ⟨i + 1, by omega, hlt, _, ⟨_, hinv'⟩, rfl, rfl, rfl, rfl⟩
  · have hlt' : ¬ (i : Int) < ts'.length := by omega
    obtain rfl : i = ts'.length := by omega
    rcases htp' with ⟨rfl, rfl⟩ | rfl
    · simp (maxSteps := 4000000) [Fn.f_haulageref15_change_b0, Fn.f_haulageref15_change_s0, m3]
      exact ⟨av, hinv⟩
    · simp (maxSteps := 4000000) [Fn.f_haulageref15_change_b0, Fn.f_haulageref15_change_s0, m3]
      exact ⟨av, hinv⟩
theorem ref_change_bad (u : K15 E) {tp rp : PV} (ht : tp.flat = true) (hr : rp.flat = true) (d : Ddl) {sl : PV} (hsl : sl.flat = true) (lsn : Int) {tp' : PV} (hf : tp'.flat = true) {e : Int} (he : e ≠ 0) (j : Nat)
    (hA : ∀ m, denF E (j + 1) 179 [.p (.agg [tp]), .p (.agg (dV d sl)), .p (.int .i64 lsn)] m = some (.ret (.tup [.p (.agg [tp']), .p (.int .i64 e)]), m)) (m : Mem) :
    denF E (j + 2) 153 [.p (.agg [tp, rp]), .p (.agg (dV d sl)), .p (.int .i64 lsn)] m = some (.ret (.tup [.p (.agg [tp, rp]), .p (.int .i64 e)]), m) := by
  unfold PV.flat at ht hr hsl hf
  have fc : tp'.cells = [tp'] := by cases tp' <;> first | rfl | cases hf
  unfold PV.cells at fc
  have q : (e == 0) = false := by simpa using he
  simp only [dV] at hA
  refine denF_wp u.change rfl (args' := [.p (.agg [tp, rp]), .p (.agg (dV d sl)), .p (.int .i64 lsn)]) rfl ?_
  simp (maxSteps := 4000000) [Fn.f_haulageref15_change, dV, ht, hr, hsl, hf, fc, hA, he, q, bne]
theorem ref_change_ok (u : K15 E) {tp rp : PV} {ts : List Tbl} {es : List RE} (hs : StG tp rp ts es) (d : Ddl) {sl : PV} (hsl : sl.flat = true) (lsn : Int) {tp' : PV} {ts' : List Tbl} (htp' : TabQ tp' ts') (hl' : ts'.length ≤ 100) (hg : ∀ t' ∈ ts', GoodT ts t') (j : Nat) (hj : 3500 ≤ j)
    (hA : ∀ m, denF E (j + 1) 179 [.p (.agg [tp]), .p (.agg (dV d sl)), .p (.int .i64 lsn)] m = some (.ret (.tup [.p (.agg [tp']), .p (.int .i64 0)]), m)) :
    ∃ (rp' : PV) (es' : List RE), RsQ rp' es' ∧ (∀ e ∈ es', ListQ e.2.1 e.2.2) ∧ es'.map (·.2.2) = ts'.map (newRows ts (es.map (·.2.2))) ∧ es'.map (·.1) = ts'.map (·.id) ∧ ∀ m, denF E (j + 2) 153 [.p (.agg [tp, rp]), .p (.agg (dV d sl)), .p (.int .i64 lsn)] m = some (.ret (.tup [.p (.agg [tp', rp']), .p (.int .i64 0)]), m) := by
  have hx : ∃ v, (∃ (rp' : PV) (es' : List RE), v = .tup [.p (.agg [tp', rp']), .p (.int .i64 0)] ∧ RsQ rp' es' ∧ (∀ e ∈ es', ListQ e.2.1 e.2.2) ∧ es'.map (·.2.2) = ts'.map (newRows ts (es.map (·.2.2))) ∧ es'.map (·.1) = ts'.map (·.id)) ∧ ∀ m, denF E (j + 1 + 1) 153 [.p (.agg [tp, rp]), .p (.agg (dV d sl)), .p (.int .i64 lsn)] m = some (.ret v, m) := by
    refine denF_ex u.change rfl (args' := [.p (.agg [tp, rp]), .p (.agg (dV d sl)), .p (.int .i64 lsn)]) rfl ?_
    have ht := hs.tp.flat
    have hr := hs.rp.flat
    have hf := htp'.flat
    have fc : tp'.cells = [tp'] := by rcases htp' with ⟨_, rfl⟩ | rfl <;> rfl
    unfold PV.flat at ht hr hsl hf
    unfold PV.cells at fc
    simp only [dV] at hA
    have hl := fun b st0 h0 => change_loop u hs htp' hl' hg b j (by omega) st0 h0
    simp (maxSteps := 4000000) [Fn.f_haulageref15_change, dV, ht, hr, hsl, hf, fc, hA]
    refine (hl _ _ ⟨rfl, rfl, rfl, rfl⟩).mono ?_
    rintro e st ⟨rfl, hds, hlen, e6, e10, av, hinv⟩
    have ⟨m0, m2, m3, m4, out, ho, hq, he, hid⟩ := hinv
    obtain ⟨ts1, m', ds⟩ := st
    simp only at hds hlen e6 e10 m0 m2 m3 m4 ho
    subst hds
    have hx := expand_ts 73 ts1 hlen
    simp only [List.range, List.range.loop, List.map_cons, List.map_nil] at hx
    rw [e6, e10] at hx
    rw [hx]
    rw [List.take_of_length_le (Nat.le_refl _)] at he hid
    obtain ⟨o, p1, p2⟩ := ho.stripR
    have l2 := idx_lt m2
    have l4 := idx_lt m4
    rcases ho with ⟨_, rfl⟩ | ⟨tok, rfl, _⟩
    all_goals
      simp at p1
      subst p1
      simp (maxSteps := 4000000) [m2, m4, l2, l4, hf]
      exact ⟨out, p2, fun a b c h => hq _ h, he, hid⟩
  obtain ⟨v, ⟨rp', es', rfl, h1, h2, h3, h4⟩, hrun⟩ := hx
  exact ⟨rp', es', h1, h2, h3, h4, hrun⟩
end Hx

namespace Hx
open Go
set_option linter.unusedSimpArgs false
set_option linter.unusedVariables false
set_option maxHeartbeats 64000000
set_option maxRecDepth 20000
variable {E : Env}
attribute [-simp] List.getD_eq_getElem?_getD getElem?_pos
theorem p159 : Fn.f_haulageref15_Find.pure = true := rfl
theorem p160 : Fn.f_haulageref15_cut.pure = true := rfl
theorem p161 : Fn.f_haulageref15_with.pure = true := rfl
theorem p163 : Fn.f_haulageref15_put.pure = true := rfl
theorem findZ_there {k : Nat} {v : Val} {z : List Row} : 0 ≤ findZ k v z ↔ getR (keyN k) z v ≠ none := by
  unfold findZ
  rcases posI_cases (fun e : Row => decide (keyN k e = v)) z 0 with ⟨h1, h2⟩ | ⟨j, x, h1, h2, h3, _⟩
  · rw [h1]
    constructor
    · intro h; omega
    · intro h
      exfalso
      apply h
      rw [getR_none]
      intro r hr e
      have := h2 r hr
      simp [e] at this
  · rw [h1]
    constructor
    · intro _ h
      rw [getR_none] at h
      exact h x (List.mem_of_getElem? h2) (by simpa using h3)
    · intro _; omega
theorem cut_del {k : Nat} {v : Val} {z : List Row} {a : Nat} (h : findZ k v z = (a : Int)) : cutZ a z = delR (keyN k) v z := by
  unfold findZ at h
  unfold cutZ delR
  have key : ∀ (z : List Row) (i a : Nat), posI (fun e : Row => decide (keyN k e = v)) z i = ((i + a : Nat) : Int) → z.eraseIdx a = z.eraseP fun r => decide (keyN k r = v) := by
    intro z
    induction z with
    | nil => intro i a h; rfl
    | cons x z ih =>
      intro i a h
      unfold posI at h
      cases q : decide (keyN k x = v) with
      | true =>
        rw [q] at h
        simp only [if_true] at h
        have : a = 0 := by omega
        subst this
        rw [List.eraseP_cons_of_pos (by exact q)]; rfl
      | false =>
        rw [q] at h
        simp only [Bool.false_eq_true, if_false] at h
        rw [List.eraseP_cons_of_neg (by rw [q]; simp)]
        cases a with
        | zero =>
          exfalso
          rcases posI_cases (fun e : Row => decide (keyN k e = v)) z (i + 1) with ⟨h1, _⟩ | ⟨j, _, h1, _⟩
          · rw [h1] at h; omega
          · rw [h1] at h; omega
        | succ a =>
          rw [List.eraseIdx_cons_succ, ih (i + 1) a (by rw [h]; congr 1; omega)]
  exact key z 0 a (by rw [h]; simp)
theorem StG.le {tp rp : PV} {ts : List Tbl} {es : List RE} (h : StG tp rp ts es) : ∀ e ∈ es, e.2.1.flat = true := fun e he => (h.q e he).flat
theorem ref_row (u : K15 E) {tp rp : PV} {ts : List Tbl} {es : List RE} (hs : StG tp rp ts es) {a : Nat} {t : Tbl} (ht : ts[a]? = some t) {e : RE} (he : es[a]? = some e) {kk : Nat} (hkey : keyAt t = (kk : Int)) (hkl : kk < t.cols.length) (kind : Int) (hkd : kind = 1 ∨ kind = 2) {x : Row} (hx : RowFit t x) (n : Nat) (hn : 3000 ≤ n) :
    ((kind = 1 ∧ getR (keyN kk) e.2.2 (keyN kk x) ≠ none ∨ kind = 1 ∧ 200 ≤ e.2.2.length ∨ kind = 2 ∧ getR (keyN kk) e.2.2 (keyN kk x) = none) → ∃ er : Int, er ≠ 0 ∧ ∀ m, denF E (n + 1) 156 [.p (.agg [tp, rp]), .p (.int .i64 a), .p (.int .i64 kind), .p (.vals 3 (x.map valP))] m = some (.ret (.tup [.p (.agg [tp, rp]), .p (.int .i64 er)]), m)) ∧
    (¬ (kind = 1 ∧ getR (keyN kk) e.2.2 (keyN kk x) ≠ none ∨ kind = 1 ∧ 200 ≤ e.2.2.length ∨ kind = 2 ∧ getR (keyN kk) e.2.2 (keyN kk x) = none) → ∃ (rp' lp : PV), ListQ lp (putZ kk x e.2.2) ∧ RsQ rp' (setE15 a lp (putZ kk x e.2.2) es) ∧ ∀ m, denF E (n + 1) 156 [.p (.agg [tp, rp]), .p (.int .i64 a), .p (.int .i64 kind), .p (.vals 3 (x.map valP))] m = some (.ret (.tup [.p (.agg [tp, rp']), .p (.int .i64 0)]), m)) := by
  obtain ⟨j, rfl⟩ : ∃ j, n = j + 1 := ⟨n - 1, by omega⟩
  have hg := hs.t t (List.mem_of_getElem? ht)
  have hal := (List.getElem?_eq_some_iff.1 ht).1
  have hel := (List.getElem?_eq_some_iff.1 he).1
  have hzq := hs.q e (List.mem_of_getElem? he)
  have hfew := hs.few e (List.mem_of_getElem? he)
  have hfit := hs.fit a t e ht he
  have hK := fun m => ref_Key u.key hg.ok.f (by have := hg.len; omega) j (by have := hg.len; omega) m
  rw [hkey] at hK
  have hxk := row_key (fit_key hx hkl).lt
  have hF := fun m => ref_RFind u.toC15 hg.ok hkey hg.len hzq (fun r hr => (fit_key (hfit r hr) hkl).lt) (keyN kk x) (by omega) j (by omega) m
  have hth : ¬ 0 ≤ findZ kk (keyN kk x) e.2.2 ↔ getR (keyN kk) e.2.2 (keyN kk x) = none := by
    rw [findZ_there]; exact Classical.not_not
  have ht1 := hs.tp.flat
  have ht2 := hs.rp.flat
  have ft := hg.ok.f.flat
  have hle := hs.le
  have hq0 := hs
  obtain ⟨lp, hlp, hP⟩ := ref_put u.toC15 hg.ok hkey hg.len hzq (fun r hr => fit_key (hfit r hr) hkl) (fit_key hx hkl) (by omega) j (by omega)
  obtain ⟨rp', hrp', hW⟩ := ref_with u.toC15 ht1 hs.rp hle a hlp.flat (putZ kk x e.2.2) (by have := hs.len; have := hs.n; omega) j (by have := hs.len; have := hs.n; omega)
  have hfr := hrp'.flat
  have lenz : lenV (.p e.2.1) = some e.2.2.length := by
    rcases hzq with ⟨h1, h2⟩ | h2
    · rw [h1, h2]; rfl
    · rw [h2]; simp [ZP]
  rcases hs.tp with ⟨h0, _⟩ | htq
  · rw [h0] at hal; simp at hal
  rcases hs.rp with ⟨h0, _⟩ | hrq
  · rw [h0] at hel; simp at hel
  subst htq hrq
  generalize hqf : findZ kk (keyN kk x) e.2.2 = q at hF hth
  obtain ⟨e1, e2, e3⟩ := e
  simp only at hzq hfew hfit hF hth hP hlp hrp' hW lenz ⊢
  generalize hy : keyN kk x = y at *
  obtain ⟨y1, y2, y3⟩ := y
  unfold PV.flat at ft hfr
  simp only [tblP, valP] at hK hF hP
  rcases hkd with rfl | rfl
  · by_cases q1 : 0 ≤ q
    · have hne : ¬ getR (keyN kk) e3 (y1, y2, y3) = none := fun h => (hth.2 h) q1
      refine ⟨fun _ => ⟨17, by decide, fun m => ?_⟩, fun h => absurd (.inl ⟨rfl, hne⟩) h⟩
      refine denF_wp u.rowf rfl (args' := [.p (.agg [.vals 5 (ts.map tblP), .vals 2 (RZ es)]), .p (.int .i64 a), .p (.int .i64 1), .p (.vals 3 (x.map valP))]) rfl ?_
      simp (maxSteps := 4000000) [Fn.f_haulageref15_row, RZ, reP, tblP, valP, ft, ht, hal, he, hel, hK, u.key, p157, hxk, hF, u.rfind, p159, q1]
    · have hno := hth.1 q1
      by_cases q2 : 200 ≤ e3.length
      · have q2' : (200 : Int) ≤ e3.length := by omega
        refine ⟨fun _ => ⟨3, by decide, fun m => ?_⟩, fun h => absurd (.inr (.inl ⟨rfl, q2⟩)) h⟩
        refine denF_wp u.rowf rfl (args' := [.p (.agg [.vals 5 (ts.map tblP), .vals 2 (RZ es)]), .p (.int .i64 a), .p (.int .i64 1), .p (.vals 3 (x.map valP))]) rfl ?_
        rcases hzq with ⟨h0, _⟩ | rfl
        · rw [h0] at q2; simp at q2
        simp only [ZP] at hF
        simp (maxSteps := 4000000) [Fn.f_haulageref15_row, RZ, reP, tblP, valP, ft, ht, hal, he, hel, hK, u.key, p157, hxk, hF, u.rfind, p159, q1, q2, q2', ZP]
      · have q2' : ¬ (200 : Int) ≤ e3.length := by omega
        refine ⟨fun h => ?_, fun _ => ⟨rp', lp, hlp, hrp', fun m => ?_⟩⟩
        · exfalso
          rcases h with ⟨_, h⟩ | ⟨_, h⟩ | ⟨h, _⟩
          · exact h hno
          · exact q2 h
          · omega
        · refine denF_wp u.rowf rfl (args' := [.p (.agg [.vals 5 (ts.map tblP), .vals 2 (RZ es)]), .p (.int .i64 a), .p (.int .i64 1), .p (.vals 3 (x.map valP))]) rfl ?_
          simp only [RZ, reP] at hW
          rcases hzq with ⟨rfl, rfl⟩ | rfl
          · simp (maxSteps := 4000000) [Fn.f_haulageref15_row, RZ, reP, tblP, valP, ft, ht, hal, he, hel, hK, u.key, p157, hxk, hF, u.rfind, p159, q1, ZP, hP, u.put, p163, hW, u.with_, p161, hfr]
          · simp only [ZP] at hF hP
            simp (maxSteps := 4000000) [Fn.f_haulageref15_row, RZ, reP, tblP, valP, ft, ht, hal, he, hel, hK, u.key, p157, hxk, hF, u.rfind, p159, q1, q2, q2', ZP, hP, u.put, p163, hW, u.with_, p161, hfr]
  · by_cases q1 : 0 ≤ q
    · have hne : ¬ getR (keyN kk) e3 (y1, y2, y3) = none := fun h => (hth.2 h) q1
      refine ⟨fun h => ?_, fun _ => ⟨rp', lp, hlp, hrp', fun m => ?_⟩⟩
      · exfalso
        rcases h with ⟨h, _⟩ | ⟨h, _⟩ | ⟨_, h⟩
        · omega
        · omega
        · exact hne h
      · refine denF_wp u.rowf rfl (args' := [.p (.agg [.vals 5 (ts.map tblP), .vals 2 (RZ es)]), .p (.int .i64 a), .p (.int .i64 2), .p (.vals 3 (x.map valP))]) rfl ?_
        simp only [RZ, reP] at hW
        simp (maxSteps := 4000000) [Fn.f_haulageref15_row, RZ, reP, tblP, valP, ft, ht, hal, he, hel, hK, u.key, p157, hxk, hF, u.rfind, p159, q1, hP, u.put, p163, hW, u.with_, p161, hfr]
    · have hno := hth.1 q1
      refine ⟨fun _ => ⟨18, by decide, fun m => ?_⟩, fun h => absurd (.inr (.inr ⟨rfl, hno⟩)) h⟩
      refine denF_wp u.rowf rfl (args' := [.p (.agg [.vals 5 (ts.map tblP), .vals 2 (RZ es)]), .p (.int .i64 a), .p (.int .i64 2), .p (.vals 3 (x.map valP))]) rfl ?_
      simp (maxSteps := 4000000) [Fn.f_haulageref15_row, RZ, reP, tblP, valP, ft, ht, hal, he, hel, hK, u.key, p157, hxk, hF, u.rfind, p159, q1]
end Hx
