/-
  HxS15s: the rows of a table that changes, as the document says.
-/
import Derived.Test.YtfobhbameffplaaHxS15n
import Derived.Test.YtfobhbameffplaaHxS15p
import Derived.Test.YtfobhbameffplaaHxS15f
namespace Hx
open Go
set_option linter.unusedSimpArgs false
set_option linter.unusedVariables false
set_option maxHeartbeats 64000000
set_option maxRecDepth 20000
variable {E : Env}
attribute [-simp] List.getD_eq_getElem?_getD getElem?_pos
theorem p196 : Fn.f_haulageref09_made.pure = true := rfl
theorem p198 : Fn.f_haulageref09_Table.pure = true := rfl
theorem p197 : Fn.f_haulageref09_wrong.pure = true := rfl
structure AppInv (ts : List Tbl) (tp : PV) (d : Ddl) (sl : PV) (n : Nat) (m : Mem) (av : AV) : Prop where
  m0 : m[0]? = some (.cells [.p tp])
  m1 : m[1]? = some (.cells ((dV d sl).map .p))
  m2 : m[2]? = some (.cells [.p .nils])
  m3 : m[3]? = some (.cells [av])
  out : ∃ out : List Tbl, OutG 5 m (out.map tblP) av ∧ (∀ t' ∈ out, GoodT ts t') ∧ out.length ≤ n
theorem app_step {ts : List Tbl} {tp : PV} {d : Ddl} {sl : PV} {n : Nat} {m : Mem} {av : AV} (h : AppInv ts tp d sl n m av) {t' : Tbl} (hg : GoodT ts t') (hn : n ≤ 100000) :
    ∃ R tok m', appR 5 64 m av (.p (.vals 5 [tblP t'])) = some (.tv 5 R tok, m') ∧ m'[3]? = some (.cells [av]) ∧ m.length ≤ m'.length ∧ AppInv ts tp d sl (n + 1) (m'.set 3 (.cells [.tv 5 R tok])) (.tv 5 R tok) := by
  obtain ⟨m0, m1, m2, m3, out, ho, hgo, hlo⟩ := h
  obtain ⟨tok, m', h1, h2, h3, h4⟩ := appR_tv (b := 64) ho (tblP t') (by rw [List.length_map]; omega) (by rw [List.length_map]; omega)
  have g3 := h4 _ _ m3
  refine ⟨_, tok, m', h1, g3, h3, ?_, ?_, ?_, ?_, out ++ [t'], ?_, ?_, ?_⟩
  · rw [List.getElem?_set_ne (by decide)]; exact h4 _ _ m0
  · rw [List.getElem?_set_ne (by decide)]; exact h4 _ _ m1
  · rw [List.getElem?_set_ne (by decide)]; exact h4 _ _ m2
  · rw [List.getElem?_set_self (idx_lt g3)]
  · rw [List.map_append]
    exact out_set h2 g3 _
  · intro x hx
    rcases List.mem_append.1 hx with hx | hx
    · exact hgo x hx
    · rw [List.mem_singleton.1 hx]; exact hg
  · simp; omega
theorem AppInv.more {ts : List Tbl} {tp : PV} {d : Ddl} {sl : PV} {n n' : Nat} {m : Mem} {av : AV} (h : AppInv ts tp d sl n m av) (hn : n ≤ n') : AppInv ts tp d sl n' m av := by
  obtain ⟨m0, m1, m2, m3, out, ho, hgo, hlo⟩ := h
  exact ⟨m0, m1, m2, m3, out, ho, hgo, by omega⟩
theorem apply_loop0 (u : G15 E) {ts : List Tbl} {tp : PV} (htp : TabQ tp ts) (hc : CatR ts) (d : Ddl) {sl : PV} (id : Int) (j : Nat) (hk : 2000 ≤ j) {tm : Tbl} (hgm : GoodT ts tm) (hM : ∀ m, denF E (j + 1) 196 [.p (.agg (dV d sl)), .p (.int .i64 id)] m = some (.ret (.p (.agg (tblP tm))), m)) (st0 : St)
    (hst0 : Live Fn.f_haulageref09_Apply_k0 (Fn.f_haulageref09_Apply_s0 (.p (.int .i64 id)) (.ptr 0 0) (.ptr 1 0) (.ptr 2 0) (.ptr 3 0) (.p (.int .i64 0))) [.cells [.p tp], .cells ((dV d sl).map .p), .cells [.p .nils], .cells [.p .nils]] st0) :
    Wp (iter (loopF E (denF E (j + 1)) (j + 1) Fn.f_haulageref09_Apply_k0 Fn.f_haulageref09_Apply_b0) (j + 1) st0)
      (fun e st => e = .exit 0 ∧ st.ds = [] ∧ st.ts.length = 155 ∧ st.ts.getD 6 (.tup []) = .ptr 2 0 ∧ st.ts.getD 8 (.tup []) = .ptr 3 0 ∧ ∃ av, AppInv ts tp d sl 100 st.m av) := by
  have hl6 := hc.len
  refine loop_wp (α := Nat × Mem × AV) (I := fun s st => s.1 ≤ ts.length + 1 ∧ AppInv ts tp d sl (2 * s.1) s.2.1 s.2.2 ∧ Live Fn.f_haulageref09_Apply_k0 (Fn.f_haulageref09_Apply_s0 (.p (.int .i64 id)) (.ptr 0 0) (.ptr 1 0) (.ptr 2 0) (.ptr 3 0) (.p (.int .i64 s.1))) s.2.1 st) (meas := fun s => ts.length + 1 - s.1) ?_ (j + 1) (0, _, .p .nils) _ ⟨Nat.zero_le _, ⟨rfl, rfl, rfl, rfl, [], .inl ⟨rfl, rfl⟩, by simp, Nat.le_refl _⟩, hst0⟩ (by simp only [Nat.sub_zero]; omega)
  rintro ⟨i, m, av⟩ st ⟨hi, hinv, hlive⟩
  simp only at hi hinv hlive
  rw [loopF_live hlive]
  have hw : IntKind.i64.wrap ((i : Int) + 1) = ((i + 1 : Nat) : Int) := by rw [wrap_i64 (by omega) (by omega)]; omega
  have ⟨m0, m1, m2, m3, _⟩ := hinv
  obtain ⟨R1, tok1, mm1, ha1, g1, l1, hinv1⟩ := app_step hinv hgm (by omega)
  have ⟨n0, n1, n2, n3, _⟩ := hinv1
  have c3 := idx_lt g1
  have c0 : 0 < mm1.length := by omega
  have c1 : 1 < mm1.length := by omega
  have fm := hgm.1.ok.f.flat
  unfold PV.flat at fm
  have b0 := idx_lt m0
  have b1 := idx_lt m1
  have b3 := idx_lt m3
  simp only [dV, List.map_cons, List.map_nil] at m1 n1 hM
  simp only [tblP] at ha1 hM
  have fin1 := hinv1.more (n' := 2 * (i + 1)) (by omega)
  have fin0 := hinv.more (n' := 2 * (i + 1)) (by omega)
  rcases Nat.lt_trichotomy i ts.length with hlt | heq | hgt
  · have hlt' : (i : Int) < ts.length := by omega
    have hle' : (i : Int) ≤ ts.length := by omega
    have hne' : ((i : Int) == (ts.length : Int)) = false := by rw [beq_eq_false_iff_ne]; omega
    have hne : ¬ (i : Int) = ts.length := by omega
    have hneN : ¬ i = ts.length := by omega
    have hleN : i ≤ ts.length := by omega
    obtain ⟨t, ht⟩ : ∃ t, ts[i]? = some t := ⟨_, List.getElem?_eq_getElem hlt⟩
    have hgt := good_id hc (List.mem_of_getElem? ht)
    have ft := hgt.1.ok.f.flat
    unfold PV.flat at ft
    obtain ⟨R2, tok2, mm2, ha2, g2, l2, hinv2⟩ := app_step hinv hgt (by omega)
    obtain ⟨R3, tok3, mm3, ha3, g3, l3, hinv3⟩ := app_step hinv1 hgt (by omega)
    have fin2 := hinv2.more (n' := 2 * (i + 1)) (by omega)
    have fin3 := hinv3.more (n' := 2 * (i + 1)) (by omega)
    simp only [tblP] at ha2 ha3
    rcases htp with ⟨rfl, rfl⟩ | rfl
    · simp at hlt
    by_cases q1 : id < t.id
    · by_cases q2 : i = 0
      · have q2b : ((i : Int) == 0) = true := by simp [q2]
        simp (maxSteps := 4000000) [q2b, Fn.f_haulageref09_Apply_b0, Fn.f_haulageref09_Apply_s0, tblP, hlt, hlt', hle', hleN, hne', hne, hneN, ht, ft, hw, m0, m1, m3, n0, n3, b0, b1, b3, fm, c0, c1, c3, hM, u.made, p196, q1, ha1, g1, ha3, g3, -Int.natCast_add]
        exact ⟨i + 1, by omega, by omega, _, ⟨_, fin3⟩, rfl, rfl, rfl, rfl⟩
      · have q2b : ((i : Int) == 0) = false := by rw [beq_eq_false_iff_ne]; omega
        obtain ⟨x, hx⟩ : ∃ x, ts[i - 1]? = some x := ⟨_, List.getElem?_eq_getElem (by omega)⟩
        have hw1 : IntKind.i64.wrap ((i : Int) - 1) = ((i - 1 : Nat) : Int) := by rw [wrap_i64 (by omega) (by omega)]; omega
        have hl1 : i - 1 < ts.length := by omega
        by_cases q3 : x.id < id
        · simp (maxSteps := 4000000) [Fn.f_haulageref09_Apply_b0, Fn.f_haulageref09_Apply_s0, tblP, hlt, hlt', hle', hleN, hne', hne, hneN, ht, ft, hw, m0, m1, m3, n0, n3, b0, b1, b3, fm, c0, c1, c3, hM, u.made, p196, q1, q2, q2b, hx, hw1, hl1, q3, ha1, g1, ha3, g3, -Int.natCast_add]
          exact ⟨i + 1, by omega, by omega, _, ⟨_, fin3⟩, rfl, rfl, rfl, rfl⟩
        · simp (maxSteps := 4000000) [Fn.f_haulageref09_Apply_b0, Fn.f_haulageref09_Apply_s0, tblP, hlt, hlt', hle', hleN, hne', hne, hneN, ht, ft, hw, m0, m1, m3, n0, n3, b0, b1, b3, fm, c0, c1, c3, hM, u.made, p196, q1, q2, q2b, hx, hw1, hl1, q3, ha2, g2, -Int.natCast_add]
          exact ⟨i + 1, by omega, by omega, _, ⟨_, fin2⟩, rfl, rfl, rfl, rfl⟩
    · simp (maxSteps := 4000000) [Fn.f_haulageref09_Apply_b0, Fn.f_haulageref09_Apply_s0, tblP, hlt, hlt', hle', hleN, hne', hne, hneN, ht, ft, hw, m0, m1, m3, n0, n3, b0, b1, b3, fm, c0, c1, c3, hM, u.made, p196, q1, ha2, g2, -Int.natCast_add]
      exact ⟨i + 1, by omega, by omega, _, ⟨_, fin2⟩, rfl, rfl, rfl, rfl⟩
  · subst heq
    by_cases q2 : ts.length = 0
    · have q2b : ((ts.length : Int) == 0) = true := by simp [q2]
      have e0 : ts = [] := List.length_eq_zero_iff.1 q2
      subst e0
      rcases htp with ⟨_, rfl⟩ | rfl
      all_goals
        simp (maxSteps := 4000000) [Fn.f_haulageref09_Apply_b0, Fn.f_haulageref09_Apply_s0, tblP, hw, m0, m1, m3, n0, n3, b0, b1, b3, fm, c0, c1, c3, hM, u.made, p196, ha1, g1, -Int.natCast_add]
        exact ⟨0 + 1, by omega, by omega, _, ⟨_, fin1⟩, rfl, rfl, rfl, rfl⟩
    · rcases htp with ⟨rfl, rfl⟩ | rfl
      · exact absurd rfl q2
      have q2b : ((ts.length : Int) == 0) = false := by rw [beq_eq_false_iff_ne]; omega
      have q2c : ¬ ts = [] := fun h => q2 (by rw [h]; rfl)
      obtain ⟨x, hx⟩ : ∃ x, ts[ts.length - 1]? = some x := ⟨_, List.getElem?_eq_getElem (by omega)⟩
      have hw1 : IntKind.i64.wrap ((ts.length : Int) - 1) = ((ts.length - 1 : Nat) : Int) := by rw [wrap_i64 (by omega) (by omega)]; omega
      have hl1 : ts.length - 1 < ts.length := by omega
      by_cases q3 : x.id < id
      · simp (maxSteps := 4000000) [Fn.f_haulageref09_Apply_b0, Fn.f_haulageref09_Apply_s0, tblP, hw, m0, m1, m3, n0, n3, b0, b1, b3, fm, c0, c1, c3, hM, u.made, p196, q2, q2b, q2c, hx, hw1, hl1, q3, ha1, g1, -Int.natCast_add]
        exact ⟨ts.length + 1, by omega, by omega, _, ⟨_, fin1⟩, rfl, rfl, rfl, rfl⟩
      · simp (maxSteps := 4000000) [Fn.f_haulageref09_Apply_b0, Fn.f_haulageref09_Apply_s0, tblP, hw, m0, m1, m3, n0, n3, b0, b1, b3, fm, c0, c1, c3, hM, u.made, p196, q2, q2b, q2c, hx, hw1, hl1, q3, -Int.natCast_add]
        exact ⟨ts.length + 1, by omega, by omega, _, ⟨_, fin0⟩, rfl, rfl, rfl, rfl⟩
  · have hgt' : ¬ (i : Int) ≤ ts.length := by omega
    have hgtN : ¬ i ≤ ts.length := by omega
    have fin2 := hinv.more (n' := 100) (by omega)
    rcases htp with ⟨rfl, rfl⟩ | rfl
    · have hgt2 : ¬ (i : Int) ≤ 0 := by simpa using hgt'
      have hgt3 : ¬ i ≤ 0 := by simpa using hgtN
      have hgt4 : ¬ i = 0 := by omega
      simp (maxSteps := 4000000) [Fn.f_haulageref09_Apply_b0, Fn.f_haulageref09_Apply_s0, m0, b0, hgt2, hgt3, hgt4]
      exact ⟨av, fin2⟩
    · simp (maxSteps := 4000000) [Fn.f_haulageref09_Apply_b0, Fn.f_haulageref09_Apply_s0, m0, b0, hgt', hgtN]
      exact ⟨av, fin2⟩
end Hx

namespace Hx
open Go
set_option linter.unusedSimpArgs false
set_option linter.unusedVariables false
set_option maxHeartbeats 64000000
set_option maxRecDepth 20000
variable {E : Env}
attribute [-simp] List.getD_eq_getElem?_getD getElem?_pos
theorem apply_loop1 (u : G15 E) {ts : List Tbl} {tp : PV} (htp : TabQ tp ts) (hc : CatR ts) (d : Ddl) {sl : PV} (k : Nat) (j : Nat) (hk : 2000 ≤ j) {tm t0 : Tbl} (ht0 : ts[k]? = some t0) (hgm : d.op ≠ 2 → GoodT ts tm) (hM : d.op ≠ 2 → ∀ m, denF E (j + 1) 198 [.p (.agg (tblP t0)), .p (.agg (dV d sl))] m = some (.ret (.p (.agg (tblP tm))), m)) (st0 : St)
    (hst0 : Live Fn.f_haulageref09_Apply_k1 (Fn.f_haulageref09_Apply_s1 (.ptr 0 0) (.ptr 1 0) (.ptr 2 0) (.ptr 3 0) (.p (.int .i64 k)) (.p (.int .i64 0))) [.cells [.p tp], .cells ((dV d sl).map .p), .cells [.p .nils], .cells [.p .nils]] st0) :
    Wp (iter (loopF E (denF E (j + 1)) (j + 1) Fn.f_haulageref09_Apply_k1 Fn.f_haulageref09_Apply_b1) (j + 1) st0)
      (fun e st => e = .exit 2 ∧ st.ds = [] ∧ st.ts.length = 155 ∧ st.ts.getD 6 (.tup []) = .ptr 2 0 ∧ st.ts.getD 8 (.tup []) = .ptr 3 0 ∧ ∃ av, AppInv ts tp d sl 100 st.m av) := by
  have hl6 := hc.len
  refine loop_wp (α := Nat × Mem × AV) (I := fun s st => s.1 ≤ ts.length ∧ AppInv ts tp d sl (2 * s.1) s.2.1 s.2.2 ∧ Live Fn.f_haulageref09_Apply_k1 (Fn.f_haulageref09_Apply_s1 (.ptr 0 0) (.ptr 1 0) (.ptr 2 0) (.ptr 3 0) (.p (.int .i64 k)) (.p (.int .i64 s.1))) s.2.1 st) (meas := fun s => ts.length - s.1) ?_ (j + 1) (0, _, .p .nils) _ ⟨Nat.zero_le _, ⟨rfl, rfl, rfl, rfl, [], .inl ⟨rfl, rfl⟩, by simp, Nat.le_refl _⟩, hst0⟩ (by simp only [Nat.sub_zero]; omega)
  rintro ⟨i, m, av⟩ st ⟨hi, hinv, hlive⟩
  simp only at hi hinv hlive
  rw [loopF_live hlive]
  have hw : IntKind.i64.wrap ((i : Int) + 1) = ((i + 1 : Nat) : Int) := by rw [wrap_i64 (by omega) (by omega)]; omega
  have ⟨m0, m1, m2, m3, _⟩ := hinv
  have b0 := idx_lt m0
  have b1 := idx_lt m1
  have b3 := idx_lt m3
  simp only [dV, List.map_cons, List.map_nil] at m1 hM
  simp only [tblP] at hM
  have fin0 := hinv.more (n' := 2 * (i + 1)) (by omega)
  by_cases hlt : i < ts.length
  · have hlt' : (i : Int) < ts.length := by omega
    obtain ⟨t, ht⟩ : ∃ t, ts[i]? = some t := ⟨_, List.getElem?_eq_getElem hlt⟩
    have hgt := good_id hc (List.mem_of_getElem? ht)
    have ft := hgt.1.ok.f.flat
    unfold PV.flat at ft
    rcases htp with ⟨rfl, rfl⟩ | rfl
    · simp at hlt
    by_cases q1 : i = k
    · subst q1
      rw [ht] at ht0
      obtain rfl := Option.some.inj ht0
      by_cases q2 : d.op = 2
      · simp (maxSteps := 4000000) [Fn.f_haulageref09_Apply_b1, Fn.f_haulageref09_Apply_s1, tblP, hlt, hlt', ht, hw, m0, m1, m3, b0, b1, b3, q2, ft, bne, -Int.natCast_add]
        exact ⟨i + 1, by omega, by omega, _, ⟨_, fin0⟩, rfl, rfl, rfl, rfl⟩
      · have q2b : (d.op == 2) = false := by simpa using q2
        obtain ⟨R1, tok1, mm1, ha1, g1, l1, hinv1⟩ := app_step hinv (hgm q2) (by omega)
        have fin1 := hinv1.more (n' := 2 * (i + 1)) (by omega)
        have hM := hM q2
        have fm := (hgm q2).1.ok.f.flat
        unfold PV.flat at fm
        simp only [tblP] at ha1
        simp (maxSteps := 4000000) [Fn.f_haulageref09_Apply_b1, Fn.f_haulageref09_Apply_s1, tblP, hlt, hlt', ht, hw, m0, m1, m3, b0, b1, b3, q2, q2b, fm, ft, bne, hM, u.tab9, p198, ha1, g1, -Int.natCast_add]
        exact ⟨i + 1, by omega, by omega, _, ⟨_, fin1⟩, rfl, rfl, rfl, rfl⟩
    · have q1b : ((i : Int) == (k : Int)) = false := by rw [beq_eq_false_iff_ne]; omega
      have q1c : ¬ (i : Int) = (k : Int) := by omega
      obtain ⟨R2, tok2, mm2, ha2, g2, l2, hinv2⟩ := app_step hinv hgt (by omega)
      have fin2 := hinv2.more (n' := 2 * (i + 1)) (by omega)
      simp only [tblP] at ha2
      simp (maxSteps := 4000000) [Fn.f_haulageref09_Apply_b1, Fn.f_haulageref09_Apply_s1, tblP, hlt, hlt', ht, hw, m0, m1, m3, b0, b1, b3, q1, q1b, q1c, ft, bne, ha2, g2, -Int.natCast_add]
      exact ⟨i + 1, by omega, by omega, _, ⟨_, fin2⟩, rfl, rfl, rfl, rfl⟩
  · have hgt' : ¬ (i : Int) < ts.length := by omega
    have fin2 := hinv.more (n' := 100) (by omega)
    rcases htp with ⟨rfl, rfl⟩ | rfl
    · obtain rfl : i = 0 := by simpa using hi
      simp (maxSteps := 4000000) [Fn.f_haulageref09_Apply_b1, Fn.f_haulageref09_Apply_s1, m0, b0]
      exact ⟨av, fin2⟩
    · simp (maxSteps := 4000000) [Fn.f_haulageref09_Apply_b1, Fn.f_haulageref09_Apply_s1, m0, b0, hlt, hgt']
      exact ⟨av, fin2⟩
end Hx

namespace Hx
open Go
set_option linter.unusedSimpArgs false
set_option linter.unusedVariables false
set_option maxHeartbeats 64000000
set_option maxRecDepth 20000
variable {E : Env}
attribute [-simp] List.getD_eq_getElem?_getD getElem?_pos
theorem OutG.stripT {m : Mem} {z : List Tbl} {av : AV} (h : OutG 5 m (z.map tblP) av) : ∃ o, stripV av = some (.p o) ∧ TabQ o z := by
  rcases h with ⟨h1, rfl⟩ | ⟨tok, rfl, _⟩
  · refine ⟨.nils, by simp, .inl ⟨by simpa using h1, rfl⟩⟩
  · exact ⟨.vals 5 (z.map tblP), by simp, .inr rfl⟩
def ApOk (ts : List Tbl) (e : Int) (tp' : PV) : Prop := tp'.flat = true ∧ (e = 0 → ∃ ts', TabQ tp' ts' ∧ ts'.length ≤ 100 ∧ ∀ t' ∈ ts', GoodT ts t')
theorem ref_Apply9 (u : G15 E) (pl : P15 E) {tp : PV} {ts : List Tbl} (htp : TabQ tp ts) (hok : TabsOk ts) (htl : ts.length ≤ 1000) (d : Ddl) {sl : PV} {rows : List (Int × Col)} (hsl : SlQ sl rows) (hrl : rows.length ≤ 1000) (hri : ∀ c ∈ rows, isI64 c.2.dn) (hd : isI64 d.dn) (id : Int) (n : Nat) (hk : 4000 ≤ n) :
    ∃ (e : Int) (tp' : PV), ApOk ts e tp' ∧ ∀ m, denF E (n + 1) 179 [.p (.agg [tp]), .p (.agg (dV d sl)), .p (.int .i64 id)] m = some (.ret (.tup [.p (.agg [tp']), .p (.int .i64 e)]), m) := by
  obtain ⟨j, rfl⟩ : ∃ j, n = j + 1 := ⟨n - 1, by omega⟩
  have f0 := htp.flat
  have f2 := hsl.flat
  unfold PV.flat at f0 f2
  have hx : ∃ v, (∃ (e : Int) (tp' : PV), v = .tup [.p (.agg [tp']), .p (.int .i64 e)] ∧ ApOk ts e tp') ∧ ∀ m, denF E (j + 1 + 1) 179 [.p (.agg [tp]), .p (.agg (dV d sl)), .p (.int .i64 id)] m = some (.ret v, m) := by
    refine denF_ex u.apply9 rfl (args' := [.p (.agg [tp]), .p (.agg (dV d sl)), .p (.int .i64 id)]) rfl ?_
    have bad : ∀ x : Int, x ≠ 0 → ApOk ts x .nils := fun x hx => ⟨rfl, fun h => absurd h hx⟩
    have hR := fun m => ref_CRight u.toB15 htp hok j (by omega) m
    obtain ⟨bp, hPl⟩ := ref_PlainD pl d hsl (by omega) j (by omega)
    cases q1 : catB ts with
    | false =>
      rw [q1] at hR
      simp (maxSteps := 4000000) [Fn.f_haulageref09_Apply, dV, f0, f2, hR]
      exact ⟨_, _, ⟨rfl, rfl⟩, bad 2 (by decide)⟩
    | true =>
    rw [q1] at hR
    have hc := catR_of hok q1
    simp only [dV] at hPl
    cases bp with
    | false =>
      simp (maxSteps := 4000000) [Fn.f_haulageref09_Apply, dV, f0, f2, hR, hPl]
      exact ⟨_, _, ⟨rfl, rfl⟩, bad 2 (by decide)⟩
    | true =>
    by_cases q2 : id < 0
    · simp (maxSteps := 4000000) [Fn.f_haulageref09_Apply, dV, f0, f2, hR, hPl, q2]
      exact ⟨_, _, ⟨rfl, rfl⟩, bad 2 (by decide)⟩
    have last : ∀ (ts' : List AV) (m' : Mem) (av : AV), AppInv ts tp d sl 100 m' av → ∃ o, stripV av = some (.p o) ∧ (av = .p .nils ∨ ∃ R tok, av = .tv 5 R tok) ∧ ApOk ts 0 o := by
      intro ts' m' av hinv
      obtain ⟨m0, m1, m2, m3, out, ho, hgo, hlo⟩ := hinv
      obtain ⟨o, p1, p2⟩ := ho.stripT
      refine ⟨o, p1, ?_, p2.flat, fun _ => ⟨out, p2, hlo, hgo⟩⟩
      rcases ho with ⟨_, h⟩ | ⟨tok, h, _⟩
      · exact .inl h
      · exact .inr ⟨_, tok, h⟩
    by_cases o1 : d.op = 1
    · obtain ⟨e, he, hC⟩ := ref_create u htp (by omega) d hsl hrl hri id j (by omega)
      simp only [dV] at hC
      rw [o1] at hPl hC
      by_cases q3 : e = 0
      · subst q3
        have hcr := he rfl
        obtain ⟨tm, htm, hM⟩ := ref_made u d hsl hcr.ne hrl id j (by omega)
        have hl := fun st0 hs => apply_loop0 u htp hc d id j (by omega) (good_made hcr hri htm) hM st0 hs
        simp only [dV, List.map_cons, List.map_nil, o1] at hl
        simp (maxSteps := 4000000) [Fn.f_haulageref09_Apply, dV, f0, f2, hR, hPl, q2, o1, hC]
        refine (hl _ ⟨rfl, rfl, rfl, rfl⟩).mono ?_
        rintro e st ⟨rfl, hds, hlen, e6, e8, av, hinv⟩
        obtain ⟨ts', m', ds⟩ := st
        simp only at hds hlen e6 e8 hinv
        subst hds
        have hx := expand_ts 155 ts' hlen
        simp only [List.range, List.range.loop, List.map_cons, List.map_nil] at hx
        rw [e6, e8] at hx
        rw [hx]
        obtain ⟨o, p1, p2, p3⟩ := last ts' m' av hinv
        have m2 := hinv.m2
        have m3 := hinv.m3
        have l2 := idx_lt m2
        rcases p2 with rfl | ⟨R, tok, rfl⟩
        all_goals
          simp at p1
          subst p1
          simp (maxSteps := 4000000) [m2, m3, l2]
          exact ⟨_, _, ⟨rfl, rfl⟩, p3⟩
      · have q3b : (e == 0) = false := by simpa using q3
        simp (maxSteps := 4000000) [Fn.f_haulageref09_Apply, dV, f0, f2, hR, hPl, q2, o1, hC, q3, q3b, bne]
        exact ⟨_, _, ⟨rfl, rfl⟩, bad e q3⟩
    have b1 : (d.op == 1) = false := by simpa using o1
    have hF := fun m => ref_Find u.find htp d.table (by omega) j (by omega) m
    rcases posI_cases (fun t : Tbl => t.name == d.table) ts 0 with ⟨q, _⟩ | ⟨k, t0, q, ht0, _⟩
    · have q : tabAt ts d.table = -1 := q
      rw [q] at hF
      simp (maxSteps := 4000000) [Fn.f_haulageref09_Apply, dV, f0, f2, hR, hPl, q2, o1, b1, hF]
      exact ⟨_, _, ⟨rfl, rfl⟩, bad 12 (by decide)⟩
    have q : tabAt ts d.table = (k : Int) := by unfold tabAt; rw [q]; simp
    rw [q] at hF
    have hk0 : ¬ (k : Int) < 0 := by omega
    have hkl := (List.getElem?_eq_some_iff.1 ht0).1
    have hr := hc.r t0 (List.mem_of_getElem? ht0)
    have ft := hr.g.ok.f.flat
    unfold PV.flat at ft
    obtain ⟨e, he, hW⟩ := ref_wrong9 u htp (by omega) hr.g.ok.f hr.g.len d hsl.flat hd j (by omega)
    simp only [dV, tblP] at hW
    by_cases q3 : e = 0
    · subst q3
      have hmay : MayBe t0 d := he rfl
      have hlp : ∃ tm, (d.op ≠ 2 → GoodT ts tm) ∧ (d.op ≠ 2 → ∀ m, denF E (j + 1) 198 [.p (.agg (tblP t0)), .p (.agg (dV d sl))] m = some (.ret (.p (.agg (tblP tm))), m)) := by
        obtain ⟨tm, h1, h2⟩ := ref_Table9 u hr.g.ok.f hr.g.len (fun c hcm => ⟨hr.g.df c hcm, hr.g.ok.i c hcm⟩) d hsl.flat (fun h7 c hcm hn => (may_col hr hmay (by omega) hcm hn).2.1 h7) j (by omega)
        exact ⟨tm, fun _ => good_tab9 hc (List.mem_of_getElem? ht0) hd hmay h1, fun _ => h2⟩
      obtain ⟨tm, hg, hM⟩ := hlp
      have hl := fun st0 hs => apply_loop1 u htp hc d k j (by omega) ht0 hg hM st0 hs
      simp only [dV, List.map_cons, List.map_nil] at hl
      rcases htp with ⟨rfl, rfl⟩ | rfl
      · simp at hkl
      simp (maxSteps := 4000000) [Fn.f_haulageref09_Apply, dV, tblP, f0, f2, ft, hR, hPl, q2, o1, b1, hF, hk0, ht0, hkl, hW, u.wrong, p197]
      refine (hl _ ⟨rfl, rfl, rfl, rfl⟩).mono ?_
      rintro e st ⟨rfl, hds, hlen, e6, e8, av, hinv⟩
      obtain ⟨ts', m', ds⟩ := st
      simp only at hds hlen e6 e8 hinv
      subst hds
      have hx := expand_ts 155 ts' hlen
      simp only [List.range, List.range.loop, List.map_cons, List.map_nil] at hx
      rw [e6, e8] at hx
      rw [hx]
      obtain ⟨o, p1, p2, p3⟩ := last ts' m' av hinv
      have m2 := hinv.m2
      have m3 := hinv.m3
      have l2 := idx_lt m2
      rcases p2 with rfl | ⟨R, tok, rfl⟩
      all_goals
        simp at p1
        subst p1
        simp (maxSteps := 4000000) [m2, m3, l2]
        exact ⟨_, _, ⟨rfl, rfl⟩, p3⟩
    · have q3b : (e == 0) = false := by simpa using q3
      rcases htp with ⟨rfl, rfl⟩ | rfl
      · simp at hkl
      simp (maxSteps := 4000000) [Fn.f_haulageref09_Apply, dV, tblP, f0, f2, ft, hR, hPl, q2, o1, b1, hF, hk0, ht0, hkl, hW, u.wrong, p197, q3, q3b, bne]
      exact ⟨_, _, ⟨rfl, rfl⟩, bad e q3⟩
  obtain ⟨v, ⟨e, tp', rfl, h⟩, hrun⟩ := hx
  exact ⟨e, tp', h, hrun⟩
end Hx

namespace Hx
open Go
set_option linter.unusedSimpArgs false
set_option linter.unusedVariables false
set_option maxHeartbeats 64000000
set_option maxRecDepth 20000
variable {E : Env}
attribute [-simp] List.getD_eq_getElem?_getD getElem?_pos
theorem moveC_ok {f t : Tbl} (hmv : MvOk f t) {r : Row} (hr : RowFit f r) {c : Int × Col} (hc : c ∈ t.cols) : okW c.2.kind c.2.max (moveC f r c) = true ∧ isI64 (moveC f r c).2.1 := by
  obtain ⟨w1, w2, w3⟩ := hmv c hc
  rcases placeAt_vals f c.1 with q | ⟨k, q, hk⟩
  · have hx : moveC f r c = dflt c := by unfold moveC; rw [q]; rfl
    rw [hx]; exact ⟨w1, w2⟩
  · obtain ⟨c0, hc0, hwd⟩ := w3 k q
    obtain ⟨v, hv⟩ : ∃ v, r[k]? = some v := ⟨_, List.getElem?_eq_getElem (by rw [hr.len]; exact hk)⟩
    obtain ⟨v1, v2⟩ := hr.ok k c0 v hc0 hv
    obtain ⟨-, h2, h3⟩ := cast_wide v2 hwd v1
    have hx : moveC f r c = castW v c.2.kind := by
      unfold moveC
      rw [q, if_pos (by omega), Int.toNat_natCast, List.getD_eq_getElem?_getD, hv]; rfl
    rw [hx]; exact ⟨h2, h3⟩
theorem moveR_fit {f t : Tbl} (hmv : MvOk f t) {r : Row} (hr : RowFit f r) : RowFit t (moveR f t r) where
  len := by simp [moveR]
  ok := by
    intro i c v hc hv
    unfold moveR at hv
    rw [List.getElem?_map, hc] at hv
    cases hv
    exact moveC_ok hmv hr (List.mem_of_getElem? hc)
theorem fit_key {t : Tbl} {r : Row} (h : RowFit t r) {k : Nat} (hk : k < t.cols.length) : KeyOk k r := by
  have hl : k < r.length := by rw [h.len]; exact hk
  refine ⟨hl, ?_⟩
  obtain ⟨c, hc⟩ : ∃ c, t.cols[k]? = some c := ⟨_, List.getElem?_eq_getElem hk⟩
  have := okW_right (h.ok k c _ hc (row_key hl)).1
  omega
def movedZ (f t : Tbl) (k : Nat) (z : List Row) : List Row := z.foldl (fun out r => putZ k (moveR f t r) out) []
theorem movedZ_step {f t : Tbl} {k : Nat} {z : List Row} {i : Nat} {r : Row} (h : z[i]? = some r) : movedZ f t k (z.take (i + 1)) = putZ k (moveR f t r) (movedZ f t k (z.take i)) := by
  unfold movedZ
  rw [take_step h, List.foldl_append]; rfl
theorem movedZ_len (f t : Tbl) (k : Nat) (z : List Row) : (movedZ f t k z).length ≤ z.length := by
  have : ∀ (z out : List Row), (z.foldl (fun out r => putZ k (moveR f t r) out) out).length ≤ out.length + z.length := by
    intro z
    induction z with
    | nil => intro out; simp
    | cons r z ih =>
      intro out
      simp only [List.foldl_cons, List.length_cons]
      have h1 := ih (putZ k (moveR f t r) out)
      have h2 := len_put (lt := ltV) (k := keyN k) (moveR f t r) out
      unfold putZ at h1 ⊢
      omega
  have h := this z []
  simpa [movedZ] using h
theorem movedZ_mem {f t : Tbl} {k : Nat} {z : List Row} (hmv : MvOk f t) (hr : ∀ r ∈ z, RowFit f r) : ∀ e ∈ movedZ f t k z, RowFit t e := by
  have : ∀ (z out : List Row), (∀ r ∈ z, RowFit f r) → (∀ e ∈ out, RowFit t e) → ∀ e ∈ z.foldl (fun out r => putZ k (moveR f t r) out) out, RowFit t e := by
    intro z
    induction z with
    | nil => intro out _ h; exact h
    | cons r z ih =>
      intro out hz ho
      refine ih _ (fun x hx => hz x (by simp [hx])) ?_
      intro e he
      rcases mem_put he with rfl | he
      · exact moveR_fit hmv (hz r (by simp))
      · exact ho e he
  exact this z [] hr (by simp)
theorem ref_moved (u : D15 E) {f t : Tbl} (hf : TblOk f) (hfl : f.cols.length ≤ 20) (ht : TblG t) (hmv : MvOk f t) {k : Nat} (hkey : keyAt t = (k : Int)) (hkl : k < t.cols.length) {p : PV} {z : List Row} (hz : ListQ p z) (hr : ∀ r ∈ z, RowFit f r) (hn : (z.length : Int) ≤ 1000) (n : Nat) (hfu : 3001 ≤ n) :
    ∃ o, ListQ o (movedZ f t k z) ∧ ∀ m, denF E (n + 1) 181 [.p (.agg (tblP f)), .p (.agg (tblP t)), .p p] m = some (.ret (.p o), m) := by
  obtain ⟨j, rfl⟩ : ∃ j, n = j + 1 := ⟨n - 1, by omega⟩
  have f1 := hf.f.flat
  have f2 := ht.ok.f.flat
  unfold PV.flat at f1 f2
  have zq := hz
  have hmain : ∀ st, Live Fn.f_haulageref15_moved_k0 (Fn.f_haulageref15_moved_s0 (.p p) (.ptr 0 0) (.ptr 1 0) (.p .nils) (.p (.int .i64 0))) [.cells ((tblP f).map .p), .cells ((tblP t).map .p)] st →
      Wp (iter (loopF E (denF E (j + 1)) (j + 1) Fn.f_haulageref15_moved_k0 Fn.f_haulageref15_moved_b0) (j + 1) st)
      (fun e st => e = .exit 0 ∧ st.ds = [] ∧ st.ts.length = 32 ∧ ∃ o, st.ts.getD 7 (.tup []) = .p o ∧ ListQ o (movedZ f t k z)) := by
    intro st0 hst0
    refine loop_wp (α := Nat × PV) (I := fun s st => s.1 ≤ z.length ∧ ListQ s.2 (movedZ f t k (z.take s.1)) ∧ Live Fn.f_haulageref15_moved_k0 (Fn.f_haulageref15_moved_s0 (.p p) (.ptr 0 0) (.ptr 1 0) (.p s.2) (.p (.int .i64 s.1))) [.cells ((tblP f).map .p), .cells ((tblP t).map .p)] st) (meas := fun s => z.length - s.1) ?_ (j + 1) (0, .nils) _ ⟨Nat.zero_le _, .inl ⟨rfl, rfl⟩, hst0⟩ (by simp only [Nat.sub_zero]; omega)
    rintro ⟨i, q⟩ st ⟨hi, hq, hlive⟩
    simp only at hi hq hlive
    rw [loopF_live hlive]
    by_cases hlt : i < z.length
    · have hlt' : (i : Int) < z.length := by omega
      obtain ⟨r, he⟩ : ∃ r, z[i]? = some r := ⟨_, List.getElem?_eq_getElem hlt⟩
      have hrf := hr r (List.mem_of_getElem? he)
      have hw : IntKind.i64.wrap ((i : Int) + 1) = ((i + 1 : Nat) : Int) := by rw [wrap_i64 (by omega) (by omega)]; omega
      have hM := fun m => ref_Move u hf.f ht.ok.f hfl ht.len ht.ne hmv hrf j (by omega) m
      have hlz : (z.take i).length ≤ 1000 := by rw [List.length_take]; omega
      have hml := movedZ_len f t k (z.take i)
      obtain ⟨o, ho, hP⟩ := ref_put u.toC15 ht.ok hkey ht.len hq (fun e hem => fit_key (movedZ_mem hmv (fun x hx => hr x (List.mem_of_mem_take hx)) e hem) hkl) (fit_key (moveR_fit hmv hrf) hkl) (by omega) j (by omega)
      rw [← movedZ_step he] at ho
      generalize moveR f t r = w at hM hP
      simp only [tblP] at hM hP
      have fq : q.flat = true := hq.flat
      rcases zq with ⟨rfl, rfl⟩ | rfl
      · simp at hlt
      simp (maxSteps := 4000000) [Fn.f_haulageref15_moved_b0, Fn.f_haulageref15_moved_s0, ZP, rowP, tblP, f1, f2, hlt, hlt', he, hM, u.move, p199, hP, u.put, hw, -Int.natCast_add]
      exact ⟨i + 1, by omega, hlt, _, ho, rfl, rfl, rfl, rfl⟩
    · have hlt' : ¬ (i : Int) < z.length := by omega
      rw [List.take_of_length_le (by omega)] at hq
      rcases zq with ⟨rfl, rfl⟩ | rfl
      · obtain rfl : i = 0 := by simpa using hi
        simp (maxSteps := 4000000) [Fn.f_haulageref15_moved_b0, Fn.f_haulageref15_moved_s0]
        exact hq
      · simp (maxSteps := 4000000) [Fn.f_haulageref15_moved_b0, Fn.f_haulageref15_moved_s0, ZP, hlt']
        exact hq
  have hx : ∃ v, (∃ o, v = .p o ∧ ListQ o (movedZ f t k z)) ∧ ∀ m, denF E (j + 1 + 1) 181 [.p (.agg (tblP f)), .p (.agg (tblP t)), .p p] m = some (.ret v, m) := by
    refine denF_ex u.moved rfl (args' := [.p (.agg (tblP f)), .p (.agg (tblP t)), .p p]) (by rcases hz with ⟨_, rfl⟩ | rfl <;> rfl) ?_
    simp (maxSteps := 4000000) [Fn.f_haulageref15_moved, tblP, f1, f2]
    refine (hmain _ ⟨rfl, rfl, rfl, rfl⟩).mono ?_
    rintro e st ⟨rfl, hds, hlen, o, h7, ho⟩
    obtain ⟨ts', m', ds⟩ := st
    simp only at hds hlen h7
    subst hds
    have hx := expand_ts 32 ts' hlen
    simp only [List.range, List.range.loop, List.map_cons, List.map_nil] at hx
    rw [h7] at hx
    rw [hx]
    rcases ho with ⟨e0, rfl⟩ | rfl
    · simp
      exact .inl ⟨e0, rfl⟩
    · simp
      exact .inr rfl
  obtain ⟨v, ⟨o, rfl, ho⟩, hrun⟩ := hx
  exact ⟨o, ho, hrun⟩
end Hx
