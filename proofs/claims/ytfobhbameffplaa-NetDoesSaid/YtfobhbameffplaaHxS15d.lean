/-
  HxS15d: lists of rows as values; a row is found, put, cut, as the document says.
-/
import Derived.Test.YtfobhbameffplaaHxS15b
namespace Hx
open Go
set_option linter.unusedSimpArgs false
set_option linter.unusedVariables false
set_option maxHeartbeats 64000000
set_option maxRecDepth 20000
variable {E : Env}
attribute [-simp] List.getD_eq_getElem?_getD getElem?_pos
def tabFact (ts : List Tbl) (i : Nat) : Bool := match ts[i]? with
  | none => true
  | some t => tableB t && ((i == 0 || (match ts[i - 1]? with | some d => decide (d.id < t.id) | none => true)) && tabAt ts t.name == i)
def catB (ts : List Tbl) : Bool := decide (ts.length ≤ 6) && (List.range ts.length).all (tabFact ts)
def TabsOk (ts : List Tbl) : Prop := ∀ t ∈ ts, TblOk t
theorem p172 : Fn.f_haulageref08_Table.pure = true := rfl
theorem p154 : Fn.f_haulageref08_Find.pure = true := rfl
def CatInv (tp : PV) (ts : List Tbl) (i : Nat) (m : Mem) : Prop := m[0]? = some (.cells [.p tp]) ∧ (∀ j, j < i → tabFact ts j = true)
theorem ref_CRight (u : B15 E) {tp : PV} {ts : List Tbl} (ht : TabQ tp ts) (hok : TabsOk ts) (k : Nat) (hk : 700 ≤ k) (m : Mem) :
    denF E (k + 1) 140 [.p (.agg [tp])] m = some (.ret (.p (.bool (catB ts))), m) := by
  obtain ⟨j, rfl⟩ : ∃ j, k = j + 1 := ⟨k - 1, by omega⟩
  have f1 := ht.flat
  unfold PV.flat at f1
  unfold catB
  by_cases h4 : ts.length ≤ 6
  · have h4' : ¬ (6 : Int) < ts.length := by omega
    have hK := fun n m => ref_Find u.find ht n (by omega) j (by omega) m
    have hmain : Wp (iter (loopF E (denF E (j + 1)) (j + 1) Fn.f_haulageref08_Right_k0 Fn.f_haulageref08_Right_b0) (j + 1) ⟨[.p (.agg [tp]), .ptr 0 0, .p (.bool false), .p (.int .i64 0), .tup [], .ptr 0 0, .p tp, .p (.int .i64 ts.length), .p (.bool false)] ++ List.replicate 39 (.tup []), [.cells [.p tp]], []⟩)
        (fun e st => st.ds = [] ∧ st.ts.length = 48 ∧ ((e = .exit 0 ∧ (List.range ts.length).all (tabFact ts) = true) ∨ (e = .ret ∧ (List.range ts.length).all (tabFact ts) = false ∧ st.ts.getD 2 (.tup []) = .p (.bool false)))) := by
      refine loop_wp (α := Nat × Mem) (I := fun a st => a.1 ≤ ts.length ∧ CatInv tp ts a.1 a.2 ∧ Live Fn.f_haulageref08_Right_k0 (Fn.f_haulageref08_Right_s0 (.ptr 0 0) (.p (.int .i64 a.1))) a.2 st) (meas := fun a => ts.length - a.1) ?_ (j + 1) (0, [.cells [.p tp]]) _ ⟨Nat.zero_le _, ⟨rfl, by simp⟩, rfl, rfl, rfl, rfl⟩ (by simp only [Nat.sub_zero]; omega)
      rintro ⟨i, m⟩ st ⟨hi, ⟨hm, hfact⟩, hlive⟩
      simp only at hi hm hfact hlive
      rw [loopF_live hlive]
      by_cases hlt : i < ts.length
      · have hlt' : (i : Int) < ts.length := by omega
        obtain ⟨c, hc⟩ : ∃ c, ts[i]? = some c := ⟨_, List.getElem?_eq_getElem hlt⟩
        have hw : IntKind.i64.wrap ((i : Int) + 1) = ((i + 1 : Nat) : Int) := by rw [wrap_i64 (by omega) (by omega)]; omega
        have hco := hok c (List.mem_of_getElem? hc)
        have hC := fun m => ref_Table u hco j (by omega) m
        have fc := hco.f.flat
        unfold PV.flat at fc
        have hK := fun m => hK c.name m
        have g0 : ∀ l : Mem, (m ++ l)[0]? = some (.cells [.p tp]) := fun l => get_app5 hm
        have hf0 : tabFact ts i = (tableB c && ((i == 0 || (match ts[i - 1]? with | some d => decide (d.id < c.id) | none => true)) && tabAt ts c.name == i)) := by unfold tabFact; rw [hc]
        have hbad : tabFact ts i = false → (List.range ts.length).all (tabFact ts) = false := by
          intro h
          rw [List.all_eq_false]
          exact ⟨i, List.mem_range.2 hlt, by rw [h]; simp⟩
        have hgood : tabFact ts i = true → ∀ q, q < i + 1 → tabFact ts q = true := by
          intro h q hq
          rcases Nat.lt_or_ge q i with h1 | h1
          · exact hfact q h1
          · obtain rfl : q = i := by omega
            exact h
        simp only [tblP] at hC
        rcases ht with ⟨rfl, rfl⟩ | rfl
        · simp at hlt
        cases q1 : tableB c with
        | false =>
          rw [q1] at hC hf0
          have hb := hbad (by rw [hf0]; rfl)
          simp (maxSteps := 4000000) [Fn.f_haulageref08_Right_b0, Fn.f_haulageref08_Right_s0, hlt, hlt', hc, tblP, fc, ln_at0, ln_set0, g0, hm, hC, u.table, u.find, p172, p154, hb, -List.all_eq_false]
        | true =>
          rw [q1] at hC hf0
          simp only [Bool.true_and] at hf0
          by_cases q3 : i = 0
          · have q3i : ((i : Nat) == 0) = true := by simpa using q3
            rw [q3i] at hf0
            simp only [Bool.true_or, Bool.true_and] at hf0
            have q3' : ¬ (0 : Int) < i := by omega
            have q30 : ¬ 0 < i := by omega
            cases q4 : (tabAt ts c.name == (i : Int)) with
            | false =>
              have hb := hbad (by rw [hf0]; exact q4)
              simp (maxSteps := 4000000) [Fn.f_haulageref08_Right_b0, Fn.f_haulageref08_Right_s0, hlt, hlt', hc, tblP, fc, ln_at0, ln_set0, g0, hm, hC, hK, u.table, u.find, p172, p154, q3', q30, q4, hb, bne, -List.all_eq_false]
            | true =>
              have hg := hgood (by rw [hf0]; exact q4)
              have q6 : tabAt ts c.name = (i : Int) := by simpa using q4
              have hfin : ∀ x, CatInv (PV.vals 5 (ts.map tblP)) ts (i + 1) (m ++ [x]) := fun x => ⟨g0 _, hg⟩
              simp (maxSteps := 4000000) [Fn.f_haulageref08_Right_b0, Fn.f_haulageref08_Right_s0, hlt, hlt', hc, tblP, fc, ln_at0, ln_set0, g0, hm, hC, hK, u.table, u.find, p172, p154, q3', q30, q6, hw, bne, -Int.natCast_add]
              exact ⟨i + 1, by omega, hlt, _, hfin _, rfl, rfl, rfl, rfl⟩
          · have q3' : (0 : Int) < i := by omega
            have q30 : 0 < i := by omega
            have q3b : (i == 0) = false := by simpa using q3
            rw [q3b] at hf0
            simp only [Bool.false_or] at hf0
            obtain ⟨d, hd⟩ : ∃ d, ts[i - 1]? = some d := ⟨_, List.getElem?_eq_getElem (by omega)⟩
            rw [hd] at hf0
            simp only at hf0
            have hw1 : IntKind.i64.wrap ((i : Int) - 1) = ((i - 1 : Nat) : Int) := by rw [wrap_i64 (by omega) (by omega)]; omega
            by_cases q5 : d.id < c.id
            · have q5' : ¬ c.id ≤ d.id := by omega
              simp only [q5, decide_true, Bool.true_and] at hf0
              cases q4 : (tabAt ts c.name == (i : Int)) with
              | false =>
                have hb := hbad (by rw [hf0]; exact q4)
                simp (maxSteps := 4000000) [Fn.f_haulageref08_Right_b0, Fn.f_haulageref08_Right_s0, hlt, hlt', hc, hd, tblP, fc, ln_at0, ln_set0, g0, hm, hC, hK, u.table, u.find, p172, p154, q30, q3', hw1, q5', q4, hb, bne, -List.all_eq_false]
              | true =>
                have hg := hgood (by rw [hf0]; exact q4)
                have q6 : tabAt ts c.name = (i : Int) := by simpa using q4
                have hfin : ∀ x, CatInv (PV.vals 5 (ts.map tblP)) ts (i + 1) (m ++ [x]) := fun x => ⟨g0 _, hg⟩
                simp (maxSteps := 4000000) [Fn.f_haulageref08_Right_b0, Fn.f_haulageref08_Right_s0, hlt, hlt', hc, hd, tblP, fc, ln_at0, ln_set0, g0, hm, hC, hK, u.table, u.find, p172, p154, q30, q3', hw1, q5', q6, hw, bne, -Int.natCast_add]
                exact ⟨i + 1, by omega, hlt, _, hfin _, rfl, rfl, rfl, rfl⟩
            · have q5' : c.id ≤ d.id := by omega
              have hb := hbad (by rw [hf0]; simp [q5])
              simp (maxSteps := 4000000) [Fn.f_haulageref08_Right_b0, Fn.f_haulageref08_Right_s0, hlt, hlt', hc, hd, tblP, fc, ln_at0, ln_set0, g0, hm, hC, hK, u.table, u.find, p172, p154, q30, q3', hw1, q5', hb, bne, -List.all_eq_false]
      · have hlt' : ¬ (i : Int) < ts.length := by omega
        obtain rfl : i = ts.length := by omega
        have hall : (List.range ts.length).all (tabFact ts) = true := by
          rw [List.all_eq_true]
          intro x hx
          exact hfact x (List.mem_range.1 hx)
        rcases ht with ⟨rfl, rfl⟩ | rfl
        · simp (maxSteps := 4000000) [Fn.f_haulageref08_Right_b0, Fn.f_haulageref08_Right_s0, hm]
        · simp (maxSteps := 4000000) [Fn.f_haulageref08_Right_b0, Fn.f_haulageref08_Right_s0, hm, hall, -List.all_eq_true]
    obtain ⟨e, st, hrun, hds, hlen, hq⟩ := hmain
    obtain ⟨ts', m', ds⟩ := st
    simp only at hds hlen hq
    subst hds
    simp only [List.replicate, List.cons_append, List.nil_append] at hrun
    refine denF_wp u.right rfl (args' := [.p (.agg [tp])]) rfl ?_
    rcases hq with ⟨rfl, hq⟩ | ⟨rfl, hq, h2⟩
    · have hx := expand_ts 48 ts' hlen
      simp only [List.range, List.range.loop, List.map_cons, List.map_nil] at hx
      rw [hq]
      rcases ht with ⟨rfl, rfl⟩ | rfl
      all_goals
        try simp only [List.length_nil, Int.natCast_zero] at hrun
        simp (maxSteps := 4000000) [Fn.f_haulageref08_Right, h4, h4', hrun]
        rw [hx]
        simp
    · rw [hq]
      rcases ht with ⟨rfl, rfl⟩ | rfl
      all_goals
        try simp only [List.length_nil, Int.natCast_zero] at hrun
        simp (maxSteps := 4000000) [Fn.f_haulageref08_Right, h4, h4', hrun, h2]
  · have h4' : (6 : Int) < ts.length := by omega
    refine denF_wp u.right rfl (args' := [.p (.agg [tp])]) rfl ?_
    rcases ht with ⟨rfl, rfl⟩ | rfl
    · simp at h4
    · simp (maxSteps := 4000000) [Fn.f_haulageref08_Right, h4, h4']
def rowScan : List (Int × Col) → List Val → Int
  | c :: cs, v :: vs => if zvB v then (if c.2.null then rowScan cs vs else 11) else if fitsB c.2.kind c.2.max v then rowScan cs vs else 10
  | _, _ => 0
def rowE (t : Tbl) (r : Row) : Int := if tableB t = false then 2 else if r.length ≠ t.cols.length then 5 else rowScan t.cols r
theorem rowScan_step {cs : List (Int × Col)} {vs : List Val} {i : Nat} {c : Int × Col} {v : Val} (hc : cs[i]? = some c) (hv : vs[i]? = some v) : rowScan (cs.drop i) (vs.drop i) = if zvB v then (if c.2.null then rowScan (cs.drop (i + 1)) (vs.drop (i + 1)) else 11) else if fitsB c.2.kind c.2.max v then rowScan (cs.drop (i + 1)) (vs.drop (i + 1)) else 10 := by
  obtain ⟨h1, h2⟩ := List.getElem?_eq_some_iff.1 hc
  obtain ⟨h3, h4⟩ := List.getElem?_eq_some_iff.1 hv
  rw [List.drop_eq_getElem_cons h1, List.drop_eq_getElem_cons h3, h2, h4]; rfl
theorem p87 : Fn.f_haulageref06_Fits.pure = true := rfl
theorem ref_Row (u : B15 E) {t : Tbl} (ht : TblOk t) {rp : PV} {r : Row} (hr : RowQ rp r) (hri : ∀ v ∈ r, isI64 v.2.1) (hrl : (r.length : Int) ≤ 1000000) (k : Nat) (hk : 700 ≤ k) (m : Mem) :
    denF E (k + 1) 173 [.p (.agg (tblP t)), .p rp] m = some (.ret (.p (.int .i64 (rowE t r))), m) := by
  obtain ⟨j, rfl⟩ : ∃ j, k = j + 1 := ⟨k - 1, by omega⟩
  have f1 := ht.f.flat
  unfold PV.flat at f1
  have hT := fun m => ref_Table u ht j (by omega) m
  simp only [tblP] at hT
  unfold rowE
  cases h1 : tableB t with
  | false =>
    rw [h1] at hT
    refine denF_wp u.row rfl (args' := [.p (.agg (tblP t)), .p rp]) rfl ?_
    simp (maxSteps := 4000000) [Fn.f_haulageref08_Row, tblP, f1, hT]
  | true =>
    rw [h1] at hT
    have hcols : t.cols.length ≤ 10 ∧ 1 ≤ t.cols.length := by
      unfold tableB at h1
      simp only [Bool.and_eq_true, decide_eq_true_eq] at h1
      omega
    obtain hs | hs := ht.f
    · rw [hs.1] at hcols; simp at hcols
    rw [hs] at hT
    by_cases h2 : r.length = t.cols.length
    · have h2b : ((r.length : Int) == (t.cols.length : Int)) = true := by simpa using (by omega : (r.length : Int) = t.cols.length)
      rcases hr with ⟨rfl, rfl⟩ | rfl
      · simp at h2; omega
      have hmain : Wp (iter (loopF E (denF E (j + 1)) (j + 1) Fn.f_haulageref08_Row_k0 Fn.f_haulageref08_Row_b0) (j + 1) ⟨[.p (.agg (tblP t)), .p (.vals 3 (r.map valP)), .ptr 0 0, .tup [], .p (.int .i64 0), .p (.int .i64 0), .p (.agg (tblP t)), .p (.bool true), .p (.bool false), .p (.vals 3 (r.map valP)), .p (.int .i64 r.length), .ptr 0 4, .p t.sl, .p (.int .i64 t.cols.length), .p (.bool false)] ++ List.replicate 31 (.tup []), [.cells ((tblP t).map .p)], []⟩)
          (fun e st => st.ds = [] ∧ st.ts.length = 46 ∧ ((e = .exit 0 ∧ rowScan t.cols r = 0) ∨ (e = .ret ∧ st.ts.getD 4 (.tup []) = .p (.int .i64 (rowScan t.cols r))))) := by
        refine loop_wp (α := Nat) (I := fun i st => i ≤ r.length ∧ rowScan (t.cols.drop i) (r.drop i) = rowScan t.cols r ∧ Live Fn.f_haulageref08_Row_k0 (Fn.f_haulageref08_Row_s0 (.p (.vals 3 (r.map valP))) (.ptr 0 0) (.p (.int .i64 i))) [.cells ((tblP t).map .p)] st) (meas := fun i => r.length - i) ?_ (j + 1) 0 _ ⟨Nat.zero_le _, rfl, rfl, rfl, rfl, rfl⟩ (by omega)
        rintro i st ⟨hi, hsq, hlive⟩
        rw [loopF_live hlive]
        by_cases hlt : i < r.length
        · have hlt' : (i : Int) < r.length := by omega
          obtain ⟨v, hv⟩ : ∃ v, r[i]? = some v := ⟨_, List.getElem?_eq_getElem hlt⟩
          obtain ⟨c, hc⟩ : ∃ c, t.cols[i]? = some c := ⟨_, List.getElem?_eq_getElem (by omega)⟩
          have hw : IntKind.i64.wrap ((i : Int) + 1) = ((i + 1 : Nat) : Int) := by rw [wrap_i64 (by omega) (by omega)]; omega
          have hZ := @eq_vP v.1 v.2.1 0 0 v.2.2 []
          have hF := fun m => ref_TFits u c.2.kind c.2.max v (hri v (List.mem_of_getElem? hv)) j (by omega) m
          simp only [valP] at hF
          rw [rowScan_step hc hv] at hsq
          cases q1 : zvB v with
          | true =>
            rw [q1] at hsq
            unfold zvB at q1
            rw [q1] at hZ
            simp only [if_true] at hsq
            cases q2 : c.2.null with
            | true =>
              rw [q2] at hsq
              simp only [if_true] at hsq
              simp (maxSteps := 4000000) [Fn.f_haulageref08_Row_b0, Fn.f_haulageref08_Row_s0, tblP, hs, hlt, hlt', hv, hc, valP, colQ, hZ, q2, hw, -Int.natCast_add]
              exact ⟨i + 1, by omega, hlt, hsq, rfl, rfl, rfl, rfl⟩
            | false =>
              rw [q2] at hsq
              simp only [Bool.false_eq_true, if_false] at hsq
              simp (maxSteps := 4000000) [Fn.f_haulageref08_Row_b0, Fn.f_haulageref08_Row_s0, tblP, hs, hlt, hlt', hv, hc, valP, colQ, hZ, q2, ← hsq]
          | false =>
            rw [q1] at hsq
            unfold zvB at q1
            rw [q1] at hZ
            simp only [Bool.false_eq_true, if_false] at hsq
            cases q2 : fitsB c.2.kind c.2.max v with
            | true =>
              rw [q2] at hsq hF
              simp only [if_true] at hsq
              simp (maxSteps := 4000000) [Fn.f_haulageref08_Row_b0, Fn.f_haulageref08_Row_s0, tblP, hs, hlt, hlt', hv, hc, valP, colQ, hZ, hF, u.fits, p87, hw, -Int.natCast_add]
              exact ⟨i + 1, by omega, hlt, hsq, rfl, rfl, rfl, rfl⟩
            | false =>
              rw [q2] at hsq hF
              simp only [Bool.false_eq_true, if_false] at hsq
              simp (maxSteps := 4000000) [Fn.f_haulageref08_Row_b0, Fn.f_haulageref08_Row_s0, tblP, hs, hlt, hlt', hv, hc, valP, colQ, hZ, hF, u.fits, p87, ← hsq]
        · have hlt' : ¬ (i : Int) < r.length := by omega
          rw [List.drop_eq_nil_of_le (by omega), List.drop_eq_nil_of_le (by omega)] at hsq
          have hsq : rowScan t.cols r = 0 := hsq.symm
          simp (maxSteps := 4000000) [Fn.f_haulageref08_Row_b0, Fn.f_haulageref08_Row_s0, hlt', hsq]
      obtain ⟨e, st, hrun, hds, hlen, hq⟩ := hmain
      obtain ⟨ts', m', ds⟩ := st
      simp only at hds hlen hq
      subst hds
      simp only [List.replicate, List.cons_append, List.nil_append, tblP, List.map_cons, List.map_nil, hs] at hrun
      refine denF_wp u.row rfl (args' := [.p (.agg (tblP t)), .p (.vals 3 (r.map valP))]) rfl ?_
      rcases hq with ⟨rfl, hq⟩ | ⟨rfl, hq⟩
      · have hx := expand_ts 46 ts' hlen
        simp only [List.range, List.range.loop, List.map_cons, List.map_nil] at hx
        simp (maxSteps := 4000000) [Fn.f_haulageref08_Row, tblP, hs, hT, h2b, h2, hrun, bne, hq]
        rw [h2] at hrun
        simp (maxSteps := 4000000) [hrun]
        rw [hx]
        simp
      · simp (maxSteps := 4000000) [Fn.f_haulageref08_Row, tblP, hs, hT, h2b, h2, hrun, bne]
        rw [h2] at hrun
        simp (maxSteps := 4000000) [hrun, hq]
    · have h2b : ((r.length : Int) == (t.cols.length : Int)) = false := by rw [beq_eq_false_iff_ne]; omega
      refine denF_wp u.row rfl (args' := [.p (.agg (tblP t)), .p rp]) rfl ?_
      rcases hr with ⟨rfl, rfl⟩ | rfl
      · simp only [List.length_nil, Int.natCast_zero] at h2b h2
        simp (maxSteps := 4000000) [Fn.f_haulageref08_Row, tblP, hs, hT, h2b, h2, bne]
      · simp (maxSteps := 4000000) [Fn.f_haulageref08_Row, tblP, hs, hT, h2b, h2, bne]
end Hx

namespace Hx
open Go
set_option linter.unusedSimpArgs false
set_option linter.unusedVariables false
set_option maxHeartbeats 64000000
set_option maxRecDepth 20000
variable {E : Env}
attribute [-simp] List.getD_eq_getElem?_getD getElem?_pos
def rowP (r : Row) : List PV := [.vals 3 (r.map valP)]
def ZP (z : List Row) : List (List PV) := z.map rowP
def ListQ (p : PV) (z : List Row) : Prop := (z = [] ∧ p = .nils) ∨ p = .vals 1 (ZP z)
theorem ListQ.flat {p : PV} {z : List Row} (h : ListQ p z) : p.flat = true := by rcases h with ⟨_, rfl⟩ | rfl <;> rfl
def OutG (n : Nat) (m : Mem) (rows : List (List PV)) (av : AV) : Prop := (rows = [] ∧ av = .p .nils) ∨ ∃ tok, av = .tv n rows tok ∧ m[tok]? = some (Blk.tok n rows.length)
theorem OutG.keep {n : Nat} {m m' : Mem} {rows : List (List PV)} {av : AV} (h : OutG n m rows av) (hk : ∀ (t q : Nat), m[t]? = some (Blk.tok n q) → m'[t]? = some (Blk.tok n q)) : OutG n m' rows av := by
  rcases h with h | ⟨tok, h1, h2⟩
  · exact .inl h
  · exact .inr ⟨tok, h1, hk _ _ h2⟩
def keyN (k : Nat) (r : Row) : Val := r.getD k zv
def ltV (a b : Val) : Bool := decide (ord5 a b = -1)
structure KeyOk (k : Nat) (r : Row) : Prop where
  lt : k < r.length
  len : (keyN k r).2.2.length ≤ 200
structure C15 (E : Env) : Prop extends B15 E where
  order : E.fn 42 = some Fn.f_haulageref05_Order
  norder : E.fn 59 = some Fn.f_haulageref04_Order
  rfind : E.fn 159 = some Fn.f_haulageref15_Find
  put : E.fn 163 = some Fn.f_haulageref15_put
  cut : E.fn 160 = some Fn.f_haulageref15_cut
  with_ : E.fn 161 = some Fn.f_haulageref15_with
theorem p157 : Fn.f_haulageref08_Key.pure = true := rfl
theorem p42 : Fn.f_haulageref05_Order.pure = true := rfl
theorem row_key {r : Row} {k : Nat} (hk : k < r.length) : r[k]? = some (keyN k r) := by
  unfold keyN
  rw [List.getD_eq_getElem?_getD, List.getElem?_eq_getElem hk]; rfl
def findZ (k : Nat) (v : Val) (z : List Row) : Int := posI (fun e => decide (keyN k e = v)) z 0
theorem eq_valP (a b : Val) : eqTree (.struct [(0, 1, .int), (1, 1, .int), (2, 1, .str)]) (.agg (valP a)) (.agg (valP b)) = some (decide (a = b)) := by
  obtain ⟨a1, a2, a3⟩ := a
  obtain ⟨b1, b2, b3⟩ := b
  simp only [valP, eq_vP, Option.some.injEq]
  rw [Bool.eq_iff_iff]
  simp
theorem ref_RFind (u : C15 E) {t : Tbl} (ht : TblOk t) {k : Nat} (hkey : keyAt t = (k : Int)) (hcols : t.cols.length ≤ 20) {p : PV} {z : List Row} (hz : ListQ p z) (hk : ∀ e ∈ z, k < e.length) (v : Val) (hn : (z.length : Int) ≤ 1000000) (n : Nat) (hf : z.length + 100 ≤ n) (m : Mem) :
    denF E (n + 1) 159 [.p (.agg (tblP t)), .p p, .p (.agg (valP v))] m = some (.ret (.p (.int .i64 (findZ k v z))), m) := by
  obtain ⟨j, rfl⟩ : ∃ j, n = j + 1 := ⟨n - 1, by omega⟩
  have f1 := ht.f.flat
  unfold PV.flat at f1
  have hK := fun m => ref_Key u.key ht.f (by omega) j (by omega) m
  rw [hkey] at hK
  simp only [tblP] at hK
  have hmain : Wp (iter (loopF E (denF E (j + 1)) (j + 1) Fn.f_haulageref15_Find_k0 Fn.f_haulageref15_Find_b0) (j + 1) ⟨[.p (.agg (tblP t)), .p p, .p (.agg (valP v)), .ptr 0 0, .tup [], .ptr 1 0, .p (.int .i64 0), .p (.int .i64 0)] ++ List.replicate 17 (.tup []), [.cells ((tblP t).map .p), .cells ((valP v).map .p)], []⟩)
      (fun e st => st.ds = [] ∧ st.ts.length = 25 ∧ ((e = .exit 0 ∧ findZ k v z = -1) ∨ (e = .ret ∧ st.ts.getD 6 (.tup []) = .p (.int .i64 (findZ k v z))))) := by
    refine loop_wp (α := Nat) (I := fun i st => i ≤ z.length ∧ findZ k v z = posI (fun e : Row => decide (keyN k e = v)) (z.drop i) i ∧ Live Fn.f_haulageref15_Find_k0 (Fn.f_haulageref15_Find_s0 (.p p) (.ptr 0 0) (.ptr 1 0) (.p (.int .i64 i))) [.cells ((tblP t).map .p), .cells ((valP v).map .p)] st) (meas := fun i => z.length - i) ?_ (j + 1) 0 _ ⟨Nat.zero_le _, rfl, rfl, rfl, rfl, rfl⟩ (by omega)
    rintro i st ⟨hi, hv, hlive⟩
    rw [loopF_live hlive]
    have zq := hz
    by_cases hlt : i < z.length
    · have hlt' : (i : Int) < z.length := by omega
      obtain ⟨e, he⟩ : ∃ e, z[i]? = some e := ⟨_, List.getElem?_eq_getElem hlt⟩
      have hem := List.mem_of_getElem? he
      have e2 := row_key (hk e hem)
      have hw : IntKind.i64.wrap ((i : Int) + 1) = ((i + 1 : Nat) : Int) := by rw [wrap_i64 (by omega) (by omega)]; omega
      have hE := eq_valP (keyN k e) v
      rw [posI_step he] at hv
      generalize findZ k v z = r at *
      rcases zq with ⟨rfl, rfl⟩ | rfl
      · simp at hlt
      simp only [valP] at hE
      cases q : decide (keyN k e = v) with
      | true =>
        rw [q] at hv hE
        simp only [if_true] at hv
        simp (maxSteps := 4000000) [Fn.f_haulageref15_Find_b0, Fn.f_haulageref15_Find_s0, ZP, rowP, tblP, valP, f1, hlt, hlt', he, e2, hK, u.key, p157, hE, hv]
      | false =>
        rw [q] at hv hE
        simp only [Bool.false_eq_true, if_false] at hv
        simp (maxSteps := 4000000) [Fn.f_haulageref15_Find_b0, Fn.f_haulageref15_Find_s0, ZP, rowP, tblP, valP, f1, hlt, hlt', he, e2, hK, u.key, p157, hE, hw, -Int.natCast_add]
        exact ⟨i + 1, by omega, hlt, hv, rfl, rfl, rfl, rfl⟩
    · have hlt' : ¬ (i : Int) < z.length := by omega
      rw [List.drop_eq_nil_of_le (by omega)] at hv
      have hv0 : findZ k v z = -1 := hv
      clear hv
      rcases zq with ⟨rfl, rfl⟩ | rfl
      · obtain rfl : i = 0 := by simpa using hi
        simp (maxSteps := 4000000) [Fn.f_haulageref15_Find_b0, Fn.f_haulageref15_Find_s0, hv0]
      · simp (maxSteps := 4000000) [Fn.f_haulageref15_Find_b0, Fn.f_haulageref15_Find_s0, ZP, rowP, hlt', hv0]
  obtain ⟨e, st, hrun, hds, hlen, hq⟩ := hmain
  obtain ⟨ts', m', ds⟩ := st
  simp only at hds hlen hq
  subst hds
  simp only [List.replicate, List.cons_append, List.nil_append, tblP, valP, List.map_cons, List.map_nil] at hrun
  refine denF_wp u.rfind rfl (args' := [.p (.agg (tblP t)), .p p, .p (.agg (valP v))]) rfl ?_
  rcases hq with ⟨rfl, hq⟩ | ⟨rfl, hq⟩
  · have hx := expand_ts 25 ts' hlen
    simp only [List.range, List.range.loop, List.map_cons, List.map_nil] at hx
    simp (maxSteps := 4000000) [Fn.f_haulageref15_Find, tblP, valP, f1, hrun]
    rw [hx]
    simp [hq]
  · simp (maxSteps := 4000000) [Fn.f_haulageref15_Find, tblP, valP, f1, hrun, hq]

theorem OutG.strip {m : Mem} {z : List Row} {av : AV} (h : OutG 1 m (ZP z) av) : ∃ o, stripV av = some (.p o) ∧ ListQ o z := by
  rcases h with ⟨h1, rfl⟩ | ⟨tok, rfl, _⟩
  · refine ⟨.nils, by simp, .inl ⟨by simpa [ZP] using h1, rfl⟩⟩
  · exact ⟨.vals 1 (ZP z), by simp, .inr rfl⟩
def cutZ (a : Nat) (z : List Row) : List Row := z.eraseIdx a
theorem cut_take {z : List Row} {i a : Nat} {e : Row} (h : z[i]? = some e) : (z.take (i + 1)).eraseIdx a = (z.take i).eraseIdx a ++ (if i = a then [] else [e]) := by
  obtain ⟨h1, h2⟩ := List.getElem?_eq_some_iff.1 h
  rw [List.take_succ_eq_append_getElem h1, h2]
  have hl : (z.take i).length = i := by rw [List.length_take]; omega
  by_cases hia : i = a
  · subst hia
    rw [List.eraseIdx_append_of_length_le (by omega), hl, Nat.sub_self]
    simp only [List.eraseIdx_cons_zero, List.append_nil, if_true]
    rw [List.eraseIdx_of_length_le (by omega)]
  · rw [if_neg hia]
    rcases Nat.lt_or_ge a i with h3 | h3
    · rw [List.eraseIdx_append_of_lt_length (by omega)]
    · rw [List.eraseIdx_append_of_length_le (by omega), hl]
      have h4 : a - i ≠ 0 := by omega
      rw [List.eraseIdx_of_length_le (l := z.take i) (by omega)]
      congr 1
      rw [List.eraseIdx_of_length_le]
      simp only [List.length_cons, List.length_nil]; omega
theorem ref_cut (u : C15 E) {p : PV} {z : List Row} (hz : ListQ p z) (a : Nat) (hn : (z.length : Int) ≤ 1000000) (n : Nat) (hf : z.length + 10 ≤ n) :
    ∃ o, ListQ o (cutZ a z) ∧ ∀ m, denF E (n + 1) 160 [.p p, .p (.int .i64 a)] m = some (.ret (.p o), m) := by
  have zq := hz
  have hmain : Wp (iter (loopF E (denF E n) n Fn.f_haulageref15_cut_k0 Fn.f_haulageref15_cut_b0) n ⟨[.p p, .p (.int .i64 a), .tup [], .tup [], .p .nils, .p .nils, .p (.int .i64 0)] ++ List.replicate 17 (.tup []), [], []⟩)
      (fun e st => e = .exit 0 ∧ st.ds = [] ∧ st.ts.length = 24 ∧ OutG 1 st.m (ZP (cutZ a z)) (st.ts.getD 5 (.tup []))) := by
    refine loop_wp (α := Nat × Mem × AV) (I := fun s st => s.1 ≤ z.length ∧ OutG 1 s.2.1 (ZP ((z.take s.1).eraseIdx a)) s.2.2 ∧ Live Fn.f_haulageref15_cut_k0 (Fn.f_haulageref15_cut_s0 (.p p) (.p (.int .i64 a)) s.2.2 (.p (.int .i64 s.1))) s.2.1 st) (meas := fun s => z.length - s.1) ?_ n (0, [], .p .nils) _ ⟨Nat.zero_le _, .inl ⟨rfl, rfl⟩, rfl, rfl, rfl, rfl⟩ (by simp only [Nat.sub_zero]; omega)
    rintro ⟨i, m, av⟩ st ⟨hi, ho, hlive⟩
    simp only at hi ho hlive
    rw [loopF_live hlive]
    by_cases hlt : i < z.length
    · have hlt' : (i : Int) < z.length := by omega
      obtain ⟨e, he⟩ : ∃ e, z[i]? = some e := ⟨_, List.getElem?_eq_getElem hlt⟩
      have hw : IntKind.i64.wrap ((i : Int) + 1) = ((i + 1 : Nat) : Int) := by rw [wrap_i64 (by omega) (by omega)]; omega
      have hct := cut_take (a := a) he
      have hol : ((z.take i).eraseIdx a).length ≤ 1000000 := by
        have h1 := List.length_eraseIdx_le (z.take i) a
        have h2 : (z.take i).length ≤ z.length := by rw [List.length_take]; omega
        omega
      rcases zq with ⟨rfl, rfl⟩ | rfl
      · simp at hlt
      by_cases q : i = a
      · subst q
        rw [if_pos rfl, List.append_nil] at hct
        simp (maxSteps := 4000000) [Fn.f_haulageref15_cut_b0, Fn.f_haulageref15_cut_s0, ZP, rowP, hlt, hlt', he, hw, bne, -Int.natCast_add]
        exact ⟨i + 1, by omega, hlt, m, av, by rw [hct]; exact ho, rfl, rfl, rfl, rfl⟩
      · have q' : ((i : Int) == (a : Int)) = false := by rw [beq_eq_false_iff_ne]; omega
        rw [if_neg q] at hct
        generalize (z.take i).eraseIdx a = out at ho hct hol
        have hzl : (ZP out).length = out.length := by simp [ZP]
        rcases ho with ⟨h0, rfl⟩ | ⟨tok, rfl, ht⟩
        · obtain rfl : out = [] := by simpa [ZP] using h0
          simp (maxSteps := 4000000) [Fn.f_haulageref15_cut_b0, Fn.f_haulageref15_cut_s0, ZP, rowP, hlt, hlt', he, q, q', hw, room, bne, -Int.natCast_add]
          exact ⟨i + 1, by omega, hlt, _, _, by rw [hct]; exact .inr ⟨m.length, rfl, ln_at0 _ _⟩, rfl, rfl, rfl, rfl⟩
        · have htl := idx_lt ht
          have r1 : (out.length + 1) * 24 ≤ 70368744177664 := by omega
          have r2 : out.length + 1 ≤ 70368744177664 := by omega
          rw [hzl] at ht
          simp (maxSteps := 4000000) [Fn.f_haulageref15_cut_b0, Fn.f_haulageref15_cut_s0, ZP, rowP, hlt, hlt', he, q, q', hw, ht, r1, r2, room, bne, -Int.natCast_add]
          exact ⟨i + 1, by omega, hlt, _, _, by rw [hct]; exact .inr ⟨tok, by simp [ZP, rowP], by rw [List.getElem?_set_self htl]; simp [ZP]⟩, rfl, rfl, rfl, rfl⟩
    · have hlt' : ¬ (i : Int) < z.length := by omega
      rw [List.take_of_length_le (by omega)] at ho
      rcases zq with ⟨rfl, rfl⟩ | rfl
      · obtain rfl : i = 0 := by simpa using hi
        simp (maxSteps := 4000000) [Fn.f_haulageref15_cut_b0, Fn.f_haulageref15_cut_s0]
        exact ho
      · simp (maxSteps := 4000000) [Fn.f_haulageref15_cut_b0, Fn.f_haulageref15_cut_s0, ZP, hlt']
        exact ho
  obtain ⟨e, st, hrun, rfl, hds, hlen, ho⟩ := hmain
  obtain ⟨ts', m', ds⟩ := st
  simp only at hds hlen ho
  subst hds
  obtain ⟨o, ho1, ho2⟩ := ho.strip
  refine ⟨o, ho2, fun m => ?_⟩
  refine denF_wp u.cut rfl (args' := [.p p, .p (.int .i64 a)]) rfl ?_
  simp only [List.replicate, List.cons_append, List.nil_append] at hrun
  have hx := expand_ts 24 ts' hlen
  simp only [List.range, List.range.loop, List.map_cons, List.map_nil] at hx
  generalize ts'.getD 5 (.tup []) = av at *
  simp (maxSteps := 4000000) [Fn.f_haulageref15_cut, hrun]
  rw [hx]
  rcases ho with ⟨_, rfl⟩ | ⟨tok, rfl, _⟩
  · simp at ho1 ⊢; exact ho1
  · simp at ho1 ⊢; exact ho1
end Hx
