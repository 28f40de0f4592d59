/-
  HxTabS: a variable that is a table of texts.
-/
import Derived.Test.YtifcegbomagcpaaGreatDoorHxP10g
import Derived.Test.YtifcegbomagcpaaGreatDoorHxV05m
import Derived.Test.YtifcegbomagcpaaGreatDoorHxRow
namespace Hx
open Go
set_option linter.unusedSimpArgs false
set_option linter.unusedVariables false
set_option maxHeartbeats 32000000
set_option maxRecDepth 20000
variable {E : Env}
attribute [-simp] List.getD_eq_getElem?_getD getElem?_pos
def ddlSh : List Sh := [.int .i64, .str, .str, .str, .str, .int .i64, .int .i64, .bool, .int .i64, .int .i64, .str, .slice 8 [.int .i64, .str, .int .i64, .int .i64, .bool, .int .i64, .int .i64, .str]]
theorem conf_col {r : List PV} (h : Confs [.int .i64, .str, .int .i64, .int .i64, .bool, .int .i64, .int .i64, .str] r) : ∃ c : Int × Col, r = colQ c ∧ isI64 c.2.dn := by
  simp only [Confs, Conf] at h
  obtain ⟨_, _, rfl, ⟨a, rfl, _⟩, _, _, rfl, ⟨b, rfl, _⟩, _, _, rfl, ⟨c, rfl, _⟩, _, _, rfl, ⟨d, rfl, _⟩, _, _, rfl, ⟨e, rfl⟩, _, _, rfl, ⟨f, rfl, _⟩, _, _, rfl, ⟨g, rfl, g1, g2⟩, _, _, rfl, ⟨i, rfl, _⟩, rfl⟩ := h
  exact ⟨(a, ⟨b, c, d, e, f, g, i⟩), rfl, g1, g2⟩
theorem conf_cols : ∀ {rows : List (List PV)}, (∀ r ∈ rows, Confs [.int .i64, .str, .int .i64, .int .i64, .bool, .int .i64, .int .i64, .str] r) → ∃ l : List (Int × Col), rows = l.map colQ ∧ ∀ c ∈ l, isI64 c.2.dn
  | [], _ => ⟨[], rfl, by simp⟩
  | r :: rows, h => by
    obtain ⟨c, h1, h2⟩ := conf_col (h r (by simp))
    obtain ⟨l, h3, h4⟩ := conf_cols (rows := rows) (fun x hx => h x (by simp [hx]))
    exact ⟨c :: l, by rw [h1, h3]; rfl, by
      intro x hx
      rcases List.mem_cons.1 hx with rfl | hx
      · exact h2
      · exact h4 x hx⟩
theorem conf_ddl {x : List PV} (h : Confs ddlSh x) : ∃ (d : Ddl) (sl : PV) (rows : List (Int × Col)), x = dV d sl ∧ d.cols = [] ∧ SlQ sl rows ∧ smallD d ∧ (∀ c ∈ rows, isI64 c.2.dn) := by
  unfold ddlSh at h
  simp only [Confs, Conf] at h
  obtain ⟨_, _, rfl, ⟨op, rfl, _⟩, _, _, rfl, ⟨table, rfl, _⟩, _, _, rfl, ⟨column, rfl, _⟩, _, _, rfl, ⟨to, rfl, _⟩, _, _, rfl, ⟨key, rfl, _⟩, _, _, rfl, ⟨kind, rfl, _⟩, _, _, rfl, ⟨max, rfl, _⟩, _, _, rfl, ⟨null, rfl⟩, _, _, rfl, ⟨dk, rfl, _⟩, _, _, rfl, ⟨dn, rfl, n1, n2⟩, _, _, rfl, ⟨ds, rfl, hds⟩, _, _, rfl, hsl, rfl⟩ := h
  have hsm : smallD ⟨op, table, column, to, key, kind, max, null, dk, dn, ds, []⟩ := ⟨⟨n1, n2⟩, by simp only; omega⟩
  rcases hsl with rfl | ⟨rows, rfl, _, hr⟩
  · exact ⟨⟨op, table, column, to, key, kind, max, null, dk, dn, ds, []⟩, .nils, [], rfl, rfl, .inl ⟨rfl, rfl⟩, hsm, by simp⟩
  · have hr' : ∀ r ∈ rows, Confs [.int .i64, .str, .int .i64, .int .i64, .bool, .int .i64, .int .i64, .str] r := fun r hx => by simpa only [Confs, Conf] using hr r hx
    obtain ⟨l, rfl, h2⟩ := conf_cols hr'
    exact ⟨⟨op, table, column, to, key, kind, max, null, dk, dn, ds, []⟩, .vals 8 (l.map colQ), l, rfl, rfl, .inr rfl, hsm, h2⟩
def strSz : PV → Nat
  | .str s => s.length
  | _ => 0
def sizeL (xs : List PV) : Nat := (xs.map strSz).sum
structure F09 (E : Env) : Prop where
  few : E.fn 171 = some Fn.f_haulagelaw09_Few
  few8 : E.fn 169 = some Fn.f_haulagelaw08_Few
  short : E.fn 170 = some Fn.f_haulagelaw08_short
theorem law_short (u : F09 E) (s : List UInt8) (k : Nat) (m : Mem) : denF E (k + 1) 170 [.p (.str s)] m = some (.ret (.p (.bool (decide ((s.length : Int) ≤ 200)))), m) := by
  refine denF_wp u.short rfl (args' := [.p (.str s)]) rfl ?_
  simp [Fn.f_haulagelaw08_short]
def shortB (c : Int × Col) : Bool := decide ((c.2.name.length : Int) ≤ 200) && decide ((c.2.ds.length : Int) ≤ 200)
def shorts (rows : List (Int × Col)) : Bool := rows.all shortB
theorem shorts_step {rows : List (Int × Col)} {i : Nat} {x : Int × Col} (hx : rows[i]? = some x) : shorts (rows.drop i) = (shortB x && shorts (rows.drop (i + 1))) := by
  obtain ⟨h1, h2⟩ := List.getElem?_eq_some_iff.1 hx
  rw [List.drop_eq_getElem_cons h1, h2]
  rfl
theorem law_Few8 (u : F09 E) {sl : PV} {rows : List (Int × Col)} (ha : SlQ sl rows) (k : Nat) (hk : 40 ≤ k) (m : Mem) :
    denF E (k + 1) 169 [.p (.agg [.int .i64 0, .str [], .int .i64 0, .int .i64 0, sl])] m = some (.ret (.p (.bool (decide ((rows.length : Int) ≤ 20) && shorts rows))), m) := by
  have hfl := ha.flat
  unfold PV.flat at hfl
  refine denF_wp u.few8 rfl (args' := [.p (.agg [.int .i64 0, .str [], .int .i64 0, .int .i64 0, sl])]) rfl ?_
  obtain ⟨j, rfl⟩ : ∃ j, k = j + 1 := ⟨k - 1, by omega⟩
  have hS := fun s m => law_short u s j m
  by_cases hl : (rows.length : Int) ≤ 20
  · have hl' : ¬ (20 : Int) < rows.length := by omega
    have hl2 : rows.length ≤ 20 := by omega
    have hl3 : ¬ 20 < rows.length := by omega
    have hmain : Wp (iter (loopF E (denF E (j + 1)) (j + 1) Fn.f_haulagelaw08_Few_k0 Fn.f_haulagelaw08_Few_b0) (j + 1) ⟨[.p (.agg [.int .i64 0, .str [], .int .i64 0, .int .i64 0, sl]), .ptr 0 0, .p (.bool false), .p (.int .i64 0), .ptr 0 4, .p sl, .p (.int .i64 rows.length), .p (.bool false), .p (.bool false), .ptr 0 1, .p (.str []), .p (.bool true), .p (.bool false), .p (.bool false)] ++ List.replicate 26 (.tup []), [.cells [.p (.int .i64 0), .p (.str []), .p (.int .i64 0), .p (.int .i64 0), .p sl]], []⟩)
        (fun e st => st.ds = [] ∧ st.ts.length = 40 ∧ ((e = .exit 0 ∧ shorts rows = true) ∨ (e = .ret ∧ shorts rows = false ∧ st.ts.getD 2 (.tup []) = .p (.bool false)))) := by
      refine loop_wp (α := Nat) (I := fun i st => i ≤ rows.length ∧ shorts (rows.drop i) = shorts rows ∧ Live Fn.f_haulagelaw08_Few_k0 (Fn.f_haulagelaw08_Few_s0 (.ptr 0 0) (.p (.int .i64 i))) [.cells [.p (.int .i64 0), .p (.str []), .p (.int .i64 0), .p (.int .i64 0), .p sl]] st) (meas := fun i => rows.length - i) ?_ (j + 1) 0 _ ⟨Nat.zero_le _, rfl, rfl, rfl, rfl, rfl⟩ (by omega)
      rintro i st ⟨hi, hsq, hlive⟩
      rw [loopF_live hlive]
      by_cases hlt : i < rows.length
      · have hlt' : (i : Int) < rows.length := by omega
        obtain ⟨c, hc⟩ : ∃ c, rows[i]? = some c := ⟨_, List.getElem?_eq_getElem hlt⟩
        rw [shorts_step hc] at hsq
        have hw : IntKind.i64.wrap ((i : Int) + 1) = ((i + 1 : Nat) : Int) := by rw [wrap_i64 (by omega) (by omega)]; omega
        rcases ha with ⟨rfl, rfl⟩ | rfl
        · simp at hlt
        unfold shortB at hsq
        have s1 := fun m => hS c.2.name m
        have s2 := fun m => hS c.2.ds m
        cases q1 : decide ((c.2.name.length : Int) ≤ 200) with
        | false =>
          rw [q1] at s1 hsq
          simp only [Bool.false_and] at hsq
          simp [Fn.f_haulagelaw08_Few_b0, Fn.f_haulagelaw08_Few_s0, hlt, hlt', hc, colQ, s1, hsq.symm]
        | true =>
          rw [q1] at s1 hsq
          simp only [Bool.true_and] at hsq
          cases q2 : decide ((c.2.ds.length : Int) ≤ 200) with
          | false =>
            rw [q2] at s2 hsq
            simp only [Bool.false_and] at hsq
            simp [Fn.f_haulagelaw08_Few_b0, Fn.f_haulagelaw08_Few_s0, hlt, hlt', hc, colQ, s1, s2, hsq.symm]
          | true =>
            rw [q2] at s2 hsq
            simp only [Bool.true_and] at hsq
            simp [Fn.f_haulagelaw08_Few_b0, Fn.f_haulagelaw08_Few_s0, hlt, hlt', hc, colQ, s1, s2, hw, -Int.natCast_add]
            exact ⟨i + 1, by omega, hlt, hsq, rfl, rfl, rfl, rfl⟩
      · have hlt' : ¬ (i : Int) < rows.length := by omega
        have e1 : rows.drop i = [] := List.drop_eq_nil_of_le (by omega)
        rw [e1] at hsq
        have hs' : shorts rows = true := hsq.symm
        rcases ha with ⟨rfl, rfl⟩ | rfl
        · obtain rfl : i = 0 := by simpa using hi
          simp [Fn.f_haulagelaw08_Few_b0, Fn.f_haulagelaw08_Few_s0, hs']
        · simp [Fn.f_haulagelaw08_Few_b0, Fn.f_haulagelaw08_Few_s0, hlt', hs']
    obtain ⟨e, st, hrun, hds, hlen, hq⟩ := hmain
    have hb : decide ((rows.length : Int) ≤ 20) = true := decide_eq_true hl
    rw [hb, Bool.true_and]
    have hfin : ∀ Q : Ex → St → Prop, Q e st → Wp (some (e, st)) Q := fun Q h => ⟨e, st, rfl, h⟩
    simp only [List.replicate, List.cons_append, List.nil_append] at hrun
    rcases ha with ⟨rfl, rfl⟩ | rfl
    all_goals
      try simp only [List.length_nil, Int.natCast_zero] at hrun
      simp [Fn.f_haulagelaw08_Few, hS, hl', hl3, hrun]
      rcases hq with ⟨rfl, hz⟩ | ⟨rfl, hz, h2⟩
      · obtain ⟨ts, m', ds⟩ := st
        simp only at hds hlen
        subst hds
        have hx : ts = [ts.getD 0 (.tup []), ts.getD 1 (.tup []), ts.getD 2 (.tup []), ts.getD 3 (.tup []), ts.getD 4 (.tup []), ts.getD 5 (.tup []), ts.getD 6 (.tup []), ts.getD 7 (.tup []), ts.getD 8 (.tup []), ts.getD 9 (.tup []), ts.getD 10 (.tup []), ts.getD 11 (.tup []), ts.getD 12 (.tup []), ts.getD 13 (.tup []), ts.getD 14 (.tup []), ts.getD 15 (.tup []), ts.getD 16 (.tup []), ts.getD 17 (.tup []), ts.getD 18 (.tup []), ts.getD 19 (.tup []), ts.getD 20 (.tup []), ts.getD 21 (.tup []), ts.getD 22 (.tup []), ts.getD 23 (.tup []), ts.getD 24 (.tup []), ts.getD 25 (.tup []), ts.getD 26 (.tup []), ts.getD 27 (.tup []), ts.getD 28 (.tup []), ts.getD 29 (.tup []), ts.getD 30 (.tup []), ts.getD 31 (.tup []), ts.getD 32 (.tup []), ts.getD 33 (.tup []), ts.getD 34 (.tup []), ts.getD 35 (.tup []), ts.getD 36 (.tup []), ts.getD 37 (.tup []), ts.getD 38 (.tup []), ts.getD 39 (.tup [])] := expand_ts 40 ts hlen
        rw [hx]
        try rw [hz]
        simp
      · simp [hds, h2, hz]
  · have hl' : (20 : Int) < rows.length := by omega
    have hb : decide ((rows.length : Int) ≤ 20) = false := decide_eq_false hl
    have hl3 : 20 < rows.length := by omega
    rw [hb, Bool.false_and]
    rcases ha with ⟨rfl, rfl⟩ | rfl
    · simp at hl3
    · simp [Fn.f_haulagelaw08_Few, hl', hl3]
def fewB (d : Ddl) (rows : List (Int × Col)) : Bool := decide (IntKind.i64.wrap (IntKind.i64.wrap (IntKind.i64.wrap (IntKind.i64.wrap ((d.table.length : Int) + d.column.length) + d.to.length) + d.key.length) + d.ds.length) ≤ 600) && (decide ((rows.length : Int) ≤ 20) && shorts rows)
theorem law_Few (u : F09 E) (d : Ddl) {sl : PV} {rows : List (Int × Col)} (ha : SlQ sl rows) (k : Nat) (hk : 50 ≤ k) (m : Mem) :
    denF E (k + 1) 171 [.p (.agg (dV d sl))] m = some (.ret (.p (.bool (fewB d rows))), m) := by
  have hfl := ha.flat
  unfold PV.flat at hfl
  refine denF_wp u.few rfl (args' := [.p (.agg (dV d sl))]) rfl ?_
  obtain ⟨j, rfl⟩ : ∃ j, k = j + 1 := ⟨k - 1, by omega⟩
  have hF := fun m => law_Few8 u ha j (by omega) m
  unfold fewB
  generalize (decide ((rows.length : Int) ≤ 20) && shorts rows) = b at *
  cases q : decide (IntKind.i64.wrap (IntKind.i64.wrap (IntKind.i64.wrap (IntKind.i64.wrap ((d.table.length : Int) + d.column.length) + d.to.length) + d.key.length) + d.ds.length) ≤ 600) with
  | false => simp (maxSteps := 4000000) [Fn.f_haulagelaw09_Few, dV, hfl, q]
  | true => rcases ha with ⟨rfl, rfl⟩ | rfl <;> simp (maxSteps := 4000000) [Fn.f_haulagelaw09_Few, dV, q, hF]
theorem shorts_mem {rows : List (Int × Col)} (h : shorts rows = true) {c : Int × Col} (hc : c ∈ rows) : c.2.name.length ≤ 200 ∧ c.2.ds.length ≤ 200 := by
  have := List.all_eq_true.1 h c hc
  unfold shortB at this
  simp only [Bool.and_eq_true, decide_eq_true_eq] at this
  omega
theorem law_DdltextPrints (w : W10 E) (e : E10 E) (r : D09 E) (f : F09 E) (hg : E.gl 3 = glWords) (h : E.fn 273 = some Fn.f_haulagelaw10_DdltextPrints) (k : Nat) (hlv : ∀ m, denF E (k + 7999) 231 [] m = some (.ret (.p (.bool true)), m)) {x0 : List PV} (c0 : Confs ddlSh x0) (hk : sizeL x0 ≤ k) (m : Mem) :
    denF E (k + 8000) 273 [.p (.agg x0)] m = some (.ret (.p (.bool true)), m) := by
  obtain ⟨d, sl, rows, rfl, _, ha, hd, hi⟩ := conf_ddl c0
  have hds : d.ds.length ≤ k := by
    have : sizeL (dV d sl) = _ := rfl
    simp [sizeL, dV, strSz] at hk
    omega
  have hfl := ha.flat
  unfold PV.flat at hfl
  rw [denF_pure h rfl]
  have hF := fun m => law_Few f d ha (k + 7998) (by omega) m
  cases hb : fewB d rows with
  | false =>
    rw [hb] at hF
    unfold dV at hF
    simp (maxSteps := 4000000) [Fn.f_haulagelaw10_DdltextPrints, dV, hfl, hlv, hF]
  | true =>
    rw [hb] at hF
    unfold fewB at hb
    simp only [Bool.and_eq_true, decide_eq_true_eq] at hb
    obtain ⟨_, hl, hsh⟩ := hb
    have hs : ∀ c ∈ rows, smallC c.2 := fun c hc => ⟨by have := (shorts_mem hsh hc).1; omega, by have := (shorts_mem hsh hc).2; omega, hi c hc⟩
    have h1 := fun m => ddl_Print w hg d ha hd hs (by omega) (k + 7998) (by omega) m
    have h2 := fun m => ref_Can r d ha hd hs (by omega) (k + 7998) (by omega) m
    have h3 := fun m => ddl_Can w.c d ha hd hs (by omega) (k + 7998) (by omega) m
    cases hcan : canQ d rows with
    | false =>
      rw [hcan] at h1 h2 h3
      simp only [Bool.false_eq_true, if_false] at h1
      unfold dV at hF h1 h2 h3
      simp (maxSteps := 4000000) [Fn.f_haulagelaw10_DdltextPrints, dV, hfl, hlv, hF, h1, h2, h3, bne]
    | true =>
      have h4 := fun m => ref_Print e d ha hd hs hcan (k + 7998) (by omega) m
      rw [hcan] at h1 h2 h3
      simp only [if_true] at h1
      unfold dV at hF h1 h2 h3 h4
      simp (maxSteps := 4000000) [Fn.f_haulagelaw10_DdltextPrints, dV, hfl, hlv, hF, h1, h2, h3, h4, bne]
end Hx

namespace Hx
open Go Go.RowKit
def strData {H : Type} (zs : List (List UInt8)) : DataW H := .agg (zs.map fun z => .lit (.string z))
def strV (z : List UInt8) : Value := .string ⟨z.toArray⟩
theorem cells_of_strs {H : Type} {enc : TypeId × Value → H} {P : Program} {w : World} {base : Nat} {sp : Nat → Bool} {held : Bool} {fuel : Nat} {t e : TypeId} {n : Nat} {cs : List Value} {zs : List (List UInt8)} {p : List MemPlace}
    (ht : P.underlying t = some (.array n e)) (he : P.underlying e = some .string) (hce : P.cellsOf e = 1) (hct : P.cellsOf t = n)
    (h : DataW.trod enc P w base sp held fuel t cs = some (strData zs, p)) : cs = zs.map strV := by
  cases fuel with
  | zero => simp [DataW.trod] at h
  | succ fuel =>
    simp only [DataW.trod, ht, hce, hct, Nat.mul_one] at h
    split at h
    · rename_i hl
      obtain ⟨xs, hm, hx⟩ := Option.map_eq_some_iff.1 h
      have hxs : xs.map (·.1) = zs.map fun z => (DataW.lit (.string z) : DataW H) := by
        have := congrArg Prod.fst hx
        simpa [strData] using this
      have hxl : xs.length = n := by simpa using Lib.mapM_length hm
      have hzl : zs.length = n := by
        have := congrArg List.length hxs
        simp at this
        omega
      apply List.ext_getElem?
      intro i
      by_cases hi : i < n
      · obtain ⟨b, hb, hf⟩ := Lib.mapM_at hm i i (by simp [hi])
        obtain ⟨z, hc, rfl, _⟩ := DataW.trod_string he hf
        have h1 : cs[i]? = some (.string z) := by
          have := congrArg (·[0]?) hc
          simpa [List.getElem?_take, List.getElem?_drop] using this
        have h2 : (xs.map (·.1))[i]? = some (DataW.lit (.string z.data.toList) : DataW H) := by simp [hb]
        rw [hxs] at h2
        simp only [List.getElem?_map, Option.map_eq_some_iff, DataW.lit.injEq, Lit.string.injEq] at h2
        obtain ⟨z', hz', hzz⟩ := h2
        subst hzz
        rw [h1, List.getElem?_map, hz']
        rfl
      · rw [List.getElem?_eq_none (by omega), List.getElem?_eq_none (by simp; omega)]
    · cases h
theorem strs_of {P : Program} {W : World} {name : String} {zs : List (List UInt8)} {rest : List (String × DataW Unit)} {g : Nat} {t e : TypeId} {n : Nat}
    (hg : P.globalNamed name = some g) (hty : (P.globals[g]?).map (·.type) = some t) (ht : P.underlying t = some (.array n e)) (he : P.underlying e = some .string) (hce : P.cellsOf e = 1) (hct : P.cellsOf t = n)
    (h : laidMet P ((name, strData zs) :: rest) W) : W.var? P name = some (zs.map strV).toArray := by
  obtain ⟨ps, ⟨g', t', cs, fuel, p, q, hg', ht', hvar, hd, _, _⟩, _⟩ := h
  obtain rfl := Option.some.inj (hg.symm.trans hg')
  obtain rfl := Option.some.inj (hty.symm.trans ht')
  rw [hvar, ← cells_of_strs ht he hce hct hd]
theorem gl_strs {F : Fix} {W : World} {name : String} {g : Nat} : ∀ {zs : List (List UInt8)} {n : Nat}, (∀ i, i < zs.length → W.cell? ⟨g, n + i, none⟩ = (zs.map strV)[i]?) → RPcells F (cx0 W) g n (zs.map .str)
  | [], n, _ => by simp [RPcells]
  | z :: zs, n, h => by
    simp only [List.map_cons, RPcells]
    have h0 := h 0 (by simp)
    simp only [Nat.add_zero, List.map_cons, List.getElem?_cons_zero] at h0
    refine ⟨⟨cx0_safe.2 ?_, rfl, _, h0, by simp [RP, strV]⟩, gl_strs (name := name) fun i hi => ?_⟩
    · simp only [World.cell?] at h0
      cases hh : W.heap[g]? with
      | none => rw [hh] at h0; cases h0
      | some o => exact (Array.getElem?_eq_some_iff.1 hh).1
    · have := h (i + 1) (by simpa using hi)
      rw [show n + 1 + i = n + (i + 1) by omega]
      simpa using this
end Hx
