/-
  HxQ10c: unlike changes have unlike texts; the law DdltextApart on the evaluator.
-/
import Derived.Test.YtifcegbomagcpaaDoorHxDefs
import Derived.Test.YtifcegbomagcpaaDoorHxP10b
import Derived.Test.YtifcegbomagcpaaDoorHxU06j
import Derived.Test.YtifcegbomagcpaaDoorHxP10f
import Derived.Test.YtifcegbomagcpaaDoorHxV05b
import Derived.Test.YtifcegbomagcpaaDoorHxU10d
namespace Hx.Fn
open Go
end Hx.Fn

namespace Hx
open Go
set_option linter.unusedSimpArgs false
set_option linter.unusedVariables false
set_option maxHeartbeats 32000000
set_option maxRecDepth 20000
variable {E : Env}
attribute [-simp] List.getD_eq_getElem?_getD getElem?_pos
end Hx

namespace Hx
open Go
set_option linter.unusedSimpArgs false
set_option linter.unusedVariables false
set_option maxHeartbeats 32000000
set_option maxRecDepth 20000
variable {E : Env}
attribute [-simp] List.getD_eq_getElem?_getD getElem?_pos
end Hx

namespace Hx
open Go
set_option linter.unusedSimpArgs false
set_option linter.unusedVariables false
set_option maxHeartbeats 32000000
set_option maxRecDepth 20000
variable {E : Env}
attribute [-simp] List.getD_eq_getElem?_getD getElem?_pos
def ddlSh : List Sh := [.int .i64, .str, .str, .str, .str, .int .i64, .int .i64, .bool, .int .i64, .int .i64, .str, .slice 8 [.int .i64, .str, .int .i64, .int .i64, .bool, .int .i64, .int .i64, .str]]
theorem conf_col {r : List PV} (h : Confs [.int .i64, .str, .int .i64, .int .i64, .bool, .int .i64, .int .i64, .str] r) : ∃ c : Int × Col, r = colQ c ∧ isI64 c.2.dn := by
  simp only [Confs, Conf] at h
  obtain ⟨_, _, rfl, ⟨a, rfl, _⟩, _, _, rfl, ⟨b, rfl, _⟩, _, _, rfl, ⟨c, rfl, _⟩, _, _, rfl, ⟨d, rfl, _⟩, _, _, rfl, ⟨e, rfl⟩, _, _, rfl, ⟨f, rfl, _⟩, _, _, rfl, ⟨g, rfl, g1, g2⟩, _, _, rfl, ⟨i, rfl, _⟩, rfl⟩ := h
  exact ⟨(a, ⟨b, c, d, e, f, g, i⟩), rfl, g1, g2⟩
theorem conf_cols : ∀ {rows : List (List PV)}, (∀ r ∈ rows, Confs [.int .i64, .str, .int .i64, .int .i64, .bool, .int .i64, .int .i64, .str] r) → ∃ l : List (Int × Col), rows = l.map colQ ∧ ∀ c ∈ l, isI64 c.2.dn
  | [], _ => ⟨[], rfl, by simp⟩
  | r :: rows, h => by
    obtain ⟨c, h1, h2⟩ := conf_col (h r (by simp))
    obtain ⟨l, h3, h4⟩ := conf_cols (rows := rows) (fun x hx => h x (by simp [hx]))
    exact ⟨c :: l, by rw [h1, h3]; rfl, by
      intro x hx
      rcases List.mem_cons.1 hx with rfl | hx
      · exact h2
      · exact h4 x hx⟩
theorem conf_ddl {x : List PV} (h : Confs ddlSh x) : ∃ (d : Ddl) (sl : PV) (rows : List (Int × Col)), x = dV d sl ∧ d.cols = [] ∧ SlQ sl rows ∧ smallD d ∧ (∀ c ∈ rows, isI64 c.2.dn) := by
  unfold ddlSh at h
  simp only [Confs, Conf] at h
  obtain ⟨_, _, rfl, ⟨op, rfl, _⟩, _, _, rfl, ⟨table, rfl, _⟩, _, _, rfl, ⟨column, rfl, _⟩, _, _, rfl, ⟨to, rfl, _⟩, _, _, rfl, ⟨key, rfl, _⟩, _, _, rfl, ⟨kind, rfl, _⟩, _, _, rfl, ⟨max, rfl, _⟩, _, _, rfl, ⟨null, rfl⟩, _, _, rfl, ⟨dk, rfl, _⟩, _, _, rfl, ⟨dn, rfl, n1, n2⟩, _, _, rfl, ⟨ds, rfl, hds⟩, _, _, rfl, hsl, rfl⟩ := h
  have hsm : smallD ⟨op, table, column, to, key, kind, max, null, dk, dn, ds, []⟩ := ⟨⟨n1, n2⟩, by simp only; omega⟩
  rcases hsl with rfl | ⟨rows, rfl, _, hr⟩
  · exact ⟨⟨op, table, column, to, key, kind, max, null, dk, dn, ds, []⟩, .nils, [], rfl, rfl, .inl ⟨rfl, rfl⟩, hsm, by simp⟩
  · have hr' : ∀ r ∈ rows, Confs [.int .i64, .str, .int .i64, .int .i64, .bool, .int .i64, .int .i64, .str] r := fun r hx => by simpa only [Confs, Conf] using hr r hx
    obtain ⟨l, rfl, h2⟩ := conf_cols hr'
    exact ⟨⟨op, table, column, to, key, kind, max, null, dk, dn, ds, []⟩, .vals 8 (l.map colQ), l, rfl, rfl, .inr rfl, hsm, h2⟩
def strSz : PV → Nat
  | .str s => s.length
  | _ => 0
def sizeL (xs : List PV) : Nat := (xs.map strSz).sum
structure F09 (E : Env) : Prop where
  few : E.fn 171 = some Fn.f_haulagelaw09_Few
  few8 : E.fn 169 = some Fn.f_haulagelaw08_Few
  short : E.fn 170 = some Fn.f_haulagelaw08_short
theorem law_short (u : F09 E) (s : List UInt8) (k : Nat) (m : Mem) : denF E (k + 1) 170 [.p (.str s)] m = some (.ret (.p (.bool (decide ((s.length : Int) ≤ 200)))), m) := by
  refine denF_wp u.short rfl (args' := [.p (.str s)]) rfl ?_
  simp [Fn.f_haulagelaw08_short]
def shortB (c : Int × Col) : Bool := decide ((c.2.name.length : Int) ≤ 200) && decide ((c.2.ds.length : Int) ≤ 200)
def shorts (rows : List (Int × Col)) : Bool := rows.all shortB
theorem shorts_step {rows : List (Int × Col)} {i : Nat} {x : Int × Col} (hx : rows[i]? = some x) : shorts (rows.drop i) = (shortB x && shorts (rows.drop (i + 1))) := by
  obtain ⟨h1, h2⟩ := List.getElem?_eq_some_iff.1 hx
  rw [List.drop_eq_getElem_cons h1, h2]
  rfl
theorem law_Few8 (u : F09 E) {sl : PV} {rows : List (Int × Col)} (ha : SlQ sl rows) (k : Nat) (hk : 40 ≤ k) (m : Mem) :
    denF E (k + 1) 169 [.p (.agg [.int .i64 0, .str [], .int .i64 0, .int .i64 0, sl])] m = some (.ret (.p (.bool (decide ((rows.length : Int) ≤ 20) && shorts rows))), m) := by
  have hfl := ha.flat
  unfold PV.flat at hfl
  refine denF_wp u.few8 rfl (args' := [.p (.agg [.int .i64 0, .str [], .int .i64 0, .int .i64 0, sl])]) rfl ?_
  obtain ⟨j, rfl⟩ : ∃ j, k = j + 1 := ⟨k - 1, by omega⟩
  have hS := fun s m => law_short u s j m
  by_cases hl : (rows.length : Int) ≤ 20
  · have hl' : ¬ (20 : Int) < rows.length := by omega
    have hl2 : rows.length ≤ 20 := by omega
    have hl3 : ¬ 20 < rows.length := by omega
    have hmain : Wp (iter (loopF E (denF E (j + 1)) (j + 1) Fn.f_haulagelaw08_Few_k0 Fn.f_haulagelaw08_Few_b0) (j + 1) ⟨[.p (.agg [.int .i64 0, .str [], .int .i64 0, .int .i64 0, sl]), .ptr 0 0, .p (.bool false), .p (.int .i64 0), .ptr 0 4, .p sl, .p (.int .i64 rows.length), .p (.bool false), .p (.bool false), .ptr 0 1, .p (.str []), .p (.bool true), .p (.bool false), .p (.bool false)] ++ List.replicate 26 (.tup []), [.cells [.p (.int .i64 0), .p (.str []), .p (.int .i64 0), .p (.int .i64 0), .p sl]], []⟩)
        (fun e st => st.ds = [] ∧ st.ts.length = 40 ∧ ((e = .exit 0 ∧ shorts rows = true) ∨ (e = .ret ∧ shorts rows = false ∧ st.ts.getD 2 (.tup []) = .p (.bool false)))) := by
      refine loop_wp (α := Nat) (I := fun i st => i ≤ rows.length ∧ shorts (rows.drop i) = shorts rows ∧ Live Fn.f_haulagelaw08_Few_k0 (Fn.f_haulagelaw08_Few_s0 (.ptr 0 0) (.p (.int .i64 i))) [.cells [.p (.int .i64 0), .p (.str []), .p (.int .i64 0), .p (.int .i64 0), .p sl]] st) (meas := fun i => rows.length - i) ?_ (j + 1) 0 _ ⟨Nat.zero_le _, rfl, rfl, rfl, rfl, rfl⟩ (by omega)
      rintro i st ⟨hi, hsq, hlive⟩
      rw [loopF_live hlive]
      by_cases hlt : i < rows.length
      · have hlt' : (i : Int) < rows.length := by omega
        obtain ⟨c, hc⟩ : ∃ c, rows[i]? = some c := ⟨_, List.getElem?_eq_getElem hlt⟩
        rw [shorts_step hc] at hsq
        have hw : IntKind.i64.wrap ((i : Int) + 1) = ((i + 1 : Nat) : Int) := by rw [wrap_i64 (by omega) (by omega)]; omega
        rcases ha with ⟨rfl, rfl⟩ | rfl
        · simp at hlt
        unfold shortB at hsq
        have s1 := fun m => hS c.2.name m
        have s2 := fun m => hS c.2.ds m
        cases q1 : decide ((c.2.name.length : Int) ≤ 200) with
        | false =>
          rw [q1] at s1 hsq
          simp only [Bool.false_and] at hsq
          simp [Fn.f_haulagelaw08_Few_b0, Fn.f_haulagelaw08_Few_s0, hlt, hlt', hc, colQ, s1, hsq.symm]
        | true =>
          rw [q1] at s1 hsq
          simp only [Bool.true_and] at hsq
          cases q2 : decide ((c.2.ds.length : Int) ≤ 200) with
          | false =>
            rw [q2] at s2 hsq
            simp only [Bool.false_and] at hsq
            simp [Fn.f_haulagelaw08_Few_b0, Fn.f_haulagelaw08_Few_s0, hlt, hlt', hc, colQ, s1, s2, hsq.symm]
          | true =>
            rw [q2] at s2 hsq
            simp only [Bool.true_and] at hsq
            simp [Fn.f_haulagelaw08_Few_b0, Fn.f_haulagelaw08_Few_s0, hlt, hlt', hc, colQ, s1, s2, hw, -Int.natCast_add]
            exact ⟨i + 1, by omega, hlt, hsq, rfl, rfl, rfl, rfl⟩
      · have hlt' : ¬ (i : Int) < rows.length := by omega
        have e1 : rows.drop i = [] := List.drop_eq_nil_of_le (by omega)
        rw [e1] at hsq
        have hs' : shorts rows = true := hsq.symm
        rcases ha with ⟨rfl, rfl⟩ | rfl
        · obtain rfl : i = 0 := by simpa using hi
          simp [Fn.f_haulagelaw08_Few_b0, Fn.f_haulagelaw08_Few_s0, hs']
        · simp [Fn.f_haulagelaw08_Few_b0, Fn.f_haulagelaw08_Few_s0, hlt', hs']
    obtain ⟨e, st, hrun, hds, hlen, hq⟩ := hmain
    have hb : decide ((rows.length : Int) ≤ 20) = true := decide_eq_true hl
    rw [hb, Bool.true_and]
    have hfin : ∀ Q : Ex → St → Prop, Q e st → Wp (some (e, st)) Q := fun Q h => ⟨e, st, rfl, h⟩
    simp only [List.replicate, List.cons_append, List.nil_append] at hrun
    rcases ha with ⟨rfl, rfl⟩ | rfl
    all_goals
      try simp only [List.length_nil, Int.natCast_zero] at hrun
      simp [Fn.f_haulagelaw08_Few, hS, hl', hl3, hrun]
      rcases hq with ⟨rfl, hz⟩ | ⟨rfl, hz, h2⟩
      · obtain ⟨ts, m', ds⟩ := st
        simp only at hds hlen
        subst hds
        have hx : ts = [ts.getD 0 (.tup []), ts.getD 1 (.tup []), ts.getD 2 (.tup []), ts.getD 3 (.tup []), ts.getD 4 (.tup []), ts.getD 5 (.tup []), ts.getD 6 (.tup []), ts.getD 7 (.tup []), ts.getD 8 (.tup []), ts.getD 9 (.tup []), ts.getD 10 (.tup []), ts.getD 11 (.tup []), ts.getD 12 (.tup []), ts.getD 13 (.tup []), ts.getD 14 (.tup []), ts.getD 15 (.tup []), ts.getD 16 (.tup []), ts.getD 17 (.tup []), ts.getD 18 (.tup []), ts.getD 19 (.tup []), ts.getD 20 (.tup []), ts.getD 21 (.tup []), ts.getD 22 (.tup []), ts.getD 23 (.tup []), ts.getD 24 (.tup []), ts.getD 25 (.tup []), ts.getD 26 (.tup []), ts.getD 27 (.tup []), ts.getD 28 (.tup []), ts.getD 29 (.tup []), ts.getD 30 (.tup []), ts.getD 31 (.tup []), ts.getD 32 (.tup []), ts.getD 33 (.tup []), ts.getD 34 (.tup []), ts.getD 35 (.tup []), ts.getD 36 (.tup []), ts.getD 37 (.tup []), ts.getD 38 (.tup []), ts.getD 39 (.tup [])] := expand_ts 40 ts hlen
        rw [hx]
        try rw [hz]
        simp
      · simp [hds, h2, hz]
  · have hl' : (20 : Int) < rows.length := by omega
    have hb : decide ((rows.length : Int) ≤ 20) = false := decide_eq_false hl
    have hl3 : 20 < rows.length := by omega
    rw [hb, Bool.false_and]
    rcases ha with ⟨rfl, rfl⟩ | rfl
    · simp at hl3
    · simp [Fn.f_haulagelaw08_Few, hl', hl3]
def fewB (d : Ddl) (rows : List (Int × Col)) : Bool := decide (IntKind.i64.wrap (IntKind.i64.wrap (IntKind.i64.wrap (IntKind.i64.wrap ((d.table.length : Int) + d.column.length) + d.to.length) + d.key.length) + d.ds.length) ≤ 600) && (decide ((rows.length : Int) ≤ 20) && shorts rows)
theorem law_Few (u : F09 E) (d : Ddl) {sl : PV} {rows : List (Int × Col)} (ha : SlQ sl rows) (k : Nat) (hk : 50 ≤ k) (m : Mem) :
    denF E (k + 1) 171 [.p (.agg (dV d sl))] m = some (.ret (.p (.bool (fewB d rows))), m) := by
  have hfl := ha.flat
  unfold PV.flat at hfl
  refine denF_wp u.few rfl (args' := [.p (.agg (dV d sl))]) rfl ?_
  obtain ⟨j, rfl⟩ : ∃ j, k = j + 1 := ⟨k - 1, by omega⟩
  have hF := fun m => law_Few8 u ha j (by omega) m
  unfold fewB
  generalize (decide ((rows.length : Int) ≤ 20) && shorts rows) = b at *
  cases q : decide (IntKind.i64.wrap (IntKind.i64.wrap (IntKind.i64.wrap (IntKind.i64.wrap ((d.table.length : Int) + d.column.length) + d.to.length) + d.key.length) + d.ds.length) ≤ 600) with
  | false => simp (maxSteps := 4000000) [Fn.f_haulagelaw09_Few, dV, hfl, q]
  | true => rcases ha with ⟨rfl, rfl⟩ | rfl <;> simp (maxSteps := 4000000) [Fn.f_haulagelaw09_Few, dV, q, hF]
theorem shorts_mem {rows : List (Int × Col)} (h : shorts rows = true) {c : Int × Col} (hc : c ∈ rows) : c.2.name.length ≤ 200 ∧ c.2.ds.length ≤ 200 := by
  have := List.all_eq_true.1 h c hc
  unfold shortB at this
  simp only [Bool.and_eq_true, decide_eq_true_eq] at this
  omega
end Hx

namespace Hx
open Go
set_option linter.unusedSimpArgs false
set_option linter.unusedVariables false
set_option maxHeartbeats 32000000
set_option maxRecDepth 20000
variable {E : Env}
attribute [-simp] List.getD_eq_getElem?_getD getElem?_pos
theorem can_plain {d : Ddl} {rows : List (Int × Col)} (h : canQ d rows = true) : d.bare = (keepOf d).bare ∧ ((d.op = 1 ∧ idsZ rows = true) ∨ (d.op ≠ 1 ∧ rows = [])) := by
  unfold canQ plainQ at h
  simp only [Bool.and_eq_true] at h
  obtain ⟨⟨_, h1, h2⟩, _⟩ := h
  refine ⟨(sameH_iff _ _).1 h2, ?_⟩
  by_cases ho : d.op = 1
  · rw [if_pos ho] at h1; exact .inl ⟨ho, h1⟩
  · rw [if_neg ho] at h1; exact .inr ⟨ho, by simpa using h1⟩
theorem idsZ_map : ∀ {a b : List (Int × Col)}, idsZ a = true → idsZ b = true → a.map (·.2) = b.map (·.2) → a = b
  | [], [], _, _, _ => rfl
  | [], _ :: _, _, _, h => by simp at h
  | _ :: _, [], _, _, h => by simp at h
  | (i, x) :: a, (j, y) :: b, ha, hb, h => by
    unfold idsZ at ha hb
    simp only [List.all_cons, Bool.and_eq_true, beq_iff_eq] at ha hb
    simp only [List.map_cons, List.cons.injEq] at h
    obtain ⟨rfl, h⟩ := h
    rw [ha.1, hb.1, idsZ_map (a := a) (b := b) ha.2 hb.2 h]
theorem printQ_bare {a b : Ddl} (h : a.bare = b.bare) (cols : List Col) : printQ a cols = printQ b cols := by
  have ha : printQ a cols = printQ a.bare cols := rfl
  have hb : printQ b cols = printQ b.bare cols := rfl
  rw [ha, hb, h]
theorem apart {a b : Ddl} {ra rb : List (Int × Col)} (ha : canQ a ra = true) (hb : canQ b rb = true) (na : isI64 a.dn) (nb' : isI64 b.dn) (ia : ∀ c ∈ ra, isI64 c.2.dn) (ib : ∀ c ∈ rb, isI64 c.2.dn) :
    (printQ a (ra.map (·.2)) == printQ b (rb.map (·.2))) = (sameH a b && sameQs ra rb) := by
  rw [Bool.eq_iff_iff, Bool.and_eq_true, beq_iff_eq, sameH_iff, sameQs_iff]
  constructor
  · intro h
    have e0 : blanksL [] := by intro c hc; cases hc
    have s0 : stopT [] := by intro c hc; cases hc
    have h1 := pAll_L (g := []) (B := []) (Z := []) e0 e0 e0 s0 a ra ha na ia
    have h2 := pAll_L (g := []) (B := []) (Z := []) e0 e0 e0 s0 b rb hb nb' ib
    simp only [List.nil_append, List.append_nil, printL_nil] at h1 h2
    rw [h, h2] at h1
    simp only [PR.ok.injEq, and_true] at h1
    obtain ⟨p1, p2⟩ := can_plain ha
    obtain ⟨q1, q2⟩ := can_plain hb
    have hk : (keepOf b).bare = (keepOf a).bare := by
      have e1 : (readBack a (ra.map (·.2))).bare = (keepOf a).bare := rfl
      have e2 : (readBack b (rb.map (·.2))).bare = (keepOf b).bare := rfl
      rw [← e1, ← e2, h1]
    have hab : a.bare = b.bare := by rw [p1, q1, hk]
    refine ⟨hab, ?_⟩
    have hop : a.op = b.op := by
      have e1 : a.bare.op = a.op := rfl
      have e2 : b.bare.op = b.op := rfl
      rw [← e1, ← e2, hab]
    have hc := congrArg Ddl.cols h1
    unfold readBack at hc
    simp only at hc
    rcases p2 with ⟨o1, z1⟩ | ⟨o1, r1⟩
    · rcases q2 with ⟨o2, z2⟩ | ⟨o2, r2⟩
      · rw [if_pos o1, if_pos o2] at hc
        exact idsZ_map z1 z2 hc.symm
      · rw [← hop] at o2; exact absurd o1 o2
    · rcases q2 with ⟨o2, z2⟩ | ⟨o2, r2⟩
      · rw [hop] at o1; exact absurd o2 o1
      · rw [r1, r2]
  · rintro ⟨h1, rfl⟩
    exact printQ_bare h1 _
theorem law_DdltextApart (w : W10 E) (l : L09 E) (f : F09 E) (hg : E.gl 3 = glWords) (h : E.fn 230 = some Fn.f_haulagelaw10_DdltextApart) (k : Nat) (hlv : ∀ m, denF E (k + 7999) 231 [] m = some (.ret (.p (.bool true)), m)) {x0 x1 : List PV} (c0 : Confs ddlSh x0) (c1 : Confs ddlSh x1) (hk : sizeL x0 + sizeL x1 ≤ k) (m : Mem) :
    denF E (k + 8000) 230 [.p (.agg x0), .p (.agg x1)] m = some (.ret (.p (.bool true)), m) := by
  obtain ⟨a, sa, ra, rfl, _, ha, hda, hia⟩ := conf_ddl c0
  obtain ⟨b, sb, rb, rfl, _, hb, hdb, hib⟩ := conf_ddl c1
  have hds : a.ds.length ≤ k ∧ b.ds.length ≤ k := by
    simp [sizeL, dV, strSz] at hk
    omega
  have hfa := ha.flat
  have hfb := hb.flat
  unfold PV.flat at hfa hfb
  rw [denF_pure h rfl]
  have hF := fun m => law_Few f a ha (k + 7998) (by omega) m
  have hG := fun m => law_Few f b hb (k + 7998) (by omega) m
  cases h1 : fewB a ra with
  | false =>
    rw [h1] at hF
    unfold dV at hF
    simp (maxSteps := 4000000) [Fn.f_haulagelaw10_DdltextApart, dV, hfa, hfb, hlv, hF]
  | true =>
  cases h2 : fewB b rb with
  | false =>
    rw [h1] at hF
    rw [h2] at hG
    unfold dV at hF hG
    simp (maxSteps := 4000000) [Fn.f_haulagelaw10_DdltextApart, dV, hfa, hfb, hlv, hF, hG]
  | true =>
    rw [h1] at hF
    rw [h2] at hG
    unfold fewB at h1 h2
    simp only [Bool.and_eq_true, decide_eq_true_eq] at h1 h2
    obtain ⟨_, hla, hsa⟩ := h1
    obtain ⟨_, hlb, hsb⟩ := h2
    have hsa' : ∀ c ∈ ra, smallC c.2 := fun c hc => ⟨by have := (shorts_mem hsa hc).1; omega, by have := (shorts_mem hsa hc).2; omega, hia c hc⟩
    have hsb' : ∀ c ∈ rb, smallC c.2 := fun c hc => ⟨by have := (shorts_mem hsb hc).1; omega, by have := (shorts_mem hsb hc).2; omega, hib c hc⟩
    have h3 := fun m => ddl_Print w hg a ha hda hsa' (by omega) (k + 7998) (by omega) m
    have h4 := fun m => ddl_Print w hg b hb hdb hsb' (by omega) (k + 7998) (by omega) m
    have h5 := fun m => ref_Same l a b ha hb (by omega) (k + 7998) (by omega) m
    cases ca : canQ a ra with
    | false =>
      rw [ca] at h3
      simp only [Bool.false_eq_true, if_false] at h3
      cases cb : canQ b rb <;> rw [cb] at h4 <;> simp only [Bool.false_eq_true, if_false, if_true] at h4 <;> unfold dV at hF hG h3 h4 h5 <;> simp (maxSteps := 4000000) [Fn.f_haulagelaw10_DdltextApart, dV, hfa, hfb, hlv, hF, hG, h3, h4, h5, bne]
    | true =>
      rw [ca] at h3
      simp only [if_true] at h3
      cases cb : canQ b rb with
      | false =>
        rw [cb] at h4
        simp only [Bool.false_eq_true, if_false] at h4
        unfold dV at hF hG h3 h4 h5
        simp (maxSteps := 4000000) [Fn.f_haulagelaw10_DdltextApart, dV, hfa, hfb, hlv, hF, hG, h3, h4, h5, bne]
      | true =>
        rw [cb] at h4
        simp only [if_true] at h4
        have hap := apart ca cb hda.1 hdb.1 hia hib
        rw [← hap] at h5
        generalize printQ a (ra.map (·.2)) = ta at *
        generalize printQ b (rb.map (·.2)) = tb at *
        unfold dV at hF hG h3 h4 h5
        simp (maxSteps := 4000000) [Fn.f_haulagelaw10_DdltextApart, dV, hfa, hfb, hlv, hF, hG, h3, h4, h5, bne]
end Hx
