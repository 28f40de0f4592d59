/-
  HxM25: what changes come to, all in all: the program's answer (by a map's entries) and the document's (by places in a list), in plain Lean.
-/
import Derived.Test.YtfobhbameffplaaHxArg
import Derived.Test.YtfobhbameffplaaHxSimp
import Derived.Test.YtfobhbameffplaaHxFn25
namespace Hx
open Go
theorem eq_tP {a b c d : Int} : eqTree (.struct [(0, 1, .int), (1, 1, .int)]) (.agg [.int .i64 a, .int .i64 b]) (.agg [.int .i64 c, .int .i64 d]) = some (a == c && b == d) := by
  simp [eqTree, eqFs, partP, EqT.agg]
theorem eq_vP {a b c d : Int} {s t : List UInt8} : eqTree (.struct [(0, 1, .int), (1, 1, .int), (2, 1, .str)]) (.agg [.int .i64 a, .int .i64 b, .str s]) (.agg [.int .i64 c, .int .i64 d, .str t]) = some (a == c && (b == d && s == t)) := by
  simp [eqTree, eqFs, partP, EqT.agg]
end Hx

namespace Hx
open Go
set_option linter.unusedSimpArgs false
set_option linter.unusedVariables false
set_option maxHeartbeats 32000000
set_option maxRecDepth 20000
variable {E : Env}
attribute [-simp] List.getD_eq_getElem?_getD getElem?_pos
structure Col where
  name : List UInt8
  kind : Int
  max : Int
  null : Bool
  dk : Int
  dn : Int
  ds : List UInt8
structure Ddl where
  op : Int
  table : List UInt8 := []
  column : List UInt8 := []
  to : List UInt8 := []
  key : List UInt8 := []
  kind : Int := 0
  max : Int := 0
  null : Bool := false
  dk : Int := 0
  dn : Int := 0
  ds : List UInt8 := []
  cols : List Col := []
def colQ (c : Int × Col) : List PV := [.int .i64 c.1, .str c.2.name, .int .i64 c.2.kind, .int .i64 c.2.max, .bool c.2.null, .int .i64 c.2.dk, .int .i64 c.2.dn, .str c.2.ds]
def sameQ (a b : Int × Col) : Bool := a.1 == b.1 && (a.2.name == b.2.name && ((a.2.kind == b.2.kind && a.2.max == b.2.max) && (a.2.null == b.2.null && (a.2.dk == b.2.dk && (a.2.dn == b.2.dn && a.2.ds == b.2.ds)))))
theorem sameQ_iff (a b : Int × Col) : sameQ a b = true ↔ a = b := by
  obtain ⟨a1, a2⟩ := a
  obtain ⟨b1, b2⟩ := b
  cases a2; cases b2
  unfold sameQ
  simp only [Bool.and_eq_true, beq_iff_eq, Prod.mk.injEq, Col.mk.injEq]
  constructor
  · rintro ⟨h1, h2, ⟨h3, h4⟩, h5, h6, h7, h8⟩; exact ⟨h1, h2, h3, h4, h5, h6, h7, h8⟩
  · rintro ⟨h1, h2, h3, h4, h5, h6, h7, h8⟩; exact ⟨h1, h2, ⟨h3, h4⟩, h5, h6, h7, h8⟩
def sameQs : List (Int × Col) → List (Int × Col) → Bool
  | [], [] => true
  | a :: l, b :: l' => sameQ a b && sameQs l l'
  | _, _ => false
theorem sameQs_iff : ∀ a b : List (Int × Col), sameQs a b = true ↔ a = b
  | [], [] => by simp [sameQs]
  | [], b :: l => by simp [sameQs]
  | a :: l, [] => by simp [sameQs]
  | a :: l, b :: l' => by simp [sameQs, sameQ_iff, sameQs_iff l l']
def dV (d : Ddl) (sl : PV) : List PV := [.int .i64 d.op, .str d.table, .str d.column, .str d.to, .str d.key, .int .i64 d.kind, .int .i64 d.max, .bool d.null, .int .i64 d.dk, .int .i64 d.dn, .str d.ds, sl]
def sameH (a b : Ddl) : Bool := a.op == b.op && (a.table == b.table && (a.column == b.column && (a.to == b.to && (a.key == b.key && ((a.kind == b.kind && a.max == b.max) && (a.null == b.null && (a.dk == b.dk && (a.dn == b.dn && a.ds == b.ds))))))))
def SlQ (sl : PV) (rows : List (Int × Col)) : Prop := (rows = [] ∧ sl = .nils) ∨ sl = .vals 8 (rows.map colQ)
theorem sameQs_self (a : List (Int × Col)) : sameQs a a = true := (sameQs_iff a a).2 rfl
theorem SlQ.flat {sl : PV} {rows : List (Int × Col)} (h : SlQ sl rows) : sl.flat = true := by rcases h with ⟨_, rfl⟩ | rfl <;> rfl
theorem eq_colQ (a b : Int × Col) : eqTree (.struct [(0, 1, .int), (1, 1, .str), (2, 2, (.struct [(0, 1, .int), (1, 1, .int)])), (4, 1, .bool), (5, 3, (.struct [(0, 1, .int), (1, 1, .int), (2, 1, .str)]))]) (.agg (colQ a)) (.agg (colQ b)) = some (sameQ a b) := by
  simp [eqTree, eqFs, partP, EqT.agg, colQ, sameQ]
theorem sameQs_len : ∀ {a b : List (Int × Col)}, a.length ≠ b.length → sameQs a b = false
  | [], [], h => absurd rfl h
  | [], _ :: _, _ => rfl
  | _ :: _, [], _ => rfl
  | a :: l, b :: l', h => by
    unfold sameQs
    rw [sameQs_len (by simpa using h), Bool.and_false]
theorem sameQs_step {a b : List (Int × Col)} {i : Nat} {x y : Int × Col} (hx : a[i]? = some x) (hy : b[i]? = some y) : sameQs (a.drop i) (b.drop i) = (sameQ x y && sameQs (a.drop (i + 1)) (b.drop (i + 1))) := by
  obtain ⟨h1, h2⟩ := List.getElem?_eq_some_iff.1 hx
  obtain ⟨h3, h4⟩ := List.getElem?_eq_some_iff.1 hy
  rw [List.drop_eq_getElem_cons h1, List.drop_eq_getElem_cons h3, h2, h4]
  rfl
theorem ref_SameCols (h : E.fn 193 = some Fn.f_haulageref08_SameCols) {sa sb : PV} {a b : List (Int × Col)} (ha : SlQ sa a) (hb : SlQ sb b) (hl : (a.length : Int) ≤ 1000000000) (k : Nat) (hk : a.length + 3 ≤ k) (m : Mem) :
    denF E (k + 1) 193 [.p sa, .p sb] m = some (.ret (.p (.bool (sameQs a b))), m) := by
  refine denF_wp h rfl (args' := [.p sa, .p sb]) rfl ?_
  by_cases hne : a.length = b.length
  · have hstart : Wp (iter (loopF E (denF E k) k Fn.f_haulageref08_SameCols_k0 Fn.f_haulageref08_SameCols_b0) k ⟨[.p sa, .p sb, .tup [], .tup [], .p (.bool false), .p (.int .i64 0), .p sa, .p (.int .i64 a.length), .p sb, .p (.int .i64 b.length), .p (.bool false), .tup [], .tup [], .tup [], .tup [], .tup [], .tup [], .tup [], .tup [], .tup [], .tup [], .tup [], .tup [], .tup [], .tup [], .tup []], [], []⟩)
        (fun e st => st.ds = [] ∧ st.ts.length = 26 ∧ ((e = .exit 0 ∧ sameQs a b = true) ∨ (e = .ret ∧ sameQs a b = false ∧ st.ts.getD 4 (.tup []) = .p (.bool false)))) := by
      refine loop_wp (α := Nat) (I := fun i st => i ≤ a.length ∧ sameQs (a.drop i) (b.drop i) = sameQs a b ∧ Live Fn.f_haulageref08_SameCols_k0 (Fn.f_haulageref08_SameCols_s0 (.p sa) (.p sb) (.p (.int .i64 i))) [] st) (meas := fun i => a.length - i) ?_ k 0 _ ⟨Nat.zero_le _, rfl, rfl, rfl, rfl, rfl⟩ (by omega)
      rintro i st ⟨hi, hs, hlive⟩
      rw [loopF_live hlive]
      by_cases hlt : i < a.length
      · have hlt' : (i : Int) < a.length := by omega
        obtain ⟨x, hx⟩ : ∃ x, a[i]? = some x := ⟨_, List.getElem?_eq_getElem hlt⟩
        obtain ⟨y, hy⟩ : ∃ y, b[i]? = some y := ⟨_, List.getElem?_eq_getElem (by omega)⟩
        rw [sameQs_step hx hy] at hs
        have hw : IntKind.i64.wrap ((i : Int) + 1) = ((i + 1 : Nat) : Int) := by rw [wrap_i64 (by omega) (by omega)]; omega
        have hE := eq_colQ x y
        have hlx : (colQ x).length = 8 := rfl
        have hly : (colQ y).length = 8 := rfl
        have htx : (colQ x).take 8 = colQ x := rfl
        have hty : (colQ y).take 8 = colQ y := rfl
        rcases ha with ⟨rfl, rfl⟩ | rfl
        · simp at hlt
        rcases hb with ⟨rfl, rfl⟩ | rfl
        · simp at hy
        cases hq : sameQ x y with
        | false =>
          rw [hq] at hs hE
          rw [Bool.false_and] at hs
          simp [Fn.f_haulageref08_SameCols_b0, Fn.f_haulageref08_SameCols_s0, hlt, hlt', hx, hy, hE, hlx, hly, htx, hty, hs.symm]
        | true =>
          rw [hq] at hs hE
          rw [Bool.true_and] at hs
          simp [Fn.f_haulageref08_SameCols_b0, Fn.f_haulageref08_SameCols_s0, hlt, hlt', hx, hy, hE, hlx, hly, htx, hty, hw, -Int.natCast_add]
          exact ⟨i + 1, by omega, hlt, hs, rfl, rfl, rfl, rfl⟩
      · have hlt' : ¬ (i : Int) < a.length := by omega
        have e1 : a.drop i = [] := List.drop_eq_nil_of_le (by omega)
        have e2 : b.drop i = [] := List.drop_eq_nil_of_le (by omega)
        rw [e1, e2] at hs
        have hs' : sameQs a b = true := hs.symm
        rcases ha with ⟨rfl, rfl⟩ | rfl
        · obtain rfl : i = 0 := by simpa using hi
          simp [Fn.f_haulageref08_SameCols_b0, Fn.f_haulageref08_SameCols_s0, hs']
        · simp [Fn.f_haulageref08_SameCols_b0, Fn.f_haulageref08_SameCols_s0, hlt', hs']
    have hbf : ((a.length : Int) == (b.length : Int)) = true := by simpa using (by omega : (a.length : Int) = b.length)
    have hfin : ∀ (Q : Ex → St → Prop), (∀ e st, st.ds = [] ∧ st.ts.length = 26 ∧ ((e = .exit 0 ∧ sameQs a b = true) ∨ (e = .ret ∧ sameQs a b = false ∧ st.ts.getD 4 (.tup []) = .p (.bool false))) → Q e st) → Wp (iter (loopF E (denF E k) k Fn.f_haulageref08_SameCols_k0 Fn.f_haulageref08_SameCols_b0) k ⟨[.p sa, .p sb, .tup [], .tup [], .p (.bool false), .p (.int .i64 0), .p sa, .p (.int .i64 a.length), .p sb, .p (.int .i64 b.length), .p (.bool false), .tup [], .tup [], .tup [], .tup [], .tup [], .tup [], .tup [], .tup [], .tup [], .tup [], .tup [], .tup [], .tup [], .tup [], .tup []], [], []⟩) Q := fun Q hQ => hstart.mono hQ
    have hbn : ((a.length : Int) == (b.length : Int)) = true := hbf
    rcases ha with ⟨rfl, rfl⟩ | rfl <;> rcases hb with ⟨rfl, rfl⟩ | rfl
    all_goals
      try simp only [List.length_nil, Int.natCast_zero] at hbn hfin
      simp [Fn.f_haulageref08_SameCols, bne, hbn]
      refine hfin _ ?_
      rintro e st ⟨hds, hlen, ⟨rfl, hsq⟩ | ⟨rfl, hsq, h4⟩⟩
      · obtain ⟨ts, m', ds⟩ := st
        simp only at hds hlen
        subst hds
        have hx : ts = [ts.getD 0 (.tup []), ts.getD 1 (.tup []), ts.getD 2 (.tup []), ts.getD 3 (.tup []), ts.getD 4 (.tup []), ts.getD 5 (.tup []), ts.getD 6 (.tup []), ts.getD 7 (.tup []), ts.getD 8 (.tup []), ts.getD 9 (.tup []), ts.getD 10 (.tup []), ts.getD 11 (.tup []), ts.getD 12 (.tup []), ts.getD 13 (.tup []), ts.getD 14 (.tup []), ts.getD 15 (.tup []), ts.getD 16 (.tup []), ts.getD 17 (.tup []), ts.getD 18 (.tup []), ts.getD 19 (.tup []), ts.getD 20 (.tup []), ts.getD 21 (.tup []), ts.getD 22 (.tup []), ts.getD 23 (.tup []), ts.getD 24 (.tup []), ts.getD 25 (.tup [])] := expand_ts 26 ts hlen
        rw [hx]
        simp [hsq]
      · simp [hds, h4, hsq]
  · have hbf : ((a.length : Int) == (b.length : Int)) = false := by simpa using (by omega : ¬ (a.length : Int) = b.length)
    rw [sameQs_len hne]
    rcases ha with ⟨rfl, rfl⟩ | rfl <;> rcases hb with ⟨rfl, rfl⟩ | rfl
    · exact absurd rfl hne
    all_goals
      try simp only [List.length_nil, Int.natCast_zero] at hbf
      simp [Fn.f_haulageref08_SameCols, bne, hbf]
structure L09 (E : Env) : Prop where
  same : E.fn 178 = some Fn.f_haulageref09_Same
  cols : E.fn 193 = some Fn.f_haulageref08_SameCols
theorem ref_Same (u : L09 E) (x y : Ddl) {sa sb : PV} {a b : List (Int × Col)} (ha : SlQ sa a) (hb : SlQ sb b) (hl : (a.length : Int) ≤ 1000000000) (k : Nat) (hk : a.length + 4 ≤ k) (m : Mem) :
    denF E (k + 1) 178 [.p (.agg (dV x sa)), .p (.agg (dV y sb))] m = some (.ret (.p (.bool (sameH x y && sameQs a b))), m) := by
  refine denF_wp u.same rfl (args' := [.p (.agg (dV x sa)), .p (.agg (dV y sb))]) rfl ?_
  obtain ⟨j, rfl⟩ : ∃ j, k = j + 1 := ⟨k - 1, by omega⟩
  have hC := fun m => ref_SameCols u.cols ha hb hl j (by omega) m
  have fa : sa.flat = true := by rcases ha with ⟨_, rfl⟩ | rfl <;> rfl
  have fb : sb.flat = true := by rcases hb with ⟨_, rfl⟩ | rfl <;> rfl
  unfold PV.flat at fa fb
  have hT := fun a b c d : Int => @eq_tP a b c d
  have hV := fun (a b c d : Int) (s t : List UInt8) => @eq_vP a b c d s t
  unfold sameH
  cases q1 : (x.op == y.op)
  · simp (maxSteps := 8000000) [Fn.f_haulageref09_Same, dV, fa, fb, q1]
  cases q2 : (x.table == y.table)
  · simp (maxSteps := 8000000) [Fn.f_haulageref09_Same, dV, fa, fb, q1, q2]
  cases q3 : (x.column == y.column)
  · simp (maxSteps := 8000000) [Fn.f_haulageref09_Same, dV, fa, fb, q1, q2, q3]
  cases q4 : (x.to == y.to)
  · simp (maxSteps := 8000000) [Fn.f_haulageref09_Same, dV, fa, fb, q1, q2, q3, q4]
  cases q5 : (x.key == y.key)
  · simp (maxSteps := 8000000) [Fn.f_haulageref09_Same, dV, fa, fb, q1, q2, q3, q4, q5]
  cases q6 : (x.kind == y.kind && x.max == y.max)
  · simp (maxSteps := 8000000) [Fn.f_haulageref09_Same, dV, fa, fb, hT, q1, q2, q3, q4, q5, q6]
  cases q7 : (x.null == y.null)
  · simp (maxSteps := 8000000) [Fn.f_haulageref09_Same, dV, fa, fb, hT, q1, q2, q3, q4, q5, q6, q7]
  cases q8 : (x.dk == y.dk && (x.dn == y.dn && x.ds == y.ds))
  · simp (maxSteps := 8000000) [Fn.f_haulageref09_Same, dV, fa, fb, hT, hV, q1, q2, q3, q4, q5, q6, q7, q8]
  · simp (maxSteps := 8000000) [Fn.f_haulageref09_Same, dV, fa, fb, hT, hV, hC, q1, q2, q3, q4, q5, q6, q7, q8]
structure F09 (E : Env) : Prop where
  few : E.fn 171 = some Fn.f_haulagelaw09_Few
  few8 : E.fn 169 = some Fn.f_haulagelaw08_Few
  short : E.fn 170 = some Fn.f_haulagelaw08_short
theorem law_short (u : F09 E) (s : List UInt8) (k : Nat) (m : Mem) : denF E (k + 1) 170 [.p (.str s)] m = some (.ret (.p (.bool (decide ((s.length : Int) ≤ 200)))), m) := by
  refine denF_wp u.short rfl (args' := [.p (.str s)]) rfl ?_
  simp [Fn.f_haulagelaw08_short]
def shortB (c : Int × Col) : Bool := decide ((c.2.name.length : Int) ≤ 200) && decide ((c.2.ds.length : Int) ≤ 200)
def shorts (rows : List (Int × Col)) : Bool := rows.all shortB
theorem shorts_step {rows : List (Int × Col)} {i : Nat} {x : Int × Col} (hx : rows[i]? = some x) : shorts (rows.drop i) = (shortB x && shorts (rows.drop (i + 1))) := by
  obtain ⟨h1, h2⟩ := List.getElem?_eq_some_iff.1 hx
  rw [List.drop_eq_getElem_cons h1, h2]
  rfl
theorem law_Few8 (u : F09 E) {sl : PV} {rows : List (Int × Col)} (ha : SlQ sl rows) (k : Nat) (hk : 40 ≤ k) (m : Mem) :
    denF E (k + 1) 169 [.p (.agg [.int .i64 0, .str [], .int .i64 0, .int .i64 0, sl])] m = some (.ret (.p (.bool (decide ((rows.length : Int) ≤ 20) && shorts rows))), m) := by
  have hfl := ha.flat
  unfold PV.flat at hfl
  refine denF_wp u.few8 rfl (args' := [.p (.agg [.int .i64 0, .str [], .int .i64 0, .int .i64 0, sl])]) rfl ?_
  obtain ⟨j, rfl⟩ : ∃ j, k = j + 1 := ⟨k - 1, by omega⟩
  have hS := fun s m => law_short u s j m
  by_cases hl : (rows.length : Int) ≤ 20
  · have hl' : ¬ (20 : Int) < rows.length := by omega
    have hl2 : rows.length ≤ 20 := by omega
    have hl3 : ¬ 20 < rows.length := by omega
    have hmain : Wp (iter (loopF E (denF E (j + 1)) (j + 1) Fn.f_haulagelaw08_Few_k0 Fn.f_haulagelaw08_Few_b0) (j + 1) ⟨[.p (.agg [.int .i64 0, .str [], .int .i64 0, .int .i64 0, sl]), .ptr 0 0, .p (.bool false), .p (.int .i64 0), .ptr 0 4, .p sl, .p (.int .i64 rows.length), .p (.bool false), .p (.bool false), .ptr 0 1, .p (.str []), .p (.bool true), .p (.bool false), .p (.bool false)] ++ List.replicate 26 (.tup []), [.cells [.p (.int .i64 0), .p (.str []), .p (.int .i64 0), .p (.int .i64 0), .p sl]], []⟩)
        (fun e st => st.ds = [] ∧ st.ts.length = 40 ∧ ((e = .exit 0 ∧ shorts rows = true) ∨ (e = .ret ∧ shorts rows = false ∧ st.ts.getD 2 (.tup []) = .p (.bool false)))) := by
      refine loop_wp (α := Nat) (I := fun i st => i ≤ rows.length ∧ shorts (rows.drop i) = shorts rows ∧ Live Fn.f_haulagelaw08_Few_k0 (Fn.f_haulagelaw08_Few_s0 (.ptr 0 0) (.p (.int .i64 i))) [.cells [.p (.int .i64 0), .p (.str []), .p (.int .i64 0), .p (.int .i64 0), .p sl]] st) (meas := fun i => rows.length - i) ?_ (j + 1) 0 _ ⟨Nat.zero_le _, rfl, rfl, rfl, rfl, rfl⟩ (by omega)
      rintro i st ⟨hi, hsq, hlive⟩
      rw [loopF_live hlive]
      by_cases hlt : i < rows.length
      · have hlt' : (i : Int) < rows.length := by omega
        obtain ⟨c, hc⟩ : ∃ c, rows[i]? = some c := ⟨_, List.getElem?_eq_getElem hlt⟩
        rw [shorts_step hc] at hsq
        have hw : IntKind.i64.wrap ((i : Int) + 1) = ((i + 1 : Nat) : Int) := by rw [wrap_i64 (by omega) (by omega)]; omega
        rcases ha with ⟨rfl, rfl⟩ | rfl
        · simp at hlt
        unfold shortB at hsq
        have s1 := fun m => hS c.2.name m
        have s2 := fun m => hS c.2.ds m
        cases q1 : decide ((c.2.name.length : Int) ≤ 200) with
        | false =>
          rw [q1] at s1 hsq
          simp only [Bool.false_and] at hsq
          simp [Fn.f_haulagelaw08_Few_b0, Fn.f_haulagelaw08_Few_s0, hlt, hlt', hc, colQ, s1, hsq.symm]
        | true =>
          rw [q1] at s1 hsq
          simp only [Bool.true_and] at hsq
          cases q2 : decide ((c.2.ds.length : Int) ≤ 200) with
          | false =>
            rw [q2] at s2 hsq
            simp only [Bool.false_and] at hsq
            simp [Fn.f_haulagelaw08_Few_b0, Fn.f_haulagelaw08_Few_s0, hlt, hlt', hc, colQ, s1, s2, hsq.symm]
          | true =>
            rw [q2] at s2 hsq
            simp only [Bool.true_and] at hsq
            simp [Fn.f_haulagelaw08_Few_b0, Fn.f_haulagelaw08_Few_s0, hlt, hlt', hc, colQ, s1, s2, hw, -Int.natCast_add]
            exact ⟨i + 1, by omega, hlt, hsq, rfl, rfl, rfl, rfl⟩
      · have hlt' : ¬ (i : Int) < rows.length := by omega
        have e1 : rows.drop i = [] := List.drop_eq_nil_of_le (by omega)
        rw [e1] at hsq
        have hs' : shorts rows = true := hsq.symm
        rcases ha with ⟨rfl, rfl⟩ | rfl
        · obtain rfl : i = 0 := by simpa using hi
          simp [Fn.f_haulagelaw08_Few_b0, Fn.f_haulagelaw08_Few_s0, hs']
        · simp [Fn.f_haulagelaw08_Few_b0, Fn.f_haulagelaw08_Few_s0, hlt', hs']
    obtain ⟨e, st, hrun, hds, hlen, hq⟩ := hmain
    have hb : decide ((rows.length : Int) ≤ 20) = true := decide_eq_true hl
    rw [hb, Bool.true_and]
    have hfin : ∀ Q : Ex → St → Prop, Q e st → Wp (some (e, st)) Q := fun Q h => ⟨e, st, rfl, h⟩
    simp only [List.replicate, List.cons_append, List.nil_append] at hrun
    rcases ha with ⟨rfl, rfl⟩ | rfl
    all_goals
      try simp only [List.length_nil, Int.natCast_zero] at hrun
      simp [Fn.f_haulagelaw08_Few, hS, hl', hl3, hrun]
      rcases hq with ⟨rfl, hz⟩ | ⟨rfl, hz, h2⟩
      · obtain ⟨ts, m', ds⟩ := st
        simp only at hds hlen
        subst hds
        have hx : ts = [ts.getD 0 (.tup []), ts.getD 1 (.tup []), ts.getD 2 (.tup []), ts.getD 3 (.tup []), ts.getD 4 (.tup []), ts.getD 5 (.tup []), ts.getD 6 (.tup []), ts.getD 7 (.tup []), ts.getD 8 (.tup []), ts.getD 9 (.tup []), ts.getD 10 (.tup []), ts.getD 11 (.tup []), ts.getD 12 (.tup []), ts.getD 13 (.tup []), ts.getD 14 (.tup []), ts.getD 15 (.tup []), ts.getD 16 (.tup []), ts.getD 17 (.tup []), ts.getD 18 (.tup []), ts.getD 19 (.tup []), ts.getD 20 (.tup []), ts.getD 21 (.tup []), ts.getD 22 (.tup []), ts.getD 23 (.tup []), ts.getD 24 (.tup []), ts.getD 25 (.tup []), ts.getD 26 (.tup []), ts.getD 27 (.tup []), ts.getD 28 (.tup []), ts.getD 29 (.tup []), ts.getD 30 (.tup []), ts.getD 31 (.tup []), ts.getD 32 (.tup []), ts.getD 33 (.tup []), ts.getD 34 (.tup []), ts.getD 35 (.tup []), ts.getD 36 (.tup []), ts.getD 37 (.tup []), ts.getD 38 (.tup []), ts.getD 39 (.tup [])] := expand_ts 40 ts hlen
        rw [hx]
        try rw [hz]
        simp
      · simp [hds, h2, hz]
  · have hl' : (20 : Int) < rows.length := by omega
    have hb : decide ((rows.length : Int) ≤ 20) = false := decide_eq_false hl
    have hl3 : 20 < rows.length := by omega
    rw [hb, Bool.false_and]
    rcases ha with ⟨rfl, rfl⟩ | rfl
    · simp at hl3
    · simp [Fn.f_haulagelaw08_Few, hl', hl3]
def fewB (d : Ddl) (rows : List (Int × Col)) : Bool := decide (IntKind.i64.wrap (IntKind.i64.wrap (IntKind.i64.wrap (IntKind.i64.wrap ((d.table.length : Int) + d.column.length) + d.to.length) + d.key.length) + d.ds.length) ≤ 600) && (decide ((rows.length : Int) ≤ 20) && shorts rows)
theorem law_Few (u : F09 E) (d : Ddl) {sl : PV} {rows : List (Int × Col)} (ha : SlQ sl rows) (k : Nat) (hk : 50 ≤ k) (m : Mem) :
    denF E (k + 1) 171 [.p (.agg (dV d sl))] m = some (.ret (.p (.bool (fewB d rows))), m) := by
  have hfl := ha.flat
  unfold PV.flat at hfl
  refine denF_wp u.few rfl (args' := [.p (.agg (dV d sl))]) rfl ?_
  obtain ⟨j, rfl⟩ : ∃ j, k = j + 1 := ⟨k - 1, by omega⟩
  have hF := fun m => law_Few8 u ha j (by omega) m
  unfold fewB
  generalize (decide ((rows.length : Int) ≤ 20) && shorts rows) = b at *
  cases q : decide (IntKind.i64.wrap (IntKind.i64.wrap (IntKind.i64.wrap (IntKind.i64.wrap ((d.table.length : Int) + d.column.length) + d.to.length) + d.key.length) + d.ds.length) ≤ 600) with
  | false => simp (maxSteps := 4000000) [Fn.f_haulagelaw09_Few, dV, hfl, q]
  | true => rcases ha with ⟨rfl, rfl⟩ | rfl <;> simp (maxSteps := 4000000) [Fn.f_haulagelaw09_Few, dV, q, hF]
end Hx

namespace Hx
open Go
structure Ch where
  kind : Int
  lsn : Int
  table : List UInt8
  kk : Int
  kn : Int
  ks : List UInt8
  cs : PV
  d : Ddl
  sl : PV
abbrev Key25 := List UInt8 × Int × Int × List UInt8
def Ch.key (c : Ch) : Key25 := (c.table, c.kk, c.kn, c.ks)
def sm (a b : Ch) : Bool := decide (a.key = b.key)
theorem sm_iff {a b : Ch} : sm a b = true ↔ a.key = b.key := by unfold sm; simp
theorem sm_comm (a b : Ch) : sm a b = sm b a := by unfold sm; rw [decide_eq_decide]; exact eq_comm
def comesB (f l : Ch) : Option Ch := if f.kind = 1 then (if l.kind = 3 then none else some { l with kind := 1 }) else if l.kind = 3 then some l else some { l with kind := 2 }

abbrev En := Key25 × Ch × Ch
def findE (k : Key25) : List En → Option (Ch × Ch)
  | [] => none
  | e :: r => if e.1 = k then some e.2 else findE k r
def setE (k : Key25) (c : Ch) : List En → List En
  | [] => []
  | e :: r => if e.1 = k then (k, e.2.1, c) :: r else e :: setE k c r
def addE (E : List En) (c : Ch) : Int × List En := match findE c.key E with
  | none => (0, E ++ [(c.key, c, c)])
  | some b => if c.kind = 1 ∧ b.2.kind ≠ 3 then (17, E) else if c.kind ≠ 1 ∧ b.2.kind = 3 then (18, E) else (0, setE c.key c E)
def endK (kd : Int) (E : List En) : List Ch := E.filterMap fun e => (comesB e.2.1 e.2.2).filter fun c => c.kind == kd
def endE (E : List En) : List Ch := endK 3 E ++ (endK 2 E ++ endK 1 E)
def ofP (plain : Ch → Bool) : List Ch → List Ch → List En → List Ch × Int
  | [], out, E => (out ++ endE E, 0)
  | c :: l, out, E => if plain c = false then ([], 2) else if c.kind = 4 then ofP plain l ((out ++ endE E) ++ [c]) [] else if (addE E c).1 ≠ 0 then ([], (addE E c).1) else ofP plain l out (addE E c).2


def firsts (pre : List Ch) : List Ch → List Ch
  | [] => []
  | c :: r => if pre.any (sm c) then firsts (pre ++ [c]) r else c :: firsts (pre ++ [c]) r
def lastOf (l : List Ch) (c : Ch) : Ch := ((l.filter (sm c)).getLast?).getD c
def entries (l : List Ch) : List En := (firsts [] l).map fun c => (c.key, c, lastOf l c)


def rowsP : List Ch → List Key25 → Int → Int
  | [], _, n => n
  | c :: l, seen, n => if c.kind = 4 then rowsP l [] n else if c.kind = 1 ∨ c.kind = 2 ∨ c.kind = 3 then (if seen.contains c.key then rowsP l seen n else rowsP l (seen ++ [c.key]) (n + 1)) else rowsP l seen n
end Hx
