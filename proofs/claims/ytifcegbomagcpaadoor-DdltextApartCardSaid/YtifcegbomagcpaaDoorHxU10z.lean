/-
  HxU10z: when the document says that two changes are alike; the law DdltextParses on the evaluator.
-/
import Derived.Test.YtifcegbomagcpaaDoorHxU10d
import Derived.Test.YtifcegbomagcpaaDoorHxU06j
import Derived.Test.YtifcegbomagcpaaDoorHxM10o
namespace Hx
open Go
set_option linter.unusedSimpArgs false
set_option linter.unusedVariables false
set_option maxHeartbeats 32000000
set_option maxRecDepth 20000
variable {E : Env}
attribute [-simp] List.getD_eq_getElem?_getD getElem?_pos
end Hx

namespace Hx
open Go
set_option linter.unusedSimpArgs false
set_option linter.unusedVariables false
set_option maxHeartbeats 32000000
set_option maxRecDepth 20000
variable {E : Env}
attribute [-simp] List.getD_eq_getElem?_getD getElem?_pos
end Hx

namespace Hx
open Go
set_option linter.unusedSimpArgs false
set_option linter.unusedVariables false
set_option maxHeartbeats 8000000
set_option maxRecDepth 20000
variable {E : Env}
attribute [-simp] List.getD_eq_getElem?_getD getElem?_pos
end Hx

namespace Hx
open Go
set_option linter.unusedSimpArgs false
set_option linter.unusedVariables false
set_option maxHeartbeats 32000000
set_option maxRecDepth 20000
variable {E : Env}
attribute [-simp] List.getD_eq_getElem?_getD getElem?_pos
end Hx

namespace Hx
open Go
set_option linter.unusedSimpArgs false
set_option linter.unusedVariables false
set_option maxHeartbeats 32000000
set_option maxRecDepth 20000
variable {E : Env}
attribute [-simp] List.getD_eq_getElem?_getD getElem?_pos
end Hx

namespace Hx
open Go
set_option linter.unusedSimpArgs false
set_option linter.unusedVariables false
set_option maxHeartbeats 32000000
set_option maxRecDepth 20000
variable {E : Env}
attribute [-simp] List.getD_eq_getElem?_getD getElem?_pos
theorem eq_colQ (a b : Int × Col) : eqTree (.struct [(0, 1, .int), (1, 1, .str), (2, 2, (.struct [(0, 1, .int), (1, 1, .int)])), (4, 1, .bool), (5, 3, (.struct [(0, 1, .int), (1, 1, .int), (2, 1, .str)]))]) (.agg (colQ a)) (.agg (colQ b)) = some (sameQ a b) := by
  simp [eqTree, eqFs, partP, EqT.agg, colQ, sameQ]
theorem sameQs_len : ∀ {a b : List (Int × Col)}, a.length ≠ b.length → sameQs a b = false
  | [], [], h => absurd rfl h
  | [], _ :: _, _ => rfl
  | _ :: _, [], _ => rfl
  | a :: l, b :: l', h => by
    unfold sameQs
    rw [sameQs_len (by simpa using h), Bool.and_false]
theorem sameQs_step {a b : List (Int × Col)} {i : Nat} {x y : Int × Col} (hx : a[i]? = some x) (hy : b[i]? = some y) : sameQs (a.drop i) (b.drop i) = (sameQ x y && sameQs (a.drop (i + 1)) (b.drop (i + 1))) := by
  obtain ⟨h1, h2⟩ := List.getElem?_eq_some_iff.1 hx
  obtain ⟨h3, h4⟩ := List.getElem?_eq_some_iff.1 hy
  rw [List.drop_eq_getElem_cons h1, List.drop_eq_getElem_cons h3, h2, h4]
  rfl
theorem ref_SameCols (h : E.fn 193 = some Fn.f_haulageref08_SameCols) {sa sb : PV} {a b : List (Int × Col)} (ha : SlQ sa a) (hb : SlQ sb b) (hl : (a.length : Int) ≤ 1000000000) (k : Nat) (hk : a.length + 3 ≤ k) (m : Mem) :
    denF E (k + 1) 193 [.p sa, .p sb] m = some (.ret (.p (.bool (sameQs a b))), m) := by
  refine denF_wp h rfl (args' := [.p sa, .p sb]) rfl ?_
  by_cases hne : a.length = b.length
  · have hstart : Wp (iter (loopF E (denF E k) k Fn.f_haulageref08_SameCols_k0 Fn.f_haulageref08_SameCols_b0) k ⟨[.p sa, .p sb, .tup [], .tup [], .p (.bool false), .p (.int .i64 0), .p sa, .p (.int .i64 a.length), .p sb, .p (.int .i64 b.length), .p (.bool false), .tup [], .tup [], .tup [], .tup [], .tup [], .tup [], .tup [], .tup [], .tup [], .tup [], .tup [], .tup [], .tup [], .tup [], .tup []], [], []⟩)
        (fun e st => st.ds = [] ∧ st.ts.length = 26 ∧ ((e = .exit 0 ∧ sameQs a b = true) ∨ (e = .ret ∧ sameQs a b = false ∧ st.ts.getD 4 (.tup []) = .p (.bool false)))) := by
      refine loop_wp (α := Nat) (I := fun i st => i ≤ a.length ∧ sameQs (a.drop i) (b.drop i) = sameQs a b ∧ Live Fn.f_haulageref08_SameCols_k0 (Fn.f_haulageref08_SameCols_s0 (.p sa) (.p sb) (.p (.int .i64 i))) [] st) (meas := fun i => a.length - i) ?_ k 0 _ ⟨Nat.zero_le _, rfl, rfl, rfl, rfl, rfl⟩ (by omega)
      rintro i st ⟨hi, hs, hlive⟩
      rw [loopF_live hlive]
      by_cases hlt : i < a.length
      · have hlt' : (i : Int) < a.length := by omega
        obtain ⟨x, hx⟩ : ∃ x, a[i]? = some x := ⟨_, List.getElem?_eq_getElem hlt⟩
        obtain ⟨y, hy⟩ : ∃ y, b[i]? = some y := ⟨_, List.getElem?_eq_getElem (by omega)⟩
        rw [sameQs_step hx hy] at hs
        have hw : IntKind.i64.wrap ((i : Int) + 1) = ((i + 1 : Nat) : Int) := by rw [wrap_i64 (by omega) (by omega)]; omega
        have hE := eq_colQ x y
        have hlx : (colQ x).length = 8 := rfl
        have hly : (colQ y).length = 8 := rfl
        have htx : (colQ x).take 8 = colQ x := rfl
        have hty : (colQ y).take 8 = colQ y := rfl
        rcases ha with ⟨rfl, rfl⟩ | rfl
        · simp at hlt
        rcases hb with ⟨rfl, rfl⟩ | rfl
        · simp at hy
        cases hq : sameQ x y with
        | false =>
          rw [hq] at hs hE
          rw [Bool.false_and] at hs
          simp [Fn.f_haulageref08_SameCols_b0, Fn.f_haulageref08_SameCols_s0, hlt, hlt', hx, hy, hE, hlx, hly, htx, hty, hs.symm]
        | true =>
          rw [hq] at hs hE
          rw [Bool.true_and] at hs
          simp [Fn.f_haulageref08_SameCols_b0, Fn.f_haulageref08_SameCols_s0, hlt, hlt', hx, hy, hE, hlx, hly, htx, hty, hw, -Int.natCast_add]
          exact ⟨i + 1, by omega, hlt, hs, rfl, rfl, rfl, rfl⟩
      · have hlt' : ¬ (i : Int) < a.length := by omega
        have e1 : a.drop i = [] := List.drop_eq_nil_of_le (by omega)
        have e2 : b.drop i = [] := List.drop_eq_nil_of_le (by omega)
        rw [e1, e2] at hs
        have hs' : sameQs a b = true := hs.symm
        rcases ha with ⟨rfl, rfl⟩ | rfl
        · obtain rfl : i = 0 := by simpa using hi
          simp [Fn.f_haulageref08_SameCols_b0, Fn.f_haulageref08_SameCols_s0, hs']
        · simp [Fn.f_haulageref08_SameCols_b0, Fn.f_haulageref08_SameCols_s0, hlt', hs']
    have hbf : ((a.length : Int) == (b.length : Int)) = true := by simpa using (by omega : (a.length : Int) = b.length)
    have hfin : ∀ (Q : Ex → St → Prop), (∀ e st, st.ds = [] ∧ st.ts.length = 26 ∧ ((e = .exit 0 ∧ sameQs a b = true) ∨ (e = .ret ∧ sameQs a b = false ∧ st.ts.getD 4 (.tup []) = .p (.bool false))) → Q e st) → Wp (iter (loopF E (denF E k) k Fn.f_haulageref08_SameCols_k0 Fn.f_haulageref08_SameCols_b0) k ⟨[.p sa, .p sb, .tup [], .tup [], .p (.bool false), .p (.int .i64 0), .p sa, .p (.int .i64 a.length), .p sb, .p (.int .i64 b.length), .p (.bool false), .tup [], .tup [], .tup [], .tup [], .tup [], .tup [], .tup [], .tup [], .tup [], .tup [], .tup [], .tup [], .tup [], .tup [], .tup []], [], []⟩) Q := fun Q hQ => hstart.mono hQ
    have hbn : ((a.length : Int) == (b.length : Int)) = true := hbf
    rcases ha with ⟨rfl, rfl⟩ | rfl <;> rcases hb with ⟨rfl, rfl⟩ | rfl
    all_goals
      try simp only [List.length_nil, Int.natCast_zero] at hbn hfin
      simp [Fn.f_haulageref08_SameCols, bne, hbn]
      refine hfin _ ?_
      rintro e st ⟨hds, hlen, ⟨rfl, hsq⟩ | ⟨rfl, hsq, h4⟩⟩
      · obtain ⟨ts, m', ds⟩ := st
        simp only at hds hlen
        subst hds
        have hx : ts = [ts.getD 0 (.tup []), ts.getD 1 (.tup []), ts.getD 2 (.tup []), ts.getD 3 (.tup []), ts.getD 4 (.tup []), ts.getD 5 (.tup []), ts.getD 6 (.tup []), ts.getD 7 (.tup []), ts.getD 8 (.tup []), ts.getD 9 (.tup []), ts.getD 10 (.tup []), ts.getD 11 (.tup []), ts.getD 12 (.tup []), ts.getD 13 (.tup []), ts.getD 14 (.tup []), ts.getD 15 (.tup []), ts.getD 16 (.tup []), ts.getD 17 (.tup []), ts.getD 18 (.tup []), ts.getD 19 (.tup []), ts.getD 20 (.tup []), ts.getD 21 (.tup []), ts.getD 22 (.tup []), ts.getD 23 (.tup []), ts.getD 24 (.tup []), ts.getD 25 (.tup [])] := expand_ts 26 ts hlen
        rw [hx]
        simp [hsq]
      · simp [hds, h4, hsq]
  · have hbf : ((a.length : Int) == (b.length : Int)) = false := by simpa using (by omega : ¬ (a.length : Int) = b.length)
    rw [sameQs_len hne]
    rcases ha with ⟨rfl, rfl⟩ | rfl <;> rcases hb with ⟨rfl, rfl⟩ | rfl
    · exact absurd rfl hne
    all_goals
      try simp only [List.length_nil, Int.natCast_zero] at hbf
      simp [Fn.f_haulageref08_SameCols, bne, hbf]
structure L09 (E : Env) : Prop where
  same : E.fn 178 = some Fn.f_haulageref09_Same
  cols : E.fn 193 = some Fn.f_haulageref08_SameCols
theorem ref_Same (u : L09 E) (x y : Ddl) {sa sb : PV} {a b : List (Int × Col)} (ha : SlQ sa a) (hb : SlQ sb b) (hl : (a.length : Int) ≤ 1000000000) (k : Nat) (hk : a.length + 4 ≤ k) (m : Mem) :
    denF E (k + 1) 178 [.p (.agg (dV x sa)), .p (.agg (dV y sb))] m = some (.ret (.p (.bool (sameH x y && sameQs a b))), m) := by
  refine denF_wp u.same rfl (args' := [.p (.agg (dV x sa)), .p (.agg (dV y sb))]) rfl ?_
  obtain ⟨j, rfl⟩ : ∃ j, k = j + 1 := ⟨k - 1, by omega⟩
  have hC := fun m => ref_SameCols u.cols ha hb hl j (by omega) m
  have fa : sa.flat = true := by rcases ha with ⟨_, rfl⟩ | rfl <;> rfl
  have fb : sb.flat = true := by rcases hb with ⟨_, rfl⟩ | rfl <;> rfl
  unfold PV.flat at fa fb
  have hT := fun a b c d : Int => @eq_tP a b c d
  have hV := fun (a b c d : Int) (s t : List UInt8) => @eq_vP a b c d s t
  unfold sameH
  cases q1 : (x.op == y.op)
  · simp (maxSteps := 8000000) [Fn.f_haulageref09_Same, dV, fa, fb, q1]
  cases q2 : (x.table == y.table)
  · simp (maxSteps := 8000000) [Fn.f_haulageref09_Same, dV, fa, fb, q1, q2]
  cases q3 : (x.column == y.column)
  · simp (maxSteps := 8000000) [Fn.f_haulageref09_Same, dV, fa, fb, q1, q2, q3]
  cases q4 : (x.to == y.to)
  · simp (maxSteps := 8000000) [Fn.f_haulageref09_Same, dV, fa, fb, q1, q2, q3, q4]
  cases q5 : (x.key == y.key)
  · simp (maxSteps := 8000000) [Fn.f_haulageref09_Same, dV, fa, fb, q1, q2, q3, q4, q5]
  cases q6 : (x.kind == y.kind && x.max == y.max)
  · simp (maxSteps := 8000000) [Fn.f_haulageref09_Same, dV, fa, fb, hT, q1, q2, q3, q4, q5, q6]
  cases q7 : (x.null == y.null)
  · simp (maxSteps := 8000000) [Fn.f_haulageref09_Same, dV, fa, fb, hT, q1, q2, q3, q4, q5, q6, q7]
  cases q8 : (x.dk == y.dk && (x.dn == y.dn && x.ds == y.ds))
  · simp (maxSteps := 8000000) [Fn.f_haulageref09_Same, dV, fa, fb, hT, hV, q1, q2, q3, q4, q5, q6, q7, q8]
  · simp (maxSteps := 8000000) [Fn.f_haulageref09_Same, dV, fa, fb, hT, hV, hC, q1, q2, q3, q4, q5, q6, q7, q8]
end Hx
