/-
  HxU25i: the program's run: rows, what comes of a row.
-/
import Derived.Test.YtoedcjhheihhiaaHxU25e
namespace Hx
open Go
set_option linter.unusedSimpArgs false
set_option linter.unusedVariables false
set_option maxHeartbeats 64000000
set_option maxRecDepth 20000
variable {E : Env}
attribute [-simp] List.getD_eq_getElem?_getD getElem?_pos
def keyC (k : Key25) : List PV := [.str k.1, .int .i64 k.2.1, .int .i64 k.2.2.1, .str k.2.2.2]
def chZ : Ch := ⟨0, 0, [], 0, 0, [], .nils, { op := 0 }, .nils⟩
structure N25 (E : Env) : Prop where
  rowOf : E.fn 281 = some Fn.f_net_rowOf
  comes : E.fn 282 = some Fn.f_net_both_comes
  add : E.fn 148 = some Fn.f_net_run_add
  end_ : E.fn 147 = some Fn.f_net_run_end
  began : E.fn 143 = some Fn.f_net_began
theorem net_rowOf (u : N25 E) {c : Ch} (hc : ChF c) (k : Nat) (m : Mem) : denF E (k + 1) 281 [.p (.agg (chV c))] m = some (.ret (.p (.agg (keyC c.key))), m) := by
  obtain ⟨c1, c2⟩ := hc
  unfold PV.flat at c1 c2
  refine denF_wp u.rowOf rfl (args' := [.p (.agg (chV c))]) rfl ?_
  simp (maxSteps := 8000000) [Fn.f_net_rowOf, chV, c1, c2, keyC, Ch.key]
def comesZ (f l : Ch) : Ch := (comesB f l).getD chZ
theorem net_comes (u : N25 E) {f l : Ch} (hf : ChF f) (hl : ChF l) (k : Nat) (m : Mem) : denF E (k + 1) 282 [.p (.agg (chV f ++ chV l))] m = some (.ret (.p (.agg (chV (comesZ f l)))), m) := by
  obtain ⟨f1, f2⟩ := hf
  obtain ⟨l1, l2⟩ := hl
  unfold PV.flat at f1 f2 l1 l2
  refine denF_wp u.comes rfl (args' := [.p (.agg (chV f ++ chV l))]) rfl ?_
  unfold comesZ comesB
  cases q1 : (f.kind == 1) with
  | true =>
    have e1 : f.kind = 1 := by simpa using q1
    cases q2 : (l.kind == 3) with
    | true =>
      have e2 : l.kind = 3 := by simpa using q2
      simp (maxSteps := 8000000) [Fn.f_net_both_comes, chV, f1, f2, l1, l2, chZ, e1, e2, bne]
    | false =>
      have e2 : ¬ l.kind = 3 := by simpa using q2
      simp (maxSteps := 8000000) [Fn.f_net_both_comes, chV, f1, f2, l1, l2, chZ, e1, e2, q2, bne]
  | false =>
    have e1 : ¬ f.kind = 1 := by simpa using q1
    cases q2 : (l.kind == 3) with
    | true =>
      have e2 : l.kind = 3 := by simpa using q2
      simp (maxSteps := 8000000) [Fn.f_net_both_comes, chV, f1, f2, l1, l2, chZ, e1, e2, q1, bne]
    | false =>
      have e2 : ¬ l.kind = 3 := by simpa using q2
      simp (maxSteps := 8000000) [Fn.f_net_both_comes, chV, f1, f2, l1, l2, chZ, e1, e2, q1, q2, bne]
theorem net_began (u : N25 E) (k : Nat) (m : Mem) : denF E (k + 1) 143 [] m = some (.ret (.ptr (m.length + 1) 0), m ++ [.map [], .cells [.p .nils, .map m.length]]) := by
  refine denF_wp_own u.began rfl ?_
  simp [Fn.f_net_began]
end Hx
