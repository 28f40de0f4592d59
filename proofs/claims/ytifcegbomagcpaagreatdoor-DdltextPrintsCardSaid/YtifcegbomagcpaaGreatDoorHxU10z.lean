/-
  HxU10z: when the document says that two changes are alike; the law DdltextParses on the evaluator.
-/
import Derived.Test.YtifcegbomagcpaaGreatDoorHxU06j
import Derived.Test.YtifcegbomagcpaaGreatDoorHxV05n
import Derived.Test.YtifcegbomagcpaaGreatDoorHxV05f
namespace Hx
open Go
set_option maxHeartbeats 2000000
def keepOf (d : Ddl) : Ddl :=
  if d.op = 1 then { op := 1, table := d.table, key := d.key } else if d.op = 2 then { op := 2, table := d.table } else if d.op = 3 then { op := 3, table := d.table, to := d.to }
  else if d.op = 4 then { op := 4, table := d.table, column := d.column, kind := d.kind, max := d.max, null := d.null, dk := d.dk, dn := d.dn, ds := d.ds }
  else if d.op = 5 then { op := 5, table := d.table, column := d.column } else if d.op = 6 then { op := 6, table := d.table, column := d.column, to := d.to }
  else if d.op = 7 then { op := 7, table := d.table, column := d.column, kind := d.kind, max := d.max } else { op := 8, table := d.table, column := d.column, dk := d.dk, dn := d.dn, ds := d.ds }
theorem sameH_comm (a b : Ddl) : sameH a b = sameH b a := by rw [Bool.eq_iff_iff, sameH_iff, sameH_iff]; exact eq_comm
def plainQ (d : Ddl) (rows : List (Int × Col)) : Bool := decide (1 ≤ d.op ∧ d.op ≤ 8) && ((if d.op = 1 then rows.all fun c => c.1 == 0 else rows.isEmpty) && sameH d (keepOf d))
def colCan (c : Col) : Bool := rightN c.name && (rightT c.kind c.max && rightV c.dk c.dn c.ds)
def canTail (d : Ddl) (rows : List (Int × Col)) : Bool :=
  if d.op = 1 then (rows.all fun c => colCan c.2) && (rightN d.key && (decide (1 ≤ rows.length) && decide (rows.length ≤ 10))) else if d.op = 2 then true else if d.op = 3 then rightN d.to
  else if d.op = 4 then rightN d.column && (rightT d.kind d.max && rightV d.dk d.dn d.ds) else if d.op = 5 then rightN d.column else if d.op = 6 then rightN d.column && rightN d.to
  else if d.op = 7 then rightN d.column && rightT d.kind d.max else rightN d.column && rightV d.dk d.dn d.ds
def canQ (d : Ddl) (rows : List (Int × Col)) : Bool := plainQ d rows && (rightN d.table && canTail d rows)
theorem canQ_bare (op : Int) (table column to key : List UInt8) (kind max : Int) (null : Bool) (dk dn : Int) (ds : List UInt8) (cols : List Col) (rows : List (Int × Col)) : canQ ⟨op, table, column, to, key, kind, max, null, dk, dn, ds, cols⟩ rows = canQ ⟨op, table, column, to, key, kind, max, null, dk, dn, ds, []⟩ rows := by
  unfold canQ plainQ canTail
  simp only [sameH, keepOf]
  repeat (first | rfl | split)
theorem rightV_len {a n : Int} {s : List UInt8} (h : rightV a n s = true) : s.length ≤ 120 := by
  unfold rightV at h
  split at h
  · simp only [Bool.and_eq_true, List.isEmpty_iff] at h; rw [h.2]; simp
  split at h
  · simp only [Bool.and_eq_true, List.isEmpty_iff] at h; rw [h.2]; simp
  split at h
  · simp only [List.isEmpty_iff] at h; rw [h]; simp
  split at h
  · simp only [Bool.and_eq_true, decide_eq_true_eq] at h; exact h.1.2
  split at h
  · simp only [Bool.and_eq_true, decide_eq_true_eq] at h; exact h.2
  · cases h
def restText (c : Col) : List UInt8 := 32 :: (printT c.kind c.max ++ ((if c.null then 32 :: wNul else []) ++ (if c.dk = 0 then [] else 32 :: (wDef ++ (32 :: printS c.dk c.dn c.ds)))))
def colText (c : Col) : List UInt8 := c.name ++ restText c
def colsMore : List Col → List UInt8
  | [] => []
  | c :: l => 44 :: 32 :: (colText c ++ colsMore l)
def colsText : List Col → List UInt8
  | [] => []
  | c :: l => colText c ++ colsMore l
def Ddl.added (d : Ddl) : Col := ⟨d.column, d.kind, d.max, d.null, d.dk, d.dn, d.ds⟩
def tailText (d : Ddl) (cols : List Col) : List UInt8 :=
  if d.op = 1 then 32 :: 40 :: (colsText cols ++ (41 :: 32 :: (wKey ++ (32 :: d.key)))) else if d.op = 2 then [] else if d.op = 3 then 32 :: (wTo ++ (32 :: d.to))
  else if d.op = 4 then 32 :: colText d.added else if d.op = 5 then 32 :: d.column else if d.op = 6 then 32 :: (d.column ++ (32 :: (wTo ++ (32 :: d.to))))
  else if d.op = 7 then 32 :: (d.column ++ (32 :: printT d.kind d.max)) else 32 :: (d.column ++ (32 :: printS d.dk d.dn d.ds))
def printQ (d : Ddl) (cols : List Col) : List UInt8 := opWords.getD (d.op.toNat - 1) [] ++ (32 :: (d.table ++ tailText d cols))
end Hx

namespace Hx
open Go
set_option linter.unusedSimpArgs false
set_option linter.unusedVariables false
set_option maxHeartbeats 8000000
set_option maxRecDepth 20000
variable {E : Env}
attribute [-simp] List.getD_eq_getElem?_getD getElem?_pos
end Hx

namespace Hx
open Go
set_option linter.unusedSimpArgs false
set_option linter.unusedVariables false
set_option maxHeartbeats 8000000
set_option maxRecDepth 20000
variable {E : Env}
attribute [-simp] List.getD_eq_getElem?_getD getElem?_pos
end Hx

namespace Hx
open Go
set_option linter.unusedSimpArgs false
set_option linter.unusedVariables false
set_option maxHeartbeats 8000000
set_option maxRecDepth 20000
variable {E : Env}
attribute [-simp] List.getD_eq_getElem?_getD getElem?_pos
end Hx

namespace Hx
open Go
variable {E : Env}
end Hx

namespace Hx
open Go
set_option linter.unusedSimpArgs false
set_option linter.unusedVariables false
set_option maxHeartbeats 8000000
set_option maxRecDepth 20000
variable {E : Env}
attribute [-simp] List.getD_eq_getElem?_getD getElem?_pos
end Hx

namespace Hx
open Go
set_option linter.unusedSimpArgs false
set_option linter.unusedVariables false
set_option maxHeartbeats 8000000
set_option maxRecDepth 20000
variable {E : Env}
attribute [-simp] List.getD_eq_getElem?_getD getElem?_pos
end Hx

namespace Hx
open Go
set_option linter.unusedSimpArgs false
set_option linter.unusedVariables false
set_option maxHeartbeats 16000000
set_option maxRecDepth 20000
variable {E : Env}
attribute [-simp] List.getD_eq_getElem?_getD getElem?_pos
structure D10 (E : Env) : Prop where
  u : P10 E
  name : E.fn 260 = some Fn.f_haulageref10_P_name
  columns : E.fn 261 = some Fn.f_haulageref10_P_columns
  want : E.fn 262 = some Fn.f_haulageref10_P_want
  column : E.fn 263 = some Fn.f_haulageref10_P_column
  kind : E.fn 264 = some Fn.f_haulageref10_P_kind
  value : E.fn 265 = some Fn.f_haulageref10_P_value
  f90 : E.fn 90 = some Fn.f_haulageref06_Read
  f27 : E.fn 27 = some Fn.f_haulageref05_Read
  ty : TyOk E 90
  va : ValOk E 27
end Hx

namespace Hx
open Go
set_option linter.unusedSimpArgs false
set_option linter.unusedVariables false
set_option maxHeartbeats 32000000
set_option maxRecDepth 20000
variable {E : Env}
attribute [-simp] List.getD_eq_getElem?_getD getElem?_pos
end Hx

namespace Hx
open Go
set_option linter.unusedSimpArgs false
set_option linter.unusedVariables false
set_option maxHeartbeats 32000000
set_option maxRecDepth 20000
variable {E : Env}
attribute [-simp] List.getD_eq_getElem?_getD getElem?_pos
def PcI (s : List UInt8) (id : Nat) (m : Mem) (P : PR (List Col)) (a : List Col × List UInt8) (st : St) : Prop :=
  ∃ (ov : AV) (x : Mem), a.1.length ≤ 10 ∧ a.2 <:+ s ∧ pColsF (10 - a.1.length) a.1 a.2 = P ∧ GrX 8 (a.1.map colP) ov m.length x ∧ Live Fn.f_haulageref10_P_columns_k0 (Fn.f_haulageref10_P_columns_s0 (.ptr id 0) ov) (m.set id (pB s a.2 0) ++ x) st
theorem PcI.mk {s : List UInt8} {id : Nat} {m : Mem} {P : PR (List Col)} {st : St} (l : List Col) (r : List UInt8) (ov : AV) (x : Mem) (h1 : l.length ≤ 10) (h2 : r <:+ s) (h3 : pColsF (10 - l.length) l r = P) (h4 : GrX 8 (l.map colP) ov m.length x) (h5 : Live Fn.f_haulageref10_P_columns_k0 (Fn.f_haulageref10_P_columns_s0 (.ptr id 0) ov) (m.set id (pB s r 0) ++ x) st) : PcI s id m P (l, r) st := ⟨ov, x, h1, h2, h3, h4, h5⟩
end Hx

namespace Hx
open Go
set_option linter.unusedSimpArgs false
set_option linter.unusedVariables false
set_option maxHeartbeats 8000000
set_option maxRecDepth 20000
variable {E : Env}
attribute [-simp] List.getD_eq_getElem?_getD getElem?_pos
end Hx

namespace Hx
open Go
set_option linter.unusedSimpArgs false
set_option linter.unusedVariables false
set_option maxHeartbeats 32000000
set_option maxRecDepth 20000
variable {E : Env}
attribute [-simp] List.getD_eq_getElem?_getD getElem?_pos
end Hx

namespace Hx
open Go
set_option linter.unusedSimpArgs false
set_option linter.unusedVariables false
set_option maxHeartbeats 32000000
set_option maxRecDepth 20000
variable {E : Env}
attribute [-simp] List.getD_eq_getElem?_getD getElem?_pos
structure V10 (E : Env) : Prop where
  d : D10 E
  change : E.fn 241 = some Fn.f_haulageref10_P_change
  op : E.fn 259 = some Fn.f_haulageref10_op
  parse : E.fn 233 = some Fn.f_haulageref10_Parse
end Hx

namespace Hx
open Go
set_option linter.unusedSimpArgs false
set_option linter.unusedVariables false
set_option maxHeartbeats 32000000
set_option maxRecDepth 20000
variable {E : Env}
attribute [-simp] List.getD_eq_getElem?_getD getElem?_pos
theorem eq_colQ (a b : Int × Col) : eqTree (.struct [(0, 1, .int), (1, 1, .str), (2, 2, (.struct [(0, 1, .int), (1, 1, .int)])), (4, 1, .bool), (5, 3, (.struct [(0, 1, .int), (1, 1, .int), (2, 1, .str)]))]) (.agg (colQ a)) (.agg (colQ b)) = some (sameQ a b) := by
  simp [eqTree, eqFs, partP, EqT.agg, colQ, sameQ]
theorem sameQs_len : ∀ {a b : List (Int × Col)}, a.length ≠ b.length → sameQs a b = false
  | [], [], h => absurd rfl h
  | [], _ :: _, _ => rfl
  | _ :: _, [], _ => rfl
  | a :: l, b :: l', h => by
    unfold sameQs
    rw [sameQs_len (by simpa using h), Bool.and_false]
theorem sameQs_step {a b : List (Int × Col)} {i : Nat} {x y : Int × Col} (hx : a[i]? = some x) (hy : b[i]? = some y) : sameQs (a.drop i) (b.drop i) = (sameQ x y && sameQs (a.drop (i + 1)) (b.drop (i + 1))) := by
  obtain ⟨h1, h2⟩ := List.getElem?_eq_some_iff.1 hx
  obtain ⟨h3, h4⟩ := List.getElem?_eq_some_iff.1 hy
  rw [List.drop_eq_getElem_cons h1, List.drop_eq_getElem_cons h3, h2, h4]
  rfl
theorem ref_SameCols (h : E.fn 193 = some Fn.f_haulageref08_SameCols) {sa sb : PV} {a b : List (Int × Col)} (ha : SlQ sa a) (hb : SlQ sb b) (hl : (a.length : Int) ≤ 1000000000) (k : Nat) (hk : a.length + 3 ≤ k) (m : Mem) :
    denF E (k + 1) 193 [.p sa, .p sb] m = some (.ret (.p (.bool (sameQs a b))), m) := by
  refine denF_wp h rfl (args' := [.p sa, .p sb]) rfl ?_
  by_cases hne : a.length = b.length
  · have hstart : Wp (iter (loopF E (denF E k) k Fn.f_haulageref08_SameCols_k0 Fn.f_haulageref08_SameCols_b0) k ⟨[.p sa, .p sb, .tup [], .tup [], .p (.bool false), .p (.int .i64 0), .p sa, .p (.int .i64 a.length), .p sb, .p (.int .i64 b.length), .p (.bool false), .tup [], .tup [], .tup [], .tup [], .tup [], .tup [], .tup [], .tup [], .tup [], .tup [], .tup [], .tup [], .tup [], .tup [], .tup []], [], []⟩)
        (fun e st => st.ds = [] ∧ st.ts.length = 26 ∧ ((e = .exit 0 ∧ sameQs a b = true) ∨ (e = .ret ∧ sameQs a b = false ∧ st.ts.getD 4 (.tup []) = .p (.bool false)))) := by
      refine loop_wp (α := Nat) (I := fun i st => i ≤ a.length ∧ sameQs (a.drop i) (b.drop i) = sameQs a b ∧ Live Fn.f_haulageref08_SameCols_k0 (Fn.f_haulageref08_SameCols_s0 (.p sa) (.p sb) (.p (.int .i64 i))) [] st) (meas := fun i => a.length - i) ?_ k 0 _ ⟨Nat.zero_le _, rfl, rfl, rfl, rfl, rfl⟩ (by omega)
      rintro i st ⟨hi, hs, hlive⟩
      rw [loopF_live hlive]
      by_cases hlt : i < a.length
      · have hlt' : (i : Int) < a.length := by omega
        obtain ⟨x, hx⟩ : ∃ x, a[i]? = some x := ⟨_, List.getElem?_eq_getElem hlt⟩
        obtain ⟨y, hy⟩ : ∃ y, b[i]? = some y := ⟨_, List.getElem?_eq_getElem (by omega)⟩
        rw [sameQs_step hx hy] at hs
        have hw : IntKind.i64.wrap ((i : Int) + 1) = ((i + 1 : Nat) : Int) := by rw [wrap_i64 (by omega) (by omega)]; omega
        have hE := eq_colQ x y
        have hlx : (colQ x).length = 8 := rfl
        have hly : (colQ y).length = 8 := rfl
        have htx : (colQ x).take 8 = colQ x := rfl
        have hty : (colQ y).take 8 = colQ y := rfl
        rcases ha with ⟨rfl, rfl⟩ | rfl
        · simp at hlt
        rcases hb with ⟨rfl, rfl⟩ | rfl
        · simp at hy
        cases hq : sameQ x y with
        | false =>
          rw [hq] at hs hE
          rw [Bool.false_and] at hs
          simp [Fn.f_haulageref08_SameCols_b0, Fn.f_haulageref08_SameCols_s0, hlt, hlt', hx, hy, hE, hlx, hly, htx, hty, hs.symm]
        | true =>
          rw [hq] at hs hE
          rw [Bool.true_and] at hs
          simp [Fn.f_haulageref08_SameCols_b0, Fn.f_haulageref08_SameCols_s0, hlt, hlt', hx, hy, hE, hlx, hly, htx, hty, hw, -Int.natCast_add]
          exact ⟨i + 1, by omega, hlt, hs, rfl, rfl, rfl, rfl⟩
      · have hlt' : ¬ (i : Int) < a.length := by omega
        have e1 : a.drop i = [] := List.drop_eq_nil_of_le (by omega)
        have e2 : b.drop i = [] := List.drop_eq_nil_of_le (by omega)
        rw [e1, e2] at hs
        have hs' : sameQs a b = true := hs.symm
        rcases ha with ⟨rfl, rfl⟩ | rfl
        · obtain rfl : i = 0 := by simpa using hi
          simp [Fn.f_haulageref08_SameCols_b0, Fn.f_haulageref08_SameCols_s0, hs']
        · simp [Fn.f_haulageref08_SameCols_b0, Fn.f_haulageref08_SameCols_s0, hlt', hs']
    have hbf : ((a.length : Int) == (b.length : Int)) = true := by simpa using (by omega : (a.length : Int) = b.length)
    have hfin : ∀ (Q : Ex → St → Prop), (∀ e st, st.ds = [] ∧ st.ts.length = 26 ∧ ((e = .exit 0 ∧ sameQs a b = true) ∨ (e = .ret ∧ sameQs a b = false ∧ st.ts.getD 4 (.tup []) = .p (.bool false))) → Q e st) → Wp (iter (loopF E (denF E k) k Fn.f_haulageref08_SameCols_k0 Fn.f_haulageref08_SameCols_b0) k ⟨[.p sa, .p sb, .tup [], .tup [], .p (.bool false), .p (.int .i64 0), .p sa, .p (.int .i64 a.length), .p sb, .p (.int .i64 b.length), .p (.bool false), .tup [], .tup [], .tup [], .tup [], .tup [], .tup [], .tup [], .tup [], .tup [], .tup [], .tup [], .tup [], .tup [], .tup [], .tup []], [], []⟩) Q := fun Q hQ => hstart.mono hQ
    have hbn : ((a.length : Int) == (b.length : Int)) = true := hbf
    rcases ha with ⟨rfl, rfl⟩ | rfl <;> rcases hb with ⟨rfl, rfl⟩ | rfl
    all_goals
      try simp only [List.length_nil, Int.natCast_zero] at hbn hfin
      simp [Fn.f_haulageref08_SameCols, bne, hbn]
      refine hfin _ ?_
      rintro e st ⟨hds, hlen, ⟨rfl, hsq⟩ | ⟨rfl, hsq, h4⟩⟩
      · obtain ⟨ts, m', ds⟩ := st
        simp only at hds hlen
        subst hds
        have hx : ts = [ts.getD 0 (.tup []), ts.getD 1 (.tup []), ts.getD 2 (.tup []), ts.getD 3 (.tup []), ts.getD 4 (.tup []), ts.getD 5 (.tup []), ts.getD 6 (.tup []), ts.getD 7 (.tup []), ts.getD 8 (.tup []), ts.getD 9 (.tup []), ts.getD 10 (.tup []), ts.getD 11 (.tup []), ts.getD 12 (.tup []), ts.getD 13 (.tup []), ts.getD 14 (.tup []), ts.getD 15 (.tup []), ts.getD 16 (.tup []), ts.getD 17 (.tup []), ts.getD 18 (.tup []), ts.getD 19 (.tup []), ts.getD 20 (.tup []), ts.getD 21 (.tup []), ts.getD 22 (.tup []), ts.getD 23 (.tup []), ts.getD 24 (.tup []), ts.getD 25 (.tup [])] := expand_ts 26 ts hlen
        rw [hx]
        simp [hsq]
      · simp [hds, h4, hsq]
  · have hbf : ((a.length : Int) == (b.length : Int)) = false := by simpa using (by omega : ¬ (a.length : Int) = b.length)
    rw [sameQs_len hne]
    rcases ha with ⟨rfl, rfl⟩ | rfl <;> rcases hb with ⟨rfl, rfl⟩ | rfl
    · exact absurd rfl hne
    all_goals
      try simp only [List.length_nil, Int.natCast_zero] at hbf
      simp [Fn.f_haulageref08_SameCols, bne, hbf]
structure L09 (E : Env) : Prop where
  same : E.fn 178 = some Fn.f_haulageref09_Same
  cols : E.fn 193 = some Fn.f_haulageref08_SameCols
theorem ref_Same (u : L09 E) (x y : Ddl) {sa sb : PV} {a b : List (Int × Col)} (ha : SlQ sa a) (hb : SlQ sb b) (hl : (a.length : Int) ≤ 1000000000) (k : Nat) (hk : a.length + 4 ≤ k) (m : Mem) :
    denF E (k + 1) 178 [.p (.agg (dV x sa)), .p (.agg (dV y sb))] m = some (.ret (.p (.bool (sameH x y && sameQs a b))), m) := by
  refine denF_wp u.same rfl (args' := [.p (.agg (dV x sa)), .p (.agg (dV y sb))]) rfl ?_
  obtain ⟨j, rfl⟩ : ∃ j, k = j + 1 := ⟨k - 1, by omega⟩
  have hC := fun m => ref_SameCols u.cols ha hb hl j (by omega) m
  have fa : sa.flat = true := by rcases ha with ⟨_, rfl⟩ | rfl <;> rfl
  have fb : sb.flat = true := by rcases hb with ⟨_, rfl⟩ | rfl <;> rfl
  unfold PV.flat at fa fb
  have hT := fun a b c d : Int => @eq_tP a b c d
  have hV := fun (a b c d : Int) (s t : List UInt8) => @eq_vP a b c d s t
  unfold sameH
  cases q1 : (x.op == y.op)
  · simp (maxSteps := 8000000) [Fn.f_haulageref09_Same, dV, fa, fb, q1]
  cases q2 : (x.table == y.table)
  · simp (maxSteps := 8000000) [Fn.f_haulageref09_Same, dV, fa, fb, q1, q2]
  cases q3 : (x.column == y.column)
  · simp (maxSteps := 8000000) [Fn.f_haulageref09_Same, dV, fa, fb, q1, q2, q3]
  cases q4 : (x.to == y.to)
  · simp (maxSteps := 8000000) [Fn.f_haulageref09_Same, dV, fa, fb, q1, q2, q3, q4]
  cases q5 : (x.key == y.key)
  · simp (maxSteps := 8000000) [Fn.f_haulageref09_Same, dV, fa, fb, q1, q2, q3, q4, q5]
  cases q6 : (x.kind == y.kind && x.max == y.max)
  · simp (maxSteps := 8000000) [Fn.f_haulageref09_Same, dV, fa, fb, hT, q1, q2, q3, q4, q5, q6]
  cases q7 : (x.null == y.null)
  · simp (maxSteps := 8000000) [Fn.f_haulageref09_Same, dV, fa, fb, hT, q1, q2, q3, q4, q5, q6, q7]
  cases q8 : (x.dk == y.dk && (x.dn == y.dn && x.ds == y.ds))
  · simp (maxSteps := 8000000) [Fn.f_haulageref09_Same, dV, fa, fb, hT, hV, q1, q2, q3, q4, q5, q6, q7, q8]
  · simp (maxSteps := 8000000) [Fn.f_haulageref09_Same, dV, fa, fb, hT, hV, hC, q1, q2, q3, q4, q5, q6, q7, q8]
end Hx
