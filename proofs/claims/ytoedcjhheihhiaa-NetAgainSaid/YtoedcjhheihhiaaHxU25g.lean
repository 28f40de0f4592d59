/-
  HxU25g: which changes are plain, as the program says.
-/
import Derived.Test.YtoedcjhheihhiaaHxU25f
namespace Hx
open Go
set_option linter.unusedSimpArgs false
set_option linter.unusedVariables false
set_option maxHeartbeats 64000000
set_option maxRecDepth 20000
variable {E : Env}
attribute [-simp] List.getD_eq_getElem?_getD getElem?_pos
def hdP (d : Ddl) : List PV := [.int .i64 d.op, .str d.table, .str d.column, .str d.to, .str d.key, .int .i64 d.kind, .int .i64 d.max, .bool d.null, .int .i64 d.dk, .int .i64 d.dn, .str d.ds]
theorem ddl_flat (h : E.fn 192 = some Fn.f_ddl_flat) (d : Ddl) {sl : PV} (hf : sl.flat = true) (k : Nat) (m : Mem) : denF E (k + 1) 192 [.p (.agg (dV d sl))] m = some (.ret (.p (.agg (hdP d))), m) := by
  refine denF_wp h rfl (args' := [.p (.agg (dV d sl))]) rfl ?_
  unfold PV.flat at hf
  simp (maxSteps := 4000000) [Fn.f_ddl_flat, dV, hdP, hf]
theorem eq_hd (d e : Ddl) : eqTree (.struct [(0, 1, .int), (1, 1, .str), (2, 1, .str), (3, 1, .str), (4, 1, .str), (5, 2, (.struct [(0, 1, .int), (1, 1, .int)])), (7, 1, .bool), (8, 3, (.struct [(0, 1, .int), (1, 1, .int), (2, 1, .str)]))]) (.agg (hdP d)) (.agg (hdP e)) = some (sameH d e) := by
  simp [eqTree, eqFs, partP, EqT.agg, hdP, sameH]
structure S25 (E : Env) : Prop where
  plain : E.fn 144 = some Fn.f_state_PlainChange
  same : E.fn 174 = some Fn.f_ddl_Same
  equal : E.fn 191 = some Fn.f_slices_Equal_api_Column_api_Column
  flat : E.fn 192 = some Fn.f_ddl_flat
theorem p191 : Fn.f_slices_Equal_api_Column_api_Column.pure = true := rfl
theorem p192 : Fn.f_ddl_flat.pure = true := rfl
theorem sl_EqualN (u : S25 E) {sl : PV} {cols : List (Int × Col)} (hc : SlQ sl cols) (k : Nat) (hk : 3 ≤ k) (m : Mem) :
    denF E (k + 1) 191 [.p sl, .p .nils] m = some (.ret (.p (.bool (rowsN sl == 0))), m) := by
  obtain ⟨j, rfl⟩ : ∃ j, k = j + 1 := ⟨k - 1, by omega⟩
  refine denF_wp u.equal rfl (args' := [.p sl, .p .nils]) rfl ?_
  rcases hc with ⟨rfl, rfl⟩ | rfl
  · simp [Fn.f_slices_Equal_api_Column_api_Column, rowsN, bne, iter_succ, loopF, Fn.f_slices_Equal_api_Column_api_Column_k0, Fn.f_slices_Equal_api_Column_api_Column_b0]
  · cases cols with
    | nil => simp [Fn.f_slices_Equal_api_Column_api_Column, rowsN, bne, iter_succ, loopF, Fn.f_slices_Equal_api_Column_api_Column_k0, Fn.f_slices_Equal_api_Column_api_Column_b0]
    | cons x l =>
      have hb : (((l.length + 1 : Nat) : Int) == 0) = false := by rw [beq_eq_false_iff_ne]; omega
      simp [-Int.natCast_add, Fn.f_slices_Equal_api_Column_api_Column, rowsN, bne, hb]
theorem ddl_SameZ (u : S25 E) {c : Ch} (h : ChOk c) (k : Nat) (hk : 10 ≤ k) (m : Mem) :
    denF E (k + 1) 174 [.p (.agg (dV c.d c.sl)), .p (.agg (dV { op := 0 } .nils))] m = some (.ret (.p (.bool (zeroD c))), m) := by
  obtain ⟨j, rfl⟩ : ∃ j, k = j + 1 := ⟨k - 1, by omega⟩
  obtain ⟨cols, hc⟩ := h.sl
  have hE := fun m => sl_EqualN u hc j (by omega) m
  have hf := hc.flat
  have hF1 := fun m => ddl_flat u.flat c.d hf j m
  have hF2 := fun m => ddl_flat u.flat { op := 0 } (sl := .nils) rfl j m
  have hq := eq_hd c.d { op := 0 }
  unfold PV.flat at hf
  simp only [dV, hdP] at hF1 hF2 hq
  refine denF_wp u.same rfl (args' := [.p (.agg (dV c.d c.sl)), .p (.agg (dV { op := 0 } .nils))]) rfl ?_
  unfold zeroD
  cases hz : (rowsN c.sl == 0) with
  | false =>
    rw [hz] at hE
    simp (maxSteps := 8000000) [Fn.f_ddl_Same, dV, hf, hE, u.equal, u.flat, p191, p192]
  | true =>
    rw [hz] at hE
    simp (maxSteps := 8000000) [Fn.f_ddl_Same, dV, hf, hE, hF1, hF2, hq, u.equal, u.flat, p191, p192]
theorem state_Plain (u : S25 E) {c : Ch} (h : ChOk c) (k : Nat) (hk : 1200 ≤ k) (m : Mem) :
    denF E (k + 1) 144 [.p (.agg (chV c))] m = some (.ret (.p (.bool (plainB c))), m) := by
  obtain ⟨j, rfl⟩ : ∃ j, k = j + 1 := ⟨k - 1, by omega⟩
  have hZ := fun m => ddl_SameZ u h j (by omega) m
  simp only [dV] at hZ
  obtain ⟨cells, hc⟩ := h.cs
  have hl := len_cel hc
  have hrn := rowsN_cel hc
  obtain ⟨c1, c2⟩ := h.f
  unfold PV.flat at c1 c2
  have hV := fun (a b c d : Int) (s t : List UInt8) => @eq_vP a b c d s t
  refine denF_wp u.plain rfl (args' := [.p (.agg (chV c))]) rfl ?_
  unfold plainB
  by_cases h0 : c.lsn < 0
  · have h0' : ¬ 0 ≤ c.lsn := by omega
    simp (maxSteps := 8000000) [Fn.f_state_PlainChange, chV, c1, c2, hZ, h0, h0']
  · have h0' : 0 ≤ c.lsn := by omega
    by_cases k1 : c.kind = 1
    · simp (maxSteps := 8000000) [Fn.f_state_PlainChange, chV, c1, c2, hZ, h0, h0', k1]
    by_cases k2 : c.kind = 2
    · simp (maxSteps := 8000000) [Fn.f_state_PlainChange, chV, c1, c2, hZ, h0, h0', k2]
    have b1 : (c.kind == 1) = false := by simpa using k1
    have b2 : (c.kind == 2) = false := by simpa using k2
    by_cases k3 : c.kind = 3
    · rw [hrn]
      cases hcl : (cells.length == 0) with
      | false =>
        rcases hc with ⟨rfl, hc⟩ | hc
        · simp at hcl
        · simp (maxSteps := 8000000) [Fn.f_state_PlainChange, chV, c1, c2, hZ, h0, h0', k3, hc, natB, hcl]
      | true =>
        rcases hc with ⟨rfl, hc⟩ | hc
        · simp (maxSteps := 8000000) [Fn.f_state_PlainChange, chV, c1, c2, hZ, h0, h0', k3, hc, natB]
        · simp (maxSteps := 8000000) [Fn.f_state_PlainChange, chV, c1, c2, hZ, h0, h0', k3, hc, natB, hcl]
    have b3 : (c.kind == 3) = false := by simpa using k3
    by_cases k4 : c.kind = 4
    · cases q1 : (c.table == c.d.table) with
      | false =>
        simp (maxSteps := 8000000) [Fn.f_state_PlainChange, chV, c1, c2, hZ, h0, h0', k4, q1]
      | true =>
        cases q2 : (c.kk == 0 && (c.kn == 0 && c.ks == [])) with
        | false =>
          have hV' := hV c.kk c.kn 0 0 c.ks []
          rw [q2] at hV'
          simp (maxSteps := 8000000) [Fn.f_state_PlainChange, chV, c1, c2, hZ, h0, h0', k4, q1, hV']
        | true =>
          have hV' := hV c.kk c.kn 0 0 c.ks []
          rw [q2] at hV'
          rw [hrn]
          rcases hc with ⟨rfl, hc⟩ | hc
          · simp (maxSteps := 8000000) [Fn.f_state_PlainChange, chV, c1, c2, hZ, h0, h0', k4, q1, hV', hc, natB]
          · simp (maxSteps := 8000000) [Fn.f_state_PlainChange, chV, c1, c2, hZ, h0, h0', k4, q1, hV', hc, natB]
    have b4 : (c.kind == 4) = false := by simpa using k4
    simp (maxSteps := 8000000) [Fn.f_state_PlainChange, chV, c1, c2, hZ, h0, h0', k1, k2, k3, k4, b1, b2, b3, b4]
end Hx
