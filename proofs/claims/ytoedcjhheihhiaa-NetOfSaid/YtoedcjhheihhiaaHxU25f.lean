/-
  HxU25f: which changes are plain; alike; how many of a kind; how many rows, as the document says.
-/
import Derived.Test.YtoedcjhheihhiaaHxU25e
namespace Hx
open Go
set_option linter.unusedSimpArgs false
set_option linter.unusedVariables false
set_option maxHeartbeats 64000000
set_option maxRecDepth 20000
variable {E : Env}
attribute [-simp] List.getD_eq_getElem?_getD getElem?_pos
def rowsN : PV → Nat
  | .vals _ rows => rows.length
  | _ => 0
structure ChOk (c : Ch) : Prop where
  cs : ∃ cells : List Cel, CelQ c.cs cells
  sl : ∃ cols : List (Int × Col), SlQ c.sl cols
theorem ChOk.f {c : Ch} (h : ChOk c) : ChF c := by
  obtain ⟨⟨_, h1⟩, ⟨_, h2⟩⟩ := h
  exact ⟨h1.flat, h2.flat⟩
theorem rowsN_cel {cs : PV} {l : List Cel} (h : CelQ cs l) : rowsN cs = l.length := by
  rcases h with ⟨rfl, rfl⟩ | rfl <;> simp [rowsN]
theorem rowsN_sl {cs : PV} {l : List (Int × Col)} (h : SlQ cs l) : rowsN cs = l.length := by
  rcases h with ⟨rfl, rfl⟩ | rfl <;> simp [rowsN]
theorem len_cel {cs : PV} {l : List Cel} (h : CelQ cs l) : lenV (.p cs) = some l.length := by
  rcases h with ⟨rfl, rfl⟩ | rfl <;> simp
theorem natB (n : Nat) : ((n : Int) == 0) = (n == 0) := by rw [Bool.eq_iff_iff]; simp
def zeroD (c : Ch) : Bool := sameH c.d { op := 0 } && rowsN c.sl == 0
def plainB (c : Ch) : Bool := decide (0 ≤ c.lsn) && (if c.kind = 1 ∨ c.kind = 2 then zeroD c else if c.kind = 3 then zeroD c && rowsN c.cs == 0 else if c.kind = 4 then c.table == c.d.table && (c.kk == 0 && (c.kn == 0 && c.ks == [])) && rowsN c.cs == 0 else false)
theorem sameQs_nil (l : List (Int × Col)) : sameQs l [] = (l.length == 0) := by cases l <;> rfl
theorem ref_SameZ (u : L09 E) {c : Ch} (h : ChOk c) (hn : (rowsN c.sl : Int) ≤ 1000) (k : Nat) (hk : 1100 ≤ k) (m : Mem) :
    denF E (k + 1) 178 [.p (.agg (dV c.d c.sl)), .p (.agg (dV { op := 0 } .nils))] m = some (.ret (.p (.bool (zeroD c))), m) := by
  obtain ⟨cols, hc⟩ := h.sl
  rw [rowsN_sl hc] at hn
  rw [ref_Same u c.d { op := 0 } hc (.inl ⟨rfl, rfl⟩) (by omega) k (by omega) m]
  unfold zeroD
  rw [rowsN_sl hc, sameQs_nil]
theorem ref_Plain (u : L09 E) (hp : E.fn 164 = some Fn.f_haulageref15_PlainChange) {c : Ch} (h : ChOk c) (hn : (rowsN c.sl : Int) ≤ 1000) (k : Nat) (hk : 1200 ≤ k) (m : Mem) :
    denF E (k + 1) 164 [.p (.agg (chV c))] m = some (.ret (.p (.bool (plainB c))), m) := by
  obtain ⟨j, rfl⟩ : ∃ j, k = j + 1 := ⟨k - 1, by omega⟩
  have hZ := fun m => ref_SameZ u h hn j (by omega) m
  simp only [dV] at hZ
  obtain ⟨cells, hc⟩ := h.cs
  have hl := len_cel hc
  have hrn := rowsN_cel hc
  obtain ⟨c1, c2⟩ := h.f
  unfold PV.flat at c1 c2
  have hV := fun (a b c d : Int) (s t : List UInt8) => @eq_vP a b c d s t
  refine denF_wp hp rfl (args' := [.p (.agg (chV c))]) rfl ?_
  unfold plainB
  by_cases h0 : c.lsn < 0
  · have h0' : ¬ 0 ≤ c.lsn := by omega
    simp (maxSteps := 8000000) [Fn.f_haulageref15_PlainChange, chV, c1, c2, hZ, h0, h0']
  · have h0' : 0 ≤ c.lsn := by omega
    by_cases k1 : c.kind = 1
    · simp (maxSteps := 8000000) [Fn.f_haulageref15_PlainChange, chV, c1, c2, hZ, h0, h0', k1]
    by_cases k2 : c.kind = 2
    · simp (maxSteps := 8000000) [Fn.f_haulageref15_PlainChange, chV, c1, c2, hZ, h0, h0', k2]
    have b1 : (c.kind == 1) = false := by simpa using k1
    have b2 : (c.kind == 2) = false := by simpa using k2
    by_cases k3 : c.kind = 3
    · cases hz : zeroD c with
      | false =>
        rw [hz] at hZ
        simp (maxSteps := 8000000) [Fn.f_haulageref15_PlainChange, chV, c1, c2, hZ, h0, h0', k3]
      | true =>
        rw [hz] at hZ
        rw [hrn]
        rcases hc with ⟨rfl, hc⟩ | hc
        · simp (maxSteps := 8000000) [Fn.f_haulageref15_PlainChange, chV, c1, c2, hZ, h0, h0', k3, hc, natB]
        · simp (maxSteps := 8000000) [Fn.f_haulageref15_PlainChange, chV, c1, c2, hZ, h0, h0', k3, hc, natB]
    have b3 : (c.kind == 3) = false := by simpa using k3
    by_cases k4 : c.kind = 4
    · cases q1 : (c.table == c.d.table) with
      | false =>
        simp (maxSteps := 8000000) [Fn.f_haulageref15_PlainChange, chV, c1, c2, hZ, h0, h0', k4, q1]
      | true =>
        cases q2 : (c.kk == 0 && (c.kn == 0 && c.ks == [])) with
        | false =>
          have hV' := hV c.kk c.kn 0 0 c.ks []
          rw [q2] at hV'
          simp (maxSteps := 8000000) [Fn.f_haulageref15_PlainChange, chV, c1, c2, hZ, h0, h0', k4, q1, hV']
        | true =>
          have hV' := hV c.kk c.kn 0 0 c.ks []
          rw [q2] at hV'
          rw [hrn]
          rcases hc with ⟨rfl, hc⟩ | hc
          · simp (maxSteps := 8000000) [Fn.f_haulageref15_PlainChange, chV, c1, c2, hZ, h0, h0', k4, q1, hV', hc, natB]
          · simp (maxSteps := 8000000) [Fn.f_haulageref15_PlainChange, chV, c1, c2, hZ, h0, h0', k4, q1, hV', hc, natB]
    have b4 : (c.kind == 4) = false := by simpa using k4
    simp (maxSteps := 8000000) [Fn.f_haulageref15_PlainChange, chV, c1, c2, hZ, h0, h0', k1, k2, k3, k4, b1, b2, b3, b4]
end Hx
