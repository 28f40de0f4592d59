/-
  HxMove6: append.
-/
import Derived.Test.YtoedcjhheihhiaaHxMove5
namespace Hx
open Go Go.RowKit
set_option linter.unusedSimpArgs false
set_option linter.unusedVariables false

section
variable {P : Program}

theorem append_fits (w : World) {argTypes : Array TypeId} {t u e ty : TypeId} {i : TypeInfo} {d : TypeDesc} (h0 : argTypes[0]? = some t) (h1 : argTypes[1]? = some u) (ht : P.underlying t = some (.slice e)) (hu : P.underlying u = some d) (hd : isInt (some d) = false)
    (hi : P.info? e = some i) (base : Option Addr) (sLen sCap k : Nat) (y : Value) (news : List Value) (hlen : ∀ w1 : World, (Builtin.lenOf y).run P w1 = .ok k w1) (hfirst : ∀ w1 : World, w1.heap = w.heap → (Builtin.firstCells i.size k y).run P w1 = .ok news.toArray w1) (hfit : sLen + k ≤ sCap) :
    (Builtin.append_ argTypes ty #[.slice base sLen sCap, y]).run P w = match base with
      | some a => ((storeCells (a.add (sLen * i.size)) news).run P w).andThen fun _ w' => .ok (.slice base (sLen + k) sCap) w'
      | none => .ok (.slice none (sLen + k) sCap) w := by
  have hf := hfirst w rfl
  unfold Builtin.append_
  cases d <;> try (simp [isInt] at hd; done)
  all_goals
    simp only [h0, h1, List.getElem?_toArray, List.getElem?_cons_zero, List.getElem?_cons_succ, Sem.run_bind, run_underlying ht, run_underlying hu, Result.andThen_ok, Go.sizeOf, typeInfo, run_program, hi, Sem.run_pure]
    simp only [Bool.false_eq_true, if_false, hlen, Result.andThen_ok, hfit, if_true, Bool.not_false, Sem.run_bind, hf]
    cases base <;> simp

theorem append_grows (w : World) {argTypes : Array TypeId} {t u e ty : TypeId} {i : TypeInfo} {d : TypeDesc} {z : Value} (h0 : argTypes[0]? = some t) (h1 : argTypes[1]? = some u) (ht : P.underlying t = some (.slice e)) (hu : P.underlying u = some d) (hd : isInt (some d) = false)
    (hi : P.info? e = some i) (hz : i.zero = some z) (hzs : z.cells.size = i.size) (base : Option Addr) (sLen sCap k : Nat) (y : Value) (olds news : List Value) (hlen : ∀ w1 : World, (Builtin.lenOf y).run P w1 = .ok k w1) (hfirst : ∀ w1 : World, w1.heap = w.heap → (Builtin.firstCells i.size k y).run P w1 = .ok news.toArray w1)
    (hold : ∀ w1 : World, w1.heap = w.heap → (Builtin.firstCells i.size sLen (.slice base sLen sCap)).run P w1 = .ok olds.toArray w1) (hno : sCap < sLen + k) (hby : (sLen + k) * i.bytes ≤ room) (hrm : sLen + k ≤ room) (hol : olds.length = sLen * i.size) (hnl : news.length = k * i.size) :
    ∃ newCap arr, sLen + k ≤ newCap ∧ arr.size = newCap * i.size ∧ (∀ (j : Nat) (v : Value), (olds ++ news)[j]? = some v → arr[j]? = some v) ∧
      (Builtin.append_ argTypes ty #[.slice base sLen sCap, y]).run P w = .ok (.slice (some ⟨w.heap.size, 0, none⟩) (sLen + k) newCap) { w with heap := w.heap.push (.cells arr e), drawn := w.drawn + 1 } := by
  have hw1 : ∀ (H : Array Obj) (T D O Q), ({ heap := H, tape := T, drawn := D, os := O, output := Q } : World).heap = H := fun _ _ _ _ _ => rfl
  let w1 : World := { w with drawn := w.drawn + 1 }
  have hf := hfirst w1 rfl
  have ho := hold w1 rfl
  have hcap := grownCap_ge w (sLen + k) sCap e
  refine ⟨grownCap w (sLen + k) sCap e, (olds.toArray ++ news.toArray ++ Builtin.zeroCells z.cells (grownCap w (sLen + k) sCap e - (sLen + k))), hcap, ?_, ?_, ?_⟩
  · simp only [Array.size_append, List.size_toArray, size_zeroCells, hol, hnl, hzs]
    rw [← Nat.add_mul, ← Nat.add_mul]
    congr 1
    omega
  · intro j v hv
    have hjl : j < (olds ++ news).length := by rw [List.getElem?_eq_some_iff] at hv; exact hv.1
    rw [Array.getElem?_append_left (by simpa using hjl)]
    simpa using hv
  · have hnf : ¬ (sLen + k ≤ sCap) := by omega
    have hmax : ¬ (((sLen + k : Nat) : Int) > IntKind.i64.max ∧ (False ∨ i.bytes = 0)) := by
      have : IntKind.i64.max = 9223372036854775807 := by decide
      rw [this]
      unfold room at hrm
      omega
    have hbig : ¬ (Builtin.nextslicecap (sLen + k) sCap * i.bytes > 2 ^ 48) := by
      have := growslice_fits (need := sLen + k) (old := sCap) (bytes := i.bytes) (by omega) (by unfold room at hby; omega)
      omega
    unfold Builtin.append_
    simp only [w1] at hf ho
    cases d <;> try (simp [isInt] at hd; done)
    all_goals
      simp only [h0, h1, List.getElem?_toArray, List.getElem?_cons_zero, List.getElem?_cons_succ, Sem.run_bind, run_underlying ht, run_underlying hu, Result.andThen_ok, Go.sizeOf, typeInfo, run_program, hi, Sem.run_pure]
      simp only [Bool.false_eq_true, if_false, hlen, Result.andThen_ok, hnf, Bool.not_false, Sem.run_bind, Sem.run_ite, hmax, run_program, hi, hbig, run_choose, Question.forced, run_askRoom, zeroValue, typeInfo, hz, Sem.run_pure, newRow, run_newObj, ho, hf, if_true]
      rfl
end
end Hx
