/-
  HxU25f: which changes are plain; alike; how many of a kind; how many rows, as the document says.
-/
import Derived.Test.YtoedcjhheihhiaaHxU25e
namespace Hx
open Go
set_option linter.unusedSimpArgs false
set_option linter.unusedVariables false
set_option maxHeartbeats 64000000
set_option maxRecDepth 20000
variable {E : Env}
attribute [-simp] List.getD_eq_getElem?_getD getElem?_pos
def rowsN : PV → Nat
  | .vals _ rows => rows.length
  | _ => 0
structure ChOk (c : Ch) : Prop where
  cs : ∃ cells : List Cel, CelQ c.cs cells
  sl : ∃ cols : List (Int × Col), SlQ c.sl cols
theorem ChOk.f {c : Ch} (h : ChOk c) : ChF c := by
  obtain ⟨⟨_, h1⟩, ⟨_, h2⟩⟩ := h
  exact ⟨h1.flat, h2.flat⟩
theorem rowsN_cel {cs : PV} {l : List Cel} (h : CelQ cs l) : rowsN cs = l.length := by
  rcases h with ⟨rfl, rfl⟩ | rfl <;> simp [rowsN]
theorem rowsN_sl {cs : PV} {l : List (Int × Col)} (h : SlQ cs l) : rowsN cs = l.length := by
  rcases h with ⟨rfl, rfl⟩ | rfl <;> simp [rowsN]
theorem len_cel {cs : PV} {l : List Cel} (h : CelQ cs l) : lenV (.p cs) = some l.length := by
  rcases h with ⟨rfl, rfl⟩ | rfl <;> simp
theorem natB (n : Nat) : ((n : Int) == 0) = (n == 0) := by rw [Bool.eq_iff_iff]; simp
def zeroD (c : Ch) : Bool := sameH c.d { op := 0 } && rowsN c.sl == 0
def plainB (c : Ch) : Bool := decide (0 ≤ c.lsn) && (if c.kind = 1 ∨ c.kind = 2 then zeroD c else if c.kind = 3 then zeroD c && rowsN c.cs == 0 else if c.kind = 4 then c.table == c.d.table && (c.kk == 0 && (c.kn == 0 && c.ks == [])) && rowsN c.cs == 0 else false)
end Hx
