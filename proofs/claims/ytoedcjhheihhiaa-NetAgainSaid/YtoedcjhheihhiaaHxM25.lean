/-
  HxM25: what changes come to, all in all: the program's answer (by a map's entries) and the document's (by places in a list), in plain Lean.
-/
import Derived.Test.YtoedcjhheihhiaaHxB25
namespace Hx
open Go
structure Ch where
  kind : Int
  lsn : Int
  table : List UInt8
  kk : Int
  kn : Int
  ks : List UInt8
  cs : PV
  d : Ddl
  sl : PV
abbrev Key25 := List UInt8 × Int × Int × List UInt8
def Ch.key (c : Ch) : Key25 := (c.table, c.kk, c.kn, c.ks)
def sm (a b : Ch) : Bool := decide (a.key = b.key)
theorem sm_iff {a b : Ch} : sm a b = true ↔ a.key = b.key := by unfold sm; simp
theorem sm_comm (a b : Ch) : sm a b = sm b a := by unfold sm; rw [decide_eq_decide]; exact eq_comm
def comesB (f l : Ch) : Option Ch := if f.kind = 1 then (if l.kind = 3 then none else some { l with kind := 1 }) else if l.kind = 3 then some l else some { l with kind := 2 }

abbrev En := Key25 × Ch × Ch
def findE (k : Key25) : List En → Option (Ch × Ch)
  | [] => none
  | e :: r => if e.1 = k then some e.2 else findE k r
def setE (k : Key25) (c : Ch) : List En → List En
  | [] => []
  | e :: r => if e.1 = k then (k, e.2.1, c) :: r else e :: setE k c r
def addE (E : List En) (c : Ch) : Int × List En := match findE c.key E with
  | none => (0, E ++ [(c.key, c, c)])
  | some b => if c.kind = 1 ∧ b.2.kind ≠ 3 then (17, E) else if c.kind ≠ 1 ∧ b.2.kind = 3 then (18, E) else (0, setE c.key c E)
def endK (kd : Int) (E : List En) : List Ch := E.filterMap fun e => (comesB e.2.1 e.2.2).filter fun c => c.kind == kd
def endE (E : List En) : List Ch := endK 3 E ++ (endK 2 E ++ endK 1 E)
def ofP (plain : Ch → Bool) : List Ch → List Ch → List En → List Ch × Int
  | [], out, E => (out ++ endE E, 0)
  | c :: l, out, E => if plain c = false then ([], 2) else if c.kind = 4 then ofP plain l ((out ++ endE E) ++ [c]) [] else if (addE E c).1 ≠ 0 then ([], (addE E c).1) else ofP plain l out (addE E c).2


def firsts (pre : List Ch) : List Ch → List Ch
  | [] => []
  | c :: r => if pre.any (sm c) then firsts (pre ++ [c]) r else c :: firsts (pre ++ [c]) r
def lastOf (l : List Ch) (c : Ch) : Ch := ((l.filter (sm c)).getLast?).getD c
def entries (l : List Ch) : List En := (firsts [] l).map fun c => (c.key, c, lastOf l c)


def rowsP : List Ch → List Key25 → Int → Int
  | [], _, n => n
  | c :: l, seen, n => if c.kind = 4 then rowsP l [] n else if c.kind = 1 ∨ c.kind = 2 ∨ c.kind = 3 then (if seen.contains c.key then rowsP l seen n else rowsP l (seen ++ [c.key]) (n + 1)) else rowsP l seen n
end Hx
