/-
  HxU06j: the law TypTexts on the evaluator.
-/
import Derived.Test.YtifcegbomagcpaaDoorHxU06g
import Derived.Test.YtifcegbomagcpaaDoorHxU10n
import Derived.Test.YtifcegbomagcpaaDoorHxM10o
import Derived.Test.YtifcegbomagcpaaDoorHxV05b
import Derived.Test.YtifcegbomagcpaaDoorHxU05g
namespace Hx
open Go
def pValue (null : Bool) (r : List UInt8) : PR (Int × Int × List UInt8) :=
  if (readR (skipB r)).2.2.2.2 ≠ 0 then .bad (readR (skipB r)).2.2.2.2 (skipB r)
  else if (readR (skipB r)).1 = 0 ∧ null = false then .bad 11 (skipB r)
  else .ok ((readR (skipB r)).1, (readR (skipB r)).2.1, (readR (skipB r)).2.2.1) ((skipB r).drop (readR (skipB r)).2.2.2.1.toNat)
structure Col where
  name : List UInt8
  kind : Int
  max : Int
  null : Bool
  dk : Int
  dn : Int
  ds : List UInt8
def wNul : List UInt8 := [110, 117, 108, 108]
def wDef : List UInt8 := [100, 101, 102, 97, 117, 108, 116]
def pColTail (n : List UInt8) (t : Int × Int) (null : Bool) (r : List UInt8) : PR Col :=
  if (pTake wDef r).1 then (pValue false (pTake wDef r).2).bind fun v r => .ok ⟨n, t.1, t.2, null, v.1, v.2.1, v.2.2⟩ r else .ok ⟨n, t.1, t.2, null, 0, 0, []⟩ (pTake wDef r).2
def pCol (r : List UInt8) : PR Col := (pName r).bind fun n r => (pKind r).bind fun t r => pColTail n t (pTake wNul r).1 (pTake wNul r).2
def pColsF : Nat → List Col → List UInt8 → PR (List Col)
  | 0, _, r => .bad 3 (skipB r)
  | k + 1, l, r => (pCol (skipB r)).bind fun c r => if (pSign 44 r).1 then pColsF k (l ++ [c]) (pSign 44 r).2 else (pWantS 41 (pSign 44 r).2).bind fun _ r => .ok (l ++ [c]) r
def pCols (r : List UInt8) : PR (List Col) := (pWantS 40 r).bind fun _ r => pColsF 10 [] r
structure Ddl where
  op : Int
  table : List UInt8 := []
  column : List UInt8 := []
  to : List UInt8 := []
  key : List UInt8 := []
  kind : Int := 0
  max : Int := 0
  null : Bool := false
  dk : Int := 0
  dn : Int := 0
  ds : List UInt8 := []
  cols : List Col := []
def wKey : List UInt8 := [107, 101, 121]
def wTo : List UInt8 := [116, 111]
def pRest (op : Nat) (t : List UInt8) (r : List UInt8) : PR Ddl :=
  if op = 1 then (pCols r).bind fun l r => (pWant wKey r).bind fun _ r => (pName r).bind fun k r => .ok { op := 1, table := t, key := k, cols := l } r
  else if op = 2 then .ok { op := 2, table := t } r
  else if op = 3 then (pWant wTo r).bind fun _ r => (pName r).bind fun n r => .ok { op := 3, table := t, to := n } r
  else if op = 4 then (pCol r).bind fun c r => .ok { op := 4, table := t, column := c.name, kind := c.kind, max := c.max, null := c.null, dk := c.dk, dn := c.dn, ds := c.ds } r
  else if op = 5 then (pName r).bind fun c r => .ok { op := 5, table := t, column := c } r
  else if op = 6 then (pName r).bind fun c r => (pWant wTo r).bind fun _ r => (pName r).bind fun n r => .ok { op := 6, table := t, column := c, to := n } r
  else if op = 7 then (pName r).bind fun c r => (pKind r).bind fun k r => .ok { op := 7, table := t, column := c, kind := k.1, max := k.2 } r
  else (pName r).bind fun c r => (pValue true r).bind fun v r => .ok { op := 8, table := t, column := c, dk := v.1, dn := v.2.1, ds := v.2.2 } r
def pChange (r : List UInt8) : PR Ddl :=
  if opOf (wordOf (skipB r)) = 0 then .bad 5 (skipB r) else (pName ((skipB r).drop (wordOf (skipB r)).length)).bind fun t r' => pRest (opOf (wordOf (skipB r))) t r'
def pAll (s : List UInt8) : PR Ddl := (pChange s).bind fun d r => if skipB r = [] then .ok d [] else .bad 6 (skipB r)
end Hx

namespace Hx
open Go
set_option maxHeartbeats 2000000
end Hx

namespace Hx
open Go
set_option linter.unusedSimpArgs false
set_option linter.unusedVariables false
set_option maxHeartbeats 8000000
set_option maxRecDepth 20000
variable {E : Env}
attribute [-simp] List.getD_eq_getElem?_getD getElem?_pos
def ValOk (E : Env) (f : Nat) : Prop := ∀ s : List UInt8, (s.length : Int) ≤ 1000000000 → ∀ k, s.length + 300 ≤ k → ∀ m, denF E (k + 1) f [.p (.str s)] m = some (.ret (rdV (readR s)), m)
end Hx

namespace Hx
open Go
set_option linter.unusedSimpArgs false
set_option linter.unusedVariables false
set_option maxHeartbeats 4000000
set_option maxRecDepth 20000
variable {E : Env}
attribute [-simp] List.getD_eq_getElem?_getD getElem?_pos
end Hx

namespace Hx
open Go
set_option linter.unusedSimpArgs false
set_option linter.unusedVariables false
set_option maxHeartbeats 8000000
set_option maxRecDepth 20000
variable {E : Env}
attribute [-simp] List.getD_eq_getElem?_getD getElem?_pos
end Hx

namespace Hx
open Go
set_option maxHeartbeats 2000000
end Hx

namespace Hx
open Go
set_option linter.unusedSimpArgs false
set_option linter.unusedVariables false
set_option maxHeartbeats 16000000
set_option maxRecDepth 20000
variable {E : Env}
attribute [-simp] List.getD_eq_getElem?_getD getElem?_pos
structure S10 (E : Env) : Prop where
  u : R10 E
  kind : E.fn 256 = some Fn.f_ddltext_reader_kind
  value : E.fn 257 = some Fn.f_ddltext_reader_value
  column : E.fn 255 = some Fn.f_ddltext_reader_column
  columns : E.fn 253 = some Fn.f_ddltext_reader_columns
  ty : TyOk E 89
  va : ValOk E 26
end Hx

namespace Hx
open Go
set_option linter.unusedSimpArgs false
set_option linter.unusedVariables false
set_option maxHeartbeats 16000000
set_option maxRecDepth 20000
variable {E : Env}
attribute [-simp] List.getD_eq_getElem?_getD getElem?_pos
theorem pColsF_succ (k : Nat) (l : List Col) (r : List UInt8) : pColsF (k + 1) l r = (pCol (skipB r)).bind fun c r => if (pSign 44 r).1 then pColsF k (l ++ [c]) (pSign 44 r).2 else (pWantS 41 (pSign 44 r).2).bind fun _ r => .ok (l ++ [c]) r := rfl
end Hx

namespace Hx
open Go
set_option linter.unusedSimpArgs false
set_option linter.unusedVariables false
set_option maxHeartbeats 16000000
set_option maxRecDepth 20000
variable {E : Env}
attribute [-simp] List.getD_eq_getElem?_getD getElem?_pos
def glWords : List PV := [.str [], .str [99, 114, 101, 97, 116, 101], .str [100, 114, 111, 112], .str [114, 101, 110, 97, 109, 101], .str [97, 100, 100], .str [99, 117, 116], .str [99, 97, 108, 108], .str [119, 105, 100, 101, 110], .str [112, 114, 101, 115, 101, 116]]
end Hx

namespace Hx
open Go
set_option linter.unusedSimpArgs false
set_option linter.unusedVariables false
set_option maxHeartbeats 32000000
set_option maxRecDepth 20000
variable {E : Env}
attribute [-simp] List.getD_eq_getElem?_getD getElem?_pos
end Hx

namespace Hx
open Go
set_option linter.unusedSimpArgs false
set_option linter.unusedVariables false
set_option maxHeartbeats 32000000
set_option maxRecDepth 20000
variable {E : Env}
attribute [-simp] List.getD_eq_getElem?_getD getElem?_pos
end Hx

namespace Hx
open Go
set_option linter.unusedSimpArgs false
set_option linter.unusedVariables false
set_option maxHeartbeats 32000000
set_option maxRecDepth 20000
variable {E : Env}
attribute [-simp] List.getD_eq_getElem?_getD getElem?_pos
structure T10 (E : Env) : Prop where
  s : S10 E
  change : E.fn 238 = some Fn.f_ddltext_reader_change
  words : E.gl 3 = glWords
  parse : E.fn 232 = some Fn.f_ddltext_Parse
  parse1 : E.fn 237 = some Fn.f_ddltext_Parse_1
end Hx

namespace Hx
open Go
set_option maxHeartbeats 2000000
def colQ (c : Int × Col) : List PV := [.int .i64 c.1, .str c.2.name, .int .i64 c.2.kind, .int .i64 c.2.max, .bool c.2.null, .int .i64 c.2.dk, .int .i64 c.2.dn, .str c.2.ds]
def sameQ (a b : Int × Col) : Bool := a.1 == b.1 && (a.2.name == b.2.name && ((a.2.kind == b.2.kind && a.2.max == b.2.max) && (a.2.null == b.2.null && (a.2.dk == b.2.dk && (a.2.dn == b.2.dn && a.2.ds == b.2.ds)))))
theorem sameQ_iff (a b : Int × Col) : sameQ a b = true ↔ a = b := by
  obtain ⟨a1, a2⟩ := a
  obtain ⟨b1, b2⟩ := b
  cases a2; cases b2
  unfold sameQ
  simp only [Bool.and_eq_true, beq_iff_eq, Prod.mk.injEq, Col.mk.injEq]
  constructor
  · rintro ⟨h1, h2, ⟨h3, h4⟩, h5, h6, h7, h8⟩; exact ⟨h1, h2, h3, h4, h5, h6, h7, h8⟩
  · rintro ⟨h1, h2, h3, h4, h5, h6, h7, h8⟩; exact ⟨h1, h2, ⟨h3, h4⟩, h5, h6, h7, h8⟩
def sameQs : List (Int × Col) → List (Int × Col) → Bool
  | [], [] => true
  | a :: l, b :: l' => sameQ a b && sameQs l l'
  | _, _ => false
theorem sameQs_iff : ∀ a b : List (Int × Col), sameQs a b = true ↔ a = b
  | [], [] => by simp [sameQs]
  | [], b :: l => by simp [sameQs]
  | a :: l, [] => by simp [sameQs]
  | a :: l, b :: l' => by simp [sameQs, sameQ_iff, sameQs_iff l l']
def dV (d : Ddl) (sl : PV) : List PV := [.int .i64 d.op, .str d.table, .str d.column, .str d.to, .str d.key, .int .i64 d.kind, .int .i64 d.max, .bool d.null, .int .i64 d.dk, .int .i64 d.dn, .str d.ds, sl]
def sameH (a b : Ddl) : Bool := a.op == b.op && (a.table == b.table && (a.column == b.column && (a.to == b.to && (a.key == b.key && ((a.kind == b.kind && a.max == b.max) && (a.null == b.null && (a.dk == b.dk && (a.dn == b.dn && a.ds == b.ds))))))))
def SlQ (sl : PV) (rows : List (Int × Col)) : Prop := (rows = [] ∧ sl = .nils) ∨ sl = .vals 8 (rows.map colQ)
def Ddl.bare (d : Ddl) : Ddl := { d with cols := [] }
theorem sameH_iff (a b : Ddl) : sameH a b = true ↔ a.bare = b.bare := by
  cases a; cases b
  unfold sameH Ddl.bare
  simp only [Bool.and_eq_true, beq_iff_eq, Ddl.mk.injEq, and_true]
  constructor
  · rintro ⟨h1, h2, h3, h4, h5, ⟨h6, h7⟩, h8, h9, h10, h11⟩; exact ⟨h1, h2, h3, h4, h5, h6, h7, h8, h9, h10, h11⟩
  · rintro ⟨h1, h2, h3, h4, h5, h6, h7, h8, h9, h10, h11⟩; exact ⟨h1, h2, h3, h4, h5, ⟨h6, h7⟩, h8, h9, h10, h11⟩
end Hx

namespace Hx
open Go
set_option linter.unusedSimpArgs false
set_option linter.unusedVariables false
set_option maxHeartbeats 8000000
set_option maxRecDepth 8000
variable {E : Env}
attribute [-simp] List.getD_eq_getElem?_getD getElem?_pos
def printT (k m : Int) : List UInt8 := if k = 1 then [105, 110, 116] else if k = 2 then [108, 111, 110, 103] else if k = 3 then 116 :: 101 :: 120 :: 116 :: 40 :: (digits m ++ [41]) else 98 :: 121 :: 116 :: 101 :: 115 :: 40 :: (digits m ++ [41])
theorem printT_3 (m : Int) : printT 3 m = 116 :: 101 :: 120 :: 116 :: 40 :: (digits m ++ [41]) := rfl
theorem printT_4 (m : Int) : printT 4 m = 98 :: 121 :: 116 :: 101 :: 115 :: 40 :: (digits m ++ [41]) := rfl
theorem typ_Print (u : X06 E) (a b : Int) (k : Nat) (hk : 27 ≤ k) (m : Mem) : denF E (k + 1) 93 [.p (tP a b)] m = some (.ret (if rightT a b then .tup [.p (.str (printT a b)), .p (.int .i64 0)] else .tup [.p (.str []), .p (.int .i64 2)]), m) := by
  refine denF_wp u.print rfl (args' := [.p (tP a b)]) rfl ?_
  obtain ⟨j, rfl⟩ : ∃ j, k = j + 25 := ⟨k - 25, by omega⟩
  have hR := fun m => typ_Right u.t06.right (j + 24) a b m
  have hL := fun m => typ_long u.t06.long (j + 24) a m
  have hg := u.words
  unfold tP at *
  cases h1 : rightT a b with
  | false =>
    rw [h1] at hR
    simp (maxSteps := 1000000) [Fn.f_typ_Print, hR]
  | true =>
    rw [h1] at hR
    rcases right_cases h1 with ⟨rfl, rfl⟩ | ⟨rfl, rfl⟩ | ⟨rfl, hb⟩ | ⟨rfl, hb⟩
    · simp (maxSteps := 1000000) [Fn.f_typ_Print, hR, hL, longT, hg, asNat, asInt, printT]
    · simp (maxSteps := 1000000) [Fn.f_typ_Print, hR, hL, longT, hg, asNat, asInt, printT]
    · have hD := fun m => value_Digits u.vdigits j b (by omega) (by omega) m
      have hl := digits_64 (n := b) (by omega) (by omega)
      have l1 : 1 + (digits b).length ≤ strLim := by unfold strLim; omega
      have l2 : (digits b).length + 1 + 1 ≤ strLim := by unfold strLim; omega
      have l3 : 4 + ((digits b).length + 1 + 1) ≤ strLim := by unfold strLim; omega
      have m0 : 1 + (digits b).length ≤ strLim := by unfold strLim; omega
      have m1 : (digits b).length + 1 ≤ strLim := by unfold strLim; omega
      have m2 : (digits b).length + 1 + 1 ≤ strLim := by unfold strLim; omega
      have m3 : 1 + (digits b).length + 1 ≤ strLim := by unfold strLim; omega
      have m4 : (digits b).length + 2 ≤ strLim := by unfold strLim; omega
      have m5 : 4 + ((digits b).length + 1 + 1) ≤ strLim := by unfold strLim; omega
      have m6 : 4 + ((digits b).length + 2) ≤ strLim := by unfold strLim; omega
      have m7 : 4 + (1 + (digits b).length + 1) ≤ strLim := by unfold strLim; omega
      have m8 : (digits b).length + 1 + 1 + 4 ≤ strLim := by unfold strLim; omega
      have m9 : 4 + (digits b).length ≤ strLim := by unfold strLim; omega
      have m10 : (digits b).length + 4 ≤ strLim := by unfold strLim; omega
      have m11 : 5 + (digits b).length + 1 ≤ strLim := by unfold strLim; omega
      have m12 : 5 + (digits b).length ≤ strLim := by unfold strLim; omega
      have m13 : (digits b).length + 5 + 1 ≤ strLim := by unfold strLim; omega
      have m14 : (digits b).length + 6 ≤ strLim := by unfold strLim; omega
      have m15 : (digits b).length + 1 + 1 + 1 + 1 + 1 ≤ strLim := by unfold strLim; omega
      have m16 : (digits b).length + 1 + 1 + 1 + 1 + 1 + 1 ≤ strLim := by unfold strLim; omega
      rw [printT_3]
      generalize digits b = D at *
      simp (maxSteps := 1000000) [Fn.f_typ_Print, hR, hL, longT, hg, asNat, asInt, hD, l1, l2, l3, m0, m1, m2, m3, m4, m5, m6, m7, m8, m9, m10, m11, m12, m13, m14, m15, m16]
      try omega
    · have hD := fun m => value_Digits u.vdigits j b (by omega) (by omega) m
      have hl := digits_64 (n := b) (by omega) (by omega)
      have l1 : 1 + (digits b).length ≤ strLim := by unfold strLim; omega
      have l2 : (digits b).length + 1 + 1 ≤ strLim := by unfold strLim; omega
      have l3 : 5 + ((digits b).length + 1 + 1) ≤ strLim := by unfold strLim; omega
      have m0 : 1 + (digits b).length ≤ strLim := by unfold strLim; omega
      have m1 : (digits b).length + 1 ≤ strLim := by unfold strLim; omega
      have m2 : (digits b).length + 1 + 1 ≤ strLim := by unfold strLim; omega
      have m3 : 1 + (digits b).length + 1 ≤ strLim := by unfold strLim; omega
      have m4 : (digits b).length + 2 ≤ strLim := by unfold strLim; omega
      have m5 : 5 + ((digits b).length + 1 + 1) ≤ strLim := by unfold strLim; omega
      have m6 : 5 + ((digits b).length + 2) ≤ strLim := by unfold strLim; omega
      have m7 : 5 + (1 + (digits b).length + 1) ≤ strLim := by unfold strLim; omega
      have m8 : (digits b).length + 1 + 1 + 5 ≤ strLim := by unfold strLim; omega
      have m9 : 5 + (digits b).length ≤ strLim := by unfold strLim; omega
      have m10 : (digits b).length + 5 ≤ strLim := by unfold strLim; omega
      have m11 : 6 + (digits b).length + 1 ≤ strLim := by unfold strLim; omega
      have m12 : 6 + (digits b).length ≤ strLim := by unfold strLim; omega
      have m13 : (digits b).length + 6 + 1 ≤ strLim := by unfold strLim; omega
      have m14 : (digits b).length + 7 ≤ strLim := by unfold strLim; omega
      have m15 : (digits b).length + 1 + 1 + 1 + 1 + 1 + 1 ≤ strLim := by unfold strLim; omega
      have m16 : (digits b).length + 1 + 1 + 1 + 1 + 1 + 1 + 1 ≤ strLim := by unfold strLim; omega
      rw [printT_4]
      generalize digits b = D at *
      simp (maxSteps := 1000000) [Fn.f_typ_Print, hR, hL, longT, hg, asNat, asInt, hD, l1, l2, l3, m0, m1, m2, m3, m4, m5, m6, m7, m8, m9, m10, m11, m12, m13, m14, m15, m16]
      try omega
theorem printT_len {a b : Int} (h : rightT a b = true) : (printT a b).length ≤ 30 := by
  have hl : ∀ b : Int, 1 ≤ b ∧ b ≤ 120 → (digits b).length ≤ 20 := fun b hb => digits_64 (by omega) (by omega)
  rcases right_cases h with ⟨rfl, rfl⟩ | ⟨rfl, rfl⟩ | ⟨rfl, hb⟩ | ⟨rfl, hb⟩
  · decide
  · decide
  · have := hl b hb
    rw [printT_3]
    simp
    omega
  · have := hl b hb
    rw [printT_4]
    simp
    omega
end Hx
