/-
  HxU06j: the law TypTexts on the evaluator.
-/
import Derived.Test.YtifcegbomagcpaaGreatDoorHxV05n
import Derived.Test.YtifcegbomagcpaaGreatDoorHxV05m
import Derived.Test.YtifcegbomagcpaaGreatDoorHxU06g
namespace Hx
open Go
set_option linter.unusedSimpArgs false
set_option linter.unusedVariables false
set_option maxHeartbeats 16000000
set_option maxRecDepth 20000
variable {E : Env}
attribute [-simp] List.getD_eq_getElem?_getD getElem?_pos
def glWords : List PV := [.str [], .str [99, 114, 101, 97, 116, 101], .str [100, 114, 111, 112], .str [114, 101, 110, 97, 109, 101], .str [97, 100, 100], .str [99, 117, 116], .str [99, 97, 108, 108], .str [119, 105, 100, 101, 110], .str [112, 114, 101, 115, 101, 116]]
end Hx

namespace Hx
open Go
set_option linter.unusedSimpArgs false
set_option linter.unusedVariables false
set_option maxHeartbeats 32000000
set_option maxRecDepth 20000
variable {E : Env}
attribute [-simp] List.getD_eq_getElem?_getD getElem?_pos
end Hx

namespace Hx
open Go
set_option linter.unusedSimpArgs false
set_option linter.unusedVariables false
set_option maxHeartbeats 32000000
set_option maxRecDepth 20000
variable {E : Env}
attribute [-simp] List.getD_eq_getElem?_getD getElem?_pos
end Hx

namespace Hx
open Go
set_option linter.unusedSimpArgs false
set_option linter.unusedVariables false
set_option maxHeartbeats 32000000
set_option maxRecDepth 20000
variable {E : Env}
attribute [-simp] List.getD_eq_getElem?_getD getElem?_pos
structure T10 (E : Env) : Prop where
  s : S10 E
  change : E.fn 238 = some Fn.f_ddltext_reader_change
  words : E.gl 3 = glWords
  parse : E.fn 232 = some Fn.f_ddltext_Parse
  parse1 : E.fn 237 = some Fn.f_ddltext_Parse_1
end Hx

namespace Hx
open Go
set_option maxHeartbeats 2000000
def colQ (c : Int × Col) : List PV := [.int .i64 c.1, .str c.2.name, .int .i64 c.2.kind, .int .i64 c.2.max, .bool c.2.null, .int .i64 c.2.dk, .int .i64 c.2.dn, .str c.2.ds]
def sameQ (a b : Int × Col) : Bool := a.1 == b.1 && (a.2.name == b.2.name && ((a.2.kind == b.2.kind && a.2.max == b.2.max) && (a.2.null == b.2.null && (a.2.dk == b.2.dk && (a.2.dn == b.2.dn && a.2.ds == b.2.ds)))))
theorem sameQ_iff (a b : Int × Col) : sameQ a b = true ↔ a = b := by
  obtain ⟨a1, a2⟩ := a
  obtain ⟨b1, b2⟩ := b
  cases a2; cases b2
  unfold sameQ
  simp only [Bool.and_eq_true, beq_iff_eq, Prod.mk.injEq, Col.mk.injEq]
  constructor
  · rintro ⟨h1, h2, ⟨h3, h4⟩, h5, h6, h7, h8⟩; exact ⟨h1, h2, h3, h4, h5, h6, h7, h8⟩
  · rintro ⟨h1, h2, h3, h4, h5, h6, h7, h8⟩; exact ⟨h1, h2, ⟨h3, h4⟩, h5, h6, h7, h8⟩
def sameQs : List (Int × Col) → List (Int × Col) → Bool
  | [], [] => true
  | a :: l, b :: l' => sameQ a b && sameQs l l'
  | _, _ => false
theorem sameQs_iff : ∀ a b : List (Int × Col), sameQs a b = true ↔ a = b
  | [], [] => by simp [sameQs]
  | [], b :: l => by simp [sameQs]
  | a :: l, [] => by simp [sameQs]
  | a :: l, b :: l' => by simp [sameQs, sameQ_iff, sameQs_iff l l']
def dV (d : Ddl) (sl : PV) : List PV := [.int .i64 d.op, .str d.table, .str d.column, .str d.to, .str d.key, .int .i64 d.kind, .int .i64 d.max, .bool d.null, .int .i64 d.dk, .int .i64 d.dn, .str d.ds, sl]
def sameH (a b : Ddl) : Bool := a.op == b.op && (a.table == b.table && (a.column == b.column && (a.to == b.to && (a.key == b.key && ((a.kind == b.kind && a.max == b.max) && (a.null == b.null && (a.dk == b.dk && (a.dn == b.dn && a.ds == b.ds))))))))
def SlQ (sl : PV) (rows : List (Int × Col)) : Prop := (rows = [] ∧ sl = .nils) ∨ sl = .vals 8 (rows.map colQ)
theorem sameQs_self (a : List (Int × Col)) : sameQs a a = true := (sameQs_iff a a).2 rfl
def Ddl.bare (d : Ddl) : Ddl := { d with cols := [] }
theorem sameH_iff (a b : Ddl) : sameH a b = true ↔ a.bare = b.bare := by
  cases a; cases b
  unfold sameH Ddl.bare
  simp only [Bool.and_eq_true, beq_iff_eq, Ddl.mk.injEq, and_true]
  constructor
  · rintro ⟨h1, h2, h3, h4, h5, ⟨h6, h7⟩, h8, h9, h10, h11⟩; exact ⟨h1, h2, h3, h4, h5, h6, h7, h8, h9, h10, h11⟩
  · rintro ⟨h1, h2, h3, h4, h5, h6, h7, h8, h9, h10, h11⟩; exact ⟨h1, h2, h3, h4, h5, ⟨h6, h7⟩, h8, h9, h10, h11⟩
end Hx

namespace Hx
open Go
set_option linter.unusedSimpArgs false
set_option linter.unusedVariables false
set_option maxHeartbeats 8000000
variable {E : Env}
attribute [-simp] List.getD_eq_getElem?_getD getElem?_pos
end Hx

namespace Hx
open Go
set_option linter.unusedSimpArgs false
set_option linter.unusedVariables false
set_option maxHeartbeats 8000000
variable {E : Env}
attribute [-simp] List.getD_eq_getElem?_getD getElem?_pos
end Hx

namespace Hx
open Go
set_option linter.unusedSimpArgs false
set_option linter.unusedVariables false
set_option maxHeartbeats 8000000
set_option maxRecDepth 8000
variable {E : Env}
attribute [-simp] List.getD_eq_getElem?_getD getElem?_pos
def printT (k m : Int) : List UInt8 := if k = 1 then [105, 110, 116] else if k = 2 then [108, 111, 110, 103] else if k = 3 then 116 :: 101 :: 120 :: 116 :: 40 :: (digits m ++ [41]) else 98 :: 121 :: 116 :: 101 :: 115 :: 40 :: (digits m ++ [41])
theorem printT_3 (m : Int) : printT 3 m = 116 :: 101 :: 120 :: 116 :: 40 :: (digits m ++ [41]) := rfl
theorem printT_4 (m : Int) : printT 4 m = 98 :: 121 :: 116 :: 101 :: 115 :: 40 :: (digits m ++ [41]) := rfl
theorem typ_Print (u : X06 E) (a b : Int) (k : Nat) (hk : 27 ≤ k) (m : Mem) : denF E (k + 1) 93 [.p (tP a b)] m = some (.ret (if rightT a b then .tup [.p (.str (printT a b)), .p (.int .i64 0)] else .tup [.p (.str []), .p (.int .i64 2)]), m) := by
  refine denF_wp u.print rfl (args' := [.p (tP a b)]) rfl ?_
  obtain ⟨j, rfl⟩ : ∃ j, k = j + 25 := ⟨k - 25, by omega⟩
  have hR := fun m => typ_Right u.t06.right (j + 24) a b m
  have hL := fun m => typ_long u.t06.long (j + 24) a m
  have hg := u.words
  unfold tP at *
  cases h1 : rightT a b with
  | false =>
    rw [h1] at hR
    simp (maxSteps := 1000000) [Fn.f_typ_Print, hR]
  | true =>
    rw [h1] at hR
    rcases right_cases h1 with ⟨rfl, rfl⟩ | ⟨rfl, rfl⟩ | ⟨rfl, hb⟩ | ⟨rfl, hb⟩
    · simp (maxSteps := 1000000) [Fn.f_typ_Print, hR, hL, longT, hg, asNat, asInt, printT]
    · simp (maxSteps := 1000000) [Fn.f_typ_Print, hR, hL, longT, hg, asNat, asInt, printT]
    · have hD := fun m => value_Digits u.vdigits j b (by omega) (by omega) m
      have hl := digits_64 (n := b) (by omega) (by omega)
      have l1 : 1 + (digits b).length ≤ strLim := by unfold strLim; omega
      have l2 : (digits b).length + 1 + 1 ≤ strLim := by unfold strLim; omega
      have l3 : 4 + ((digits b).length + 1 + 1) ≤ strLim := by unfold strLim; omega
      have m0 : 1 + (digits b).length ≤ strLim := by unfold strLim; omega
      have m1 : (digits b).length + 1 ≤ strLim := by unfold strLim; omega
      have m2 : (digits b).length + 1 + 1 ≤ strLim := by unfold strLim; omega
      have m3 : 1 + (digits b).length + 1 ≤ strLim := by unfold strLim; omega
      have m4 : (digits b).length + 2 ≤ strLim := by unfold strLim; omega
      have m5 : 4 + ((digits b).length + 1 + 1) ≤ strLim := by unfold strLim; omega
      have m6 : 4 + ((digits b).length + 2) ≤ strLim := by unfold strLim; omega
      have m7 : 4 + (1 + (digits b).length + 1) ≤ strLim := by unfold strLim; omega
      have m8 : (digits b).length + 1 + 1 + 4 ≤ strLim := by unfold strLim; omega
      have m9 : 4 + (digits b).length ≤ strLim := by unfold strLim; omega
      have m10 : (digits b).length + 4 ≤ strLim := by unfold strLim; omega
      have m11 : 5 + (digits b).length + 1 ≤ strLim := by unfold strLim; omega
      have m12 : 5 + (digits b).length ≤ strLim := by unfold strLim; omega
      have m13 : (digits b).length + 5 + 1 ≤ strLim := by unfold strLim; omega
      have m14 : (digits b).length + 6 ≤ strLim := by unfold strLim; omega
      have m15 : (digits b).length + 1 + 1 + 1 + 1 + 1 ≤ strLim := by unfold strLim; omega
      have m16 : (digits b).length + 1 + 1 + 1 + 1 + 1 + 1 ≤ strLim := by unfold strLim; omega
      rw [printT_3]
      generalize digits b = D at *
      simp (maxSteps := 1000000) [Fn.f_typ_Print, hR, hL, longT, hg, asNat, asInt, hD, l1, l2, l3, m0, m1, m2, m3, m4, m5, m6, m7, m8, m9, m10, m11, m12, m13, m14, m15, m16]
      try omega
    · have hD := fun m => value_Digits u.vdigits j b (by omega) (by omega) m
      have hl := digits_64 (n := b) (by omega) (by omega)
      have l1 : 1 + (digits b).length ≤ strLim := by unfold strLim; omega
      have l2 : (digits b).length + 1 + 1 ≤ strLim := by unfold strLim; omega
      have l3 : 5 + ((digits b).length + 1 + 1) ≤ strLim := by unfold strLim; omega
      have m0 : 1 + (digits b).length ≤ strLim := by unfold strLim; omega
      have m1 : (digits b).length + 1 ≤ strLim := by unfold strLim; omega
      have m2 : (digits b).length + 1 + 1 ≤ strLim := by unfold strLim; omega
      have m3 : 1 + (digits b).length + 1 ≤ strLim := by unfold strLim; omega
      have m4 : (digits b).length + 2 ≤ strLim := by unfold strLim; omega
      have m5 : 5 + ((digits b).length + 1 + 1) ≤ strLim := by unfold strLim; omega
      have m6 : 5 + ((digits b).length + 2) ≤ strLim := by unfold strLim; omega
      have m7 : 5 + (1 + (digits b).length + 1) ≤ strLim := by unfold strLim; omega
      have m8 : (digits b).length + 1 + 1 + 5 ≤ strLim := by unfold strLim; omega
      have m9 : 5 + (digits b).length ≤ strLim := by unfold strLim; omega
      have m10 : (digits b).length + 5 ≤ strLim := by unfold strLim; omega
      have m11 : 6 + (digits b).length + 1 ≤ strLim := by unfold strLim; omega
      have m12 : 6 + (digits b).length ≤ strLim := by unfold strLim; omega
      have m13 : (digits b).length + 6 + 1 ≤ strLim := by unfold strLim; omega
      have m14 : (digits b).length + 7 ≤ strLim := by unfold strLim; omega
      have m15 : (digits b).length + 1 + 1 + 1 + 1 + 1 + 1 ≤ strLim := by unfold strLim; omega
      have m16 : (digits b).length + 1 + 1 + 1 + 1 + 1 + 1 + 1 ≤ strLim := by unfold strLim; omega
      rw [printT_4]
      generalize digits b = D at *
      simp (maxSteps := 1000000) [Fn.f_typ_Print, hR, hL, longT, hg, asNat, asInt, hD, l1, l2, l3, m0, m1, m2, m3, m4, m5, m6, m7, m8, m9, m10, m11, m12, m13, m14, m15, m16]
      try omega
theorem ref_TPrint (u : X06 E) (h94 : E.fn 94 = some Fn.f_haulageref06_Print) (a b : Int) (hr : rightT a b = true) (k : Nat) (hk : 27 ≤ k) (m : Mem) : denF E (k + 1) 94 [.p (tP a b)] m = some (.ret (.p (.str (printT a b))), m) := by
  refine denF_wp h94 rfl (args' := [.p (tP a b)]) rfl ?_
  obtain ⟨j, rfl⟩ : ∃ j, k = j + 22 := ⟨k - 22, by omega⟩
  unfold tP at *
  rcases right_cases hr with ⟨rfl, rfl⟩ | ⟨rfl, rfl⟩ | ⟨rfl, hb⟩ | ⟨rfl, hb⟩
  · simp (maxSteps := 1000000) [Fn.f_haulageref06_Print, printT]
  · simp (maxSteps := 1000000) [Fn.f_haulageref06_Print, printT]
  · have hD := fun m => ref_Digits' u.m05.rdigits b (by omega) (by omega) j m
    have hl := digits_64 (n := b) (by omega) (by omega)
    have l1 : 5 + (digits b).length ≤ strLim := by unfold strLim; omega
    have l2 : (digits b).length + 1 + 1 + 1 + 1 + 1 + 1 ≤ strLim := by unfold strLim; omega
    have l3 : (digits b).length + 5 + 1 ≤ strLim := by unfold strLim; omega
    have m0 : 1 + (digits b).length ≤ strLim := by unfold strLim; omega
    have m1 : (digits b).length + 1 ≤ strLim := by unfold strLim; omega
    have m2 : (digits b).length + 1 + 1 ≤ strLim := by unfold strLim; omega
    have m3 : 1 + (digits b).length + 1 ≤ strLim := by unfold strLim; omega
    have m4 : (digits b).length + 2 ≤ strLim := by unfold strLim; omega
    have m5 : 4 + ((digits b).length + 1 + 1) ≤ strLim := by unfold strLim; omega
    have m6 : 4 + ((digits b).length + 2) ≤ strLim := by unfold strLim; omega
    have m7 : 4 + (1 + (digits b).length + 1) ≤ strLim := by unfold strLim; omega
    have m8 : (digits b).length + 1 + 1 + 4 ≤ strLim := by unfold strLim; omega
    have m9 : 4 + (digits b).length ≤ strLim := by unfold strLim; omega
    have m10 : (digits b).length + 4 ≤ strLim := by unfold strLim; omega
    have m11 : 5 + (digits b).length + 1 ≤ strLim := by unfold strLim; omega
    have m12 : 5 + (digits b).length ≤ strLim := by unfold strLim; omega
    have m13 : (digits b).length + 5 + 1 ≤ strLim := by unfold strLim; omega
    have m14 : (digits b).length + 6 ≤ strLim := by unfold strLim; omega
    have m15 : (digits b).length + 1 + 1 + 1 + 1 + 1 ≤ strLim := by unfold strLim; omega
    have m16 : (digits b).length + 1 + 1 + 1 + 1 + 1 + 1 ≤ strLim := by unfold strLim; omega
    rw [printT_3]
    generalize digits b = D at *
    simp (maxSteps := 1000000) [Fn.f_haulageref06_Print, hD, l1, l2, l3, m0, m1, m2, m3, m4, m5, m6, m7, m8, m9, m10, m11, m12, m13, m14, m15, m16]
    try omega
  · have hD := fun m => ref_Digits' u.m05.rdigits b (by omega) (by omega) j m
    have hl := digits_64 (n := b) (by omega) (by omega)
    have l1 : 6 + (digits b).length ≤ strLim := by unfold strLim; omega
    have l2 : (digits b).length + 1 + 1 + 1 + 1 + 1 + 1 + 1 ≤ strLim := by unfold strLim; omega
    have l3 : (digits b).length + 6 + 1 ≤ strLim := by unfold strLim; omega
    have m0 : 1 + (digits b).length ≤ strLim := by unfold strLim; omega
    have m1 : (digits b).length + 1 ≤ strLim := by unfold strLim; omega
    have m2 : (digits b).length + 1 + 1 ≤ strLim := by unfold strLim; omega
    have m3 : 1 + (digits b).length + 1 ≤ strLim := by unfold strLim; omega
    have m4 : (digits b).length + 2 ≤ strLim := by unfold strLim; omega
    have m5 : 5 + ((digits b).length + 1 + 1) ≤ strLim := by unfold strLim; omega
    have m6 : 5 + ((digits b).length + 2) ≤ strLim := by unfold strLim; omega
    have m7 : 5 + (1 + (digits b).length + 1) ≤ strLim := by unfold strLim; omega
    have m8 : (digits b).length + 1 + 1 + 5 ≤ strLim := by unfold strLim; omega
    have m9 : 5 + (digits b).length ≤ strLim := by unfold strLim; omega
    have m10 : (digits b).length + 5 ≤ strLim := by unfold strLim; omega
    have m11 : 6 + (digits b).length + 1 ≤ strLim := by unfold strLim; omega
    have m12 : 6 + (digits b).length ≤ strLim := by unfold strLim; omega
    have m13 : (digits b).length + 6 + 1 ≤ strLim := by unfold strLim; omega
    have m14 : (digits b).length + 7 ≤ strLim := by unfold strLim; omega
    have m15 : (digits b).length + 1 + 1 + 1 + 1 + 1 + 1 ≤ strLim := by unfold strLim; omega
    have m16 : (digits b).length + 1 + 1 + 1 + 1 + 1 + 1 + 1 ≤ strLim := by unfold strLim; omega
    rw [printT_4]
    generalize digits b = D at *
    simp (maxSteps := 1000000) [Fn.f_haulageref06_Print, hD, l1, l2, l3, m0, m1, m2, m3, m4, m5, m6, m7, m8, m9, m10, m11, m12, m13, m14, m15, m16]
    try omega
theorem printT_len {a b : Int} (h : rightT a b = true) : (printT a b).length ≤ 30 := by
  have hl : ∀ b : Int, 1 ≤ b ∧ b ≤ 120 → (digits b).length ≤ 20 := fun b hb => digits_64 (by omega) (by omega)
  rcases right_cases h with ⟨rfl, rfl⟩ | ⟨rfl, rfl⟩ | ⟨rfl, hb⟩ | ⟨rfl, hb⟩
  · decide
  · decide
  · have := hl b hb
    rw [printT_3]
    simp
    omega
  · have := hl b hb
    rw [printT_4]
    simp
    omega
end Hx
