/-
  HxM10p: which changes can be written, and their texts: plain.
-/
import Derived.Test.YtifcegbomagcpaaDoorHxU10v
import Derived.Test.YtifcegbomagcpaaDoorHxV05b
import Derived.Test.YtifcegbomagcpaaDoorHxU10a
import Derived.Test.YtifcegbomagcpaaDoorHxU05g
import Derived.Test.YtifcegbomagcpaaDoorHxU10j
import Derived.Test.YtifcegbomagcpaaDoorHxV05c
namespace Hx
open Go
set_option linter.unusedSimpArgs false
set_option linter.unusedVariables false
set_option maxHeartbeats 32000000
set_option maxRecDepth 20000
variable {E : Env}
attribute [-simp] List.getD_eq_getElem?_getD getElem?_pos
theorem ch_all (w : S10 E) {s r : List UInt8} (hs : (s.length : Int) ≤ 1000000000) (hr : r <:+ s) (j : Nat) (hk : s.length + 350 ≤ j + 1) (id : Nat) (m : Mem) (hid : id < m.length) (st : St) (hst : ChSt s r id m (opOf (wordOf (skipB r))) st) :
    Wp (den E (denF E (j + 1)) (j + 1) chB st) (ChOut s r id m) := by
  have hle := opOf_le (wordOf (skipB r))
  obtain ⟨op, hop⟩ : ∃ op, opOf (wordOf (skipB r)) = op := ⟨_, rfl⟩
  rw [hop] at hst hle
  rcases (by omega : op = 0 ∨ op = 1 ∨ op = 2 ∨ op = 3 ∨ op = 4 ∨ op = 5 ∨ op = 6 ∨ op = 7 ∨ op = 8) with rfl | rfl | rfl | rfl | rfl | rfl | rfl | rfl | rfl
  · exact ch_0 w hs hr j hk id m hid hop st hst
  · exact ch_1 w hs hr j hk id m hid hop st hst
  · exact ch_2 w hs hr j hk id m hid hop st hst
  · exact ch_3 w hs hr j hk id m hid hop st hst
  · exact ch_4 w hs hr j hk id m hid hop st hst
  · exact ch_5 w hs hr j hk id m hid hop st hst
  · exact ch_6 w hs hr j hk id m hid hop st hst
  · exact ch_7 w hs hr j hk id m hid hop st hst
  · exact ch_8 w hs hr j hk id m hid hop st hst
theorem ch_body : Fn.f_ddltext_reader_change.body = .seq Fn.f_ddltext_reader_change.body.fst (.seq Fn.f_ddltext_reader_change.body.snd.fst (.seq Fn.f_ddltext_reader_change.body.snd.snd.fst (.seq (.seq (.ops [⟨some 5, .mov (.con (.int .i64 1)), none, 0⟩]) (.block 0 (.loop Fn.f_ddltext_reader_change_k0 Fn.f_ddltext_reader_change_b0))) chB))) := rfl
theorem rd_change (w : S10 E) (hn : E.fn 238 = some Fn.f_ddltext_reader_change) (hg : E.gl 3 = glWords) {s r : List UInt8} (hs : (s.length : Int) ≤ 1000000000) (hr : r <:+ s) (k : Nat) (hk : s.length + 350 ≤ k) (id : Nat) (m : Mem) (hm : m[id]? = some (rdB s r)) :
    ∃ (o : Out) (m1 : Mem), denF E (k + 1) 238 [.ptr id 0] m = some (o, m1) ∧ chR (pChange r) o ∧ ∃ l, m1 = m.set id (rdB s (pChange r).rest) ++ l := by
  have u := w.u
  have hid := own_id hm
  obtain ⟨j, rfl⟩ : ∃ j, k = j + 1 := ⟨k - 1, by omega⟩
  refine denF_wp_ex hn rfl ?_
  show Wp _ (ChOut s r id m)
  have hq : ∀ x : Blk, (m.set id x).length = m.length := fun x => List.length_set
  have hap1 : ∀ (l : List Blk) (x : Blk), (m ++ l).set id x = m.set id x ++ l := fun l x => by rw [List.set_append_left _ _ hid]
  have hget : (m ++ [Blk.cells (zDdl 0), Blk.cells (zDdl 0)])[id]? = some (rdB s r) := by rw [List.getElem?_append_left hid]; exact hm
  have hP := rd_peek u hs hr j (by omega) id _ hget
  rw [hap1] at hP
  have g1' : ∀ a b : Blk, (m ++ [a, b])[m.length + 1]? = some b := fun a b => by rw [List.getElem?_append_right (by omega), Nat.add_sub_cancel_left]; rfl
  have s1' : ∀ a b c : Blk, (m ++ [a, b]).set (m.length + 1) c = m ++ [a, c] := fun a b c => by rw [List.set_append_right _ _ (by omega), Nat.add_sub_cancel_left]; rfl
  rw [ch_body]
  unfold zDdl at hP
  simp (maxSteps := 8000000) [Fn.f_ddltext_reader_change, XCode.fst, XCode.snd, hP, g1', s1']
  refine (change_loop hg (wordOf (skipB r)) (j + 1) (by omega) id m.length m (m.set id (rdB s (skipB r))) (hq _).symm _ ⟨rfl, rfl, rfl, rfl⟩).mono ?_
  rintro e st ⟨rfl, hds, hlen, h0, h2, h3, h4, hm⟩
  rw [exitQ_exit, if_pos rfl, seqQ_norm]
  exact ch_all w hs hr j (by omega) id m hid st ⟨hds, hlen, h0, h2, h3, h4, hm⟩
end Hx

namespace Hx
open Go
set_option linter.unusedSimpArgs false
set_option linter.unusedVariables false
set_option maxHeartbeats 32000000
set_option maxRecDepth 20000
variable {E : Env}
attribute [-simp] List.getD_eq_getElem?_getD getElem?_pos
def ddlP (d : Ddl) : List PV := [.int .i64 d.op, .str d.table, .str d.column, .str d.to, .str d.key, .int .i64 d.kind, .int .i64 d.max, .bool d.null, .int .i64 d.dk, .int .i64 d.dn, .str d.ds, slP 8 (d.cols.map colP)]
def parseV (s : List UInt8) : AV := match pAll s with
  | .bad e r => .tup [.p (.agg (ddlP { op := 0 })), .p (.int .i64 (placeOf10 s r)), .p (.int .i64 e)]
  | .ok d _ => .tup [.p (.agg (ddlP d)), .p (.int .i64 s.length), .p (.int .i64 0)]
structure T10 (E : Env) : Prop where
  s : S10 E
  change : E.fn 238 = some Fn.f_ddltext_reader_change
  words : E.gl 3 = glWords
  parse : E.fn 232 = some Fn.f_ddltext_Parse
  parse1 : E.fn 237 = some Fn.f_ddltext_Parse_1
theorem ddl_Parse (w : T10 E) (s : List UInt8) (hs : (s.length : Int) ≤ 1000000000) (k : Nat) (hk : s.length + 360 ≤ k) (m : Mem) : denF E (k + 1) 232 [.p (.str s)] m = some (.ret (parseV s), m) := by
  refine denF_wp_dfr w.parse rfl rfl (args' := [.p (.str s)]) rfl ?_
  have u := w.s.u
  obtain ⟨j, rfl⟩ : ∃ j, k = j + 1 := ⟨k - 1, by omega⟩
  have hc := w.parse1
  have h0 : placeOf10 s s = 0 := by unfold placeOf10; omega
  obtain ⟨o, m1, hC, hR, l, hm1⟩ := rd_change w.s w.change w.words hs (List.suffix_refl s) j (by omega) 3 ([.cells (zDdl 0), .cells [.p (.int .i64 0)], .cells [.p (.int .i64 0)], .cells [.p (.str s), .p (.int .i64 0)], .cells [.ptr 3 0]]) (by unfold rdB rdCells; rw [h0]; rfl)
  have hr := pChange_rest (List.suffix_refl s)
  have hB := fun e m => rd_bad u j e m
  have hL := fun M hM => rd_left' u hs hr j (by omega) 3 M hM
  have gl : ∀ c : Blk, (l ++ [c])[l.length]? = some c := fun c => by rw [List.getElem?_append_right (Nat.le_refl _), Nat.sub_self]; rfl
  unfold parseV pAll
  cases hp : pChange s with
  | bad e q =>
    rw [hp] at hR hm1
    simp only [chR] at hR
    subst hR hm1
    simp only [PR.rest] at hC
    unfold zDdl rdB rdCells flt at *
    simp (maxSteps := 8000000) [Fn.f_ddltext_Parse, Fn.f_ddltext_Parse_1, hC, hc, gl, leaveD, pvOf, PR.bind, ddlP, slP]
  | ok d q =>
    rw [hp] at hR hm1 hL hr
    simp only [chR] at hR
    obtain ⟨c, hcols, rfl⟩ := hR
    subst hm1
    simp only [PR.rest] at hC hL hr
    have hrs := suf_skip hr
    have hlen := suf_len hrs
    rcases hcols with ⟨hnil, rfl⟩ | ⟨hne, t, rfl⟩
    · simp only [PR.bind]
      by_cases hx : skipB q = []
      · rw [if_pos hx]
        rw [hx] at hL
        unfold zDdl rdB rdCells flt ddlC at *
        simp (maxSteps := 8000000) [Fn.f_ddltext_Parse, Fn.f_ddltext_Parse_1, hC, hc, gl, hL, leaveD, pvOf, PR.bind, ddlP, slP, hnil, bne]
      · rw [if_neg hx]
        have hb : (skipB q == []) = false := by simpa using hx
        unfold zDdl rdB rdCells flt ddlC at *
        simp (maxSteps := 8000000) [Fn.f_ddltext_Parse, Fn.f_ddltext_Parse_1, hC, hc, gl, hL, hb, hB, leaveD, pvOf, PR.bind, ddlP, slP, bne]
    · have hsl : slP 8 (d.cols.map colP) = .vals 8 (d.cols.map colP) := by
        cases hd : d.cols with
        | nil => exact absurd hd hne
        | cons a l => rfl
      simp only [PR.bind]
      by_cases hx : skipB q = []
      · rw [if_pos hx]
        rw [hx] at hL
        simp only [ddlP, hsl]
        unfold zDdl rdB rdCells flt ddlC at *
        simp (maxSteps := 8000000) [Fn.f_ddltext_Parse, Fn.f_ddltext_Parse_1, hC, hc, gl, hL, leaveD, pvOf, PR.bind, bne]
      · rw [if_neg hx]
        have hb : (skipB q == []) = false := by simpa using hx
        unfold zDdl rdB rdCells flt ddlC at *
        simp (maxSteps := 8000000) [Fn.f_ddltext_Parse, Fn.f_ddltext_Parse_1, hC, hc, gl, hL, hb, hB, leaveD, pvOf, PR.bind, ddlP, slP, bne]
end Hx

namespace Hx
open Go
set_option maxHeartbeats 2000000
def colQ (c : Int × Col) : List PV := [.int .i64 c.1, .str c.2.name, .int .i64 c.2.kind, .int .i64 c.2.max, .bool c.2.null, .int .i64 c.2.dk, .int .i64 c.2.dn, .str c.2.ds]
def sameQ (a b : Int × Col) : Bool := a.1 == b.1 && (a.2.name == b.2.name && ((a.2.kind == b.2.kind && a.2.max == b.2.max) && (a.2.null == b.2.null && (a.2.dk == b.2.dk && (a.2.dn == b.2.dn && a.2.ds == b.2.ds)))))
theorem sameQ_iff (a b : Int × Col) : sameQ a b = true ↔ a = b := by
  obtain ⟨a1, a2⟩ := a
  obtain ⟨b1, b2⟩ := b
  cases a2; cases b2
  unfold sameQ
  simp only [Bool.and_eq_true, beq_iff_eq, Prod.mk.injEq, Col.mk.injEq]
  constructor
  · rintro ⟨h1, h2, ⟨h3, h4⟩, h5, h6, h7, h8⟩; exact ⟨h1, h2, h3, h4, h5, h6, h7, h8⟩
  · rintro ⟨h1, h2, h3, h4, h5, h6, h7, h8⟩; exact ⟨h1, h2, ⟨h3, h4⟩, h5, h6, h7, h8⟩
def sameQs : List (Int × Col) → List (Int × Col) → Bool
  | [], [] => true
  | a :: l, b :: l' => sameQ a b && sameQs l l'
  | _, _ => false
theorem sameQs_iff : ∀ a b : List (Int × Col), sameQs a b = true ↔ a = b
  | [], [] => by simp [sameQs]
  | [], b :: l => by simp [sameQs]
  | a :: l, [] => by simp [sameQs]
  | a :: l, b :: l' => by simp [sameQs, sameQ_iff, sameQs_iff l l']
def dV (d : Ddl) (sl : PV) : List PV := [.int .i64 d.op, .str d.table, .str d.column, .str d.to, .str d.key, .int .i64 d.kind, .int .i64 d.max, .bool d.null, .int .i64 d.dk, .int .i64 d.dn, .str d.ds, sl]
def sameH (a b : Ddl) : Bool := a.op == b.op && (a.table == b.table && (a.column == b.column && (a.to == b.to && (a.key == b.key && ((a.kind == b.kind && a.max == b.max) && (a.null == b.null && (a.dk == b.dk && (a.dn == b.dn && a.ds == b.ds))))))))
def SlQ (sl : PV) (rows : List (Int × Col)) : Prop := (rows = [] ∧ sl = .nils) ∨ sl = .vals 8 (rows.map colQ)
theorem ddlP_dV (d : Ddl) : ddlP d = dV d (slP 8 (d.cols.map colP)) := rfl
theorem slQ_of (l : List Col) : SlQ (slP 8 (l.map colP)) (l.map fun c => (0, c)) := by
  cases l with
  | nil => exact .inl ⟨rfl, rfl⟩
  | cons c l => exact .inr (by simp [slP, colP, colQ])
theorem sameH_self (a : Ddl) : sameH a a = true := by simp [sameH]
def Ddl.bare (d : Ddl) : Ddl := { d with cols := [] }
theorem sameH_iff (a b : Ddl) : sameH a b = true ↔ a.bare = b.bare := by
  cases a; cases b
  unfold sameH Ddl.bare
  simp only [Bool.and_eq_true, beq_iff_eq, Ddl.mk.injEq, and_true]
  constructor
  · rintro ⟨h1, h2, h3, h4, h5, ⟨h6, h7⟩, h8, h9, h10, h11⟩; exact ⟨h1, h2, h3, h4, h5, h6, h7, h8, h9, h10, h11⟩
  · rintro ⟨h1, h2, h3, h4, h5, h6, h7, h8, h9, h10, h11⟩; exact ⟨h1, h2, h3, h4, h5, ⟨h6, h7⟩, h8, h9, h10, h11⟩
end Hx

namespace Hx
open Go
set_option linter.unusedSimpArgs false
set_option linter.unusedVariables false
set_option maxHeartbeats 8000000
set_option maxRecDepth 8000
variable {E : Env}
attribute [-simp] List.getD_eq_getElem?_getD getElem?_pos
def printT (k m : Int) : List UInt8 := if k = 1 then [105, 110, 116] else if k = 2 then [108, 111, 110, 103] else if k = 3 then 116 :: 101 :: 120 :: 116 :: 40 :: (digits m ++ [41]) else 98 :: 121 :: 116 :: 101 :: 115 :: 40 :: (digits m ++ [41])
theorem printT_3 (m : Int) : printT 3 m = 116 :: 101 :: 120 :: 116 :: 40 :: (digits m ++ [41]) := rfl
theorem printT_4 (m : Int) : printT 4 m = 98 :: 121 :: 116 :: 101 :: 115 :: 40 :: (digits m ++ [41]) := rfl
theorem typ_Print (u : X06 E) (a b : Int) (k : Nat) (hk : 27 ≤ k) (m : Mem) : denF E (k + 1) 93 [.p (tP a b)] m = some (.ret (if rightT a b then .tup [.p (.str (printT a b)), .p (.int .i64 0)] else .tup [.p (.str []), .p (.int .i64 2)]), m) := by
  refine denF_wp u.print rfl (args' := [.p (tP a b)]) rfl ?_
  obtain ⟨j, rfl⟩ : ∃ j, k = j + 25 := ⟨k - 25, by omega⟩
  have hR := fun m => typ_Right u.t06.right (j + 24) a b m
  have hL := fun m => typ_long u.t06.long (j + 24) a m
  have hg := u.words
  unfold tP at *
  cases h1 : rightT a b with
  | false =>
    rw [h1] at hR
    simp (maxSteps := 1000000) [Fn.f_typ_Print, hR]
  | true =>
    rw [h1] at hR
    rcases right_cases h1 with ⟨rfl, rfl⟩ | ⟨rfl, rfl⟩ | ⟨rfl, hb⟩ | ⟨rfl, hb⟩
    · simp (maxSteps := 1000000) [Fn.f_typ_Print, hR, hL, longT, hg, asNat, asInt, printT]
    · simp (maxSteps := 1000000) [Fn.f_typ_Print, hR, hL, longT, hg, asNat, asInt, printT]
    · have hD := fun m => value_Digits u.vdigits j b (by omega) (by omega) m
      have hl := digits_64 (n := b) (by omega) (by omega)
      have l1 : 1 + (digits b).length ≤ strLim := by unfold strLim; omega
      have l2 : (digits b).length + 1 + 1 ≤ strLim := by unfold strLim; omega
      have l3 : 4 + ((digits b).length + 1 + 1) ≤ strLim := by unfold strLim; omega
      have m0 : 1 + (digits b).length ≤ strLim := by unfold strLim; omega
      have m1 : (digits b).length + 1 ≤ strLim := by unfold strLim; omega
      have m2 : (digits b).length + 1 + 1 ≤ strLim := by unfold strLim; omega
      have m3 : 1 + (digits b).length + 1 ≤ strLim := by unfold strLim; omega
      have m4 : (digits b).length + 2 ≤ strLim := by unfold strLim; omega
      have m5 : 4 + ((digits b).length + 1 + 1) ≤ strLim := by unfold strLim; omega
      have m6 : 4 + ((digits b).length + 2) ≤ strLim := by unfold strLim; omega
      have m7 : 4 + (1 + (digits b).length + 1) ≤ strLim := by unfold strLim; omega
      have m8 : (digits b).length + 1 + 1 + 4 ≤ strLim := by unfold strLim; omega
      have m9 : 4 + (digits b).length ≤ strLim := by unfold strLim; omega
      have m10 : (digits b).length + 4 ≤ strLim := by unfold strLim; omega
      have m11 : 5 + (digits b).length + 1 ≤ strLim := by unfold strLim; omega
      have m12 : 5 + (digits b).length ≤ strLim := by unfold strLim; omega
      have m13 : (digits b).length + 5 + 1 ≤ strLim := by unfold strLim; omega
      have m14 : (digits b).length + 6 ≤ strLim := by unfold strLim; omega
      have m15 : (digits b).length + 1 + 1 + 1 + 1 + 1 ≤ strLim := by unfold strLim; omega
      have m16 : (digits b).length + 1 + 1 + 1 + 1 + 1 + 1 ≤ strLim := by unfold strLim; omega
      rw [printT_3]
      generalize digits b = D at *
      simp (maxSteps := 1000000) [Fn.f_typ_Print, hR, hL, longT, hg, asNat, asInt, hD, l1, l2, l3, m0, m1, m2, m3, m4, m5, m6, m7, m8, m9, m10, m11, m12, m13, m14, m15, m16]
      try omega
    · have hD := fun m => value_Digits u.vdigits j b (by omega) (by omega) m
      have hl := digits_64 (n := b) (by omega) (by omega)
      have l1 : 1 + (digits b).length ≤ strLim := by unfold strLim; omega
      have l2 : (digits b).length + 1 + 1 ≤ strLim := by unfold strLim; omega
      have l3 : 5 + ((digits b).length + 1 + 1) ≤ strLim := by unfold strLim; omega
      have m0 : 1 + (digits b).length ≤ strLim := by unfold strLim; omega
      have m1 : (digits b).length + 1 ≤ strLim := by unfold strLim; omega
      have m2 : (digits b).length + 1 + 1 ≤ strLim := by unfold strLim; omega
      have m3 : 1 + (digits b).length + 1 ≤ strLim := by unfold strLim; omega
      have m4 : (digits b).length + 2 ≤ strLim := by unfold strLim; omega
      have m5 : 5 + ((digits b).length + 1 + 1) ≤ strLim := by unfold strLim; omega
      have m6 : 5 + ((digits b).length + 2) ≤ strLim := by unfold strLim; omega
      have m7 : 5 + (1 + (digits b).length + 1) ≤ strLim := by unfold strLim; omega
      have m8 : (digits b).length + 1 + 1 + 5 ≤ strLim := by unfold strLim; omega
      have m9 : 5 + (digits b).length ≤ strLim := by unfold strLim; omega
      have m10 : (digits b).length + 5 ≤ strLim := by unfold strLim; omega
      have m11 : 6 + (digits b).length + 1 ≤ strLim := by unfold strLim; omega
      have m12 : 6 + (digits b).length ≤ strLim := by unfold strLim; omega
      have m13 : (digits b).length + 6 + 1 ≤ strLim := by unfold strLim; omega
      have m14 : (digits b).length + 7 ≤ strLim := by unfold strLim; omega
      have m15 : (digits b).length + 1 + 1 + 1 + 1 + 1 + 1 ≤ strLim := by unfold strLim; omega
      have m16 : (digits b).length + 1 + 1 + 1 + 1 + 1 + 1 + 1 ≤ strLim := by unfold strLim; omega
      rw [printT_4]
      generalize digits b = D at *
      simp (maxSteps := 1000000) [Fn.f_typ_Print, hR, hL, longT, hg, asNat, asInt, hD, l1, l2, l3, m0, m1, m2, m3, m4, m5, m6, m7, m8, m9, m10, m11, m12, m13, m14, m15, m16]
      try omega
theorem printT_len {a b : Int} (h : rightT a b = true) : (printT a b).length ≤ 30 := by
  have hl : ∀ b : Int, 1 ≤ b ∧ b ≤ 120 → (digits b).length ≤ 20 := fun b hb => digits_64 (by omega) (by omega)
  rcases right_cases h with ⟨rfl, rfl⟩ | ⟨rfl, rfl⟩ | ⟨rfl, hb⟩ | ⟨rfl, hb⟩
  · decide
  · decide
  · have := hl b hb
    rw [printT_3]
    simp
    omega
  · have := hl b hb
    rw [printT_4]
    simp
    omega
end Hx

namespace Hx
open Go
set_option maxHeartbeats 2000000
def keepOf (d : Ddl) : Ddl :=
  if d.op = 1 then { op := 1, table := d.table, key := d.key } else if d.op = 2 then { op := 2, table := d.table } else if d.op = 3 then { op := 3, table := d.table, to := d.to }
  else if d.op = 4 then { op := 4, table := d.table, column := d.column, kind := d.kind, max := d.max, null := d.null, dk := d.dk, dn := d.dn, ds := d.ds }
  else if d.op = 5 then { op := 5, table := d.table, column := d.column } else if d.op = 6 then { op := 6, table := d.table, column := d.column, to := d.to }
  else if d.op = 7 then { op := 7, table := d.table, column := d.column, kind := d.kind, max := d.max } else { op := 8, table := d.table, column := d.column, dk := d.dk, dn := d.dn, ds := d.ds }
theorem sameH_comm (a b : Ddl) : sameH a b = sameH b a := by rw [Bool.eq_iff_iff, sameH_iff, sameH_iff]; exact eq_comm
def plainQ (d : Ddl) (rows : List (Int × Col)) : Bool := decide (1 ≤ d.op ∧ d.op ≤ 8) && ((if d.op = 1 then rows.all fun c => c.1 == 0 else rows.isEmpty) && sameH d (keepOf d))
def colCan (c : Col) : Bool := rightN c.name && (rightT c.kind c.max && rightV c.dk c.dn c.ds)
def canTail (d : Ddl) (rows : List (Int × Col)) : Bool :=
  if d.op = 1 then (rows.all fun c => colCan c.2) && (rightN d.key && (decide (1 ≤ rows.length) && decide (rows.length ≤ 10))) else if d.op = 2 then true else if d.op = 3 then rightN d.to
  else if d.op = 4 then rightN d.column && (rightT d.kind d.max && rightV d.dk d.dn d.ds) else if d.op = 5 then rightN d.column else if d.op = 6 then rightN d.column && rightN d.to
  else if d.op = 7 then rightN d.column && rightT d.kind d.max else rightN d.column && rightV d.dk d.dn d.ds
def canQ (d : Ddl) (rows : List (Int × Col)) : Bool := plainQ d rows && (rightN d.table && canTail d rows)
theorem canQ_bare (op : Int) (table column to key : List UInt8) (kind max : Int) (null : Bool) (dk dn : Int) (ds : List UInt8) (cols : List Col) (rows : List (Int × Col)) : canQ ⟨op, table, column, to, key, kind, max, null, dk, dn, ds, cols⟩ rows = canQ ⟨op, table, column, to, key, kind, max, null, dk, dn, ds, []⟩ rows := by
  unfold canQ plainQ canTail
  simp only [sameH, keepOf]
  repeat (first | rfl | split)
theorem rightV_len {a n : Int} {s : List UInt8} (h : rightV a n s = true) : s.length ≤ 120 := by
  unfold rightV at h
  split at h
  · simp only [Bool.and_eq_true, List.isEmpty_iff] at h; rw [h.2]; simp
  split at h
  · simp only [Bool.and_eq_true, List.isEmpty_iff] at h; rw [h.2]; simp
  split at h
  · simp only [List.isEmpty_iff] at h; rw [h]; simp
  split at h
  · simp only [Bool.and_eq_true, decide_eq_true_eq] at h; exact h.1.2
  split at h
  · simp only [Bool.and_eq_true, decide_eq_true_eq] at h; exact h.2
  · cases h
def restText (c : Col) : List UInt8 := 32 :: (printT c.kind c.max ++ ((if c.null then 32 :: wNul else []) ++ (if c.dk = 0 then [] else 32 :: (wDef ++ (32 :: printS c.dk c.dn c.ds)))))
def colText (c : Col) : List UInt8 := c.name ++ restText c
def colsMore : List Col → List UInt8
  | [] => []
  | c :: l => 44 :: 32 :: (colText c ++ colsMore l)
def colsText : List Col → List UInt8
  | [] => []
  | c :: l => colText c ++ colsMore l
def Ddl.added (d : Ddl) : Col := ⟨d.column, d.kind, d.max, d.null, d.dk, d.dn, d.ds⟩
def tailText (d : Ddl) (cols : List Col) : List UInt8 :=
  if d.op = 1 then 32 :: 40 :: (colsText cols ++ (41 :: 32 :: (wKey ++ (32 :: d.key)))) else if d.op = 2 then [] else if d.op = 3 then 32 :: (wTo ++ (32 :: d.to))
  else if d.op = 4 then 32 :: colText d.added else if d.op = 5 then 32 :: d.column else if d.op = 6 then 32 :: (d.column ++ (32 :: (wTo ++ (32 :: d.to))))
  else if d.op = 7 then 32 :: (d.column ++ (32 :: printT d.kind d.max)) else 32 :: (d.column ++ (32 :: printS d.dk d.dn d.ds))
def printQ (d : Ddl) (cols : List Col) : List UInt8 := opWords.getD (d.op.toNat - 1) [] ++ (32 :: (d.table ++ tailText d cols))
end Hx
