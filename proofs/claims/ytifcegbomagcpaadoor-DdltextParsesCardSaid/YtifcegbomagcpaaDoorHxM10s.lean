/-
  HxM10s: when two changes are alike, and what is a change as an argument: plain.
-/
import Derived.Test.YtifcegbomagcpaaDoorHxU10v
import Derived.Test.YtifcegbomagcpaaDoorHxU10g
import Derived.Test.YtifcegbomagcpaaDoorHxV05b
namespace Hx
open Go
set_option linter.unusedSimpArgs false
set_option linter.unusedVariables false
set_option maxHeartbeats 32000000
set_option maxRecDepth 20000
variable {E : Env}
attribute [-simp] List.getD_eq_getElem?_getD getElem?_pos
theorem ch_all (w : S10 E) {s r : List UInt8} (hs : (s.length : Int) ≤ 1000000000) (hr : r <:+ s) (j : Nat) (hk : s.length + 350 ≤ j + 1) (id : Nat) (m : Mem) (hid : id < m.length) (st : St) (hst : ChSt s r id m (opOf (wordOf (skipB r))) st) :
    Wp (den E (denF E (j + 1)) (j + 1) chB st) (ChOut s r id m) := by
  have hle := opOf_le (wordOf (skipB r))
  obtain ⟨op, hop⟩ : ∃ op, opOf (wordOf (skipB r)) = op := ⟨_, rfl⟩
  rw [hop] at hst hle
  rcases (by omega : op = 0 ∨ op = 1 ∨ op = 2 ∨ op = 3 ∨ op = 4 ∨ op = 5 ∨ op = 6 ∨ op = 7 ∨ op = 8) with rfl | rfl | rfl | rfl | rfl | rfl | rfl | rfl | rfl
  · exact ch_0 w hs hr j hk id m hid hop st hst
  · exact ch_1 w hs hr j hk id m hid hop st hst
  · exact ch_2 w hs hr j hk id m hid hop st hst
  · exact ch_3 w hs hr j hk id m hid hop st hst
  · exact ch_4 w hs hr j hk id m hid hop st hst
  · exact ch_5 w hs hr j hk id m hid hop st hst
  · exact ch_6 w hs hr j hk id m hid hop st hst
  · exact ch_7 w hs hr j hk id m hid hop st hst
  · exact ch_8 w hs hr j hk id m hid hop st hst
theorem ch_body : Fn.f_ddltext_reader_change.body = .seq Fn.f_ddltext_reader_change.body.fst (.seq Fn.f_ddltext_reader_change.body.snd.fst (.seq Fn.f_ddltext_reader_change.body.snd.snd.fst (.seq (.seq (.ops [⟨some 5, .mov (.con (.int .i64 1)), none, 0⟩]) (.block 0 (.loop Fn.f_ddltext_reader_change_k0 Fn.f_ddltext_reader_change_b0))) chB))) := rfl
theorem rd_change (w : S10 E) (hn : E.fn 238 = some Fn.f_ddltext_reader_change) (hg : E.gl 3 = glWords) {s r : List UInt8} (hs : (s.length : Int) ≤ 1000000000) (hr : r <:+ s) (k : Nat) (hk : s.length + 350 ≤ k) (id : Nat) (m : Mem) (hm : m[id]? = some (rdB s r)) :
    ∃ (o : Out) (m1 : Mem), denF E (k + 1) 238 [.ptr id 0] m = some (o, m1) ∧ chR (pChange r) o ∧ ∃ l, m1 = m.set id (rdB s (pChange r).rest) ++ l := by
  have u := w.u
  have hid := own_id hm
  obtain ⟨j, rfl⟩ : ∃ j, k = j + 1 := ⟨k - 1, by omega⟩
  refine denF_wp_ex hn rfl ?_
  show Wp _ (ChOut s r id m)
  have hq : ∀ x : Blk, (m.set id x).length = m.length := fun x => List.length_set
  have hap1 : ∀ (l : List Blk) (x : Blk), (m ++ l).set id x = m.set id x ++ l := fun l x => by rw [List.set_append_left _ _ hid]
  have hget : (m ++ [Blk.cells (zDdl 0), Blk.cells (zDdl 0)])[id]? = some (rdB s r) := by rw [List.getElem?_append_left hid]; exact hm
  have hP := rd_peek u hs hr j (by omega) id _ hget
  rw [hap1] at hP
  have g1' : ∀ a b : Blk, (m ++ [a, b])[m.length + 1]? = some b := fun a b => by rw [List.getElem?_append_right (by omega), Nat.add_sub_cancel_left]; rfl
  have s1' : ∀ a b c : Blk, (m ++ [a, b]).set (m.length + 1) c = m ++ [a, c] := fun a b c => by rw [List.set_append_right _ _ (by omega), Nat.add_sub_cancel_left]; rfl
  rw [ch_body]
  unfold zDdl at hP
  simp (maxSteps := 8000000) [Fn.f_ddltext_reader_change, XCode.fst, XCode.snd, hP, g1', s1']
  refine (change_loop hg (wordOf (skipB r)) (j + 1) (by omega) id m.length m (m.set id (rdB s (skipB r))) (hq _).symm _ ⟨rfl, rfl, rfl, rfl⟩).mono ?_
  rintro e st ⟨rfl, hds, hlen, h0, h2, h3, h4, hm⟩
  rw [exitQ_exit, if_pos rfl, seqQ_norm]
  exact ch_all w hs hr j (by omega) id m hid st ⟨hds, hlen, h0, h2, h3, h4, hm⟩
end Hx

namespace Hx
open Go
set_option linter.unusedSimpArgs false
set_option linter.unusedVariables false
set_option maxHeartbeats 32000000
set_option maxRecDepth 20000
variable {E : Env}
attribute [-simp] List.getD_eq_getElem?_getD getElem?_pos
def ddlP (d : Ddl) : List PV := [.int .i64 d.op, .str d.table, .str d.column, .str d.to, .str d.key, .int .i64 d.kind, .int .i64 d.max, .bool d.null, .int .i64 d.dk, .int .i64 d.dn, .str d.ds, slP 8 (d.cols.map colP)]
def parseV (s : List UInt8) : AV := match pAll s with
  | .bad e r => .tup [.p (.agg (ddlP { op := 0 })), .p (.int .i64 (placeOf10 s r)), .p (.int .i64 e)]
  | .ok d _ => .tup [.p (.agg (ddlP d)), .p (.int .i64 s.length), .p (.int .i64 0)]
structure T10 (E : Env) : Prop where
  s : S10 E
  change : E.fn 238 = some Fn.f_ddltext_reader_change
  words : E.gl 3 = glWords
  parse : E.fn 232 = some Fn.f_ddltext_Parse
  parse1 : E.fn 237 = some Fn.f_ddltext_Parse_1
theorem ddl_Parse (w : T10 E) (s : List UInt8) (hs : (s.length : Int) ≤ 1000000000) (k : Nat) (hk : s.length + 360 ≤ k) (m : Mem) : denF E (k + 1) 232 [.p (.str s)] m = some (.ret (parseV s), m) := by
  refine denF_wp_dfr w.parse rfl rfl (args' := [.p (.str s)]) rfl ?_
  have u := w.s.u
  obtain ⟨j, rfl⟩ : ∃ j, k = j + 1 := ⟨k - 1, by omega⟩
  have hc := w.parse1
  have h0 : placeOf10 s s = 0 := by unfold placeOf10; omega
  obtain ⟨o, m1, hC, hR, l, hm1⟩ := rd_change w.s w.change w.words hs (List.suffix_refl s) j (by omega) 3 ([.cells (zDdl 0), .cells [.p (.int .i64 0)], .cells [.p (.int .i64 0)], .cells [.p (.str s), .p (.int .i64 0)], .cells [.ptr 3 0]]) (by unfold rdB rdCells; rw [h0]; rfl)
  have hr := pChange_rest (List.suffix_refl s)
  have hB := fun e m => rd_bad u j e m
  have hL := fun M hM => rd_left' u hs hr j (by omega) 3 M hM
  have gl : ∀ c : Blk, (l ++ [c])[l.length]? = some c := fun c => by rw [List.getElem?_append_right (Nat.le_refl _), Nat.sub_self]; rfl
  unfold parseV pAll
  cases hp : pChange s with
  | bad e q =>
    rw [hp] at hR hm1
    simp only [chR] at hR
    subst hR hm1
    simp only [PR.rest] at hC
    unfold zDdl rdB rdCells flt at *
    simp (maxSteps := 8000000) [Fn.f_ddltext_Parse, Fn.f_ddltext_Parse_1, hC, hc, gl, leaveD, pvOf, PR.bind, ddlP, slP]
  | ok d q =>
    rw [hp] at hR hm1 hL hr
    simp only [chR] at hR
    obtain ⟨c, hcols, rfl⟩ := hR
    subst hm1
    simp only [PR.rest] at hC hL hr
    have hrs := suf_skip hr
    have hlen := suf_len hrs
    rcases hcols with ⟨hnil, rfl⟩ | ⟨hne, t, rfl⟩
    · simp only [PR.bind]
      by_cases hx : skipB q = []
      · rw [if_pos hx]
        rw [hx] at hL
        unfold zDdl rdB rdCells flt ddlC at *
        simp (maxSteps := 8000000) [Fn.f_ddltext_Parse, Fn.f_ddltext_Parse_1, hC, hc, gl, hL, leaveD, pvOf, PR.bind, ddlP, slP, hnil, bne]
      · rw [if_neg hx]
        have hb : (skipB q == []) = false := by simpa using hx
        unfold zDdl rdB rdCells flt ddlC at *
        simp (maxSteps := 8000000) [Fn.f_ddltext_Parse, Fn.f_ddltext_Parse_1, hC, hc, gl, hL, hb, hB, leaveD, pvOf, PR.bind, ddlP, slP, bne]
    · have hsl : slP 8 (d.cols.map colP) = .vals 8 (d.cols.map colP) := by
        cases hd : d.cols with
        | nil => exact absurd hd hne
        | cons a l => rfl
      simp only [PR.bind]
      by_cases hx : skipB q = []
      · rw [if_pos hx]
        rw [hx] at hL
        simp only [ddlP, hsl]
        unfold zDdl rdB rdCells flt ddlC at *
        simp (maxSteps := 8000000) [Fn.f_ddltext_Parse, Fn.f_ddltext_Parse_1, hC, hc, gl, hL, leaveD, pvOf, PR.bind, bne]
      · rw [if_neg hx]
        have hb : (skipB q == []) = false := by simpa using hx
        unfold zDdl rdB rdCells flt ddlC at *
        simp (maxSteps := 8000000) [Fn.f_ddltext_Parse, Fn.f_ddltext_Parse_1, hC, hc, gl, hL, hb, hB, leaveD, pvOf, PR.bind, ddlP, slP, bne]
end Hx

namespace Hx
open Go
set_option linter.unusedSimpArgs false
set_option linter.unusedVariables false
set_option maxHeartbeats 32000000
set_option maxRecDepth 20000
variable {E : Env}
attribute [-simp] List.getD_eq_getElem?_getD getElem?_pos
structure V10 (E : Env) : Prop where
  d : D10 E
  change : E.fn 241 = some Fn.f_haulageref10_P_change
  op : E.fn 259 = some Fn.f_haulageref10_op
  parse : E.fn 233 = some Fn.f_haulageref10_Parse
theorem P_change (w : V10 E) {s r : List UInt8} (hs : (s.length : Int) ≤ 1000000000) (hr : r <:+ s) (k : Nat) (hk : s.length + 350 ≤ k) (id : Nat) (m : Mem) (hm : m[id]? = some (pB s r 0)) :
    ∃ (o : Out) (m1 : Mem), denF E (k + 1) 241 [.ptr id 0] m = some (o, m1) ∧ PchR (pChange r) o ∧ ∃ l, m1 = m.set id (pAt s (pChange r) r 0) ++ l := by
  have hle := opOf_le (wordOf (skipB r))
  obtain ⟨op, hop⟩ : ∃ op, opOf (wordOf (skipB r)) = op := ⟨_, rfl⟩
  rw [hop] at hle
  rcases (by omega : op = 0 ∨ op = 1 ∨ op = 2 ∨ op = 3 ∨ op = 4 ∨ op = 5 ∨ op = 6 ∨ op = 7 ∨ op = 8) with rfl | rfl | rfl | rfl | rfl | rfl | rfl | rfl | rfl
  · exact Pch_0 w.d w.change w.op hs hr k hk id m hm hop
  · exact Pch_1 w.d w.change w.op hs hr k hk id m hm hop
  · exact Pch_2 w.d w.change w.op hs hr k hk id m hm hop
  · exact Pch_3 w.d w.change w.op hs hr k hk id m hm hop
  · exact Pch_4 w.d w.change w.op hs hr k hk id m hm hop
  · exact Pch_5 w.d w.change w.op hs hr k hk id m hm hop
  · exact Pch_6 w.d w.change w.op hs hr k hk id m hm hop
  · exact Pch_7 w.d w.change w.op hs hr k hk id m hm hop
  · exact Pch_8 w.d w.change w.op hs hr k hk id m hm hop
theorem pRest_sane (op : Nat) (t r : List UInt8) : (pRest op t r).sane := by
  unfold pRest
  split
  · exact bind_sane (pCols_sane _) fun _ r => bind_sane (pWant_sane _ _) fun _ r => bind_sane (pName_sane _) fun _ r => ok_sane _ _
  split
  · exact ok_sane _ _
  split
  · exact bind_sane (pWant_sane _ _) fun _ r => bind_sane (pName_sane _) fun _ r => ok_sane _ _
  split
  · exact bind_sane (pCol_sane _) fun _ r => ok_sane _ _
  split
  · exact bind_sane (pName_sane _) fun _ r => ok_sane _ _
  split
  · exact bind_sane (pName_sane _) fun _ r => bind_sane (pWant_sane _ _) fun _ r => bind_sane (pName_sane _) fun _ r => ok_sane _ _
  split
  · exact bind_sane (pName_sane _) fun _ r => bind_sane (pKind_sane _) fun _ r => ok_sane _ _
  · exact bind_sane (pName_sane _) fun _ r => bind_sane (pValue_sane _ _) fun _ r => ok_sane _ _
theorem pChange_sane (r : List UInt8) : (pChange r).sane := by
  unfold pChange
  split
  · intro e q h; cases h; decide
  · exact bind_sane (pName_sane _) fun _ r => pRest_sane _ _ _
theorem ref_Parse (w : V10 E) (s : List UInt8) (hs : (s.length : Int) ≤ 1000000000) (k : Nat) (hk : s.length + 360 ≤ k) (m : Mem) : denF E (k + 1) 233 [.p (.str s)] m = some (.ret (parseV s), m) := by
  refine denF_wp w.parse rfl (args' := [.p (.str s)]) rfl ?_
  have u := w.d.u
  have bl : BlanksOk E := blanks_ok u
  obtain ⟨j, rfl⟩ : ∃ j, k = j + 1 := ⟨k - 1, by omega⟩
  have h0 : placeOf10 s s = 0 := by unfold placeOf10; omega
  obtain ⟨o, m1, hC, ⟨d, c, rfl, hc, hv⟩, l, hm1⟩ := P_change w hs (List.suffix_refl s) j (by omega) 1 ([.cells (zDdl 0), .cells [.p (.str s), .p (.int .i64 0), .p (.int .i64 0)]]) (by unfold pB; rw [h0]; rfl)
  have hr := pChange_rest (List.suffix_refl s)
  have gl : ∀ c : Blk, (l ++ [c])[l.length]? = some c := fun c => by rw [List.getElem?_append_right (Nat.le_refl _), Nat.sub_self]; rfl
  have sl : ∀ c d : Blk, (l ++ [c]).set l.length d = l ++ [d] := fun c d => by rw [List.set_append_right _ _ (Nat.le_refl _), Nat.sub_self]; rfl
  unfold parseV pAll
  cases hp : pChange s with
  | bad e q =>
    have he := pChange_sane s e q hp
    have hb : (e == 0) = false := by simpa using he
    rw [pAt_bad hp] at hm1
    subst hm1
    have hB1 : ∀ X : Mem, denF E (j + 1) 242 [.ptr 1 0] (.cells (zDdl 0) :: pB s q e :: X) = some (.ret (.tup []), .cells (zDdl 0) :: pB s q e :: X) := fun X => P_blanks1 (s := s) (r := q) u he j (by omega) 1 _ rfl
    unfold zDdl pB ddlC at *
    rcases hc with rfl | ⟨rows, t, hne, rfl⟩
    · simp (maxSteps := 8000000) [Fn.f_haulageref10_Parse, hC, hB1, hb, gl, sl, PR.bind, ddlP, slP, bne]
    · simp (maxSteps := 8000000) [Fn.f_haulageref10_Parse, hC, hB1, hb, gl, sl, PR.bind, ddlP, slP, bne]
  | ok d' q =>
    obtain ⟨rfl, hcols⟩ := hv d' q hp
    rw [pAt_ok hp] at hm1
    rw [hp] at hr
    simp only [PR.rest] at hr
    subst hm1
    have hrs := suf_skip hr
    have hlen := suf_len hrs
    have hB1 : ∀ X : Mem, denF E (j + 1) 242 [.ptr 1 0] (.cells (zDdl 0) :: pB s q 0 :: X) = some (.ret (.tup []), .cells (zDdl 0) :: pB s (skipB q) 0 :: X) := fun X => bl hs hr j (by omega) 1 _ rfl
    have hbad : ∀ X : Mem, denF E (j + 1) 243 [.ptr 1 0, .p (.int .i64 6)] (.cells (zDdl 0) :: pB s (skipB q) 0 :: X) = some (.ret (.tup []), .cells (zDdl 0) :: pB s (skipB q) 6 :: X) := fun X => P_bad0 u (s := s) (r := skipB q) 6 j 1 _ rfl
    have hpl : placeOf10 s (skipB q) + (skipB q).length = s.length := by unfold placeOf10; omega
    simp only [PR.bind]
    rcases hcols with ⟨h1, rfl⟩ | ⟨h1, t, rfl⟩
    · have hsl : slP 8 (d.cols.map colP) = .nils := by rw [h1]; rfl
      by_cases hx : skipB q = []
      · rw [if_pos hx]
        have hge : ¬ (placeOf10 s (skipB q) : Int) < s.length := by rw [hx] at hpl ⊢; simp only [List.length_nil] at hpl; omega
        simp only [ddlP, hsl]
        obtain ⟨i, hi⟩ : ∃ i, placeOf10 s (skipB q) = i := ⟨_, rfl⟩
        unfold zDdl pB ddlC at *
        rw [hi] at hge
        have hge' : ¬ i < s.length := by omega
        simp only [hi] at hB1
        simp (maxSteps := 8000000) [Fn.f_haulageref10_Parse, hC, hB1, gl, sl, hge, hge']
      · rw [if_neg hx]
        have h1' : 0 < (skipB q).length := List.length_pos_iff.2 hx
        have hlt : (placeOf10 s (skipB q) : Int) < s.length := by omega
        obtain ⟨i, hi⟩ : ∃ i, placeOf10 s (skipB q) = i := ⟨_, rfl⟩
        unfold zDdl pB ddlC at *
        rw [hi] at hlt
        have hlt' : i < s.length := by omega
        simp only [hi] at hB1 hbad ⊢
        simp (maxSteps := 8000000) [Fn.f_haulageref10_Parse, hC, hB1, hbad, gl, sl, hlt, hlt', ddlP, slP]
    · have hsl : slP 8 (d.cols.map colP) = .vals 8 (d.cols.map colP) := by
        cases hd : d.cols with
        | nil => exact absurd hd h1
        | cons a l => rfl
      by_cases hx : skipB q = []
      · rw [if_pos hx]
        have hge : ¬ (placeOf10 s (skipB q) : Int) < s.length := by rw [hx] at hpl ⊢; simp only [List.length_nil] at hpl; omega
        simp only [ddlP, hsl]
        obtain ⟨i, hi⟩ : ∃ i, placeOf10 s (skipB q) = i := ⟨_, rfl⟩
        unfold zDdl pB ddlC at *
        rw [hi] at hge
        have hge' : ¬ i < s.length := by omega
        simp only [hi] at hB1
        simp (maxSteps := 8000000) [Fn.f_haulageref10_Parse, hC, hB1, gl, sl, hge, hge']
      · rw [if_neg hx]
        have h1' : 0 < (skipB q).length := List.length_pos_iff.2 hx
        have hlt : (placeOf10 s (skipB q) : Int) < s.length := by omega
        obtain ⟨i, hi⟩ : ∃ i, placeOf10 s (skipB q) = i := ⟨_, rfl⟩
        unfold zDdl pB ddlC at *
        rw [hi] at hlt
        have hlt' : i < s.length := by omega
        simp only [hi] at hB1 hbad ⊢
        simp (maxSteps := 8000000) [Fn.f_haulageref10_Parse, hC, hB1, hbad, gl, sl, hlt, hlt', ddlP, slP]
end Hx

namespace Hx
open Go
set_option maxHeartbeats 2000000
def colQ (c : Int × Col) : List PV := [.int .i64 c.1, .str c.2.name, .int .i64 c.2.kind, .int .i64 c.2.max, .bool c.2.null, .int .i64 c.2.dk, .int .i64 c.2.dn, .str c.2.ds]
def sameQ (a b : Int × Col) : Bool := a.1 == b.1 && (a.2.name == b.2.name && ((a.2.kind == b.2.kind && a.2.max == b.2.max) && (a.2.null == b.2.null && (a.2.dk == b.2.dk && (a.2.dn == b.2.dn && a.2.ds == b.2.ds)))))
theorem sameQ_iff (a b : Int × Col) : sameQ a b = true ↔ a = b := by
  obtain ⟨a1, a2⟩ := a
  obtain ⟨b1, b2⟩ := b
  cases a2; cases b2
  unfold sameQ
  simp only [Bool.and_eq_true, beq_iff_eq, Prod.mk.injEq, Col.mk.injEq]
  constructor
  · rintro ⟨h1, h2, ⟨h3, h4⟩, h5, h6, h7, h8⟩; exact ⟨h1, h2, h3, h4, h5, h6, h7, h8⟩
  · rintro ⟨h1, h2, h3, h4, h5, h6, h7, h8⟩; exact ⟨h1, h2, ⟨h3, h4⟩, h5, h6, h7, h8⟩
def sameQs : List (Int × Col) → List (Int × Col) → Bool
  | [], [] => true
  | a :: l, b :: l' => sameQ a b && sameQs l l'
  | _, _ => false
theorem sameQs_iff : ∀ a b : List (Int × Col), sameQs a b = true ↔ a = b
  | [], [] => by simp [sameQs]
  | [], b :: l => by simp [sameQs]
  | a :: l, [] => by simp [sameQs]
  | a :: l, b :: l' => by simp [sameQs, sameQ_iff, sameQs_iff l l']
def dV (d : Ddl) (sl : PV) : List PV := [.int .i64 d.op, .str d.table, .str d.column, .str d.to, .str d.key, .int .i64 d.kind, .int .i64 d.max, .bool d.null, .int .i64 d.dk, .int .i64 d.dn, .str d.ds, sl]
def sameH (a b : Ddl) : Bool := a.op == b.op && (a.table == b.table && (a.column == b.column && (a.to == b.to && (a.key == b.key && ((a.kind == b.kind && a.max == b.max) && (a.null == b.null && (a.dk == b.dk && (a.dn == b.dn && a.ds == b.ds))))))))
def SlQ (sl : PV) (rows : List (Int × Col)) : Prop := (rows = [] ∧ sl = .nils) ∨ sl = .vals 8 (rows.map colQ)
theorem ddlP_dV (d : Ddl) : ddlP d = dV d (slP 8 (d.cols.map colP)) := rfl
theorem slQ_of (l : List Col) : SlQ (slP 8 (l.map colP)) (l.map fun c => (0, c)) := by
  cases l with
  | nil => exact .inl ⟨rfl, rfl⟩
  | cons c l => exact .inr (by simp [slP, colP, colQ])
theorem sameH_self (a : Ddl) : sameH a a = true := by simp [sameH]
theorem sameQs_self (a : List (Int × Col)) : sameQs a a = true := (sameQs_iff a a).2 rfl
end Hx
