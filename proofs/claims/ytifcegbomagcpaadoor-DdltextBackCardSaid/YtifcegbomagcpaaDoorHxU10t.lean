/-
  HxU10t: the program's reader of changes: columns.
-/
import Derived.Test.YtifcegbomagcpaaDoorHxU10j
namespace Hx
open Go
set_option maxHeartbeats 2000000
theorem suf_tail {s r : List UInt8} (h : r <:+ s) : r.tail <:+ s := (List.tail_suffix r).trans h
theorem bind_rest {α β : Type} {s : List UInt8} {p : PR α} {f : α → List UInt8 → PR β} (h : p.rest <:+ s) (hf : ∀ v r, r <:+ s → (f v r).rest <:+ s) : (p.bind f).rest <:+ s := by
  cases p with
  | bad e r => exact h
  | ok v r => exact hf v r h
theorem pName_rest {s r : List UInt8} (h : r <:+ s) : (pName r).rest <:+ s := by
  unfold pName
  split
  · exact suf_skip h
  split
  · exact suf_drop (suf_skip h) _
  · exact suf_skip h
theorem pKind_rest {s r : List UInt8} (h : r <:+ s) : (pKind r).rest <:+ s := by
  unfold pKind
  split
  · exact suf_drop (suf_skip h) _
  · exact suf_skip h
theorem pValue_rest (b : Bool) {s r : List UInt8} (h : r <:+ s) : (pValue b r).rest <:+ s := by
  unfold pValue
  split
  · exact suf_skip h
  split
  · exact suf_skip h
  · exact suf_drop (suf_skip h) _
theorem pTake_rest (w : List UInt8) {s r : List UInt8} (h : r <:+ s) : (pTake w r).2 <:+ s := by
  unfold pTake
  split
  · exact suf_drop (suf_skip h) _
  · exact suf_skip h
theorem pWant_rest (w : List UInt8) {s r : List UInt8} (h : r <:+ s) : (pWant w r).rest <:+ s := by
  unfold pWant
  split
  · exact suf_drop (suf_skip h) _
  · exact suf_skip h
theorem pSign_rest (c : UInt8) {s r : List UInt8} (h : r <:+ s) : (pSign c r).2 <:+ s := by
  unfold pSign
  split
  · exact suf_tail (suf_skip h)
  · exact suf_skip h
theorem pWantS_rest (c : UInt8) {s r : List UInt8} (h : r <:+ s) : (pWantS c r).rest <:+ s := by
  unfold pWantS
  split
  · exact suf_tail (suf_skip h)
  · exact suf_skip h
theorem pCol_rest {s r : List UInt8} (h : r <:+ s) : (pCol r).rest <:+ s := by
  unfold pCol
  refine bind_rest (pName_rest h) fun n r h => ?_
  refine bind_rest (pKind_rest h) fun t r h => ?_
  unfold pColTail
  split
  · exact bind_rest (pValue_rest _ (pTake_rest _ (pTake_rest _ h))) fun v r h => h
  · exact pTake_rest _ (pTake_rest _ h)
theorem pColsF_rest : ∀ (k : Nat) (l : List Col) {s r : List UInt8}, r <:+ s → (pColsF k l r).rest <:+ s
  | 0, _, _, _, h => suf_skip h
  | k + 1, l, s, r, h => by
    unfold pColsF
    refine bind_rest (pCol_rest (suf_skip h)) fun c r h => ?_
    split
    · exact pColsF_rest k _ (pSign_rest _ h)
    · exact bind_rest (pWantS_rest _ (pSign_rest _ h)) fun _ r h => h
theorem pCols_rest {s r : List UInt8} (h : r <:+ s) : (pCols r).rest <:+ s := by
  unfold pCols
  exact bind_rest (pWantS_rest _ h) fun _ r h => pColsF_rest _ _ h
theorem pRest_rest (op : Nat) (t : List UInt8) {s r : List UInt8} (h : r <:+ s) : (pRest op t r).rest <:+ s := by
  unfold pRest
  split
  · exact bind_rest (pCols_rest h) fun _ r h => bind_rest (pWant_rest _ h) fun _ r h => bind_rest (pName_rest h) fun _ r h => h
  split
  · exact h
  split
  · exact bind_rest (pWant_rest _ h) fun _ r h => bind_rest (pName_rest h) fun _ r h => h
  split
  · exact bind_rest (pCol_rest h) fun _ r h => h
  split
  · exact bind_rest (pName_rest h) fun _ r h => h
  split
  · exact bind_rest (pName_rest h) fun _ r h => bind_rest (pWant_rest _ h) fun _ r h => bind_rest (pName_rest h) fun _ r h => h
  split
  · exact bind_rest (pName_rest h) fun _ r h => bind_rest (pKind_rest h) fun _ r h => h
  · exact bind_rest (pName_rest h) fun _ r h => bind_rest (pValue_rest _ h) fun _ r h => h
theorem pChange_rest {s r : List UInt8} (h : r <:+ s) : (pChange r).rest <:+ s := by
  unfold pChange
  split
  · exact suf_skip h
  · exact bind_rest (pName_rest (suf_drop (suf_skip h) _)) fun _ r h => pRest_rest _ _ h
end Hx

namespace Hx
open Go
set_option linter.unusedSimpArgs false
set_option linter.unusedVariables false
set_option maxHeartbeats 16000000
set_option maxRecDepth 20000
variable {E : Env}
attribute [-simp] List.getD_eq_getElem?_getD getElem?_pos
structure S10 (E : Env) : Prop where
  u : R10 E
  kind : E.fn 256 = some Fn.f_ddltext_reader_kind
  value : E.fn 257 = some Fn.f_ddltext_reader_value
  column : E.fn 255 = some Fn.f_ddltext_reader_column
  columns : E.fn 253 = some Fn.f_ddltext_reader_columns
  ty : TyOk E 89
  va : ValOk E 26
def colP (c : Col) : List PV := [.int .i64 0, .str c.name, .int .i64 c.kind, .int .i64 c.max, .bool c.null, .int .i64 c.dk, .int .i64 c.dn, .str c.ds]
def colOut (c : Col) : AV := .p (.agg (colP c))
def zCol : List AV := [.p (.int .i64 0), .p (.str []), .p (.int .i64 0), .p (.int .i64 0), .p (.bool false), .p (.int .i64 0), .p (.int .i64 0), .p (.str [])]
theorem rd_column (w : S10 E) {s r : List UInt8} (hs : (s.length : Int) ≤ 1000000000) (hr : r <:+ s) (k : Nat) (hk : s.length + 320 ≤ k) (id : Nat) (m : Mem) (hm : m[id]? = some (rdB s r)) :
    ∃ l, denF E (k + 1) 255 [.ptr id 0] m = some ((pCol r).out colOut, m.set id (rdB s (pCol r).rest) ++ l) := by
  have u := w.u
  have hid := own_id hm
  obtain ⟨j, rfl⟩ : ∃ j, k = j + 1 := ⟨k - 1, by omega⟩
  have hap1 : ∀ (l : List Blk) (x : Blk), (m ++ l).set id x = m.set id x ++ l := fun l x => by rw [List.set_append_left _ _ hid]
  have hap2 : ∀ (l : List Blk) (x y : Blk), (m.set id x ++ l).set id y = m.set id y ++ l := fun l x y => by rw [List.set_append_left _ _ (by rw [List.length_set]; exact hid), List.set_set]
  have hap3 : ∀ (l : List Blk) (x : Blk), (m.set id x ++ l)[id]? = some x := fun l x => by rw [List.getElem?_append_left (by rw [List.length_set]; exact hid)]; exact List.getElem?_set_self hid
  have hget : (m ++ [Blk.cells zCol])[id]? = some (rdB s r) := by rw [List.getElem?_append_left hid]; exact hm
  have hN := rd_name u hs hr j (by omega) id _ hget
  rw [hap1] at hN
  have hq : ∀ x : Blk, (m.set id x).length = m.length := fun x => List.length_set
  have g0 := fun (x a : Blk) (l : Mem) => app_at0 (hq x) a l
  have g1 := fun (x a b : Blk) (l : Mem) => app_at1 (hq x) a b l
  have s0 := fun (x a c : Blk) (l : Mem) => app_set0 (hq x) a c l
  have s1 := fun (x a b c : Blk) (l : Mem) => app_set1 (hq x) a b c l
  have hid1 : id < m.length + 1 := by omega
  have hr1 := pName_rest hr
  unfold pCol
  cases hp : pName r with
  | bad e q =>
    rw [hp] at hN
    simp only [PR.out, PR.rest] at hN
    refine ⟨[.cells zCol], denF_wp_own w.column rfl ?_⟩
    unfold zCol at *
    simp (maxSteps := 4000000) [Fn.f_ddltext_reader_column, hN, PR.bind, PR.out, PR.rest]
  | ok n r1 =>
    rw [hp] at hN hr1
    simp only [PR.out, PR.rest] at hN hr1
    obtain ⟨x1, y1, hK⟩ := rd_kind u w.kind w.ty hs hr1 j (by omega) id (m.set id (rdB s r1) ++ [.cells zCol, .cells [.p (.int .i64 0), .p (.str n), .p (.int .i64 0), .p (.int .i64 0), .p (.bool false), .p (.int .i64 0), .p (.int .i64 0), .p (.str [])]]) (hap3 _ _)
    rw [hap2] at hK
    have hr2 := pKind_rest hr1
    simp only [PR.bind]
    cases hp2 : pKind r1 with
    | bad e q =>
      rw [hp2] at hK
      simp only [PR.out, PR.rest] at hK
      refine ⟨[.cells zCol, .cells [.p (.int .i64 0), .p (.str n), .p (.int .i64 0), .p (.int .i64 0), .p (.bool false), .p (.int .i64 0), .p (.int .i64 0), .p (.str [])], x1, y1], denF_wp_own w.column rfl ?_⟩
      unfold zCol at *
      simp (maxSteps := 4000000) [Fn.f_ddltext_reader_column, hN, hK, g0, g1, s0, s1, hid, hid1, PR.bind, PR.out, PR.rest]
    | ok t r2 =>
      rw [hp2] at hK hr2
      simp only [PR.out, PR.rest] at hK hr2
      simp only [pColTail, PR.bind]
      have hT1 := fun l => rd_take u hs hr2 wNul j (by omega) id (m.set id (rdB s r2) ++ l) (hap3 _ _)
      have hr3 := pTake_rest wNul hr2
      generalize hb1 : (pTake wNul r2).1 = b1 at *
      generalize hq1 : (pTake wNul r2).2 = r3 at *
      have hT2 := fun l => rd_take u hs hr3 wDef j (by omega) id (m.set id (rdB s r3) ++ l) (hap3 _ _)
      have hr4 := pTake_rest wDef hr3
      simp only [hap2] at hT1 hT2
      generalize hb2 : (pTake wDef r3).1 = b2 at *
      generalize hq2 : (pTake wDef r3).2 = r4 at *
      unfold wNul at hT1
      unfold wDef at hT2
      cases b2 with
      | false =>
        refine ⟨[.cells [.p (.int .i64 0), .p (.str n), .p (.int .i64 t.1), .p (.int .i64 t.2), .p (.bool b1), .p (.int .i64 0), .p (.int .i64 0), .p (.str [])], .cells [.p (.int .i64 0), .p (.str n), .p (.int .i64 t.1), .p (.int .i64 t.2), .p (.bool b1), .p (.int .i64 0), .p (.int .i64 0), .p (.str [])], x1, y1], denF_wp_own w.column rfl ?_⟩
        unfold zCol at *
        simp (maxSteps := 4000000) [Fn.f_ddltext_reader_column, hN, hK, hT1, hT2, g0, g1, s0, s1, hid, hid1, PR.bind, PR.out, PR.rest, colOut, colP]
      | true =>
        obtain ⟨x2, y2, hV⟩ := rd_value u w.value w.va hs hr4 false j (by omega) id (m.set id (rdB s r4) ++ [.cells zCol, .cells [.p (.int .i64 0), .p (.str n), .p (.int .i64 t.1), .p (.int .i64 t.2), .p (.bool b1), .p (.int .i64 0), .p (.int .i64 0), .p (.str [])], x1, y1]) (hap3 _ _)
        rw [hap2] at hV
        simp only [if_true]
        cases hp3 : pValue false r4 with
        | bad e q =>
          rw [hp3] at hV
          simp only [PR.out, PR.rest] at hV
          refine ⟨[.cells zCol, .cells [.p (.int .i64 0), .p (.str n), .p (.int .i64 t.1), .p (.int .i64 t.2), .p (.bool b1), .p (.int .i64 0), .p (.int .i64 0), .p (.str [])], x1, y1, x2, y2], denF_wp_own w.column rfl ?_⟩
          unfold zCol at *
          simp (maxSteps := 4000000) [Fn.f_ddltext_reader_column, hN, hK, hT1, hT2, hV, g0, g1, s0, s1, hid, hid1, PR.bind, PR.out, PR.rest]
        | ok v r5 =>
          rw [hp3] at hV
          simp only [PR.out, PR.rest, vOut] at hV
          refine ⟨[.cells [.p (.int .i64 0), .p (.str n), .p (.int .i64 t.1), .p (.int .i64 t.2), .p (.bool b1), .p (.int .i64 v.1), .p (.int .i64 v.2.1), .p (.str v.2.2)], .cells [.p (.int .i64 0), .p (.str n), .p (.int .i64 t.1), .p (.int .i64 t.2), .p (.bool b1), .p (.int .i64 v.1), .p (.int .i64 v.2.1), .p (.str v.2.2)], x1, y1, x2, y2], denF_wp_own w.column rfl ?_⟩
          unfold zCol at *
          simp (maxSteps := 4000000) [Fn.f_ddltext_reader_column, hN, hK, hT1, hT2, hV, g0, g1, s0, s1, hid, hid1, PR.bind, PR.out, PR.rest, colOut, colP]
end Hx

namespace Hx
open Go
set_option linter.unusedSimpArgs false
set_option linter.unusedVariables false
set_option maxHeartbeats 16000000
set_option maxRecDepth 20000
variable {E : Env}
attribute [-simp] List.getD_eq_getElem?_getD getElem?_pos
def GrX (n : Nat) (rows : List (List PV)) (ov : AV) (a : Nat) (x : Mem) : Prop := (rows = [] ∧ ov = .p .nils) ∨ (rows ≠ [] ∧ ∃ t, ov = .tv n rows (a + t) ∧ x[t]? = some (.tok n rows.length))
def ColI (s : List UInt8) (id : Nat) (m : Mem) (P : PR (List Col)) (a : List Col × List UInt8) (st : St) : Prop :=
  ∃ (ov : AV) (x : Mem), a.1.length ≤ 10 ∧ a.2 <:+ s ∧ pColsF (10 - a.1.length) a.1 a.2 = P ∧ GrX 8 (a.1.map colP) ov m.length x ∧ Live Fn.f_ddltext_reader_columns_k0 (Fn.f_ddltext_reader_columns_s0 (.ptr id 0) ov) (m.set id (rdB s a.2) ++ x) st
theorem ColI.mk {s : List UInt8} {id : Nat} {m : Mem} {P : PR (List Col)} {st : St} (l : List Col) (r : List UInt8) (ov : AV) (x : Mem) (h1 : l.length ≤ 10) (h2 : r <:+ s) (h3 : pColsF (10 - l.length) l r = P) (h4 : GrX 8 (l.map colP) ov m.length x) (h5 : Live Fn.f_ddltext_reader_columns_k0 (Fn.f_ddltext_reader_columns_s0 (.ptr id 0) ov) (m.set id (rdB s r) ++ x) st) : ColI s id m P (l, r) st := ⟨ov, x, h1, h2, h3, h4, h5⟩
def ColQ (s : List UInt8) (id : Nat) (m : Mem) (P : PR (List Col)) (e : Ex) (st : St) : Prop :=
  st.ds = [] ∧ ((∃ er q x, e = .pan (flt er) ∧ P = .bad er q ∧ st.m = m.set id (rdB s q) ++ x) ∨
    (∃ (l : List Col) (r1 : List UInt8) (x : Mem), e = .exit 0 ∧ st.ts.length = 27 ∧ st.ts.getD 0 (.tup []) = .ptr id 0 ∧ GrX 8 (l.map colP) (st.ts.getD 3 (.tup [])) m.length x ∧ l ≠ [] ∧ r1 <:+ s ∧ st.m = m.set id (rdB s r1) ++ x ∧ P = (pWantS 41 r1).bind fun _ r => .ok l r))
theorem GrX.first (row : List PV) (a : Nat) (X : Mem) : GrX 8 [row] (.tv 8 [row] (a + (X.length + 1))) a (X ++ [Blk.tok 8 1, Blk.tok 8 1]) :=
  .inr ⟨by simp, X.length + 1, rfl, by rw [List.getElem?_append_right (by omega), Nat.add_sub_cancel_left]; rfl⟩
theorem GrX.more {rows : List (List PV)} (row : List PV) (a : Nat) {X : Mem} {t : Nat} {b : Blk} (h : X[t]? = some b) : GrX 8 (rows ++ [row]) (.tv 8 (rows ++ [row]) (a + t)) a (X.set t (.tok 8 (rows.length + 1))) :=
  .inr ⟨by simp, t, rfl, by rw [List.getElem?_set_self (get_lt h)]; simp⟩
theorem pColsF_succ (k : Nat) (l : List Col) (r : List UInt8) : pColsF (k + 1) l r = (pCol (skipB r)).bind fun c r => if (pSign 44 r).1 then pColsF k (l ++ [c]) (pSign 44 r).2 else (pWantS 41 (pSign 44 r).2).bind fun _ r => .ok (l ++ [c]) r := rfl
theorem col_loop (w : S10 E) {s r0 : List UInt8} {P : PR (List Col)} (hs : (s.length : Int) ≤ 1000000000) (k : Nat) (hk : s.length + 330 ≤ k) (id : Nat) (m : Mem) (hid : id < m.length) (st : St) (h0 : ColI s id m P ([], r0) st) :
    Wp (iter (loopF E (denF E k) k Fn.f_ddltext_reader_columns_k0 Fn.f_ddltext_reader_columns_b0) k st) (ColQ s id m P) := by
  have u := w.u
  obtain ⟨j, rfl⟩ : ∃ j, k = j + 1 := ⟨k - 1, by omega⟩
  refine loop_wp (α := List Col × List UInt8) (I := ColI s id m P) (meas := fun a => 11 - a.1.length) ?_ (j + 1) ([], r0) st h0 (by simp; omega)
  rintro ⟨l, r⟩ st ⟨ov, x, hl, hr, hF, hG, hlive⟩
  simp only at hl hr hF hG hlive
  rw [loopF_live hlive]
  have hap2 : ∀ (l : List Blk) (x y : Blk), (m.set id x ++ l).set id y = m.set id y ++ l := fun l x y => by rw [List.set_append_left _ _ (by rw [List.length_set]; exact hid), List.set_set]
  have hap3 : ∀ (l : List Blk) (x : Blk), (m.set id x ++ l)[id]? = some x := fun l x => by rw [List.getElem?_append_left (by rw [List.length_set]; exact hid)]; exact List.getElem?_set_self hid
  have hL := rd_left' u hs hr j (by omega) id _ (hap3 x _)
  rw [hap2] at hL
  by_cases h10 : l.length = 10
  · have hB := fun m => rd_bad u j 3 m
    rw [h10] at hF
    have hbad : P = .bad 3 (skipB r) := by rw [← hF]; rfl
    rcases hG with ⟨h1, rfl⟩ | ⟨h1, t, rfl, h2⟩
    · have : l = [] := by simpa using h1
      subst this
      simp at h10
    · simp (maxSteps := 4000000) [Fn.f_ddltext_reader_columns_b0, Fn.f_ddltext_reader_columns_s0, hL, h10, hB]
      exact ⟨rfl, .inl ⟨3, skipB r, x, rfl, hbad, rfl⟩⟩
  · have hne : ((l.length : Int) == 10) = false := by simpa using (by omega : ¬ ((l.length : Int) = 10))
    obtain ⟨d, hd⟩ : ∃ d, 10 - l.length = d + 1 := ⟨10 - l.length - 1, by omega⟩
    rw [hd] at hF
    rw [pColsF_succ] at hF
    have hr1 := suf_skip hr
    obtain ⟨y, hC⟩ := rd_column w hs hr1 j (by omega) id (m.set id (rdB s (skipB r)) ++ x) (hap3 _ _)
    rw [hap2] at hC
    have hr2 := pCol_rest hr1
    cases hc : pCol (skipB r) with
    | bad e q =>
      rw [hc] at hC hF
      simp only [PR.out, PR.rest, PR.bind] at hC hF
      rcases hG with ⟨h1, rfl⟩ | ⟨h1, t, rfl, h2⟩
      · have : l = [] := by simpa using h1
        subst this
        simp (maxSteps := 4000000) [Fn.f_ddltext_reader_columns_b0, Fn.f_ddltext_reader_columns_s0, hL, hC]
        exact ⟨rfl, .inl ⟨e, q, x ++ y, rfl, hF.symm, by simp⟩⟩
      simp (maxSteps := 4000000) [Fn.f_ddltext_reader_columns_b0, Fn.f_ddltext_reader_columns_s0, hL, hne, hC]
      exact ⟨rfl, .inl ⟨e, q, x ++ y, rfl, hF.symm, by simp⟩⟩
    | ok c r2 =>
      rw [hc] at hC hF hr2
      simp only [PR.out, PR.rest, PR.bind] at hC hF hr2
      have hS := fun X => rd_sign u hs hr2 44 j (by omega) id (m.set id (rdB s r2) ++ X) (hap3 _ _)
      have hr3 := pSign_rest 44 hr2
      generalize hb1 : (pSign 44 r2).1 = b1 at *
      generalize hq1 : (pSign 44 r2).2 = r3 at *
      simp only [hap2] at hS
      have e44 : ((44 : UInt8).toNat : Int) = 44 := rfl
      rw [e44] at hS
      have hroom : l.length + 1 ≤ room := by unfold room; omega
      have hroom2 : (l.length + 1) * 80 ≤ room := by unfold room; omega
      have hset : ∀ (t : Nat) (X : Mem) (b c : Blk), (m.set id b ++ X).set (m.length + t) c = m.set id b ++ X.set t c := fun t X b c => by
        rw [List.set_append_right _ _ (by rw [List.length_set]; omega), List.length_set, Nat.add_sub_cancel_left]
      have hgetT : ∀ (t : Nat) (X : Mem) (b : Blk), (m.set id b ++ X)[m.length + t]? = X[t]? := fun t X b => by
        rw [List.getElem?_append_right (by rw [List.length_set]; omega), List.length_set, Nat.add_sub_cancel_left]
      have hx2 : ∀ t, x[t]? = some (Blk.tok 8 l.length) → ∀ X : Mem, (x ++ X)[t]? = some (Blk.tok 8 l.length) := fun t h X => get_app h X
      cases b1 with
      | true =>
        simp only [if_true] at hF
        rcases hG with ⟨h1, rfl⟩ | ⟨h1, t, rfl, h2⟩
        · have : l = [] := by simpa using h1
          subst this
          have hd9 : d = 9 := by simp at hd; omega
          subst hd9
          unfold colOut at hC
          have hnew := GrX.first (colP c) m.length (x ++ y)
          unfold colP at hC hnew
          simp (maxSteps := 4000000) [Fn.f_ddltext_reader_columns_b0, Fn.f_ddltext_reader_columns_s0, hL, hC, hS, room]
          refine ⟨[c], by simp, r3, ColI.mk [c] r3 _ (x ++ y ++ [Blk.tok 8 1, Blk.tok 8 1]) (by simp) hr3 hF hnew ⟨rfl, ?_, ?_, rfl⟩⟩
          · simp [keep, Fn.f_ddltext_reader_columns_k0, Fn.f_ddltext_reader_columns_s0, colP, Nat.add_assoc]
          · simp
        · have hl0 : l ≠ [] := by rintro rfl; simp at h1
          simp only [List.length_map] at h2
          have hx := hx2 t h2
          have hlc : d = 10 - (l ++ [c]).length := by simp; omega
          rw [hlc] at hF
          have hnew := GrX.more (rows := l.map colP) (colP c) m.length (X := x ++ (y ++ [Blk.tok 8 1])) (hx _)
          rw [List.length_map, show l.map colP ++ [colP c] = (l ++ [c]).map colP by simp] at hnew
          unfold colOut colP at hC
          simp (maxSteps := 4000000) [Fn.f_ddltext_reader_columns_b0, Fn.f_ddltext_reader_columns_s0, hL, hne, hC, hS, hgetT, hset, hx, hroom, hroom2]
          refine ⟨l ++ [c], by simp; omega, r3, ColI.mk (l ++ [c]) r3 _ _ (by simp; omega) hr3 hF hnew ⟨rfl, ?_, ?_, rfl⟩⟩
          · simp [keep, Fn.f_ddltext_reader_columns_k0, Fn.f_ddltext_reader_columns_s0, colP]
          · simp
      | false =>
        simp only [Bool.false_eq_true, if_false] at hF
        rcases hG with ⟨h1, rfl⟩ | ⟨h1, t, rfl, h2⟩
        · have : l = [] := by simpa using h1
          subst this
          have hnew := GrX.first (colP c) m.length (x ++ y)
          unfold colOut at hC
          unfold colP at hC hnew
          simp (maxSteps := 4000000) [Fn.f_ddltext_reader_columns_b0, Fn.f_ddltext_reader_columns_s0, hL, hC, hS, room]
          refine ⟨rfl, .inr ⟨[c], r3, x ++ y ++ [Blk.tok 8 1, Blk.tok 8 1], rfl, rfl, rfl, ?_, by simp, hr3, by simp, hF.symm⟩⟩
          have e2 : m.length + (x.length + (y.length + 1)) = m.length + ((x ++ y).length + 1) := by simp [Nat.add_assoc]
          simp only [getD_zero', getD_succ', e2]
          exact hnew
        · have hl0 : l ≠ [] := by rintro rfl; simp at h1
          simp only [List.length_map] at h2
          have hx := hx2 t h2
          have hnew := GrX.more (rows := l.map colP) (colP c) m.length (X := x ++ (y ++ [Blk.tok 8 1])) (hx _)
          rw [List.length_map, show l.map colP ++ [colP c] = (l ++ [c]).map colP by simp] at hnew
          unfold colOut colP at hC
          simp (maxSteps := 4000000) [Fn.f_ddltext_reader_columns_b0, Fn.f_ddltext_reader_columns_s0, hL, hne, hC, hS, hgetT, hset, hx, hroom, hroom2]
          refine ⟨rfl, .inr ⟨l ++ [c], r3, (x ++ (y ++ [Blk.tok 8 1])).set t (.tok 8 (l.length + 1)), rfl, rfl, rfl, ?_, by simp, hr3, by simp, hF.symm⟩⟩
          simp only [getD_zero', getD_succ']
          rw [show [PV.int .i64 0, .str c.name, .int .i64 c.kind, .int .i64 c.max, .bool c.null, .int .i64 c.dk, .int .i64 c.dn, .str c.ds] = colP c from rfl, show l.map colP ++ [colP c] = (l ++ [c]).map colP by simp]
          exact hnew
theorem denF_wp_ex {f : Nat} {xf : XFunc} (h : E.fn f = some xf) (hp : xf.pure = false) {n : Nat} {args : List AV} {m : Mem} {R : Out → Mem → Prop}
    (hd : Wp (den E (denF E n) n xf.body ⟨args ++ List.replicate (xf.ntmps - args.length) (.tup []), m, []⟩) fun e st => ∃ o m1, leave xf (some (e, st)) = some (o, m1) ∧ R o m1) : ∃ o m1, denF E (n + 1) f args m = some (o, m1) ∧ R o m1 := by
  obtain ⟨e, st, h1, o, m1, h2, h3⟩ := hd
  exact ⟨o, m1, denF_wp_own h hp ⟨e, st, h1, h2⟩, h3⟩
def colsR (p : PR (List Col)) (o : Out) : Prop := match p with
  | .bad e _ => o = .pan (flt e)
  | .ok cs _ => cs ≠ [] ∧ ∃ t, o = .ret (.tv 8 (cs.map colP) t)
theorem rd_columns (w : S10 E) {s r : List UInt8} (hs : (s.length : Int) ≤ 1000000000) (hr : r <:+ s) (k : Nat) (hk : s.length + 340 ≤ k) (id : Nat) (m : Mem) (hm : m[id]? = some (rdB s r)) :
    ∃ (o : Out) (m1 : Mem), denF E (k + 1) 253 [.ptr id 0] m = some (o, m1) ∧ colsR (pCols r) o ∧ ∃ l, m1 = m.set id (rdB s (pCols r).rest) ++ l := by
  have u := w.u
  have hid := own_id hm
  obtain ⟨j, rfl⟩ : ∃ j, k = j + 1 := ⟨k - 1, by omega⟩
  have hap2 : ∀ (l : List Blk) (x y : Blk), (m.set id x ++ l).set id y = m.set id y ++ l := fun l x y => by rw [List.set_append_left _ _ (by rw [List.length_set]; exact hid), List.set_set]
  have hap3 : ∀ (l : List Blk) (x : Blk), (m.set id x ++ l)[id]? = some x := fun l x => by rw [List.getElem?_append_left (by rw [List.length_set]; exact hid)]; exact List.getElem?_set_self hid
  have hS := rd_sign u hs hr 40 j (by omega) id m hm
  have e40 : ((40 : UInt8).toNat : Int) = 40 := rfl
  have e41 : ((41 : UInt8).toNat : Int) = 41 := rfl
  rw [e40] at hS
  have hB := fun m => rd_bad u j 5 m
  unfold pCols pWantS
  unfold pSign at hS
  refine denF_wp_ex w.columns rfl ?_
  by_cases h40 : (skipB r).head? = some 40
  · rw [if_pos h40] at hS ⊢
    have hr1 := suf_tail (suf_skip hr)
    simp only [PR.bind]
    generalize (skipB r).tail = r0 at *
    simp (maxSteps := 4000000) [Fn.f_ddltext_reader_columns, hS]
    refine (col_loop w hs (r0 := r0) (P := pColsF 10 [] r0) (j + 1) (by omega) id m hid _ (ColI.mk [] r0 (.p .nils) [] (by simp) hr1 rfl (.inl ⟨rfl, rfl⟩) ⟨rfl, rfl, by simp, rfl⟩)).mono ?_
    rintro e st ⟨hds, ⟨er, q, x, rfl, hb, hm⟩ | ⟨cs, r1, x, rfl, hlen, h0, hG, hne, hr1, hm, hF⟩⟩
    · rw [hb]
      simp [hds, hm, PR.rest, colsR]
      exact ⟨_, _, ⟨rfl, rfl⟩, rfl, _, rfl⟩
    · rw [hF]
      obtain ⟨ts, m', ds⟩ := st
      simp only at hds hlen h0 hG hm
      subst hds hm
      obtain ⟨h, _⟩ | ⟨_, t, h3, _⟩ := hG
      · simp at h; exact absurd h hne
      have hx : ts = [ts.getD 0 (.tup []), ts.getD 1 (.tup []), ts.getD 2 (.tup []), ts.getD 3 (.tup []), ts.getD 4 (.tup []), ts.getD 5 (.tup []), ts.getD 6 (.tup []), ts.getD 7 (.tup []), ts.getD 8 (.tup []), ts.getD 9 (.tup []), ts.getD 10 (.tup []), ts.getD 11 (.tup []), ts.getD 12 (.tup []), ts.getD 13 (.tup []), ts.getD 14 (.tup []), ts.getD 15 (.tup []), ts.getD 16 (.tup []), ts.getD 17 (.tup []), ts.getD 18 (.tup []), ts.getD 19 (.tup []), ts.getD 20 (.tup []), ts.getD 21 (.tup []), ts.getD 22 (.tup []), ts.getD 23 (.tup []), ts.getD 24 (.tup []), ts.getD 25 (.tup []), ts.getD 26 (.tup [])] := expand_ts 27 ts hlen
      have hS1 := rd_sign u hs hr1 41 j (by omega) id (m.set id (rdB s r1) ++ x) (hap3 _ _)
      rw [e41, hap2] at hS1
      unfold pSign at hS1
      unfold pWantS
      rw [hx]
      by_cases h41 : (skipB r1).head? = some 41
      · rw [if_pos h41] at hS1 ⊢
        simp (maxSteps := 4000000) [h0, h3, hS1, hne, PR.bind, PR.rest, colsR]
        exact ⟨_, _, ⟨rfl, rfl⟩, ⟨_, rfl⟩, _, rfl⟩
      · rw [if_neg h41] at hS1 ⊢
        simp (maxSteps := 4000000) [h0, h3, hS1, hB, PR.bind, PR.rest, colsR]
        exact ⟨_, _, ⟨rfl, rfl⟩, rfl, _, rfl⟩
  · rw [if_neg h40] at hS ⊢
    simp (maxSteps := 4000000) [Fn.f_ddltext_reader_columns, hS, hB, PR.bind, PR.rest, colsR]
    exact ⟨_, _, ⟨rfl, rfl⟩, rfl, [], by simp⟩
end Hx
