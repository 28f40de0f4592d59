/-
  HxU10s: the program's reader of changes: a column.
-/
import Derived.Test.YtifcegbomagcpaaDoorHxU10n
import Derived.Test.YtifcegbomagcpaaDoorHxM10v
namespace Hx
open Go
set_option linter.unusedSimpArgs false
set_option linter.unusedVariables false
set_option maxHeartbeats 8000000
set_option maxRecDepth 20000
variable {E : Env}
attribute [-simp] List.getD_eq_getElem?_getD getElem?_pos
def ValOk (E : Env) (f : Nat) : Prop := ∀ s : List UInt8, (s.length : Int) ≤ 1000000000 → ∀ k, s.length + 300 ≤ k → ∀ m, denF E (k + 1) f [.p (.str s)] m = some (.ret (rdV (readR s)), m)
def vOut (v : Int × Int × List UInt8) : AV := .p (.agg [.int .i64 v.1, .int .i64 v.2.1, .str v.2.2])
theorem rd_value (u : R10 E) (hn : E.fn 257 = some Fn.f_ddltext_reader_value) (va : ValOk E 26) {s r : List UInt8} (hs : (s.length : Int) ≤ 1000000000) (hr : r <:+ s) (null : Bool) (k : Nat) (hk : s.length + 310 ≤ k) (id : Nat) (m : Mem) (hm : m[id]? = some (rdB s r)) :
    ∃ x y, denF E (k + 1) 257 [.ptr id 0, .p (.bool null)] m = some ((pValue null r).out vOut, m.set id (rdB s (pValue null r).rest) ++ [x, y]) := by
  have hid := own_id hm
  obtain ⟨j, rfl⟩ : ∃ j, k = j + 1 := ⟨k - 1, by omega⟩
  have hlen := suf_len (suf_skip hr)
  have hle := place_le (s := s) (r := skipB r)
  obtain ⟨a, n, t, z, e, hT, hz, hz0⟩ := readR_far (skipB r)
  have hpl := place_drop (suf_skip hr) hz
  have hR := fun m => va (skipB r) (by omega) j (by omega) m
  rw [hT] at hR
  have hL := fun m' hm' => rd_left' u hs hr j (by omega) id m' hm'
  have hget : (m ++ [Blk.cells [.p (.int .i64 0), .p (.int .i64 0), .p (.str [])]])[id]? = some (rdB s r) := by rw [List.getElem?_append_left hid]; exact hm
  have hL1 := hL _ hget
  have hap1 : ∀ (l : List Blk) (x : Blk), (m ++ l).set id x = m.set id x ++ l := fun l x => by rw [List.set_append_left _ _ hid]
  have hap2 : ∀ (l : List Blk) (x y : Blk), (m.set id x ++ l).set id y = m.set id y ++ l := fun l x y => by rw [List.set_append_left _ _ (by rw [List.length_set]; exact hid), List.set_set]
  have hap3 : ∀ (l : List Blk) (x : Blk), (m.set id x ++ l)[id]? = some x := fun l x => by rw [List.getElem?_append_left (by rw [List.length_set]; exact hid)]; exact List.getElem?_set_self hid
  rw [hap1] at hL1
  have hB := fun e m => rd_bad u j e m
  have hw : IntKind.i64.wrap ((placeOf10 s (skipB r) : Int) + z) = ((placeOf10 s ((skipB r).drop z) : Nat) : Int) := by rw [wrap_i64 (by omega) (by omega), hpl]; omega
  have hq : ∀ x : Blk, (m.set id x).length = m.length := fun x => List.length_set
  have g0 := fun (x a : Blk) (l : Mem) => app_at0 (hq x) a l
  have g1 := fun (x a b : Blk) (l : Mem) => app_at1 (hq x) a b l
  have s0 := fun (x a c : Blk) (l : Mem) => app_set0 (hq x) a c l
  have s1 := fun (x a b c : Blk) (l : Mem) => app_set1 (hq x) a b c l
  have hid1 : id < m.length + 1 := by omega
  unfold rdV rT5 at hR
  unfold pValue
  rw [hT]
  simp only
  by_cases he : e = 0
  · subst he
    rw [if_neg (by simp)]
    by_cases ha : a = 0 ∧ null = false
    · obtain ⟨rfl, rfl⟩ := ha
      rw [if_pos ⟨rfl, rfl⟩]
      refine ⟨.cells [.p (.int .i64 0), .p (.int .i64 0), .p (.str [])], .cells [.p (.int .i64 0), .p (.int .i64 n), .p (.str t)], denF_wp_own hn rfl ?_⟩
      unfold rdB rdCells at *
      simp (maxSteps := 4000000) [Fn.f_ddltext_reader_value, hL1, hR, hB, hap1, hap2, hap3, g0, g1, s0, s1, hid, hid1, hw, PR.out, PR.rest, bne]
    · rw [if_neg ha]
      refine ⟨.cells [.p (.int .i64 a), .p (.int .i64 n), .p (.str t)], .cells [.p (.int .i64 a), .p (.int .i64 n), .p (.str t)], denF_wp_own hn rfl ?_⟩
      unfold rdB rdCells at *
      by_cases h0 : a = 0
      · subst h0
        have : null = true := by cases null with | true => rfl | false => exact absurd ⟨rfl, rfl⟩ ha
        subst this
        simp (maxSteps := 4000000) [Fn.f_ddltext_reader_value, hL1, hR, hB, hap1, hap2, hap3, g0, g1, s0, s1, hid, hid1, hw, PR.out, PR.rest, vOut, bne]
      · have hb : (a == 0) = false := by simpa using h0
        simp (maxSteps := 4000000) [Fn.f_ddltext_reader_value, hL1, hR, hB, hap1, hap2, hap3, g0, g1, s0, s1, hid, hid1, hw, hb, PR.out, PR.rest, vOut, bne]
  · rw [if_pos he]
    have hb : (e == 0) = false := by simpa using he
    refine ⟨.cells [.p (.int .i64 0), .p (.int .i64 0), .p (.str [])], .cells [.p (.int .i64 a), .p (.int .i64 n), .p (.str t)], denF_wp_own hn rfl ?_⟩
    unfold rdB rdCells at *
    simp (maxSteps := 4000000) [Fn.f_ddltext_reader_value, hL1, hR, hB, hap1, hap2, hap3, g0, g1, s0, s1, hid, hid1, hw, hb, he, PR.out, PR.rest, bne]
end Hx

namespace Hx
open Go
set_option maxHeartbeats 2000000
theorem suf_tail {s r : List UInt8} (h : r <:+ s) : r.tail <:+ s := (List.tail_suffix r).trans h
theorem bind_rest {α β : Type} {s : List UInt8} {p : PR α} {f : α → List UInt8 → PR β} (h : p.rest <:+ s) (hf : ∀ v r, r <:+ s → (f v r).rest <:+ s) : (p.bind f).rest <:+ s := by
  cases p with
  | bad e r => exact h
  | ok v r => exact hf v r h
theorem pName_rest {s r : List UInt8} (h : r <:+ s) : (pName r).rest <:+ s := by
  unfold pName
  split
  · exact suf_skip h
  split
  · exact suf_drop (suf_skip h) _
  · exact suf_skip h
theorem pKind_rest {s r : List UInt8} (h : r <:+ s) : (pKind r).rest <:+ s := by
  unfold pKind
  split
  · exact suf_drop (suf_skip h) _
  · exact suf_skip h
theorem pValue_rest (b : Bool) {s r : List UInt8} (h : r <:+ s) : (pValue b r).rest <:+ s := by
  unfold pValue
  split
  · exact suf_skip h
  split
  · exact suf_skip h
  · exact suf_drop (suf_skip h) _
theorem pTake_rest (w : List UInt8) {s r : List UInt8} (h : r <:+ s) : (pTake w r).2 <:+ s := by
  unfold pTake
  split
  · exact suf_drop (suf_skip h) _
  · exact suf_skip h
theorem pWant_rest (w : List UInt8) {s r : List UInt8} (h : r <:+ s) : (pWant w r).rest <:+ s := by
  unfold pWant
  split
  · exact suf_drop (suf_skip h) _
  · exact suf_skip h
theorem pSign_rest (c : UInt8) {s r : List UInt8} (h : r <:+ s) : (pSign c r).2 <:+ s := by
  unfold pSign
  split
  · exact suf_tail (suf_skip h)
  · exact suf_skip h
theorem pWantS_rest (c : UInt8) {s r : List UInt8} (h : r <:+ s) : (pWantS c r).rest <:+ s := by
  unfold pWantS
  split
  · exact suf_tail (suf_skip h)
  · exact suf_skip h
theorem pCol_rest {s r : List UInt8} (h : r <:+ s) : (pCol r).rest <:+ s := by
  unfold pCol
  refine bind_rest (pName_rest h) fun n r h => ?_
  refine bind_rest (pKind_rest h) fun t r h => ?_
  unfold pColTail
  split
  · exact bind_rest (pValue_rest _ (pTake_rest _ (pTake_rest _ h))) fun v r h => h
  · exact pTake_rest _ (pTake_rest _ h)
theorem pColsF_rest : ∀ (k : Nat) (l : List Col) {s r : List UInt8}, r <:+ s → (pColsF k l r).rest <:+ s
  | 0, _, _, _, h => suf_skip h
  | k + 1, l, s, r, h => by
    unfold pColsF
    refine bind_rest (pCol_rest (suf_skip h)) fun c r h => ?_
    split
    · exact pColsF_rest k _ (pSign_rest _ h)
    · exact bind_rest (pWantS_rest _ (pSign_rest _ h)) fun _ r h => h
theorem pCols_rest {s r : List UInt8} (h : r <:+ s) : (pCols r).rest <:+ s := by
  unfold pCols
  exact bind_rest (pWantS_rest _ h) fun _ r h => pColsF_rest _ _ h
theorem pRest_rest (op : Nat) (t : List UInt8) {s r : List UInt8} (h : r <:+ s) : (pRest op t r).rest <:+ s := by
  unfold pRest
  split
  · exact bind_rest (pCols_rest h) fun _ r h => bind_rest (pWant_rest _ h) fun _ r h => bind_rest (pName_rest h) fun _ r h => h
  split
  · exact h
  split
  · exact bind_rest (pWant_rest _ h) fun _ r h => bind_rest (pName_rest h) fun _ r h => h
  split
  · exact bind_rest (pCol_rest h) fun _ r h => h
  split
  · exact bind_rest (pName_rest h) fun _ r h => h
  split
  · exact bind_rest (pName_rest h) fun _ r h => bind_rest (pWant_rest _ h) fun _ r h => bind_rest (pName_rest h) fun _ r h => h
  split
  · exact bind_rest (pName_rest h) fun _ r h => bind_rest (pKind_rest h) fun _ r h => h
  · exact bind_rest (pName_rest h) fun _ r h => bind_rest (pValue_rest _ h) fun _ r h => h
theorem pChange_rest {s r : List UInt8} (h : r <:+ s) : (pChange r).rest <:+ s := by
  unfold pChange
  split
  · exact suf_skip h
  · exact bind_rest (pName_rest (suf_drop (suf_skip h) _)) fun _ r h => pRest_rest _ _ h
end Hx

namespace Hx
open Go
set_option linter.unusedSimpArgs false
set_option linter.unusedVariables false
set_option maxHeartbeats 16000000
set_option maxRecDepth 20000
variable {E : Env}
attribute [-simp] List.getD_eq_getElem?_getD getElem?_pos
structure D10 (E : Env) : Prop where
  u : P10 E
  name : E.fn 260 = some Fn.f_haulageref10_P_name
  columns : E.fn 261 = some Fn.f_haulageref10_P_columns
  want : E.fn 262 = some Fn.f_haulageref10_P_want
  column : E.fn 263 = some Fn.f_haulageref10_P_column
  kind : E.fn 264 = some Fn.f_haulageref10_P_kind
  value : E.fn 265 = some Fn.f_haulageref10_P_value
  f90 : E.fn 90 = some Fn.f_haulageref06_Read
  f27 : E.fn 27 = some Fn.f_haulageref05_Read
  ty : TyOk E 90
  va : ValOk E 27
def pAt {α : Type} (s : List UInt8) (p : PR α) (r : List UInt8) (e : Int) : Blk := if e = 0 then pB s p.rest p.err else pB s r e
theorem P_nameT (w : D10 E) {s r : List UInt8} {e : Int} (hs : (s.length : Int) ≤ 1000000000) (hr : r <:+ s) (k : Nat) (hk : s.length + 9 ≤ k) (id : Nat) (m : Mem) (hm : m[id]? = some (pB s r e)) :
    ∃ n, denF E (k + 1) 260 [.ptr id 0] m = some (.ret (.p (.str n)), m.set id (pAt s (pName r) r e)) ∧ ∀ v q, e = 0 → pName r = .ok v q → n = v := by
  by_cases he : e = 0
  · subst he
    refine ⟨_, by unfold pAt; rw [if_pos rfl]; exact P_name w.u w.name (blanks_ok w.u) hs hr k hk id m hm, ?_⟩
    intro v q _ h
    unfold pName at h
    split at h
    · cases h
    split at h
    · cases h; rfl
    · cases h
  · refine ⟨[], ?_, fun v q h => absurd h he⟩
    unfold pAt
    rw [if_neg he, set_own hm]
    exact P_name1 w.u w.name he hs hr k hk id m hm
theorem P_wantT (w : D10 E) {s r : List UInt8} {e : Int} (hs : (s.length : Int) ≤ 1000000000) (hr : r <:+ s) (x : List UInt8) (h1 : x ≠ [40]) (h2 : x ≠ [41]) (h3 : x ≠ [44]) (k : Nat) (hk : s.length + 9 ≤ k) (id : Nat) (m : Mem) (hm : m[id]? = some (pB s r e)) :
    denF E (k + 1) 262 [.ptr id 0, .p (.str x)] m = some (.ret (.tup []), m.set id (pAt s (pWant x r) r e)) := by
  by_cases he : e = 0
  · subst he
    unfold pAt; rw [if_pos rfl]
    exact P_wantW w.u w.want (blanks_ok w.u) hs hr x h1 h2 h3 k hk id m hm
  · unfold pAt
    rw [if_neg he, set_own hm]
    exact P_want1 w.u w.want he x k (by omega) id m hm
theorem P_wantST (w : D10 E) {s r : List UInt8} {e : Int} (hs : (s.length : Int) ≤ 1000000000) (hr : r <:+ s) (c : UInt8) (hc : c = 40 ∨ c = 41 ∨ c = 44) (k : Nat) (hk : s.length + 9 ≤ k) (id : Nat) (m : Mem) (hm : m[id]? = some (pB s r e)) :
    denF E (k + 1) 262 [.ptr id 0, .p (.str [c])] m = some (.ret (.tup []), m.set id (pAt s (pWantS c r) r e)) := by
  by_cases he : e = 0
  · subst he
    unfold pAt; rw [if_pos rfl]
    exact P_wantS w.u w.want (blanks_ok w.u) hs hr c hc k hk id m hm
  · unfold pAt
    rw [if_neg he, set_own hm]
    exact P_want1 w.u w.want he _ k (by omega) id m hm
theorem P_kindT (w : D10 E) {s r : List UInt8} {e : Int} (hs : (s.length : Int) ≤ 1000000000) (hr : r <:+ s) (k : Nat) (hk : s.length + 45 ≤ k) (id : Nat) (m : Mem) (hm : m[id]? = some (pB s r e)) :
    ∃ (l : Mem) (kd mx : Int), denF E (k + 1) 264 [.ptr id 0] m = some (.ret (.p (.agg [.int .i64 kd, .int .i64 mx])), m.set id (pAt s (pKind r) r e) ++ l) ∧ ∀ v q, e = 0 → pKind r = .ok v q → v = (kd, mx) := by
  by_cases he : e = 0
  · subst he
    obtain ⟨x, y, kd, mx, h1, h2⟩ := P_kind w.u w.kind (blanks_ok w.u) w.ty w.f90 hs hr k hk id m hm
    exact ⟨[x, y], kd, mx, by unfold pAt; rw [if_pos rfl]; exact h1, fun v q _ => h2 v q⟩
  · refine ⟨[.cells [.p (.int .i64 0), .p (.int .i64 0)]], 0, 0, ?_, fun v q h => absurd h he⟩
    unfold pAt
    rw [if_neg he, set_own hm]
    exact P_kind1 w.u w.kind he k (by omega) id m hm
theorem P_value (w : D10 E) {s r : List UInt8} (hs : (s.length : Int) ≤ 1000000000) (hr : r <:+ s) (null : Bool) (k : Nat) (hk : s.length + 310 ≤ k) (id : Nat) (m : Mem) (hm : m[id]? = some (pB s r 0)) :
    ∃ x y v, denF E (k + 1) 265 [.ptr id 0, .p (.bool null)] m = some (.ret (vOut v), m.set id (pB s (pValue null r).rest (pValue null r).err) ++ [x, y])
      ∧ ∀ t q, pValue null r = .ok t q → t = v := by
  have u := w.u
  have bl : BlanksOk E := blanks_ok u
  have hid := own_id hm
  obtain ⟨j, rfl⟩ : ∃ j, k = j + 1 := ⟨k - 1, by omega⟩
  have hlen := suf_len (suf_skip hr)
  have hle := place_le (s := s) (r := skipB r)
  have hdr := drop_suf (suf_skip hr)
  obtain ⟨a, n, t, z, e, hT, hz, hz0⟩ := readR_far (skipB r)
  have hpl := place_drop (suf_skip hr) hz
  have hR := fun m => w.va (skipB r) (by omega) j (by omega) m
  rw [hT] at hR
  have hle2 : ((placeOf10 s (skipB r) : Nat) : Int) ≤ s.length := by omega
  have hap1 : ∀ (l : List Blk) (x : Blk), (m ++ l).set id x = m.set id x ++ l := fun l x => by rw [List.set_append_left _ _ hid]
  have hap2 : ∀ (l : List Blk) (x y : Blk), (m.set id x ++ l).set id y = m.set id y ++ l := fun l x y => by rw [List.set_append_left _ _ (by rw [List.length_set]; exact hid), List.set_set]
  have hap3 : ∀ (l : List Blk) (x : Blk), (m.set id x ++ l)[id]? = some x := fun l x => by rw [List.getElem?_append_left (by rw [List.length_set]; exact hid)]; exact List.getElem?_set_self hid
  have hget : (m ++ [Blk.cells [.p (.int .i64 0), .p (.int .i64 0), .p (.str [])]])[id]? = some (pB s r 0) := by rw [List.getElem?_append_left hid]; exact hm
  have hB := bl hs hr j (by omega) id _ hget
  rw [hap1] at hB
  have hbad := fun (e : Int) (l : List Blk) => P_bad0 u (s := s) (r := skipB r) e j id (m.set id (pB s (skipB r) 0) ++ l) (hap3 _ _)
  simp only [hap2] at hbad
  have hw : IntKind.i64.wrap ((placeOf10 s (skipB r) : Int) + z) = ((placeOf10 s ((skipB r).drop z) : Nat) : Int) := by rw [wrap_i64 (by omega) (by omega), hpl]; omega
  have hq : ∀ x : Blk, (m.set id x).length = m.length := fun x => List.length_set
  have g0 := fun (x a : Blk) (l : Mem) => app_at0 (hq x) a l
  have g1 := fun (x a b : Blk) (l : Mem) => app_at1 (hq x) a b l
  have s0 := fun (x a c : Blk) (l : Mem) => app_set0 (hq x) a c l
  have s1 := fun (x a b c : Blk) (l : Mem) => app_set1 (hq x) a b c l
  have hid1 : id < m.length + 1 := by omega
  have hid2 : id < m.length + 2 := by omega
  have hid3 : id < m.length + 1 + 1 := by omega
  have f27 := w.f27
  have p27 : Fn.f_haulageref05_Read.pure = true := rfl
  unfold rdV rT5 at hR
  unfold pValue
  rw [hT]
  refine ⟨.cells [.p (.int .i64 a), .p (.int .i64 n), .p (.str t)], .cells [.p (.int .i64 a), .p (.int .i64 n), .p (.str t)], (a, n, t), ?_⟩
  simp only
  by_cases he : e = 0
  · subst he
    rw [if_neg (by simp)]
    by_cases ha : a = 0 ∧ null = false
    · obtain ⟨rfl, rfl⟩ := ha
      rw [if_pos ⟨rfl, rfl⟩]
      refine ⟨denF_wp_own w.value rfl ?_, by intro t q h; cases h⟩
      unfold pB at *
      simp (maxSteps := 4000000) [Fn.f_haulageref10_P_value, hB, hR, hdr, hle, hle2, f27, p27, hbad, hap1, hap2, hap3, g0, g1, s0, s1, hid, hid1, hid2, hid3, hw, PR.err, PR.rest, vOut, bne]
    · rw [if_neg ha]
      refine ⟨denF_wp_own w.value rfl ?_, by intro t q h; cases h; rfl⟩
      unfold pB at *
      by_cases h0 : a = 0
      · subst h0
        have : null = true := by cases null with | true => rfl | false => exact absurd ⟨rfl, rfl⟩ ha
        subst this
        simp (maxSteps := 4000000) [Fn.f_haulageref10_P_value, hB, hR, hdr, hle, hle2, f27, p27, hbad, hap1, hap2, hap3, g0, g1, s0, s1, hid, hid1, hid2, hid3, hw, PR.err, PR.rest, vOut, bne]
      · have hb : (a == 0) = false := by simpa using h0
        simp (maxSteps := 4000000) [Fn.f_haulageref10_P_value, hB, hR, hdr, hle, hle2, f27, p27, hbad, hap1, hap2, hap3, g0, g1, s0, s1, hid, hid1, hid2, hid3, hw, hb, PR.err, PR.rest, vOut, bne]
  · rw [if_pos he]
    have hb : (e == 0) = false := by simpa using he
    refine ⟨denF_wp_own w.value rfl ?_, by intro t q h; cases h⟩
    unfold pB at *
    simp (maxSteps := 4000000) [Fn.f_haulageref10_P_value, hB, hR, hdr, hle, hle2, f27, p27, hbad, hap1, hap2, hap3, g0, g1, s0, s1, hid, hid1, hid2, hid3, hw, hb, he, PR.err, PR.rest, vOut, bne]
theorem P_valueT (w : D10 E) {s r : List UInt8} {e : Int} (hs : (s.length : Int) ≤ 1000000000) (hr : r <:+ s) (null : Bool) (k : Nat) (hk : s.length + 310 ≤ k) (id : Nat) (m : Mem) (hm : m[id]? = some (pB s r e)) :
    ∃ (l : Mem) (v : Int × Int × List UInt8), denF E (k + 1) 265 [.ptr id 0, .p (.bool null)] m = some (.ret (vOut v), m.set id (pAt s (pValue null r) r e) ++ l) ∧ ∀ t q, e = 0 → pValue null r = .ok t q → t = v := by
  by_cases he : e = 0
  · subst he
    obtain ⟨x, y, v, h1, h2⟩ := P_value w hs hr null k hk id m hm
    exact ⟨[x, y], v, by unfold pAt; rw [if_pos rfl]; exact h1, fun t q _ => h2 t q⟩
  · refine ⟨[.cells [.p (.int .i64 0), .p (.int .i64 0), .p (.str [])]], (0, 0, []), ?_, fun v q h => absurd h he⟩
    unfold pAt
    rw [if_neg he, set_own hm]
    refine denF_wp_own w.value rfl ?_
    obtain ⟨j, rfl⟩ : ∃ j, k = j + 1 := ⟨k - 1, by omega⟩
    have hid := own_id hm
    have hid1 : id < m.length + 1 := by omega
    have hb : (e == 0) = false := by simpa using he
    have hget : (m ++ [Blk.cells [.p (.int .i64 0), .p (.int .i64 0), .p (.str [])]])[id]? = some (pB s r e) := by rw [List.getElem?_append_left hid]; exact hm
    have hB := P_blanks1 w.u he j (by omega) id _ hget
    have g0 := fun (a : Blk) (l : Mem) => app_at0' m a l
    have g2 := fun (a c : Blk) (l : Mem) => app_set0 (m := m) (q := m) rfl a c l
    unfold pB at *
    simp (maxSteps := 4000000) [Fn.f_haulageref10_P_value, hB, hid, hid1, hget, hm, hb, g0, g2, vOut, bne]
end Hx

namespace Hx
open Go
set_option linter.unusedSimpArgs false
set_option linter.unusedVariables false
set_option maxHeartbeats 16000000
set_option maxRecDepth 20000
variable {E : Env}
attribute [-simp] List.getD_eq_getElem?_getD getElem?_pos
structure S10 (E : Env) : Prop where
  u : R10 E
  kind : E.fn 256 = some Fn.f_ddltext_reader_kind
  value : E.fn 257 = some Fn.f_ddltext_reader_value
  column : E.fn 255 = some Fn.f_ddltext_reader_column
  columns : E.fn 253 = some Fn.f_ddltext_reader_columns
  ty : TyOk E 89
  va : ValOk E 26
def colP (c : Col) : List PV := [.int .i64 0, .str c.name, .int .i64 c.kind, .int .i64 c.max, .bool c.null, .int .i64 c.dk, .int .i64 c.dn, .str c.ds]
def colOut (c : Col) : AV := .p (.agg (colP c))
def zCol : List AV := [.p (.int .i64 0), .p (.str []), .p (.int .i64 0), .p (.int .i64 0), .p (.bool false), .p (.int .i64 0), .p (.int .i64 0), .p (.str [])]
theorem rd_column (w : S10 E) {s r : List UInt8} (hs : (s.length : Int) ≤ 1000000000) (hr : r <:+ s) (k : Nat) (hk : s.length + 320 ≤ k) (id : Nat) (m : Mem) (hm : m[id]? = some (rdB s r)) :
    ∃ l, denF E (k + 1) 255 [.ptr id 0] m = some ((pCol r).out colOut, m.set id (rdB s (pCol r).rest) ++ l) := by
  have u := w.u
  have hid := own_id hm
  obtain ⟨j, rfl⟩ : ∃ j, k = j + 1 := ⟨k - 1, by omega⟩
  have hap1 : ∀ (l : List Blk) (x : Blk), (m ++ l).set id x = m.set id x ++ l := fun l x => by rw [List.set_append_left _ _ hid]
  have hap2 : ∀ (l : List Blk) (x y : Blk), (m.set id x ++ l).set id y = m.set id y ++ l := fun l x y => by rw [List.set_append_left _ _ (by rw [List.length_set]; exact hid), List.set_set]
  have hap3 : ∀ (l : List Blk) (x : Blk), (m.set id x ++ l)[id]? = some x := fun l x => by rw [List.getElem?_append_left (by rw [List.length_set]; exact hid)]; exact List.getElem?_set_self hid
  have hget : (m ++ [Blk.cells zCol])[id]? = some (rdB s r) := by rw [List.getElem?_append_left hid]; exact hm
  have hN := rd_name u hs hr j (by omega) id _ hget
  rw [hap1] at hN
  have hq : ∀ x : Blk, (m.set id x).length = m.length := fun x => List.length_set
  have g0 := fun (x a : Blk) (l : Mem) => app_at0 (hq x) a l
  have g1 := fun (x a b : Blk) (l : Mem) => app_at1 (hq x) a b l
  have s0 := fun (x a c : Blk) (l : Mem) => app_set0 (hq x) a c l
  have s1 := fun (x a b c : Blk) (l : Mem) => app_set1 (hq x) a b c l
  have hid1 : id < m.length + 1 := by omega
  have hr1 := pName_rest hr
  unfold pCol
  cases hp : pName r with
  | bad e q =>
    rw [hp] at hN
    simp only [PR.out, PR.rest] at hN
    refine ⟨[.cells zCol], denF_wp_own w.column rfl ?_⟩
    unfold zCol at *
    simp (maxSteps := 4000000) [Fn.f_ddltext_reader_column, hN, PR.bind, PR.out, PR.rest]
  | ok n r1 =>
    rw [hp] at hN hr1
    simp only [PR.out, PR.rest] at hN hr1
    obtain ⟨x1, y1, hK⟩ := rd_kind u w.kind w.ty hs hr1 j (by omega) id (m.set id (rdB s r1) ++ [.cells zCol, .cells [.p (.int .i64 0), .p (.str n), .p (.int .i64 0), .p (.int .i64 0), .p (.bool false), .p (.int .i64 0), .p (.int .i64 0), .p (.str [])]]) (hap3 _ _)
    rw [hap2] at hK
    have hr2 := pKind_rest hr1
    simp only [PR.bind]
    cases hp2 : pKind r1 with
    | bad e q =>
      rw [hp2] at hK
      simp only [PR.out, PR.rest] at hK
      refine ⟨[.cells zCol, .cells [.p (.int .i64 0), .p (.str n), .p (.int .i64 0), .p (.int .i64 0), .p (.bool false), .p (.int .i64 0), .p (.int .i64 0), .p (.str [])], x1, y1], denF_wp_own w.column rfl ?_⟩
      unfold zCol at *
      simp (maxSteps := 4000000) [Fn.f_ddltext_reader_column, hN, hK, g0, g1, s0, s1, hid, hid1, PR.bind, PR.out, PR.rest]
    | ok t r2 =>
      rw [hp2] at hK hr2
      simp only [PR.out, PR.rest] at hK hr2
      simp only [pColTail, PR.bind]
      have hT1 := fun l => rd_take u hs hr2 wNul j (by omega) id (m.set id (rdB s r2) ++ l) (hap3 _ _)
      have hr3 := pTake_rest wNul hr2
      generalize hb1 : (pTake wNul r2).1 = b1 at *
      generalize hq1 : (pTake wNul r2).2 = r3 at *
      have hT2 := fun l => rd_take u hs hr3 wDef j (by omega) id (m.set id (rdB s r3) ++ l) (hap3 _ _)
      have hr4 := pTake_rest wDef hr3
      simp only [hap2] at hT1 hT2
      generalize hb2 : (pTake wDef r3).1 = b2 at *
      generalize hq2 : (pTake wDef r3).2 = r4 at *
      unfold wNul at hT1
      unfold wDef at hT2
      cases b2 with
      | false =>
        refine ⟨[.cells [.p (.int .i64 0), .p (.str n), .p (.int .i64 t.1), .p (.int .i64 t.2), .p (.bool b1), .p (.int .i64 0), .p (.int .i64 0), .p (.str [])], .cells [.p (.int .i64 0), .p (.str n), .p (.int .i64 t.1), .p (.int .i64 t.2), .p (.bool b1), .p (.int .i64 0), .p (.int .i64 0), .p (.str [])], x1, y1], denF_wp_own w.column rfl ?_⟩
        unfold zCol at *
        simp (maxSteps := 4000000) [Fn.f_ddltext_reader_column, hN, hK, hT1, hT2, g0, g1, s0, s1, hid, hid1, PR.bind, PR.out, PR.rest, colOut, colP]
      | true =>
        obtain ⟨x2, y2, hV⟩ := rd_value u w.value w.va hs hr4 false j (by omega) id (m.set id (rdB s r4) ++ [.cells zCol, .cells [.p (.int .i64 0), .p (.str n), .p (.int .i64 t.1), .p (.int .i64 t.2), .p (.bool b1), .p (.int .i64 0), .p (.int .i64 0), .p (.str [])], x1, y1]) (hap3 _ _)
        rw [hap2] at hV
        simp only [if_true]
        cases hp3 : pValue false r4 with
        | bad e q =>
          rw [hp3] at hV
          simp only [PR.out, PR.rest] at hV
          refine ⟨[.cells zCol, .cells [.p (.int .i64 0), .p (.str n), .p (.int .i64 t.1), .p (.int .i64 t.2), .p (.bool b1), .p (.int .i64 0), .p (.int .i64 0), .p (.str [])], x1, y1, x2, y2], denF_wp_own w.column rfl ?_⟩
          unfold zCol at *
          simp (maxSteps := 4000000) [Fn.f_ddltext_reader_column, hN, hK, hT1, hT2, hV, g0, g1, s0, s1, hid, hid1, PR.bind, PR.out, PR.rest]
        | ok v r5 =>
          rw [hp3] at hV
          simp only [PR.out, PR.rest, vOut] at hV
          refine ⟨[.cells [.p (.int .i64 0), .p (.str n), .p (.int .i64 t.1), .p (.int .i64 t.2), .p (.bool b1), .p (.int .i64 v.1), .p (.int .i64 v.2.1), .p (.str v.2.2)], .cells [.p (.int .i64 0), .p (.str n), .p (.int .i64 t.1), .p (.int .i64 t.2), .p (.bool b1), .p (.int .i64 v.1), .p (.int .i64 v.2.1), .p (.str v.2.2)], x1, y1, x2, y2], denF_wp_own w.column rfl ?_⟩
          unfold zCol at *
          simp (maxSteps := 4000000) [Fn.f_ddltext_reader_column, hN, hK, hT1, hT2, hV, g0, g1, s0, s1, hid, hid1, PR.bind, PR.out, PR.rest, colOut, colP]
end Hx
