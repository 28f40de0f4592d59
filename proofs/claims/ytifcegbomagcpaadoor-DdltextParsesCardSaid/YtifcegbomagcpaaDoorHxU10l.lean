/-
  HxU10l: the document's reader of changes: signs that have to come.
-/
import Derived.Test.YtifcegbomagcpaaDoorHxSimp2
namespace Hx
open Go
set_option linter.unusedSimpArgs false
set_option linter.unusedVariables false
set_option maxHeartbeats 4000000
variable {E : Env}
attribute [-simp] List.getD_eq_getElem?_getD getElem?_pos
structure R10 (E : Env) : Prop where
  n04 : N04 E
  left : E.fn 239 = some Fn.f_ddltext_reader_left
  bad : E.fn 240 = some Fn.f_ddltext_bad
  peek : E.fn 251 = some Fn.f_ddltext_reader_peek
  take : E.fn 272 = some Fn.f_ddltext_reader_take
  want : E.fn 254 = some Fn.f_ddltext_reader_want
  sign : E.fn 271 = some Fn.f_ddltext_reader_sign
  name : E.fn 252 = some Fn.f_ddltext_reader_name
  nright : E.fn 270 = some Fn.f_name_Right
def rdB (s r : List UInt8) : Blk := rdCells s (placeOf10 s r)
theorem drop_suf {s r : List UInt8} (h : r <:+ s) : s.drop (placeOf10 s r) = r := by
  obtain ⟨t, ht⟩ := h
  unfold placeOf10
  subst ht
  rw [List.length_append, Nat.add_sub_cancel, List.drop_left]
theorem place_le {s r : List UInt8} : placeOf10 s r ≤ s.length := by unfold placeOf10; omega
theorem suf_skip {s r : List UInt8} (h : r <:+ s) : skipB r <:+ s := (List.dropWhile_suffix isBl).trans h
theorem suf_drop {s r : List UInt8} (h : r <:+ s) (n : Nat) : r.drop n <:+ s := (List.drop_suffix n r).trans h
theorem suf_len {s r : List UInt8} (h : r <:+ s) : r.length ≤ s.length := h.length_le
theorem place_drop {s r : List UInt8} (h : r <:+ s) {n : Nat} (hn : n ≤ r.length) : placeOf10 s (r.drop n) = placeOf10 s r + n := by
  have := suf_len h
  unfold placeOf10
  rw [List.length_drop]
  omega
def flt (e : Int) : AV := .p (.iface 2 (.agg [.int .i64 e]))
def PR.out {α : Type} (f : α → AV) : PR α → Out
  | .bad e _ => .pan (flt e)
  | .ok v _ => .ret (f v)
def PR.rest {α : Type} : PR α → List UInt8
  | .bad _ r => r
  | .ok _ r => r
theorem rd_left' (u : R10 E) {s r : List UInt8} (hs : (s.length : Int) ≤ 1000000000) (hr : r <:+ s) (k : Nat) (hk : s.length + 4 ≤ k) (id : Nat) (m : Mem) (hm : m[id]? = some (rdB s r)) :
    denF E (k + 1) 239 [.ptr id 0] m = some (.ret (.p (.str (skipB r))), m.set id (rdB s (skipB r))) := by
  have := rd_left u.left s hs (placeOf10 s r) place_le k hk id m hm
  rw [drop_suf hr] at this
  exact this
theorem rd_bad (u : R10 E) (k : Nat) (e : Int) (m : Mem) : denF E (k + 1) 240 [.p (.int .i64 e)] m = some (.pan (flt e), m) := by
  refine denF_wp u.bad rfl (args' := [.p (.int .i64 e)]) rfl ?_
  simp [Fn.f_ddltext_bad, flt]
theorem rd_peek (u : R10 E) {s r : List UInt8} (hs : (s.length : Int) ≤ 1000000000) (hr : r <:+ s) (k : Nat) (hk : s.length + 5 ≤ k) (id : Nat) (m : Mem) (hm : m[id]? = some (rdB s r)) :
    denF E (k + 1) 251 [.ptr id 0] m = some (.ret (.p (.str (wordOf (skipB r)))), m.set id (rdB s (skipB r))) := by
  refine denF_wp_own u.peek rfl ?_
  obtain ⟨j, rfl⟩ : ∃ j, k = j + 1 := ⟨k - 1, by omega⟩
  have hL := rd_left' u hs hr j (by omega) id m hm
  have hlen := suf_len (suf_skip hr)
  have hN := fun m => name_Read u.n04 (skipB r) (by omega) j (by omega) m
  have hnl := nameLen_le (skipB r)
  simp [Fn.f_ddltext_reader_peek, hL, hN, hnl, wordOf]
theorem word_len (r : List UInt8) : (wordOf r).length ≤ r.length := by unfold wordOf; rw [List.length_take]; omega
theorem rd_take (u : R10 E) {s r : List UInt8} (hs : (s.length : Int) ≤ 1000000000) (hr : r <:+ s) (w : List UInt8) (k : Nat) (hk : s.length + 6 ≤ k) (id : Nat) (m : Mem) (hm : m[id]? = some (rdB s r)) :
    denF E (k + 1) 272 [.ptr id 0, .p (.str w)] m = some (.ret (.p (.bool (pTake w r).1)), m.set id (rdB s (pTake w r).2)) := by
  refine denF_wp_own u.take rfl ?_
  obtain ⟨j, rfl⟩ : ∃ j, k = j + 1 := ⟨k - 1, by omega⟩
  have hP := rd_peek u hs hr j (by omega) id m hm
  have hid : id < m.length := by
    rcases Nat.lt_or_ge id m.length with hl | hl
    · exact hl
    · rw [List.getElem?_eq_none hl] at hm; cases hm
  have hself : ∀ x : Blk, (m.set id x)[id]? = some x := fun x => List.getElem?_set_self hid
  have hset : ∀ x y : Blk, (m.set id x).set id y = m.set id y := fun x y => List.set_set ..
  unfold pTake
  by_cases h : wordOf (skipB r) = w
  · have hwl := word_len (skipB r)
    have hpl := place_drop (suf_skip hr) hwl
    have hle := place_le (s := s) (r := skipB r)
    rw [if_pos h]
    rw [h] at hP hpl hwl
    have hlen := suf_len (suf_skip hr)
    have hw : IntKind.i64.wrap ((placeOf10 s (skipB r) : Int) + w.length) = ((placeOf10 s ((skipB r).drop w.length) : Nat) : Int) := by rw [wrap_i64 (by omega) (by omega), hpl]; omega
    unfold rdB rdCells at *
    simp [Fn.f_ddltext_reader_take, hP, hid, hself, hset, hw, bne]
  · rw [if_neg h]
    have hb : (wordOf (skipB r) == w) = false := by simpa using h
    simp [Fn.f_ddltext_reader_take, hP, hb, bne]
theorem rd_want (u : R10 E) {s r : List UInt8} (hs : (s.length : Int) ≤ 1000000000) (hr : r <:+ s) (w : List UInt8) (k : Nat) (hk : s.length + 7 ≤ k) (id : Nat) (m : Mem) (hm : m[id]? = some (rdB s r)) :
    denF E (k + 1) 254 [.ptr id 0, .p (.str w)] m = some ((pWant w r).out (fun _ => .tup []), m.set id (rdB s (pWant w r).rest)) := by
  refine denF_wp_own u.want rfl ?_
  obtain ⟨j, rfl⟩ : ∃ j, k = j + 1 := ⟨k - 1, by omega⟩
  have hT := rd_take u hs hr w j (by omega) id m hm
  have hB := fun m => rd_bad u j 5 m
  unfold pTake at hT
  unfold pWant
  by_cases h : wordOf (skipB r) = w
  · rw [if_pos h] at hT ⊢
    simp [Fn.f_ddltext_reader_want, hT, PR.out, PR.rest]
  · rw [if_neg h] at hT ⊢
    simp [Fn.f_ddltext_reader_want, hT, hB, PR.out, PR.rest, flt]
end Hx

namespace Hx
open Go
set_option linter.unusedSimpArgs false
set_option linter.unusedVariables false
set_option maxHeartbeats 4000000
variable {E : Env}
attribute [-simp] List.getD_eq_getElem?_getD getElem?_pos
theorem name_Right (u : R10 E) (w : List UInt8) (hw : (w.length : Int) ≤ 1000000000) (k : Nat) (hk : w.length + 5 ≤ k) (m : Mem) :
    denF E (k + 1) 270 [.p (.str w)] m = some (.ret (.p (.bool (rightN w))), m) := by
  refine denF_wp u.nright rfl (args' := [.p (.str w)]) rfl ?_
  obtain ⟨j, rfl⟩ : ∃ j, k = j + 1 := ⟨k - 1, by omega⟩
  have hN := fun m => name_Read u.n04 w (by omega) j (by omega) m
  unfold rightN
  cases w with
  | nil => simp [Fn.f_name_Right, bne]
  | cons c w =>
    by_cases h : (c :: w).length ≤ 16
    · have h1 : decide (((c :: w).length : Int) ≤ 16) = true := by simpa using (by omega : ((c :: w).length : Int) ≤ 16)
      have h2 : ((nameLen (c :: w) : Int) == ((c :: w).length : Int)) = decide (nameLen (c :: w) = (c :: w).length) := by
        by_cases h3 : nameLen (c :: w) = (c :: w).length
        · rw [h3]; simp
        · rw [decide_eq_false h3]; simpa using (by omega : ¬ ((nameLen (c :: w) : Int) = ((c :: w).length : Int)))
      generalize hq : c :: w = q at *
      have hb : (q == []) = false := by subst hq; rfl
      have he : q.isEmpty = false := by subst hq; rfl
      have h1' : ((q.length : Int) ≤ 16) := by omega
      simp [Fn.f_name_Right, hN, hb, he, h, h1', h2, bne]
    · generalize hq : c :: w = q at *
      have hb : (q == []) = false := by subst hq; rfl
      have he : q.isEmpty = false := by subst hq; rfl
      have h1' : ¬ ((q.length : Int) ≤ 16) := by omega
      simp [Fn.f_name_Right, hN, hb, he, h, h1', bne]
theorem own_id {id : Nat} {m : Mem} {x : Blk} (hm : m[id]? = some x) : id < m.length := by
  rcases Nat.lt_or_ge id m.length with hl | hl
  · exact hl
  · rw [List.getElem?_eq_none hl] at hm; cases hm
theorem rd_sign (u : R10 E) {s r : List UInt8} (hs : (s.length : Int) ≤ 1000000000) (hr : r <:+ s) (c : UInt8) (k : Nat) (hk : s.length + 5 ≤ k) (id : Nat) (m : Mem) (hm : m[id]? = some (rdB s r)) :
    denF E (k + 1) 271 [.ptr id 0, .p (.int .u8 c.toNat)] m = some (.ret (.p (.bool (pSign c r).1)), m.set id (rdB s (pSign c r).2)) := by
  refine denF_wp_own u.sign rfl ?_
  obtain ⟨j, rfl⟩ : ∃ j, k = j + 1 := ⟨k - 1, by omega⟩
  have hL := rd_left' u hs hr j (by omega) id m hm
  have hid := own_id hm
  have hself : ∀ x : Blk, (m.set id x)[id]? = some x := fun x => List.getElem?_set_self hid
  have hset : ∀ x y : Blk, (m.set id x).set id y = m.set id y := fun x y => List.set_set ..
  have hsuf := suf_skip hr
  unfold pSign
  cases hq : skipB r with
  | nil =>
    rw [hq] at hL
    simp [Fn.f_ddltext_reader_sign, hL]
  | cons b q =>
    rw [hq] at hL hsuf
    have hb : ((b :: q) == []) = false := rfl
    have hpl := place_drop hsuf (n := 1) (by simp)
    have hlen := suf_len hsuf
    have hle := place_le (s := s) (r := b :: q)
    have hw : IntKind.i64.wrap ((placeOf10 s (b :: q) : Int) + 1) = ((placeOf10 s q : Nat) : Int) := by
      rw [wrap_i64 (by omega) (by omega)]
      have : placeOf10 s q = placeOf10 s (b :: q) + 1 := hpl
      omega
    by_cases h : b = c
    · subst h
      unfold rdB rdCells at *
      simp [Fn.f_ddltext_reader_sign, hL, hb, hid, hself, hset, hw, bne]
    · have hne : ((b.toNat : Int) == (c.toNat : Int)) = false := by
        rw [beq_eq_false_iff_ne]; intro e; exact h (UInt8.toNat_inj.1 (by omega))
      simp [Fn.f_ddltext_reader_sign, hL, hb, h, hne, bne]
theorem rd_name (u : R10 E) {s r : List UInt8} (hs : (s.length : Int) ≤ 1000000000) (hr : r <:+ s) (k : Nat) (hk : s.length + 7 ≤ k) (id : Nat) (m : Mem) (hm : m[id]? = some (rdB s r)) :
    denF E (k + 1) 252 [.ptr id 0] m = some ((pName r).out (fun w => .p (.str w)), m.set id (rdB s (pName r).rest)) := by
  refine denF_wp_own u.name rfl ?_
  obtain ⟨j, rfl⟩ : ∃ j, k = j + 1 := ⟨k - 1, by omega⟩
  have hP := rd_peek u hs hr j (by omega) id m hm
  have hid := own_id hm
  have hself : ∀ x : Blk, (m.set id x)[id]? = some x := fun x => List.getElem?_set_self hid
  have hset : ∀ x y : Blk, (m.set id x).set id y = m.set id y := fun x y => List.set_set ..
  have hB5 := fun m => rd_bad u j 5 m
  have hB8 := fun m => rd_bad u j 8 m
  have hwl := word_len (skipB r)
  have hpl := place_drop (suf_skip hr) hwl
  have hle := place_le (s := s) (r := skipB r)
  have hlen := suf_len (suf_skip hr)
  have hR := fun m => name_Right u (wordOf (skipB r)) (by omega) j (by omega) m
  have hw : IntKind.i64.wrap ((placeOf10 s (skipB r) : Int) + (wordOf (skipB r)).length) = ((placeOf10 s ((skipB r).drop (wordOf (skipB r)).length) : Nat) : Int) := by rw [wrap_i64 (by omega) (by omega), hpl]; omega
  unfold pName
  generalize wordOf (skipB r) = w at *
  by_cases h : w = []
  · subst h
    simp [Fn.f_ddltext_reader_name, hP, hB5, PR.out, PR.rest, flt]
  · have hb : (w == []) = false := by simpa using h
    rw [if_neg h]
    cases hr : rightN w with
    | false => rw [hr] at hR; simp [Fn.f_ddltext_reader_name, hP, hb, hR, hB8, PR.out, PR.rest, flt]
    | true =>
      rw [hr] at hR
      unfold rdB rdCells at *
      simp [Fn.f_ddltext_reader_name, hP, hb, hR, hid, hself, hset, hw, PR.out, PR.rest]
end Hx

namespace Hx
open Go
set_option linter.unusedSimpArgs false
set_option linter.unusedVariables false
set_option maxHeartbeats 4000000
set_option maxRecDepth 20000
variable {E : Env}
attribute [-simp] List.getD_eq_getElem?_getD getElem?_pos
structure P10 (E : Env) : Prop where
  n04 : N04 E
  blanks : E.fn 242 = some Fn.f_haulageref10_P_blanks
  bad : E.fn 243 = some Fn.f_haulageref10_P_bad
  peek : E.fn 258 = some Fn.f_haulageref10_P_peek
  nright : E.fn 188 = some Fn.f_haulageref04_Right
def pB (s r : List UInt8) (e : Int) : Blk := .cells [.p (.str s), .p (.int .i64 (placeOf10 s r)), .p (.int .i64 e)]
def pCells (s : List UInt8) (i : Nat) : Blk := .cells [.p (.str s), .p (.int .i64 i), .p (.int .i64 0)]
theorem P_bad0 (u : P10 E) {s r : List UInt8} (e : Int) (k : Nat) (id : Nat) (m : Mem) (hm : m[id]? = some (pB s r 0)) :
    denF E (k + 1) 243 [.ptr id 0, .p (.int .i64 e)] m = some (.ret (.tup []), m.set id (pB s r e)) := by
  refine denF_wp_own u.bad rfl ?_
  have hid := own_id hm
  unfold pB at *
  simp [Fn.f_haulageref10_P_bad, hm, hid]
theorem ref_NRightN (n04 : N04 E) (nright : E.fn 188 = some Fn.f_haulageref04_Right) (w : List UInt8) (hw : (w.length : Int) ≤ 1000000000) (k : Nat) (hk : w.length + 5 ≤ k) (m : Mem) :
    denF E (k + 1) 188 [.p (.str w)] m = some (.ret (.p (.bool (rightN w))), m) := by
  refine denF_wp nright rfl (args' := [.p (.str w)]) rfl ?_
  obtain ⟨j, rfl⟩ : ∃ j, k = j + 1 := ⟨k - 1, by omega⟩
  have hN := fun m => ref_NRead n04 w (by omega) j (by omega) m
  unfold rightN
  cases w with
  | nil => simp [Fn.f_haulageref04_Right]
  | cons c w =>
    have h0 : (0 : Int) < ((c :: w).length : Int) := by simp only [List.length_cons]; omega
    by_cases h : (c :: w).length ≤ 16
    · have h2 : ((nameLen (c :: w) : Int) == ((c :: w).length : Int)) = decide (nameLen (c :: w) = (c :: w).length) := by
        by_cases h3 : nameLen (c :: w) = (c :: w).length
        · rw [h3]; simp
        · rw [decide_eq_false h3]; simpa using (by omega : ¬ ((nameLen (c :: w) : Int) = ((c :: w).length : Int)))
      generalize hq : c :: w = q at *
      have he : q.isEmpty = false := by subst hq; rfl
      have h1' : ((q.length : Int) ≤ 16) := by omega
      have h0' : 0 < q.length := by omega
      simp [Fn.f_haulageref04_Right, hN, h0, h0', he, h, h1', h2]
    · generalize hq : c :: w = q at *
      have he : q.isEmpty = false := by subst hq; rfl
      have h1' : ¬ ((q.length : Int) ≤ 16) := by omega
      have h0' : 0 < q.length := by omega
      simp [Fn.f_haulageref04_Right, hN, h0, h0', he, h, h1']
theorem ref_NRight (u : P10 E) (w : List UInt8) (hw : (w.length : Int) ≤ 1000000000) (k : Nat) (hk : w.length + 5 ≤ k) (m : Mem) :
    denF E (k + 1) 188 [.p (.str w)] m = some (.ret (.p (.bool (rightN w))), m) := ref_NRightN u.n04 u.nright w hw k hk m
end Hx

namespace Hx
open Go
set_option linter.unusedSimpArgs false
set_option linter.unusedVariables false
set_option maxHeartbeats 8000000
set_option maxRecDepth 20000
variable {E : Env}
attribute [-simp] List.getD_eq_getElem?_getD getElem?_pos
theorem P_peek (u : P10 E) {s q : List UInt8} {e : Int} (hs : (s.length : Int) ≤ 1000000000) (hq : q <:+ s) (k : Nat) (hk : s.length + 6 ≤ k) (id : Nat) (m : Mem) (hid : id < m.length)
    (hB : denF E k 242 [.ptr id 0] m = some (.ret (.tup []), m.set id (pB s q e))) :
    denF E (k + 1) 258 [.ptr id 0] m = some (.ret (.p (.str (wordOf q))), m.set id (pB s q e)) := by
  refine denF_wp_own u.peek rfl ?_
  obtain ⟨j, rfl⟩ : ∃ j, k = j + 1 := ⟨k - 1, by omega⟩
  have hself : ∀ x : Blk, (m.set id x)[id]? = some x := fun x => List.getElem?_set_self hid
  have hlen := suf_len hq
  have hdr := drop_suf hq
  have hle := place_le (s := s) (r := q)
  have hN := fun m => ref_NRead u.n04 q (by omega) j (by omega) m
  have f1 := u.n04.rread
  have p1 : Fn.f_haulageref04_Read.pure = true := rfl
  have hnl := nameLen_le q
  have hpl : placeOf10 s q + q.length = s.length := by unfold placeOf10; omega
  have hw : IntKind.i64.wrap ((placeOf10 s q : Int) + (nameLen q : Nat)) = ((placeOf10 s q + nameLen q : Nat) : Int) := by rw [wrap_i64 (by omega) (by omega)]; omega
  have hcut : (s.drop (placeOf10 s q)).take (nameLen q) = wordOf q := by rw [hdr]; rfl
  have hle2 : placeOf10 s q + nameLen q ≤ s.length := by omega
  unfold pB at *
  generalize placeOf10 s q = i at *
  generalize nameLen q = n at *
  have hi1 : ((i : Int)) ≤ s.length := by omega
  have hi2 : (i : Int) ≤ (i + n : Nat) := by omega
  have hi3 : ((i + n : Nat) : Int) ≤ s.length := by omega
  have hsub : i + n - i = n := by omega
  simp (maxSteps := 4000000) [Fn.f_haulageref10_P_peek, hB, hid, hself, hN, f1, p1, hdr, hw, hle, hle2, hi1, hi2, hi3, hsub, -Int.natCast_add]
  rw [← hcut, List.drop_take, hsub]
def PR.err {α : Type} : PR α → Int
  | .bad e _ => e
  | .ok _ _ => 0
def BlanksOk (E : Env) : Prop := ∀ {s r : List UInt8}, (s.length : Int) ≤ 1000000000 → r <:+ s → ∀ k, s.length + 4 ≤ k → ∀ (id : Nat) (m : Mem), m[id]? = some (pB s r 0) → denF E (k + 1) 242 [.ptr id 0] m = some (.ret (.tup []), m.set id (pB s (skipB r) 0))
theorem P_name (u : P10 E) (hn : E.fn 260 = some Fn.f_haulageref10_P_name) (bl : BlanksOk E) {s r : List UInt8} (hs : (s.length : Int) ≤ 1000000000) (hr : r <:+ s) (k : Nat) (hk : s.length + 9 ≤ k) (id : Nat) (m : Mem) (hm : m[id]? = some (pB s r 0)) :
    denF E (k + 1) 260 [.ptr id 0] m = some (.ret (.p (.str (wordOf (skipB r)))), m.set id (pB s (pName r).rest (pName r).err)) := by
  refine denF_wp_own hn rfl ?_
  obtain ⟨j, rfl⟩ : ∃ j, k = j + 1 := ⟨k - 1, by omega⟩
  obtain ⟨i, rfl⟩ : ∃ i, j = i + 1 := ⟨j - 1, by omega⟩
  have hid := own_id hm
  have hself : ∀ x : Blk, (m.set id x)[id]? = some x := fun x => List.getElem?_set_self hid
  have hset : ∀ x y : Blk, (m.set id x).set id y = m.set id y := fun x y => List.set_set ..
  have hB := bl hs hr i (by omega) id m hm
  have hP := P_peek u hs (suf_skip hr) (i + 1) (by omega) id m hid hB
  have hwl := word_len (skipB r)
  have hpl := place_drop (suf_skip hr) hwl
  have hle := place_le (s := s) (r := skipB r)
  have hlen := suf_len (suf_skip hr)
  have hR := fun m => ref_NRight u (wordOf (skipB r)) (by omega) (i + 1) (by omega) m
  have hw : IntKind.i64.wrap ((placeOf10 s (skipB r) : Int) + (wordOf (skipB r)).length) = ((placeOf10 s ((skipB r).drop (wordOf (skipB r)).length) : Nat) : Int) := by rw [wrap_i64 (by omega) (by omega), hpl]; omega
  have hbad := fun (e : Int) => P_bad0 u (s := s) (r := skipB r) e (i + 1) id (m.set id (pB s (skipB r) 0)) (hself _)
  unfold pName
  generalize wordOf (skipB r) = w at *
  by_cases h : w = []
  · subst h
    unfold pB at *
    simp [Fn.f_haulageref10_P_name, hP, hid, hself, hset, hbad, PR.err, PR.rest]
  · have hb : (w == []) = false := by simpa using h
    rw [if_neg h]
    cases hr : rightN w with
    | false => rw [hr] at hR; unfold pB at *; simp [Fn.f_haulageref10_P_name, hP, hb, hR, hid, hself, hset, hbad, PR.err, PR.rest]
    | true => rw [hr] at hR; unfold pB at *; simp [Fn.f_haulageref10_P_name, hP, hb, hR, hid, hself, hset, hw, PR.err, PR.rest]
end Hx

namespace Hx
open Go
set_option linter.unusedSimpArgs false
set_option linter.unusedVariables false
set_option maxHeartbeats 8000000
set_option maxRecDepth 20000
variable {E : Env}
attribute [-simp] List.getD_eq_getElem?_getD getElem?_pos
theorem skipB_skip (r : List UInt8) : skipB (skipB r) = skipB r := by
  induction r with
  | nil => rfl
  | cons c r ih => rw [skipB_cons]; cases h : isBl c <;> simp [h, ih, skipB_cons]
theorem P_wantW (u : P10 E) (hn : E.fn 262 = some Fn.f_haulageref10_P_want) (bl : BlanksOk E) {s r : List UInt8} (hs : (s.length : Int) ≤ 1000000000) (hr : r <:+ s) (w : List UInt8) (h1 : w ≠ [40]) (h2 : w ≠ [41]) (h3 : w ≠ [44]) (k : Nat) (hk : s.length + 9 ≤ k) (id : Nat) (m : Mem) (hm : m[id]? = some (pB s r 0)) :
    denF E (k + 1) 262 [.ptr id 0, .p (.str w)] m = some (.ret (.tup []), m.set id (pB s (pWant w r).rest (pWant w r).err)) := by
  refine denF_wp_own hn rfl ?_
  obtain ⟨j, rfl⟩ : ∃ j, k = j + 1 := ⟨k - 1, by omega⟩
  obtain ⟨i, rfl⟩ : ∃ i, j = i + 1 := ⟨j - 1, by omega⟩
  have hid := own_id hm
  have hself : ∀ x : Blk, (m.set id x)[id]? = some x := fun x => List.getElem?_set_self hid
  have hset : ∀ x y : Blk, (m.set id x).set id y = m.set id y := fun x y => List.set_set ..
  have hB := bl hs hr (i + 1) (by omega) id m hm
  have hdw := skipB_skip r
  have hB2 := bl hs (suf_skip hr) i (by omega) id (m.set id (pB s (skipB r) 0)) (hself _)
  rw [hdw] at hB2
  have hP := P_peek u hs (suf_skip hr) (i + 1) (by omega) id (m.set id (pB s (skipB r) 0)) (by rw [List.length_set]; exact hid) hB2
  rw [hset] at hP
  have hwl := word_len (skipB r)
  have hpl := place_drop (suf_skip hr) hwl
  have hle := place_le (s := s) (r := skipB r)
  have hlen := suf_len (suf_skip hr)
  have hbad := fun (e : Int) => P_bad0 u (s := s) (r := skipB r) e (i + 1) id (m.set id (pB s (skipB r) 0)) (hself _)
  have b1 : (w == [40]) = false := by simpa using h1
  have b2 : (w == [41]) = false := by simpa using h2
  have b3 : (w == [44]) = false := by simpa using h3
  unfold pWant
  by_cases h : wordOf (skipB r) = w
  · rw [if_pos h]
    have hw : IntKind.i64.wrap ((placeOf10 s (skipB r) : Int) + (wordOf (skipB r)).length) = ((placeOf10 s ((skipB r).drop (wordOf (skipB r)).length) : Nat) : Int) := by rw [wrap_i64 (by omega) (by omega), hpl]; omega
    rw [h] at hP hw
    unfold pB at *
    simp [Fn.f_haulageref10_P_want, hB, hP, b1, b2, b3, hid, hself, hset, hw, PR.err, PR.rest, bne]
  · rw [if_neg h]
    have hb : (wordOf (skipB r) == w) = false := by simpa using h
    unfold pB at *
    simp [Fn.f_haulageref10_P_want, hB, hP, b1, b2, b3, hb, hbad, hid, hself, hset, PR.err, PR.rest, bne]
end Hx

namespace Hx
open Go
set_option linter.unusedSimpArgs false
set_option linter.unusedVariables false
set_option maxHeartbeats 8000000
set_option maxRecDepth 20000
variable {E : Env}
attribute [-simp] List.getD_eq_getElem?_getD getElem?_pos
theorem P_wantS (u : P10 E) (hn : E.fn 262 = some Fn.f_haulageref10_P_want) (bl : BlanksOk E) {s r : List UInt8} (hs : (s.length : Int) ≤ 1000000000) (hr : r <:+ s) (c : UInt8) (hc : c = 40 ∨ c = 41 ∨ c = 44) (k : Nat) (hk : s.length + 9 ≤ k) (id : Nat) (m : Mem) (hm : m[id]? = some (pB s r 0)) :
    denF E (k + 1) 262 [.ptr id 0, .p (.str [c])] m = some (.ret (.tup []), m.set id (pB s (pWantS c r).rest (pWantS c r).err)) := by
  refine denF_wp_own hn rfl ?_
  obtain ⟨j, rfl⟩ : ∃ j, k = j + 1 := ⟨k - 1, by omega⟩
  have hid := own_id hm
  have hself : ∀ x : Blk, (m.set id x)[id]? = some x := fun x => List.getElem?_set_self hid
  have hset : ∀ x y : Blk, (m.set id x).set id y = m.set id y := fun x y => List.set_set ..
  have hB := bl hs hr j (by omega) id m hm
  have hle := place_le (s := s) (r := skipB r)
  have hlen := suf_len (suf_skip hr)
  have hbad := fun (e : Int) => P_bad0 u (s := s) (r := skipB r) e j id (m.set id (pB s (skipB r) 0)) (hself _)
  have hdr := drop_suf (suf_skip hr)
  have hsuf := suf_skip hr
  have hpl0 : placeOf10 s (skipB r) + (skipB r).length = s.length := by unfold placeOf10; omega
  unfold pWantS
  cases hq : skipB r with
  | nil =>
    rw [hq] at hB hbad hpl0
    have hge : ¬ ((placeOf10 s ([] : List UInt8) : Nat) : Int) < s.length := by simp only [List.length_nil] at hpl0; omega
    have hge' : (s.length : Int) ≤ ((placeOf10 s ([] : List UInt8) : Nat) : Int) := by simp only [List.length_nil] at hpl0; omega
    unfold pB at *
    rcases hc with rfl | rfl | rfl <;> simp (maxSteps := 4000000) [Fn.f_haulageref10_P_want, hB, hbad, hid, hself, hset, hge, hge', PR.err, PR.rest, bne]
  | cons b q =>
    rw [hq] at hB hbad hpl0 hdr hsuf
    have hlt : ((placeOf10 s (b :: q) : Nat) : Int) < s.length := by simp only [List.length_cons] at hpl0; omega
    have hlt' : ¬ (s.length : Int) ≤ ((placeOf10 s (b :: q) : Nat) : Int) := by omega
    have hlt2 : placeOf10 s (b :: q) + 1 ≤ s.length := by omega
    have hpq : placeOf10 s q = placeOf10 s (b :: q) + 1 := place_drop hsuf (n := 1) (by simp)
    have hw : IntKind.i64.wrap ((placeOf10 s (b :: q) : Int) + 1) = ((placeOf10 s (b :: q) + 1 : Nat) : Int) := by rw [wrap_i64 (by omega) (by omega)]; omega
    have hle' : placeOf10 s (b :: q) ≤ s.length := by omega
    unfold pB at *
    obtain ⟨i, hgi⟩ : ∃ i, placeOf10 s (b :: q) = i := ⟨_, rfl⟩
    rw [hgi] at hB hdr hpl0 hlt hlt' hlt2 hpq hw hle'
    simp only [hgi] at hbad
    have hcut : (s.take (i + 1)).drop i = [b] := by rw [List.drop_take, hdr]; simp
    by_cases h : b = c
    · subst h
      rcases hc with rfl | rfl | rfl <;> simp (maxSteps := 4000000) [Fn.f_haulageref10_P_want, hB, hcut, hpq, hgi, hid, hself, hset, hlt, hlt', hlt2, hle', hw, PR.err, PR.rest, bne, -Int.natCast_add]
    · have hne : ((b : UInt8) == c) = false := by simpa using h
      rcases hc with rfl | rfl | rfl <;> simp (maxSteps := 4000000) [Fn.f_haulageref10_P_want, hB, hcut, hbad, hgi, hid, hself, hset, hlt, hlt', hlt2, hle', hw, h, hne, PR.err, PR.rest, bne, -Int.natCast_add]
end Hx
