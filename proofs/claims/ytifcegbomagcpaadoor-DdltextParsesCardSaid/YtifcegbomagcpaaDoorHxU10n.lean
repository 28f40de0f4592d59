/-
  HxU10n: the program's reader of changes: types.
-/
import Derived.Test.YtifcegbomagcpaaDoorHxU10c
import Derived.Test.YtifcegbomagcpaaDoorHxU06i
namespace Hx
open Go
set_option linter.unusedSimpArgs false
set_option linter.unusedVariables false
set_option maxHeartbeats 4000000
set_option maxRecDepth 20000
variable {E : Env}
attribute [-simp] List.getD_eq_getElem?_getD getElem?_pos
structure P10 (E : Env) : Prop where
  n04 : N04 E
  blanks : E.fn 242 = some Fn.f_haulageref10_P_blanks
  bad : E.fn 243 = some Fn.f_haulageref10_P_bad
  peek : E.fn 258 = some Fn.f_haulageref10_P_peek
  nright : E.fn 188 = some Fn.f_haulageref04_Right
def pB (s r : List UInt8) (e : Int) : Blk := .cells [.p (.str s), .p (.int .i64 (placeOf10 s r)), .p (.int .i64 e)]
def pCells (s : List UInt8) (i : Nat) : Blk := .cells [.p (.str s), .p (.int .i64 i), .p (.int .i64 0)]
theorem P_bad0 (u : P10 E) {s r : List UInt8} (e : Int) (k : Nat) (id : Nat) (m : Mem) (hm : m[id]? = some (pB s r 0)) :
    denF E (k + 1) 243 [.ptr id 0, .p (.int .i64 e)] m = some (.ret (.tup []), m.set id (pB s r e)) := by
  refine denF_wp_own u.bad rfl ?_
  have hid := own_id hm
  unfold pB at *
  simp [Fn.f_haulageref10_P_bad, hm, hid]
theorem ref_NRightN (n04 : N04 E) (nright : E.fn 188 = some Fn.f_haulageref04_Right) (w : List UInt8) (hw : (w.length : Int) ≤ 1000000000) (k : Nat) (hk : w.length + 5 ≤ k) (m : Mem) :
    denF E (k + 1) 188 [.p (.str w)] m = some (.ret (.p (.bool (rightN w))), m) := by
  refine denF_wp nright rfl (args' := [.p (.str w)]) rfl ?_
  obtain ⟨j, rfl⟩ : ∃ j, k = j + 1 := ⟨k - 1, by omega⟩
  have hN := fun m => ref_NRead n04 w (by omega) j (by omega) m
  unfold rightN
  cases w with
  | nil => simp [Fn.f_haulageref04_Right]
  | cons c w =>
    have h0 : (0 : Int) < ((c :: w).length : Int) := by simp only [List.length_cons]; omega
    by_cases h : (c :: w).length ≤ 16
    · have h2 : ((nameLen (c :: w) : Int) == ((c :: w).length : Int)) = decide (nameLen (c :: w) = (c :: w).length) := by
        by_cases h3 : nameLen (c :: w) = (c :: w).length
        · rw [h3]; simp
        · rw [decide_eq_false h3]; simpa using (by omega : ¬ ((nameLen (c :: w) : Int) = ((c :: w).length : Int)))
      generalize hq : c :: w = q at *
      have he : q.isEmpty = false := by subst hq; rfl
      have h1' : ((q.length : Int) ≤ 16) := by omega
      have h0' : 0 < q.length := by omega
      simp [Fn.f_haulageref04_Right, hN, h0, h0', he, h, h1', h2]
    · generalize hq : c :: w = q at *
      have he : q.isEmpty = false := by subst hq; rfl
      have h1' : ¬ ((q.length : Int) ≤ 16) := by omega
      have h0' : 0 < q.length := by omega
      simp [Fn.f_haulageref04_Right, hN, h0, h0', he, h, h1']
theorem ref_NRight (u : P10 E) (w : List UInt8) (hw : (w.length : Int) ≤ 1000000000) (k : Nat) (hk : w.length + 5 ≤ k) (m : Mem) :
    denF E (k + 1) 188 [.p (.str w)] m = some (.ret (.p (.bool (rightN w))), m) := ref_NRightN u.n04 u.nright w hw k hk m
end Hx

namespace Hx
open Go
set_option linter.unusedSimpArgs false
set_option linter.unusedVariables false
set_option maxHeartbeats 8000000
set_option maxRecDepth 20000
variable {E : Env}
attribute [-simp] List.getD_eq_getElem?_getD getElem?_pos
theorem P_peek (u : P10 E) {s q : List UInt8} {e : Int} (hs : (s.length : Int) ≤ 1000000000) (hq : q <:+ s) (k : Nat) (hk : s.length + 6 ≤ k) (id : Nat) (m : Mem) (hid : id < m.length)
    (hB : denF E k 242 [.ptr id 0] m = some (.ret (.tup []), m.set id (pB s q e))) :
    denF E (k + 1) 258 [.ptr id 0] m = some (.ret (.p (.str (wordOf q))), m.set id (pB s q e)) := by
  refine denF_wp_own u.peek rfl ?_
  obtain ⟨j, rfl⟩ : ∃ j, k = j + 1 := ⟨k - 1, by omega⟩
  have hself : ∀ x : Blk, (m.set id x)[id]? = some x := fun x => List.getElem?_set_self hid
  have hlen := suf_len hq
  have hdr := drop_suf hq
  have hle := place_le (s := s) (r := q)
  have hN := fun m => ref_NRead u.n04 q (by omega) j (by omega) m
  have f1 := u.n04.rread
  have p1 : Fn.f_haulageref04_Read.pure = true := rfl
  have hnl := nameLen_le q
  have hpl : placeOf10 s q + q.length = s.length := by unfold placeOf10; omega
  have hw : IntKind.i64.wrap ((placeOf10 s q : Int) + (nameLen q : Nat)) = ((placeOf10 s q + nameLen q : Nat) : Int) := by rw [wrap_i64 (by omega) (by omega)]; omega
  have hcut : (s.drop (placeOf10 s q)).take (nameLen q) = wordOf q := by rw [hdr]; rfl
  have hle2 : placeOf10 s q + nameLen q ≤ s.length := by omega
  unfold pB at *
  generalize placeOf10 s q = i at *
  generalize nameLen q = n at *
  have hi1 : ((i : Int)) ≤ s.length := by omega
  have hi2 : (i : Int) ≤ (i + n : Nat) := by omega
  have hi3 : ((i + n : Nat) : Int) ≤ s.length := by omega
  have hsub : i + n - i = n := by omega
  simp (maxSteps := 4000000) [Fn.f_haulageref10_P_peek, hB, hid, hself, hN, f1, p1, hdr, hw, hle, hle2, hi1, hi2, hi3, hsub, -Int.natCast_add]
  rw [← hcut, List.drop_take, hsub]
def PR.err {α : Type} : PR α → Int
  | .bad e _ => e
  | .ok _ _ => 0
def BlanksOk (E : Env) : Prop := ∀ {s r : List UInt8}, (s.length : Int) ≤ 1000000000 → r <:+ s → ∀ k, s.length + 4 ≤ k → ∀ (id : Nat) (m : Mem), m[id]? = some (pB s r 0) → denF E (k + 1) 242 [.ptr id 0] m = some (.ret (.tup []), m.set id (pB s (skipB r) 0))
theorem P_name (u : P10 E) (hn : E.fn 260 = some Fn.f_haulageref10_P_name) (bl : BlanksOk E) {s r : List UInt8} (hs : (s.length : Int) ≤ 1000000000) (hr : r <:+ s) (k : Nat) (hk : s.length + 9 ≤ k) (id : Nat) (m : Mem) (hm : m[id]? = some (pB s r 0)) :
    denF E (k + 1) 260 [.ptr id 0] m = some (.ret (.p (.str (wordOf (skipB r)))), m.set id (pB s (pName r).rest (pName r).err)) := by
  refine denF_wp_own hn rfl ?_
  obtain ⟨j, rfl⟩ : ∃ j, k = j + 1 := ⟨k - 1, by omega⟩
  obtain ⟨i, rfl⟩ : ∃ i, j = i + 1 := ⟨j - 1, by omega⟩
  have hid := own_id hm
  have hself : ∀ x : Blk, (m.set id x)[id]? = some x := fun x => List.getElem?_set_self hid
  have hset : ∀ x y : Blk, (m.set id x).set id y = m.set id y := fun x y => List.set_set ..
  have hB := bl hs hr i (by omega) id m hm
  have hP := P_peek u hs (suf_skip hr) (i + 1) (by omega) id m hid hB
  have hwl := word_len (skipB r)
  have hpl := place_drop (suf_skip hr) hwl
  have hle := place_le (s := s) (r := skipB r)
  have hlen := suf_len (suf_skip hr)
  have hR := fun m => ref_NRight u (wordOf (skipB r)) (by omega) (i + 1) (by omega) m
  have hw : IntKind.i64.wrap ((placeOf10 s (skipB r) : Int) + (wordOf (skipB r)).length) = ((placeOf10 s ((skipB r).drop (wordOf (skipB r)).length) : Nat) : Int) := by rw [wrap_i64 (by omega) (by omega), hpl]; omega
  have hbad := fun (e : Int) => P_bad0 u (s := s) (r := skipB r) e (i + 1) id (m.set id (pB s (skipB r) 0)) (hself _)
  unfold pName
  generalize wordOf (skipB r) = w at *
  by_cases h : w = []
  · subst h
    unfold pB at *
    simp [Fn.f_haulageref10_P_name, hP, hid, hself, hset, hbad, PR.err, PR.rest]
  · have hb : (w == []) = false := by simpa using h
    rw [if_neg h]
    cases hr : rightN w with
    | false => rw [hr] at hR; unfold pB at *; simp [Fn.f_haulageref10_P_name, hP, hb, hR, hid, hself, hset, hbad, PR.err, PR.rest]
    | true => rw [hr] at hR; unfold pB at *; simp [Fn.f_haulageref10_P_name, hP, hb, hR, hid, hself, hset, hw, PR.err, PR.rest]
end Hx

namespace Hx
open Go
set_option linter.unusedSimpArgs false
set_option linter.unusedVariables false
set_option maxHeartbeats 8000000
set_option maxRecDepth 20000
variable {E : Env}
attribute [-simp] List.getD_eq_getElem?_getD getElem?_pos
theorem skipB_skip (r : List UInt8) : skipB (skipB r) = skipB r := by
  induction r with
  | nil => rfl
  | cons c r ih => rw [skipB_cons]; cases h : isBl c <;> simp [h, ih, skipB_cons]
theorem P_wantW (u : P10 E) (hn : E.fn 262 = some Fn.f_haulageref10_P_want) (bl : BlanksOk E) {s r : List UInt8} (hs : (s.length : Int) ≤ 1000000000) (hr : r <:+ s) (w : List UInt8) (h1 : w ≠ [40]) (h2 : w ≠ [41]) (h3 : w ≠ [44]) (k : Nat) (hk : s.length + 9 ≤ k) (id : Nat) (m : Mem) (hm : m[id]? = some (pB s r 0)) :
    denF E (k + 1) 262 [.ptr id 0, .p (.str w)] m = some (.ret (.tup []), m.set id (pB s (pWant w r).rest (pWant w r).err)) := by
  refine denF_wp_own hn rfl ?_
  obtain ⟨j, rfl⟩ : ∃ j, k = j + 1 := ⟨k - 1, by omega⟩
  obtain ⟨i, rfl⟩ : ∃ i, j = i + 1 := ⟨j - 1, by omega⟩
  have hid := own_id hm
  have hself : ∀ x : Blk, (m.set id x)[id]? = some x := fun x => List.getElem?_set_self hid
  have hset : ∀ x y : Blk, (m.set id x).set id y = m.set id y := fun x y => List.set_set ..
  have hB := bl hs hr (i + 1) (by omega) id m hm
  have hdw := skipB_skip r
  have hB2 := bl hs (suf_skip hr) i (by omega) id (m.set id (pB s (skipB r) 0)) (hself _)
  rw [hdw] at hB2
  have hP := P_peek u hs (suf_skip hr) (i + 1) (by omega) id (m.set id (pB s (skipB r) 0)) (by rw [List.length_set]; exact hid) hB2
  rw [hset] at hP
  have hwl := word_len (skipB r)
  have hpl := place_drop (suf_skip hr) hwl
  have hle := place_le (s := s) (r := skipB r)
  have hlen := suf_len (suf_skip hr)
  have hbad := fun (e : Int) => P_bad0 u (s := s) (r := skipB r) e (i + 1) id (m.set id (pB s (skipB r) 0)) (hself _)
  have b1 : (w == [40]) = false := by simpa using h1
  have b2 : (w == [41]) = false := by simpa using h2
  have b3 : (w == [44]) = false := by simpa using h3
  unfold pWant
  by_cases h : wordOf (skipB r) = w
  · rw [if_pos h]
    have hw : IntKind.i64.wrap ((placeOf10 s (skipB r) : Int) + (wordOf (skipB r)).length) = ((placeOf10 s ((skipB r).drop (wordOf (skipB r)).length) : Nat) : Int) := by rw [wrap_i64 (by omega) (by omega), hpl]; omega
    rw [h] at hP hw
    unfold pB at *
    simp [Fn.f_haulageref10_P_want, hB, hP, b1, b2, b3, hid, hself, hset, hw, PR.err, PR.rest, bne]
  · rw [if_neg h]
    have hb : (wordOf (skipB r) == w) = false := by simpa using h
    unfold pB at *
    simp [Fn.f_haulageref10_P_want, hB, hP, b1, b2, b3, hb, hbad, hid, hself, hset, PR.err, PR.rest, bne]
end Hx

namespace Hx
open Go
set_option linter.unusedSimpArgs false
set_option linter.unusedVariables false
set_option maxHeartbeats 8000000
set_option maxRecDepth 20000
variable {E : Env}
attribute [-simp] List.getD_eq_getElem?_getD getElem?_pos
theorem P_wantS (u : P10 E) (hn : E.fn 262 = some Fn.f_haulageref10_P_want) (bl : BlanksOk E) {s r : List UInt8} (hs : (s.length : Int) ≤ 1000000000) (hr : r <:+ s) (c : UInt8) (hc : c = 40 ∨ c = 41 ∨ c = 44) (k : Nat) (hk : s.length + 9 ≤ k) (id : Nat) (m : Mem) (hm : m[id]? = some (pB s r 0)) :
    denF E (k + 1) 262 [.ptr id 0, .p (.str [c])] m = some (.ret (.tup []), m.set id (pB s (pWantS c r).rest (pWantS c r).err)) := by
  refine denF_wp_own hn rfl ?_
  obtain ⟨j, rfl⟩ : ∃ j, k = j + 1 := ⟨k - 1, by omega⟩
  have hid := own_id hm
  have hself : ∀ x : Blk, (m.set id x)[id]? = some x := fun x => List.getElem?_set_self hid
  have hset : ∀ x y : Blk, (m.set id x).set id y = m.set id y := fun x y => List.set_set ..
  have hB := bl hs hr j (by omega) id m hm
  have hle := place_le (s := s) (r := skipB r)
  have hlen := suf_len (suf_skip hr)
  have hbad := fun (e : Int) => P_bad0 u (s := s) (r := skipB r) e j id (m.set id (pB s (skipB r) 0)) (hself _)
  have hdr := drop_suf (suf_skip hr)
  have hsuf := suf_skip hr
  have hpl0 : placeOf10 s (skipB r) + (skipB r).length = s.length := by unfold placeOf10; omega
  unfold pWantS
  cases hq : skipB r with
  | nil =>
    rw [hq] at hB hbad hpl0
    have hge : ¬ ((placeOf10 s ([] : List UInt8) : Nat) : Int) < s.length := by simp only [List.length_nil] at hpl0; omega
    have hge' : (s.length : Int) ≤ ((placeOf10 s ([] : List UInt8) : Nat) : Int) := by simp only [List.length_nil] at hpl0; omega
    unfold pB at *
    rcases hc with rfl | rfl | rfl <;> simp (maxSteps := 4000000) [Fn.f_haulageref10_P_want, hB, hbad, hid, hself, hset, hge, hge', PR.err, PR.rest, bne]
  | cons b q =>
    rw [hq] at hB hbad hpl0 hdr hsuf
    have hlt : ((placeOf10 s (b :: q) : Nat) : Int) < s.length := by simp only [List.length_cons] at hpl0; omega
    have hlt' : ¬ (s.length : Int) ≤ ((placeOf10 s (b :: q) : Nat) : Int) := by omega
    have hlt2 : placeOf10 s (b :: q) + 1 ≤ s.length := by omega
    have hpq : placeOf10 s q = placeOf10 s (b :: q) + 1 := place_drop hsuf (n := 1) (by simp)
    have hw : IntKind.i64.wrap ((placeOf10 s (b :: q) : Int) + 1) = ((placeOf10 s (b :: q) + 1 : Nat) : Int) := by rw [wrap_i64 (by omega) (by omega)]; omega
    have hle' : placeOf10 s (b :: q) ≤ s.length := by omega
    unfold pB at *
    obtain ⟨i, hgi⟩ : ∃ i, placeOf10 s (b :: q) = i := ⟨_, rfl⟩
    rw [hgi] at hB hdr hpl0 hlt hlt' hlt2 hpq hw hle'
    simp only [hgi] at hbad
    have hcut : (s.take (i + 1)).drop i = [b] := by rw [List.drop_take, hdr]; simp
    by_cases h : b = c
    · subst h
      rcases hc with rfl | rfl | rfl <;> simp (maxSteps := 4000000) [Fn.f_haulageref10_P_want, hB, hcut, hpq, hgi, hid, hself, hset, hlt, hlt', hlt2, hle', hw, PR.err, PR.rest, bne, -Int.natCast_add]
    · have hne : ((b : UInt8) == c) = false := by simpa using h
      rcases hc with rfl | rfl | rfl <;> simp (maxSteps := 4000000) [Fn.f_haulageref10_P_want, hB, hcut, hbad, hgi, hid, hself, hset, hlt, hlt', hlt2, hle', hw, h, hne, PR.err, PR.rest, bne, -Int.natCast_add]
end Hx

namespace Hx
open Go
set_option linter.unusedSimpArgs false
set_option linter.unusedVariables false
set_option maxHeartbeats 8000000
set_option maxRecDepth 20000
variable {E : Env}
attribute [-simp] List.getD_eq_getElem?_getD getElem?_pos
theorem P_blanks' (h : E.fn 242 = some Fn.f_haulageref10_P_blanks) (s : List UInt8) (hs : (s.length : Int) ≤ 1000000000) (i : Nat) (hi : i ≤ s.length) (k : Nat) (hk : s.length + 4 ≤ k) (id : Nat) (m : Mem) (hm : m[id]? = some (pCells s i)) :
    denF E (k + 1) 242 [.ptr id 0] m = some (.ret (.tup []), m.set id (pCells s (placeOf10 s (skipB (s.drop i))))) := by
  refine denF_wp_own h rfl ?_
  have hid := own_id hm
  have hself : ∀ x : Blk, (m.set id x)[id]? = some x := fun x => List.getElem?_set_self hid
  have hset : ∀ x y : Blk, (m.set id x).set id y = m.set id y := fun x y => List.set_set ..
  have hm0 : m = m.set id (pCells s i) := by
    obtain ⟨h1, h2⟩ := List.getElem?_eq_some_iff.1 hm
    rw [← h2, List.set_getElem_self]
  simp [Fn.f_haulageref10_P_blanks]
  refine (loop_wp (α := Nat) (I := fun j st => j ≤ s.length ∧ skipB (s.drop j) = skipB (s.drop i) ∧ Live Fn.f_haulageref10_P_blanks_k0 (Fn.f_haulageref10_P_blanks_s0 (.ptr id 0)) (m.set id (pCells s j)) st) (meas := fun j => s.length - j)
    (Q := fun e st => e = .exit 0 ∧ st.ds = [] ∧ st.m = m.set id (pCells s (placeOf10 s (skipB (s.drop i))))) ?_ k i _ ⟨hi, rfl, rfl, rfl, hm0, rfl⟩ (by omega)).mono ?_
  · rintro j st ⟨hj, hsk, hlive⟩
    rw [loopF_live hlive]
    unfold pCells at *
    by_cases hlt : j < s.length
    · have hlt' : (j : Int) < s.length := by omega
      obtain ⟨c, hc⟩ : ∃ c, s[j]? = some c := ⟨_, List.getElem?_eq_getElem hlt⟩
      rw [drop_at hc, skipB_cons] at hsk
      have hw : IntKind.i64.wrap ((j : Int) + 1) = ((j + 1 : Nat) : Int) := by rw [wrap_i64 (by omega) (by omega)]; omega
      unfold isBl at hsk
      have hstop : c :: s.drop (j + 1) = skipB (s.drop i) → j = placeOf10 s (skipB (s.drop i)) := by
        intro h
        unfold placeOf10
        rw [← h, ← drop_at hc, List.length_drop]
        omega
      cases h32 : ((c.toNat : Int) == 32) with
      | true =>
        rw [h32] at hsk
        simp only [Bool.true_or, if_true] at hsk
        simp (maxSteps := 4000000) [Fn.f_haulageref10_P_blanks_b0, Fn.f_haulageref10_P_blanks_s0, hid, hself, hset, hlt, hlt', hc, h32, hw, -Int.natCast_add]
        exact ⟨j + 1, by omega, hlt, hsk, rfl, rfl, rfl, rfl⟩
      | false =>
        cases h9 : ((c.toNat : Int) == 9) with
        | true =>
          rw [h32, h9] at hsk
          simp only [Bool.true_or, Bool.or_true, if_true] at hsk
          simp (maxSteps := 4000000) [Fn.f_haulageref10_P_blanks_b0, Fn.f_haulageref10_P_blanks_s0, hid, hself, hset, hlt, hlt', hc, h32, h9, hw, -Int.natCast_add]
          exact ⟨j + 1, by omega, hlt, hsk, rfl, rfl, rfl, rfl⟩
        | false =>
          cases h10 : ((c.toNat : Int) == 10) with
          | true =>
            rw [h32, h9, h10] at hsk
            simp only [Bool.or_true, if_true] at hsk
            simp (maxSteps := 4000000) [Fn.f_haulageref10_P_blanks_b0, Fn.f_haulageref10_P_blanks_s0, hid, hself, hset, hlt, hlt', hc, h32, h9, h10, hw, -Int.natCast_add]
            exact ⟨j + 1, by omega, hlt, hsk, rfl, rfl, rfl, rfl⟩
          | false =>
            rw [h32, h9, h10] at hsk
            simp only [Bool.or_false, Bool.false_eq_true, if_false] at hsk
            have := hstop hsk
            simp (maxSteps := 4000000) [Fn.f_haulageref10_P_blanks_b0, Fn.f_haulageref10_P_blanks_s0, hid, hself, hset, hlt, hlt', hc, h32, h9, h10]
            rw [← this]
    · have hlt' : ¬ (j : Int) < s.length := by omega
      have hnil : s.drop j = [] := List.drop_eq_nil_of_le (by omega)
      rw [hnil] at hsk
      have : j = placeOf10 s (skipB (s.drop i)) := by
        unfold placeOf10
        rw [← hsk]
        simp [skipB]
        omega
      simp (maxSteps := 4000000) [Fn.f_haulageref10_P_blanks_b0, Fn.f_haulageref10_P_blanks_s0, hid, hself, hset, hlt, hlt']
      rw [← this]
  · rintro e st ⟨he, hds, hm⟩
    subst he
    simp [hds, hm]
end Hx

namespace Hx
open Go
variable {E : Env}
theorem blanks_ok (u : P10 E) : BlanksOk E := by
  intro s r hs hr k hk id m hm
  have := P_blanks' u.blanks s hs (placeOf10 s r) place_le k hk id m hm
  rw [drop_suf hr] at this
  exact this
end Hx

namespace Hx
open Go
set_option maxHeartbeats 2000000
def rdTy (s : List UInt8) : Int × Int × Int × Int := match readT s with
  | .tup [.p (.agg [.int _ k, .int _ m]), .p (.int _ z), .p (.int _ e)] => (k, m, z, e)
  | _ => (0, 0, 0, 0)
def pKind (r : List UInt8) : PR (Int × Int) :=
  if (rdTy (skipB r)).2.2.2 = 0 then .ok ((rdTy (skipB r)).1, (rdTy (skipB r)).2.1) ((skipB r).drop (rdTy (skipB r)).2.2.1.toNat) else .bad (rdTy (skipB r)).2.2.2 (skipB r)
theorem readT_far (s : List UInt8) : ∃ (k m : Int) (z : Nat) (e : Int), readT s = rT k m z e ∧ z ≤ s.length ∧ (e ≠ 0 → z = 0) := by
  have hn := nameLen_le s
  obtain ⟨v, e, z, hN, hz⟩ := numS_form (s.drop (nameLen s + 1))
  have e1 : nS (numS (s.drop (nameLen s + 1))) = z := by rw [hN]; rfl
  unfold readT
  rw [e1]
  split
  · exact ⟨_, _, nameLen s, 0, rfl, hn, fun h => absurd rfl h⟩
  split
  · exact ⟨0, 0, 0, 5, rfl, Nat.zero_le _, fun _ => rfl⟩
  split
  · exact ⟨0, 0, 0, _, rfl, Nat.zero_le _, fun _ => rfl⟩
  split
  · exact ⟨0, 0, 0, 5, rfl, Nat.zero_le _, fun _ => rfl⟩
  split
  · exact ⟨0, 0, 0, 10, rfl, Nat.zero_le _, fun _ => rfl⟩
  · rename_i h _
    have h1 : s[nameLen s + 1 + (z : Int).toNat]? = some 41 := by simpa using h
    obtain ⟨h2, _⟩ := List.getElem?_eq_some_iff.1 h1
    refine ⟨kindW (s.take (nameLen s)), nN (numS (s.drop (nameLen s + 1))), nameLen s + 1 + z + 1, 0, ?_, by omega, fun h => absurd rfl h⟩
    rw [show ((nameLen s + 1 + z + 1 : Nat) : Int) = (nameLen s : Int) + 1 + z + 1 from by omega]
theorem rdTy_of {s : List UInt8} {k m z e : Int} (h : readT s = rT k m z e) : rdTy s = (k, m, z, e) := by unfold rdTy; rw [h]; rfl
end Hx

namespace Hx
open Go
set_option linter.unusedSimpArgs false
set_option linter.unusedVariables false
set_option maxHeartbeats 8000000
set_option maxRecDepth 20000
variable {E : Env}
attribute [-simp] List.getD_eq_getElem?_getD getElem?_pos
def TyOk (E : Env) (f : Nat) : Prop := ∀ s : List UInt8, (s.length : Int) ≤ 1000000000 → ∀ k, s.length + 40 ≤ k → ∀ m, denF E (k + 1) f [.p (.str s)] m = some (.ret (readT s), m)
theorem app_at0 {m q : Mem} (h : q.length = m.length) (a : Blk) (l : Mem) : (q ++ a :: l)[m.length]? = some a := by
  rw [List.getElem?_append_right (by omega), h, Nat.sub_self]; rfl
theorem app_at1 {m q : Mem} (h : q.length = m.length) (a b : Blk) (l : Mem) : (q ++ a :: b :: l)[m.length + 1]? = some b := by
  rw [List.getElem?_append_right (by omega), h, Nat.add_sub_cancel_left]; rfl
theorem app_set0 {m q : Mem} (h : q.length = m.length) (a c : Blk) (l : Mem) : (q ++ a :: l).set m.length c = q ++ c :: l := by
  rw [List.set_append_right _ _ (by omega), h, Nat.sub_self]; rfl
theorem app_set1 {m q : Mem} (h : q.length = m.length) (a b c : Blk) (l : Mem) : (q ++ a :: b :: l).set (m.length + 1) c = q ++ a :: c :: l := by
  rw [List.set_append_right _ _ (by omega), h, Nat.add_sub_cancel_left]; rfl
theorem rd_kind (u : R10 E) (hn : E.fn 256 = some Fn.f_ddltext_reader_kind) (ty : TyOk E 89) {s r : List UInt8} (hs : (s.length : Int) ≤ 1000000000) (hr : r <:+ s) (k : Nat) (hk : s.length + 45 ≤ k) (id : Nat) (m : Mem) (hm : m[id]? = some (rdB s r)) :
    ∃ x y, denF E (k + 1) 256 [.ptr id 0] m = some ((pKind r).out (fun t => .p (.agg [.int .i64 t.1, .int .i64 t.2])), m.set id (rdB s (pKind r).rest) ++ [x, y]) := by
  have hid := own_id hm
  obtain ⟨j, rfl⟩ : ∃ j, k = j + 1 := ⟨k - 1, by omega⟩
  have hlen := suf_len (suf_skip hr)
  have hle := place_le (s := s) (r := skipB r)
  obtain ⟨kd, mx, z, e, hT, hz, hz0⟩ := readT_far (skipB r)
  have hT' := rdTy_of hT
  have hpl := place_drop (suf_skip hr) hz
  have hR := fun m => ty (skipB r) (by omega) j (by omega) m
  rw [hT] at hR
  refine ⟨.cells [.p (.int .i64 (if e = 0 then kd else 0)), .p (.int .i64 (if e = 0 then mx else 0))], .cells [.p (.int .i64 kd), .p (.int .i64 mx)], ?_⟩
  refine denF_wp_own hn rfl ?_
  have hL := fun m' hm' => rd_left' u hs hr j (by omega) id m' hm'
  have hid2 : id < (m ++ [Blk.cells [.p (.int .i64 0), .p (.int .i64 0)]]).length := by rw [List.length_append]; omega
  have hget : (m ++ [Blk.cells [.p (.int .i64 0), .p (.int .i64 0)]])[id]? = some (rdB s r) := by rw [List.getElem?_append_left hid]; exact hm
  have hL1 := hL _ hget
  have happ : ∀ (l : List Blk) (x : Blk), id < l.length → (m ++ l).set id x = m.set id x ++ l := fun l x _ => by rw [List.set_append_left _ _ hid]
  have hap1 : ∀ (l : List Blk) (x : Blk), (m ++ l).set id x = m.set id x ++ l := fun l x => by rw [List.set_append_left _ _ hid]
  have hap2 : ∀ (l : List Blk) (x y : Blk), (m.set id x ++ l).set id y = m.set id y ++ l := fun l x y => by rw [List.set_append_left _ _ (by rw [List.length_set]; exact hid), List.set_set]
  have hap3 : ∀ (l : List Blk) (x : Blk), (m.set id x ++ l)[id]? = some x := fun l x => by rw [List.getElem?_append_left (by rw [List.length_set]; exact hid)]; exact List.getElem?_set_self hid
  rw [hap1] at hL1
  have hB := fun m => rd_bad u j e m
  have hw : IntKind.i64.wrap ((placeOf10 s (skipB r) : Int) + z) = ((placeOf10 s ((skipB r).drop z) : Nat) : Int) := by rw [wrap_i64 (by omega) (by omega), hpl]; omega
  have hq : ∀ x : Blk, (m.set id x).length = m.length := fun x => List.length_set
  have g0 := fun (x a : Blk) (l : Mem) => app_at0 (hq x) a l
  have g1 := fun (x a b : Blk) (l : Mem) => app_at1 (hq x) a b l
  have s0 := fun (x a c : Blk) (l : Mem) => app_set0 (hq x) a c l
  have s1 := fun (x a b c : Blk) (l : Mem) => app_set1 (hq x) a b c l
  unfold pKind
  rw [hT']
  unfold rT tP at hR
  by_cases he : e = 0
  · subst he
    unfold rdB rdCells at *
    simp [Fn.f_ddltext_reader_kind, hL1, hR, hap1, hap2, hap3, g0, g1, s0, s1, hid, hw, PR.out, PR.rest, bne]
  · have hb : (e == 0) = false := by simpa using he
    simp [Fn.f_ddltext_reader_kind, hL1, hR, hB, hap1, hap2, hap3, g0, g1, s0, s1, hid, hb, he, PR.out, PR.rest, bne]
end Hx
