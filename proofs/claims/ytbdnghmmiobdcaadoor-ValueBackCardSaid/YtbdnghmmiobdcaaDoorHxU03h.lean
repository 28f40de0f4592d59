/-
  HxU03h: the signs of a text, the program's and the document's.
-/
import Derived.Test.YtbdnghmmiobdcaaDoorHxU03g
namespace Hx
open Go
set_option linter.unusedSimpArgs false
set_option maxHeartbeats 1000000
variable {E : Env}
attribute [-simp] List.getD_eq_getElem?_getD getElem?_pos
def sgs (f : List UInt8 → Option (Int × Int)) : Nat → List UInt8 → Option (List Int)
  | _, [] => some []
  | 0, _ :: _ => none
  | k + 1, c :: r => match f (c :: r) with
    | none => none
    | some p => match sgs f k ((c :: r).drop p.2.toNat) with
      | none => none
      | some l => some (p.1 :: l)
def signs (s : List UInt8) : Option (List Int) := sgs readU s.length s
theorem sgs_more {f : List UInt8 → Option (Int × Int)} (hf : ∀ s p, f s = some p → 1 ≤ p.2 ∧ p.2 ≤ s.length) : ∀ (k k' : Nat) (s : List UInt8), s.length ≤ k → s.length ≤ k' → sgs f k s = sgs f k' s
  | k, k', [], _, _ => by cases k <;> cases k' <;> rfl
  | 0, _, _ :: _, h, _ => by simp at h
  | _, 0, _ :: _, _, h => by simp at h
  | k + 1, k' + 1, c :: r, h, h' => by
    simp only [sgs]
    cases hr : f (c :: r) with
    | none => rfl
    | some p =>
      obtain ⟨z1, z2⟩ := hf _ _ hr
      have hl : ((c :: r).drop p.2.toNat).length ≤ r.length := by
        rw [List.length_drop]; simp only [List.length_cons]; omega
      simp only [List.length_cons] at h h'
      simp only [sgs_more hf k k' ((c :: r).drop p.2.toNat) (by omega) (by omega)]
theorem sgs_step {f : List UInt8 → Option (Int × Int)} (hf : ∀ s p, f s = some p → 1 ≤ p.2 ∧ p.2 ≤ s.length) {s : List UInt8} (h : s ≠ []) : sgs f s.length s = match f s with
    | none => none
    | some p => match sgs f (s.drop p.2.toNat).length (s.drop p.2.toNat) with
      | none => none
      | some l => some (p.1 :: l) := by
  cases s with
  | nil => exact absurd rfl h
  | cons c r =>
    simp only [List.length_cons, sgs]
    cases hr : f (c :: r) with
    | none => rfl
    | some p =>
      obtain ⟨z1, z2⟩ := hf _ _ hr
      have hl : ((c :: r).drop p.2.toNat).length ≤ r.length := by
        rw [List.length_drop]; simp only [List.length_cons]; omega
      simp only [sgs_more hf r.length _ ((c :: r).drop p.2.toNat) hl (Nat.le_refl _)]
theorem signs_nil : signs [] = some [] := rfl
theorem signs_step {s : List UInt8} (h : s ≠ []) : signs s = match readU s with
    | none => none
    | some p => match signs (s.drop p.2.toNat) with
      | none => none
      | some l => some (p.1 :: l) :=
  sgs_step (fun s p hp => ⟨(readU_size (n := p.1) (size := p.2) hp).1, (readU_size (n := p.1) (size := p.2) hp).2.1⟩) h
/-- So far: these signs, then what stands from there on. -/
def SoFar (s : List UInt8) (at' : Nat) (acc : List Int) : Prop := at' ≤ s.length ∧ acc.length ≤ at' ∧ signs s = (signs (s.drop at')).map (acc ++ ·)
theorem soFar_0 (s : List UInt8) : SoFar s 0 [] := ⟨Nat.zero_le _, Nat.le_refl _, by simp⟩
theorem soFar_next {s : List UInt8} {at' : Nat} {acc : List Int} {n size : Int} (h : SoFar s at' acc) (ha : at' < s.length) (hr : readU (s.drop at') = some (n, size)) : SoFar s (at' + size.toNat) (acc ++ [n]) := by
  obtain ⟨h1, h2, h3⟩ := h
  obtain ⟨z1, z2, _⟩ := readU_size hr
  rw [List.length_drop] at z2
  refine ⟨by omega, by simp only [List.length_append, List.length_cons, List.length_nil]; omega, ?_⟩
  rw [h3, signs_step (s := s.drop at') (by intro e; have := congrArg List.length e; simp at this; omega), hr]
  simp only [List.drop_drop]
  cases signs (s.drop (at' + size.toNat)) <;> simp
theorem soFar_bad {s : List UInt8} {at' : Nat} {acc : List Int} (h : SoFar s at' acc) (ha : at' < s.length) (hr : readU (s.drop at') = none) : signs s = none := by
  rw [h.2.2, signs_step (s := s.drop at') (by intro e; have := congrArg List.length e; simp at this; omega), hr]
  rfl
theorem soFar_end {s : List UInt8} {acc : List Int} (h : SoFar s s.length acc) : signs s = some acc := by
  rw [h.2.2, List.drop_length, signs_nil]; simp
def countOf (s : List UInt8) : Int := match signs s with | none => -1 | some l => l.length
theorem utf_Count1 (u : R03 E) (k : Nat) (a n : AV) (c : Int) (h0 : 0 ≤ c) (h1 : c ≤ 9223372036854775800) : denF E (k + 1) 23 [a, n, .ptr 0 0] [.cells [.p (.int .i64 c)]] = some (.ret (.tup []), [.cells [.p (.int .i64 (c + 1))]]) := by
  refine denF_wp_own u.count1 rfl ?_
  have w : IntKind.i64.wrap (c + 1) = c + 1 := wrap_i64 (by omega) (by omega)
  simp [Fn.f_utf_Count_1, w]
theorem utf_Count (u : R03 E) (s : List UInt8) (hs : (s.length : Int) ≤ 1000000000000) (k : Nat) (hk : s.length + 8 ≤ k) (m : Mem) : denF E (k + 1) 12 [.p (.str s)] m = some (.ret (.p (.int .i64 (countOf s))), m) := by
  obtain ⟨k, rfl⟩ : ∃ j, k = j + 1 := ⟨k - 1, by omega⟩
  refine denF_wp u.count rfl (args' := [.p (.str s)]) rfl ?_
  obtain ⟨b, m', hw, hb⟩ := utf_walk u s (by omega) 23 [.ptr 0 0] k (by omega) (fun at' m => ∃ acc, SoFar s at' acc ∧ m = [.cells [.p (.int .i64 acc.length)]])
    (by
      rintro at' n size m ha ⟨acc, hf, rfl⟩ hr
      have := hf.1
      have := hf.2.1
      obtain ⟨k, rfl⟩ : ∃ j, k = j + 1 := ⟨k - 1, by omega⟩
      refine ⟨_, utf_Count1 u k _ _ _ (by omega) (by omega), acc ++ [n], soFar_next hf ha hr, by simp⟩)
    [.cells [.p (.int .i64 0)]] ⟨[], soFar_0 s, rfl⟩
  rcases hb with ⟨rfl, acc, hf, rfl⟩ | ⟨rfl, at', ha, hr, acc, hf, rfl⟩
  · simp [Fn.f_utf_Count, hw, countOf, soFar_end hf]
  · simp [Fn.f_utf_Count, hw, countOf, soFar_bad hf ha hr]
theorem utf_Right (u : R03 E) (s : List UInt8) (hs : (s.length : Int) ≤ 1000000000000) (k : Nat) (hk : s.length + 9 ≤ k) (m : Mem) : denF E (k + 1) 11 [.p (.str s)] m = some (.ret (.p (.bool (signs s).isSome)), m) := by
  obtain ⟨k, rfl⟩ : ∃ j, k = j + 1 := ⟨k - 1, by omega⟩
  refine denF_wp u.right rfl (args' := [.p (.str s)]) rfl ?_
  have hC := fun m => utf_Count u s hs k (by omega) m
  cases h : signs s with
  | none => simp [Fn.f_utf_Right, hC, countOf, h]
  | some l => simp [Fn.f_utf_Right, hC, countOf, h]
/-! ### slices that grow -/
def Grow (n : Nat) (rows : List (List PV)) (ov : AV) (m : Mem) : Prop := (rows = [] ∧ ov = .p .nils) ∨ (rows ≠ [] ∧ ∃ t, ov = .tv n rows t ∧ m[t]? = some (.tok n rows.length))
def slP (n : Nat) (rows : List (List PV)) : PV := match rows with | [] => .nils | _ => .vals n rows
def rowI (x : Int) : List PV := [.int .i64 x]
theorem get_app {m : Mem} {t : Nat} {b : Blk} (h : m[t]? = some b) (l : Mem) : (m ++ l)[t]? = some b := by
  have : t < m.length := by
    rcases Nat.lt_or_ge t m.length with h' | h'
    · exact h'
    · rw [List.getElem?_eq_none h'] at h; cases h
  rw [List.getElem?_append_left this, h]
theorem get_set {m : Mem} {t : Nat} {b : Blk} (h : m[t]? = some b) (x : Blk) : (m.set t x)[t]? = some x := by
  have : t < m.length := by
    rcases Nat.lt_or_ge t m.length with h' | h'
    · exact h'
    · rw [List.getElem?_eq_none h'] at h; cases h
  exact List.getElem?_set_self this
theorem get_new {m : Mem} {x : Blk} : (m ++ [x])[m.length]? = some x := by
  rw [List.getElem?_append_right (Nat.le_refl _), Nat.sub_self]; rfl
end Hx
