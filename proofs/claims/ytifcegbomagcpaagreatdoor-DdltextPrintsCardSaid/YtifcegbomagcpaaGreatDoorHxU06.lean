/-
  HxU06: the small functions of the chapters 05 and 06: which values and types are right, which of two types is as wide.
-/
import Derived.Test.YtifcegbomagcpaaGreatDoorHxU03g
import Derived.Test.YtifcegbomagcpaaGreatDoorHxFn06
import Derived.Test.YtifcegbomagcpaaGreatDoorHxU03c
namespace Hx
open Go
set_option linter.unusedSimpArgs false
set_option maxHeartbeats 1000000
variable {E : Env}
attribute [-simp] List.getD_eq_getElem?_getD getElem?_pos
def sgs (f : List UInt8 → Option (Int × Int)) : Nat → List UInt8 → Option (List Int)
  | _, [] => some []
  | 0, _ :: _ => none
  | k + 1, c :: r => match f (c :: r) with
    | none => none
    | some p => match sgs f k ((c :: r).drop p.2.toNat) with
      | none => none
      | some l => some (p.1 :: l)
def signs (s : List UInt8) : Option (List Int) := sgs readU s.length s
theorem sgs_more {f : List UInt8 → Option (Int × Int)} (hf : ∀ s p, f s = some p → 1 ≤ p.2 ∧ p.2 ≤ s.length) : ∀ (k k' : Nat) (s : List UInt8), s.length ≤ k → s.length ≤ k' → sgs f k s = sgs f k' s
  | k, k', [], _, _ => by cases k <;> cases k' <;> rfl
  | 0, _, _ :: _, h, _ => by simp at h
  | _, 0, _ :: _, _, h => by simp at h
  | k + 1, k' + 1, c :: r, h, h' => by
    simp only [sgs]
    cases hr : f (c :: r) with
    | none => rfl
    | some p =>
      obtain ⟨z1, z2⟩ := hf _ _ hr
      have hl : ((c :: r).drop p.2.toNat).length ≤ r.length := by
        rw [List.length_drop]; simp only [List.length_cons]; omega
      simp only [List.length_cons] at h h'
      simp only [sgs_more hf k k' ((c :: r).drop p.2.toNat) (by omega) (by omega)]
theorem sgs_step {f : List UInt8 → Option (Int × Int)} (hf : ∀ s p, f s = some p → 1 ≤ p.2 ∧ p.2 ≤ s.length) {s : List UInt8} (h : s ≠ []) : sgs f s.length s = match f s with
    | none => none
    | some p => match sgs f (s.drop p.2.toNat).length (s.drop p.2.toNat) with
      | none => none
      | some l => some (p.1 :: l) := by
  cases s with
  | nil => exact absurd rfl h
  | cons c r =>
    simp only [List.length_cons, sgs]
    cases hr : f (c :: r) with
    | none => rfl
    | some p =>
      obtain ⟨z1, z2⟩ := hf _ _ hr
      have hl : ((c :: r).drop p.2.toNat).length ≤ r.length := by
        rw [List.length_drop]; simp only [List.length_cons]; omega
      simp only [sgs_more hf r.length _ ((c :: r).drop p.2.toNat) hl (Nat.le_refl _)]
theorem signs_nil : signs [] = some [] := rfl
theorem signs_step {s : List UInt8} (h : s ≠ []) : signs s = match readU s with
    | none => none
    | some p => match signs (s.drop p.2.toNat) with
      | none => none
      | some l => some (p.1 :: l) :=
  sgs_step (fun s p hp => ⟨(readU_size (n := p.1) (size := p.2) hp).1, (readU_size (n := p.1) (size := p.2) hp).2.1⟩) h
def SoFar (s : List UInt8) (at' : Nat) (acc : List Int) : Prop := at' ≤ s.length ∧ acc.length ≤ at' ∧ signs s = (signs (s.drop at')).map (acc ++ ·)
theorem soFar_0 (s : List UInt8) : SoFar s 0 [] := ⟨Nat.zero_le _, Nat.le_refl _, by simp⟩
theorem soFar_next {s : List UInt8} {at' : Nat} {acc : List Int} {n size : Int} (h : SoFar s at' acc) (ha : at' < s.length) (hr : readU (s.drop at') = some (n, size)) : SoFar s (at' + size.toNat) (acc ++ [n]) := by
  obtain ⟨h1, h2, h3⟩ := h
  obtain ⟨z1, z2, _⟩ := readU_size hr
  rw [List.length_drop] at z2
  refine ⟨by omega, by simp only [List.length_append, List.length_cons, List.length_nil]; omega, ?_⟩
  rw [h3, signs_step (s := s.drop at') (by intro e; have := congrArg List.length e; simp at this; omega), hr]
  simp only [List.drop_drop]
  cases signs (s.drop (at' + size.toNat)) <;> simp
theorem soFar_bad {s : List UInt8} {at' : Nat} {acc : List Int} (h : SoFar s at' acc) (ha : at' < s.length) (hr : readU (s.drop at') = none) : signs s = none := by
  rw [h.2.2, signs_step (s := s.drop at') (by intro e; have := congrArg List.length e; simp at this; omega), hr]
  rfl
theorem soFar_end {s : List UInt8} {acc : List Int} (h : SoFar s s.length acc) : signs s = some acc := by
  rw [h.2.2, List.drop_length, signs_nil]; simp
def countOf (s : List UInt8) : Int := match signs s with | none => -1 | some l => l.length
theorem utf_Count1 (u : R03 E) (k : Nat) (a n : AV) (c : Int) (h0 : 0 ≤ c) (h1 : c ≤ 9223372036854775800) : denF E (k + 1) 23 [a, n, .ptr 0 0] [.cells [.p (.int .i64 c)]] = some (.ret (.tup []), [.cells [.p (.int .i64 (c + 1))]]) := by
  refine denF_wp_own u.count1 rfl ?_
  have w : IntKind.i64.wrap (c + 1) = c + 1 := wrap_i64 (by omega) (by omega)
  simp [Fn.f_utf_Count_1, w]
theorem utf_Count (u : R03 E) (s : List UInt8) (hs : (s.length : Int) ≤ 1000000000000) (k : Nat) (hk : s.length + 8 ≤ k) (m : Mem) : denF E (k + 1) 12 [.p (.str s)] m = some (.ret (.p (.int .i64 (countOf s))), m) := by
  obtain ⟨k, rfl⟩ : ∃ j, k = j + 1 := ⟨k - 1, by omega⟩
  refine denF_wp u.count rfl (args' := [.p (.str s)]) rfl ?_
  obtain ⟨b, m', hw, hb⟩ := utf_walk u s (by omega) 23 [.ptr 0 0] k (by omega) (fun at' m => ∃ acc, SoFar s at' acc ∧ m = [.cells [.p (.int .i64 acc.length)]])
    (by
      rintro at' n size m ha ⟨acc, hf, rfl⟩ hr
      have := hf.1
      have := hf.2.1
      obtain ⟨k, rfl⟩ : ∃ j, k = j + 1 := ⟨k - 1, by omega⟩
      refine ⟨_, utf_Count1 u k _ _ _ (by omega) (by omega), acc ++ [n], soFar_next hf ha hr, by simp⟩)
    [.cells [.p (.int .i64 0)]] ⟨[], soFar_0 s, rfl⟩
  rcases hb with ⟨rfl, acc, hf, rfl⟩ | ⟨rfl, at', ha, hr, acc, hf, rfl⟩
  · simp [Fn.f_utf_Count, hw, countOf, soFar_end hf]
  · simp [Fn.f_utf_Count, hw, countOf, soFar_bad hf ha hr]
theorem utf_Right (u : R03 E) (s : List UInt8) (hs : (s.length : Int) ≤ 1000000000000) (k : Nat) (hk : s.length + 9 ≤ k) (m : Mem) : denF E (k + 1) 11 [.p (.str s)] m = some (.ret (.p (.bool (signs s).isSome)), m) := by
  obtain ⟨k, rfl⟩ : ∃ j, k = j + 1 := ⟨k - 1, by omega⟩
  refine denF_wp u.right rfl (args' := [.p (.str s)]) rfl ?_
  have hC := fun m => utf_Count u s hs k (by omega) m
  cases h : signs s with
  | none => simp [Fn.f_utf_Right, hC, countOf, h]
  | some l => simp [Fn.f_utf_Right, hC, countOf, h]

def Grow (n : Nat) (rows : List (List PV)) (ov : AV) (m : Mem) : Prop := (rows = [] ∧ ov = .p .nils) ∨ (rows ≠ [] ∧ ∃ t, ov = .tv n rows t ∧ m[t]? = some (.tok n rows.length))
def slP (n : Nat) (rows : List (List PV)) : PV := match rows with | [] => .nils | _ => .vals n rows
def rowI (x : Int) : List PV := [.int .i64 x]
theorem get_app {m : Mem} {t : Nat} {b : Blk} (h : m[t]? = some b) (l : Mem) : (m ++ l)[t]? = some b := by
  have : t < m.length := by
    rcases Nat.lt_or_ge t m.length with h' | h'
    · exact h'
    · rw [List.getElem?_eq_none h'] at h; cases h
  rw [List.getElem?_append_left this, h]
theorem get_set {m : Mem} {t : Nat} {b : Blk} (h : m[t]? = some b) (x : Blk) : (m.set t x)[t]? = some x := by
  have : t < m.length := by
    rcases Nat.lt_or_ge t m.length with h' | h'
    · exact h'
    · rw [List.getElem?_eq_none h'] at h; cases h
  exact List.getElem?_set_self this
theorem get_new {m : Mem} {x : Blk} : (m ++ [x])[m.length]? = some x := by
  rw [List.getElem?_append_right (Nat.le_refl _), Nat.sub_self]; rfl
end Hx

namespace Hx
open Go
set_option linter.unusedSimpArgs false
set_option maxHeartbeats 1000000
variable {E : Env}
attribute [-simp] List.getD_eq_getElem?_getD getElem?_pos
def signsV (s : List UInt8) : PV := match signs s with | none => .nils | some l => slP 1 (l.map rowI)
theorem grow_strip {n : Nat} {rows : List (List PV)} {ov : AV} {m : Mem} (h : Grow n rows ov m) : stripV ov = some (.p (slP n rows)) := by
  rcases h with ⟨rfl, rfl⟩ | ⟨hr, t, rfl, h⟩
  · rfl
  · cases rows with
    | nil => exact absurd rfl hr
    | cons a l => rfl
end Hx

namespace Hx
open Go
set_option linter.unusedSimpArgs false
set_option maxHeartbeats 1000000
variable {E : Env}
attribute [-simp] List.getD_eq_getElem?_getD getElem?_pos
theorem unBytes_rows : ∀ s : List UInt8, unBytes (byteRows s) = some s
  | [] => rfl
  | c :: s => by
    simp only [byteRows, List.map_cons, unBytes, byteRow, unByte]
    have h := unBytes_rows s
    simp only [byteRows] at h
    rw [h]
    simp
end Hx

namespace Hx
open Go
set_option linter.unusedSimpArgs false
set_option maxHeartbeats 1000000
variable {E : Env}
attribute [-simp] List.getD_eq_getElem?_getD getElem?_pos
end Hx

namespace Hx
open Go
set_option linter.unusedSimpArgs false
set_option maxHeartbeats 1000000
variable {E : Env}
attribute [-simp] List.getD_eq_getElem?_getD getElem?_pos
theorem ref_Signs (u : R03 E) (s : List UInt8) (hs : (s.length : Int) ≤ 1000000000000) (k : Nat) (hk : s.length + 8 ≤ k) (m : Mem) :
    denF E (k + 1) 8 [.p (.str s)] m = some (.ret (.tup [.p (signsV s), .p (.bool (signs s).isSome)]), m) := by
  refine denF_wp u.rSigns rfl (args' := [.p (.str s)]) rfl ?_
  simp [Fn.f_haulageref03_Signs]
  refine (loop_wp (α := Nat) (I := fun i st => ∃ acc ov m, SoFar s i acc ∧ Grow 1 (acc.map rowI) ov m ∧ Live Fn.f_haulageref03_Signs_k0 (Fn.f_haulageref03_Signs_s0 (.p (.str (s.drop i))) ov) m st) (meas := fun i => s.length - i)
    (Q := fun e st => (∃ acc ov, e = .exit 0 ∧ st.ds = [] ∧ signs s = some acc ∧ Grow 1 (acc.map rowI) ov st.m ∧ st.ts.length = 26 ∧ st.ts.getD 4 (.tup []) = ov) ∨ (e = .ret ∧ st.ds = [] ∧ signs s = none ∧ st.ts.getD 2 (.tup []) = .p .nils ∧ st.ts.getD 3 (.tup []) = .p (.bool false))) ?_ k 0 _ ⟨[], _, [], soFar_0 s, .inl ⟨rfl, rfl⟩, rfl, rfl, rfl, rfl⟩ (by omega)).mono ?_
  · rintro i st ⟨acc, ov, m, hf, hg, hlive⟩
    rw [loopF_live hlive]
    have h0 := hf.1
    have h1 := hf.2.1
    by_cases hi : i < s.length
    · have hne : (s.drop i == []) = false := by
        simp only [beq_eq_false_iff_ne, ne_eq]
        intro e; have := congrArg List.length e; simp at this; omega
      have hR := fun m => ref_Read u.toV03 (k - 6) (s.drop i) m
      rw [show k - 6 + 6 = k by omega, refR_eq] at hR
      cases r : readU (s.drop i) with
      | none =>
        rw [r] at hR
        simp [Fn.f_haulageref03_Signs_b0, Fn.f_haulageref03_Signs_s0, hne, hR, readV, soFar_bad hf hi r]
      | some p =>
        obtain ⟨n, size⟩ := p
        rw [r] at hR
        obtain ⟨z1, z2, z3⟩ := readU_size r
        have z4 : size.toNat ≤ (s.drop i).length := by omega
        have z5 : 0 ≤ size := by omega
        rw [List.length_drop] at z2 z4
        rcases hg with ⟨hr, rfl⟩ | ⟨hr, t, rfl, ht⟩
        · have hacc : acc = [] := by simpa using hr
          subst hacc
          simp [Fn.f_haulageref03_Signs_b0, Fn.f_haulageref03_Signs_s0, hne, hR, readV, z4, z5, room]
          refine ⟨i + size.toNat, by omega, [n], soFar_next hf hi r, _, _, .inr ⟨by simp, m.length + 1, rfl, ?_⟩, rfl, ?_, rfl, rfl⟩
          · have := get_new (m := m ++ [Blk.tok 1 1]) (x := .tok 1 1)
            simpa using this
          · simp [Fn.f_haulageref03_Signs_k0, rowI]
            rw [List.take_of_length_le (by rw [List.length_drop]; exact Nat.le_refl _), List.drop_drop]
        · rw [List.length_map] at ht
          have ht2 : ∀ y, (m ++ [y])[t]? = some (.tok 1 acc.length) := fun y => get_app ht _
          have hb : (acc.length + 1) * 8 ≤ room ∧ acc.length + 1 ≤ room := by unfold room; omega
          simp [Fn.f_haulageref03_Signs_b0, Fn.f_haulageref03_Signs_s0, hne, hR, readV, z4, z5, ht2, hb]
          refine ⟨i + size.toNat, by omega, acc ++ [n], soFar_next hf hi r, .tv 1 (acc.map rowI ++ [rowI n]) t, _, .inr ⟨by simp, t, by simp, ?_⟩, rfl, ?_, rfl, rfl⟩
          · rw [get_set (ht2 _)]; simp
          · simp [Fn.f_haulageref03_Signs_k0, rowI]
            rw [List.take_of_length_le (by rw [List.length_drop]; exact Nat.le_refl _), List.drop_drop]
    · have : i = s.length := by omega
      subst this
      simp [Fn.f_haulageref03_Signs_b0, Fn.f_haulageref03_Signs_s0]
      exact ⟨acc, soFar_end hf, hg⟩
  · rintro e st (⟨acc, ov, rfl, h1, h2, h3, h4, h5⟩ | ⟨rfl, h1, h2, h3, h4⟩)
    · obtain ⟨ts, m', ds⟩ := st
      simp only at h1 h3 h4 h5
      match ts, h4 with
      | [t0, t1, t2, t3, t4, t5, t6, t7, t8, t9, t10, t11, t12, t13, t14, t15, t16, t17, t18, t19, t20, t21, t22, t23, t24, t25], _ =>
        simp only [getD_succ', getD_zero'] at h5
        subst h5
        have hq := grow_strip h3
        rcases h3 with ⟨h3, rfl⟩ | ⟨h3, t, rfl, ht⟩
        · have : acc = [] := by simpa using h3
          subst this
          simp [h1, signsV, h2, slP]
        · simp only [stripV, strip0, Option.some.injEq, AV.p.injEq] at hq
          simp [h1, signsV, h2, ← hq]
    · simp [h1, h3, h4, signsV, h2]
theorem ref_Right (u : R03 E) (s : List UInt8) (hs : (s.length : Int) ≤ 1000000000000) (k : Nat) (hk : s.length + 9 ≤ k) (m : Mem) : denF E (k + 1) 22 [.p (.str s)] m = some (.ret (.p (.bool (signs s).isSome)), m) := by
  obtain ⟨k, rfl⟩ : ∃ j, k = j + 1 := ⟨k - 1, by omega⟩
  refine denF_wp u.rRight rfl (args' := [.p (.str s)]) rfl ?_
  have hC := fun m => ref_Signs u s hs k (by omega) m
  simp [Fn.f_haulageref03_Right, hC]
end Hx

namespace Hx
open Go
set_option linter.unusedSimpArgs false
set_option linter.unusedVariables false
set_option maxHeartbeats 4000000
variable {E : Env}
attribute [-simp] List.getD_eq_getElem?_getD getElem?_pos
theorem intBeq {a b : Int} : (a == b) = decide (a = b) := by
  rw [Bool.eq_iff_iff]; simp
theorem maxIf {a c : Int} : (if a < c then c else a) = max a c := by
  split <;> omega
attribute [local simp] intBeq maxIf
def vP (k n : Int) (s : List UInt8) : PV := .agg [.int .i64 k, .int .i64 n, .str s]
def tP (k m : Int) : PV := .agg [.int .i64 k, .int .i64 m]
structure T06 (E : Env) : Prop where
  right : E.fn 84 = some Fn.f_typ_Right
  long : E.fn 95 = some Fn.f_typ_long
  need : E.fn 96 = some Fn.f_typ_need
  digits : E.fn 99 = some Fn.f_typ_digits
  wide : E.fn 83 = some Fn.f_typ_Wide
  join : E.fn 79 = some Fn.f_typ_Join
  rRight : E.fn 85 = some Fn.f_haulageref06_Right
  rWide : E.fn 88 = some Fn.f_haulageref06_Wide
theorem typ_Right (h : E.fn 84 = some Fn.f_typ_Right) (k : Nat) (a b : Int) (m : Mem) : denF E (k + 1) 84 [.p (tP a b)] m = some (.ret (.p (.bool (rightT a b))), m) := by
  refine denF_wp h rfl (args' := [.p (tP a b)]) rfl ?_
  unfold rightT tP
  by_cases h1 : a = 1
  · subst h1; simp [Fn.f_typ_Right]
  by_cases h2 : a = 2
  · subst h2; simp [Fn.f_typ_Right]
  by_cases h3 : a = 3
  · subst h3; by_cases hb : 1 ≤ b <;> simp [Fn.f_typ_Right, hb]
  by_cases h4 : a = 4
  · subst h4; by_cases hb : 1 ≤ b <;> simp [Fn.f_typ_Right, hb]
  simp [Fn.f_typ_Right, h1, h2, h3, h4]
theorem ref_TRight (h : E.fn 85 = some Fn.f_haulageref06_Right) (k : Nat) (a b : Int) (m : Mem) : denF E (k + 1) 85 [.p (tP a b)] m = some (.ret (.p (.bool (rightT a b))), m) := by
  refine denF_wp h rfl (args' := [.p (tP a b)]) rfl ?_
  unfold rightT tP
  by_cases h1 : a = 1
  · subst h1; simp [Fn.f_haulageref06_Right]
  by_cases h2 : a = 2
  · subst h2; simp [Fn.f_haulageref06_Right]
  by_cases h3 : a = 3
  · subst h3; by_cases hb : 1 ≤ b <;> simp [Fn.f_haulageref06_Right, hb]
  by_cases h4 : a = 4
  · subst h4; by_cases hb : 1 ≤ b <;> simp [Fn.f_haulageref06_Right, hb]
  simp [Fn.f_haulageref06_Right, h1, h2, h3, h4]
def longT (a : Int) : Bool := decide (a = 3 ∨ a = 4)
theorem typ_long (h : E.fn 95 = some Fn.f_typ_long) (k : Nat) (a : Int) (m : Mem) : denF E (k + 1) 95 [.p (.int .i64 a)] m = some (.ret (.p (.bool (longT a))), m) := by
  refine denF_wp h rfl (args' := [.p (.int .i64 a)]) rfl ?_
  unfold longT
  by_cases h3 : a = 3
  · subst h3; simp [Fn.f_typ_long]
  by_cases h4 : a = 4
  · subst h4; simp [Fn.f_typ_long]
  simp [Fn.f_typ_long, h3, h4]
end Hx
