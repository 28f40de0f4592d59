/-
  HxU03j: the text of numbers, the program's.
-/
import Derived.Test.YtompbjamfhkgfaaDoorHxL03
namespace Hx
open Go
set_option linter.unusedSimpArgs false
set_option maxHeartbeats 1000000
variable {E : Env}
attribute [-simp] List.getD_eq_getElem?_getD getElem?_pos
structure R03 (E : Env) : Prop extends V03 E where
  walk : E.fn 21 = some Fn.f_utf_walk
  count : E.fn 12 = some Fn.f_utf_Count
  count1 : E.fn 23 = some Fn.f_utf_Count_1
  right : E.fn 11 = some Fn.f_utf_Right
  rSigns : E.fn 8 = some Fn.f_haulageref03_Signs
  rRight : E.fn 22 = some Fn.f_haulageref03_Right
structure W03 (E : Env) : Prop extends U03 E, R03 E where
  signs : E.fn 13 = some Fn.f_utf_Signs
  signs1 : E.fn 24 = some Fn.f_utf_Signs_1
  cut : E.fn 6 = some Fn.f_utf_Cut
  cut1 : E.fn 20 = some Fn.f_utf_Cut_1
  text : E.fn 9 = some Fn.f_utf_Text
  rText : E.fn 10 = some Fn.f_haulageref03_Text
  rCut : E.fn 7 = some Fn.f_haulageref03_Cut
  rSame : E.fn 14 = some Fn.f_haulageref03_Same
theorem readU_size {s : List UInt8} {n size : Int} (h : readU s = some (n, size)) : 1 ≤ size ∧ size ≤ s.length ∧ size ≤ 4 := by
  obtain ⟨h1, rest, rfl, rfl⟩ := readU_some h
  have := utf8_len_pos n
  have h4 : (utf8 n).length ≤ 4 := by
    unfold utf8; split <;> (try split) <;> (try split) <;> simp
  rw [List.length_append]
  omega
/-- 'walk': J holds at each place that it comes to. -/
theorem utf_walk (u : R03 E) (s : List UInt8) (hs : (s.length : Int) ≤ 9223372036854775800) (g : Nat) (caps : List AV) (k : Nat) (hk : s.length + 7 ≤ k) (J : Nat → Mem → Prop)
    (hJ : ∀ (at' : Nat) (n size : Int) (m : Mem), at' < s.length → J at' m → readU (s.drop at') = some (n, size) → ∃ m', denF E k g ([.p (.int .i64 at'), .p (.int .i64 n)] ++ caps) m = some (.ret (.tup []), m') ∧ J (at' + size.toNat) m')
    (m : Mem) (h0 : J 0 m) : ∃ b m', denF E (k + 1) 21 [.p (.str s), .fn g caps] m = some (.ret (.p (.bool b)), m') ∧
      ((b = true ∧ J s.length m') ∨ (b = false ∧ ∃ at', at' < s.length ∧ readU (s.drop at') = none ∧ J at' m')) := by
  suffices h : Wp (den E (denF E k) k Fn.f_utf_walk.body ⟨[.p (.str s), .fn g caps] ++ List.replicate 28 (.tup []), m, []⟩) fun e st => ∃ b, leave Fn.f_utf_walk (some (e, st)) = some (.ret (.p (.bool b)), st.m) ∧
      ((b = true ∧ J s.length st.m) ∨ (b = false ∧ ∃ at', at' < s.length ∧ readU (s.drop at') = none ∧ J at' st.m)) by
    obtain ⟨e, st, h1, b, h2, h3⟩ := h
    refine ⟨b, st.m, ?_, h3⟩
    rw [denF_own u.walk rfl]
    exact (congrArg (leave Fn.f_utf_walk) h1).trans h2
  simp [Fn.f_utf_walk]
  refine (loop_wp (α := Nat) (I := fun a st => a ≤ s.length ∧ ∃ m, J a m ∧ Live Fn.f_utf_walk_k0 (Fn.f_utf_walk_s0 (.p (.str s)) (.fn g caps) (.p (.int .i64 a))) m st) (meas := fun a => s.length - a)
    (Q := fun e st => (e = .exit 0 ∧ st.ds = [] ∧ J s.length st.m ∧ st.ts.length = 30) ∨ (e = .ret ∧ st.ds = [] ∧ st.ts.getD 4 (.tup []) = .p (.bool false) ∧ ∃ at', at' < s.length ∧ readU (s.drop at') = none ∧ J at' st.m)) ?_ k 0 _ ⟨Nat.zero_le _, m, h0, rfl, rfl, rfl, rfl⟩ (by omega)).mono ?_
  · rintro a st ⟨ha, m, hj, hl⟩
    rw [loopF_live hl]
    by_cases h1 : a < s.length
    · have h2 : (a : Int) < s.length := by omega
      have hR := fun m => utf_Read u.toV03 (k - 6) (s.drop a) m
      rw [show k - 6 + 6 = k by omega] at hR
      cases r : readU (s.drop a) with
      | none =>
        rw [r] at hR
        simp [Fn.f_utf_walk_b0, Fn.f_utf_walk_s0, h1, h2, hR, readV, ha]
        exact ⟨a, h1, r, hj⟩
      | some p =>
        obtain ⟨n, size⟩ := p
        rw [r] at hR
        obtain ⟨m', hc, hj'⟩ := hJ a n size m h1 hj r
        obtain ⟨z1, z2, z3⟩ := readU_size r
        rw [List.length_drop] at z2
        have hw : IntKind.i64.wrap ((a : Int) + size) = a + size := wrap_i64 (by omega) (by omega)
        simp only [List.cons_append, List.nil_append] at hc
        simp [Fn.f_utf_walk_b0, Fn.f_utf_walk_s0, h1, h2, hR, readV, ha, hc, hw]
        refine ⟨a + size.toNat, by omega, by omega, m', hj', rfl, ?_, rfl, rfl⟩
        simp [keep, Fn.f_utf_walk_k0]
        omega
    · have h2 : ¬ (a : Int) < s.length := by omega
      have : a = s.length := by omega
      subst this
      simp [Fn.f_utf_walk_b0, Fn.f_utf_walk_s0]
      exact hj
  · rintro e st (⟨rfl, h1, h2, h3⟩ | ⟨rfl, h1, h2, at', h3, h4, h5⟩)
    · obtain ⟨ts, m', ds⟩ := st
      simp only at h1 h2 h3
      match ts, h3 with
      | _ :: _ :: _ :: _ :: _ :: _, _ =>
        simp [h1]
        exact h2
    · simp [h1, h2]
      exact ⟨at', h3, h4, h5⟩
end Hx

namespace Hx
open Go
set_option linter.unusedSimpArgs false
set_option maxHeartbeats 1000000
variable {E : Env}
attribute [-simp] List.getD_eq_getElem?_getD getElem?_pos
def sgs (f : List UInt8 → Option (Int × Int)) : Nat → List UInt8 → Option (List Int)
  | _, [] => some []
  | 0, _ :: _ => none
  | k + 1, c :: r => match f (c :: r) with
    | none => none
    | some p => match sgs f k ((c :: r).drop p.2.toNat) with
      | none => none
      | some l => some (p.1 :: l)
def signs (s : List UInt8) : Option (List Int) := sgs readU s.length s
theorem sgs_more {f : List UInt8 → Option (Int × Int)} (hf : ∀ s p, f s = some p → 1 ≤ p.2 ∧ p.2 ≤ s.length) : ∀ (k k' : Nat) (s : List UInt8), s.length ≤ k → s.length ≤ k' → sgs f k s = sgs f k' s
  | k, k', [], _, _ => by cases k <;> cases k' <;> rfl
  | 0, _, _ :: _, h, _ => by simp at h
  | _, 0, _ :: _, _, h => by simp at h
  | k + 1, k' + 1, c :: r, h, h' => by
    simp only [sgs]
    cases hr : f (c :: r) with
    | none => rfl
    | some p =>
      obtain ⟨z1, z2⟩ := hf _ _ hr
      have hl : ((c :: r).drop p.2.toNat).length ≤ r.length := by
        rw [List.length_drop]; simp only [List.length_cons]; omega
      simp only [List.length_cons] at h h'
      simp only [sgs_more hf k k' ((c :: r).drop p.2.toNat) (by omega) (by omega)]
theorem sgs_step {f : List UInt8 → Option (Int × Int)} (hf : ∀ s p, f s = some p → 1 ≤ p.2 ∧ p.2 ≤ s.length) {s : List UInt8} (h : s ≠ []) : sgs f s.length s = match f s with
    | none => none
    | some p => match sgs f (s.drop p.2.toNat).length (s.drop p.2.toNat) with
      | none => none
      | some l => some (p.1 :: l) := by
  cases s with
  | nil => exact absurd rfl h
  | cons c r =>
    simp only [List.length_cons, sgs]
    cases hr : f (c :: r) with
    | none => rfl
    | some p =>
      obtain ⟨z1, z2⟩ := hf _ _ hr
      have hl : ((c :: r).drop p.2.toNat).length ≤ r.length := by
        rw [List.length_drop]; simp only [List.length_cons]; omega
      simp only [sgs_more hf r.length _ ((c :: r).drop p.2.toNat) hl (Nat.le_refl _)]
theorem signs_nil : signs [] = some [] := rfl
theorem signs_step {s : List UInt8} (h : s ≠ []) : signs s = match readU s with
    | none => none
    | some p => match signs (s.drop p.2.toNat) with
      | none => none
      | some l => some (p.1 :: l) :=
  sgs_step (fun s p hp => ⟨(readU_size (n := p.1) (size := p.2) hp).1, (readU_size (n := p.1) (size := p.2) hp).2.1⟩) h
/-- So far: these signs, then what stands from there on. -/
def SoFar (s : List UInt8) (at' : Nat) (acc : List Int) : Prop := at' ≤ s.length ∧ acc.length ≤ at' ∧ signs s = (signs (s.drop at')).map (acc ++ ·)
theorem soFar_0 (s : List UInt8) : SoFar s 0 [] := ⟨Nat.zero_le _, Nat.le_refl _, by simp⟩
theorem soFar_next {s : List UInt8} {at' : Nat} {acc : List Int} {n size : Int} (h : SoFar s at' acc) (ha : at' < s.length) (hr : readU (s.drop at') = some (n, size)) : SoFar s (at' + size.toNat) (acc ++ [n]) := by
  obtain ⟨h1, h2, h3⟩ := h
  obtain ⟨z1, z2, _⟩ := readU_size hr
  rw [List.length_drop] at z2
  refine ⟨by omega, by simp only [List.length_append, List.length_cons, List.length_nil]; omega, ?_⟩
  rw [h3, signs_step (s := s.drop at') (by intro e; have := congrArg List.length e; simp at this; omega), hr]
  simp only [List.drop_drop]
  cases signs (s.drop (at' + size.toNat)) <;> simp
theorem soFar_bad {s : List UInt8} {at' : Nat} {acc : List Int} (h : SoFar s at' acc) (ha : at' < s.length) (hr : readU (s.drop at') = none) : signs s = none := by
  rw [h.2.2, signs_step (s := s.drop at') (by intro e; have := congrArg List.length e; simp at this; omega), hr]
  rfl
theorem soFar_end {s : List UInt8} {acc : List Int} (h : SoFar s s.length acc) : signs s = some acc := by
  rw [h.2.2, List.drop_length, signs_nil]; simp
def countOf (s : List UInt8) : Int := match signs s with | none => -1 | some l => l.length
theorem utf_Count1 (u : R03 E) (k : Nat) (a n : AV) (c : Int) (h0 : 0 ≤ c) (h1 : c ≤ 9223372036854775800) : denF E (k + 1) 23 [a, n, .ptr 0 0] [.cells [.p (.int .i64 c)]] = some (.ret (.tup []), [.cells [.p (.int .i64 (c + 1))]]) := by
  refine denF_wp_own u.count1 rfl ?_
  have w : IntKind.i64.wrap (c + 1) = c + 1 := wrap_i64 (by omega) (by omega)
  simp [Fn.f_utf_Count_1, w]
theorem utf_Count (u : R03 E) (s : List UInt8) (hs : (s.length : Int) ≤ 1000000000000) (k : Nat) (hk : s.length + 8 ≤ k) (m : Mem) : denF E (k + 1) 12 [.p (.str s)] m = some (.ret (.p (.int .i64 (countOf s))), m) := by
  obtain ⟨k, rfl⟩ : ∃ j, k = j + 1 := ⟨k - 1, by omega⟩
  refine denF_wp u.count rfl (args' := [.p (.str s)]) rfl ?_
  obtain ⟨b, m', hw, hb⟩ := utf_walk u s (by omega) 23 [.ptr 0 0] k (by omega) (fun at' m => ∃ acc, SoFar s at' acc ∧ m = [.cells [.p (.int .i64 acc.length)]])
    (by
      rintro at' n size m ha ⟨acc, hf, rfl⟩ hr
      have := hf.1
      have := hf.2.1
      obtain ⟨k, rfl⟩ : ∃ j, k = j + 1 := ⟨k - 1, by omega⟩
      refine ⟨_, utf_Count1 u k _ _ _ (by omega) (by omega), acc ++ [n], soFar_next hf ha hr, by simp⟩)
    [.cells [.p (.int .i64 0)]] ⟨[], soFar_0 s, rfl⟩
  rcases hb with ⟨rfl, acc, hf, rfl⟩ | ⟨rfl, at', ha, hr, acc, hf, rfl⟩
  · simp [Fn.f_utf_Count, hw, countOf, soFar_end hf]
  · simp [Fn.f_utf_Count, hw, countOf, soFar_bad hf ha hr]
theorem utf_Right (u : R03 E) (s : List UInt8) (hs : (s.length : Int) ≤ 1000000000000) (k : Nat) (hk : s.length + 9 ≤ k) (m : Mem) : denF E (k + 1) 11 [.p (.str s)] m = some (.ret (.p (.bool (signs s).isSome)), m) := by
  obtain ⟨k, rfl⟩ : ∃ j, k = j + 1 := ⟨k - 1, by omega⟩
  refine denF_wp u.right rfl (args' := [.p (.str s)]) rfl ?_
  have hC := fun m => utf_Count u s hs k (by omega) m
  cases h : signs s with
  | none => simp [Fn.f_utf_Right, hC, countOf, h]
  | some l => simp [Fn.f_utf_Right, hC, countOf, h]
/-! ### slices that grow -/
def Grow (n : Nat) (rows : List (List PV)) (ov : AV) (m : Mem) : Prop := (rows = [] ∧ ov = .p .nils) ∨ (rows ≠ [] ∧ ∃ t, ov = .tv n rows t ∧ m[t]? = some (.tok n rows.length))
def slP (n : Nat) (rows : List (List PV)) : PV := match rows with | [] => .nils | _ => .vals n rows
def rowI (x : Int) : List PV := [.int .i64 x]
theorem get_app {m : Mem} {t : Nat} {b : Blk} (h : m[t]? = some b) (l : Mem) : (m ++ l)[t]? = some b := by
  have : t < m.length := by
    rcases Nat.lt_or_ge t m.length with h' | h'
    · exact h'
    · rw [List.getElem?_eq_none h'] at h; cases h
  rw [List.getElem?_append_left this, h]
theorem get_set {m : Mem} {t : Nat} {b : Blk} (h : m[t]? = some b) (x : Blk) : (m.set t x)[t]? = some x := by
  have : t < m.length := by
    rcases Nat.lt_or_ge t m.length with h' | h'
    · exact h'
    · rw [List.getElem?_eq_none h'] at h; cases h
  exact List.getElem?_set_self this
theorem get_new {m : Mem} {x : Blk} : (m ++ [x])[m.length]? = some x := by
  rw [List.getElem?_append_right (Nat.le_refl _), Nat.sub_self]; rfl
end Hx

namespace Hx
open Go
set_option linter.unusedSimpArgs false
set_option maxHeartbeats 1000000
variable {E : Env}
attribute [-simp] List.getD_eq_getElem?_getD getElem?_pos
theorem set_other {m : Mem} {t i : Nat} (h : t ≠ i) (x : Blk) : (m.set t x)[i]? = m[i]? := List.getElem?_set_ne h
theorem utf_Signs1 (u : W03 E) (k : Nat) (a : AV) (n : Int) (m : Mem) (ov : AV) (acc : List Int) (hl : acc.length ≤ 1000000000000) (h0 : m[0]? = some (.cells [ov])) (hg : Grow 1 (acc.map rowI) ov m) :
    ∃ m' ov', denF E (k + 1) 24 [a, .p (.int .i64 n), .ptr 0 0] m = some (.ret (.tup []), m') ∧ m'[0]? = some (.cells [ov']) ∧ Grow 1 ((acc ++ [n]).map rowI) ov' m' := by
  have e1 : ∀ l, (m ++ l)[0]? = some (.cells [ov]) := fun l => get_app h0 l
  rcases hg with ⟨hr, rfl⟩ | ⟨hr, t, rfl, ht⟩
  · obtain rfl : acc = [] := by simpa using hr
    refine ⟨((m ++ [Blk.tok 1 1]) ++ [Blk.tok 1 1]).set 0 (.cells [.tv 1 [rowI n] (m.length + 1)]), .tv 1 [rowI n] (m.length + 1), denF_wp_own u.signs1 rfl ?_, ?_, ?_⟩
    · simp [Fn.f_utf_Signs_1, h0, e1, rowI, room]
    · exact get_set (get_app (e1 _) _) _
    · refine .inr ⟨by simp, m.length + 1, rfl, ?_⟩
      rw [set_other (by omega)]
      have := get_new (m := m ++ [Blk.tok 1 1]) (x := .tok 1 1)
      simpa using this
  · have t0 : t ≠ 0 := by
      intro e; subst e; rw [h0] at ht; cases ht
    have ht' : ∀ l, (m ++ l)[t]? = some (.tok 1 (acc.map rowI).length) := fun l => get_app ht l
    have hb : ((acc.map rowI).length + 1) * 8 ≤ room ∧ (acc.map rowI).length + 1 ≤ room := by rw [List.length_map]; unfold room; omega
    refine ⟨((m ++ [Blk.tok 1 1]).set t (.tok 1 (acc.length + 1))).set 0 (.cells [.tv 1 (acc.map rowI ++ [rowI n]) t]), .tv 1 (acc.map rowI ++ [rowI n]) t, denF_wp_own u.signs1 rfl ?_, ?_, ?_⟩
    · have e2 : ∀ x, ((m ++ [Blk.tok 1 1]).set t x)[0]? = some (.cells [.tv 1 (acc.map rowI) t]) := fun x => by rw [set_other t0, e1]
      rw [List.length_map] at hb ht'
      simp [Fn.f_utf_Signs_1, h0, e1, e2, ht', hb, rowI]
    · exact get_set (by rw [set_other t0]; exact e1 _) _
    · refine .inr ⟨by simp, t, by simp, ?_⟩
      rw [set_other (by omega), get_set (ht' _)]
      simp
def signsV (s : List UInt8) : PV := match signs s with | none => .nils | some l => slP 1 (l.map rowI)
theorem grow_strip {n : Nat} {rows : List (List PV)} {ov : AV} {m : Mem} (h : Grow n rows ov m) : stripV ov = some (.p (slP n rows)) := by
  rcases h with ⟨rfl, rfl⟩ | ⟨hr, t, rfl, h⟩
  · rfl
  · cases rows with
    | nil => exact absurd rfl hr
    | cons a l => rfl
theorem grow_stripR {n : Nat} {rows : List (List PV)} {ov : AV} {m : Mem} (h : Grow n rows ov m) : stripR ov = some (.p (slP n rows)) := by
  have := grow_strip h
  rcases h with ⟨rfl, rfl⟩ | ⟨hr, t, rfl, h⟩ <;> exact this
theorem utf_Signs (u : W03 E) (s : List UInt8) (hs : (s.length : Int) ≤ 1000000000000) (k : Nat) (hk : s.length + 8 ≤ k) (m : Mem) : denF E (k + 1) 13 [.p (.str s)] m = some (.ret (.p (signsV s)), m) := by
  obtain ⟨k, rfl⟩ : ∃ j, k = j + 1 := ⟨k - 1, by omega⟩
  refine denF_wp u.signs rfl (args' := [.p (.str s)]) rfl ?_
  obtain ⟨b, m', hw, hb⟩ := utf_walk u.toR03 s (by omega) 24 [.ptr 0 0] k (by omega) (fun at' m => ∃ acc ov, SoFar s at' acc ∧ m[0]? = some (.cells [ov]) ∧ Grow 1 (acc.map rowI) ov m)
    (by
      rintro at' n size m ha ⟨acc, ov, hf, h0, hg⟩ hr
      have := hf.1
      have := hf.2.1
      obtain ⟨k, rfl⟩ : ∃ j, k = j + 1 := ⟨k - 1, by omega⟩
      obtain ⟨m', ov', h1, h2, h3⟩ := utf_Signs1 u k (.p (.int .i64 at')) n m ov acc (by omega) h0 hg
      exact ⟨m', h1, acc ++ [n], ov', soFar_next hf ha hr, h2, h3⟩)
    [.cells [.p .nils]] ⟨[], .p .nils, soFar_0 s, rfl, .inl ⟨rfl, rfl⟩⟩
  rcases hb with ⟨rfl, acc, ov, hf, h0, hg⟩ | ⟨rfl, at', ha, hr, acc, ov, hf, h0, hg⟩
  · have := grow_stripR hg
    simp [Fn.f_utf_Signs, hw, h0]
    show (match stripR ov with | some v' => some (Out.ret v') | none => none) = _
    rw [this, signsV, soFar_end hf]
  · simp [Fn.f_utf_Signs, hw, signsV, soFar_bad hf ha hr]
end Hx

namespace Hx
open Go
set_option linter.unusedSimpArgs false
set_option maxHeartbeats 1000000
variable {E : Env}
attribute [-simp] List.getD_eq_getElem?_getD getElem?_pos
def textOf : List Int → Option (List UInt8)
  | [] => some []
  | n :: r => match isSign n with
    | false => none
    | true => match textOf r with
      | none => none
      | some t => some (utf8 n ++ t)
def TextFar (l : List Int) (i : Nat) (acc : List UInt8) : Prop := i ≤ l.length ∧ acc.length ≤ 4 * i ∧ textOf l = (textOf (l.drop i)).map (acc ++ ·)
theorem textFar_0 (l : List Int) : TextFar l 0 [] := ⟨Nat.zero_le _, Nat.le_refl _, by simp⟩
theorem drop_cons {α : Type} {l : List α} {i : Nat} {x : α} (h : l[i]? = some x) : l.drop i = x :: l.drop (i + 1) := by
  have hi : i < l.length := by
    rcases Nat.lt_or_ge i l.length with h' | h'
    · exact h'
    · rw [List.getElem?_eq_none h'] at h; cases h
  rw [List.drop_eq_getElem_cons hi]
  rw [List.getElem?_eq_getElem hi] at h
  cases h; rfl
theorem utf8_len4 (n : Int) : (utf8 n).length ≤ 4 := by
  unfold utf8; split <;> (try split) <;> (try split) <;> simp
theorem textFar_next {l : List Int} {i : Nat} {acc : List UInt8} {n : Int} (h : TextFar l i acc) (hi : l[i]? = some n) (hs : isSign n = true) : TextFar l (i + 1) (acc ++ utf8 n) := by
  obtain ⟨h1, h2, h3⟩ := h
  have hl : i < l.length := by
    rcases Nat.lt_or_ge i l.length with h' | h'
    · exact h'
    · rw [List.getElem?_eq_none h'] at hi; cases hi
  refine ⟨hl, by rw [List.length_append]; have := utf8_len4 n; omega, ?_⟩
  rw [h3, drop_cons hi, textOf, hs]
  cases textOf (l.drop (i + 1)) <;> simp
theorem textFar_bad {l : List Int} {i : Nat} {acc : List UInt8} {n : Int} (h : TextFar l i acc) (hi : l[i]? = some n) (hs : isSign n = false) : textOf l = none := by
  rw [h.2.2, drop_cons hi, textOf, hs]; rfl
theorem textFar_end {l : List Int} {acc : List UInt8} (h : TextFar l l.length acc) : textOf l = some acc := by
  rw [h.2.2, List.drop_length, textOf]; simp
/-- How a list of numbers comes in. -/
def IsInts (lv : PV) (l : List Int) : Prop := (lv = .nils ∧ l = []) ∨ lv = .vals 1 (l.map rowI)
theorem unBytes_rows : ∀ s : List UInt8, unBytes (byteRows s) = some s
  | [] => rfl
  | c :: s => by
    simp only [byteRows, List.map_cons, unBytes, byteRow, unByte]
    have h := unBytes_rows s
    simp only [byteRows] at h
    rw [h]
    simp
theorem fill_rows {n : Int} (h : 0 ≤ n) (h' : n ≤ 1114111) {m : Mem} {id : Nat} {z : AV} (hm : m[id]? = some (.cells (filled n z z z z))) (hz : z = .p (.int .u8 0)) : rowsOf 1 m (.own 1 id 0 (widthOf n).toNat) = some (byteRows (utf8 n)) := by
  subst hz
  have bv : ∀ x : Int, 0 ≤ x → x ≤ 255 → byteRow (byte x) = [.int .u8 x] := by
    intro x h1 h2
    simp only [byteRow, byte_nat h1 h2]
  by_cases g1 : n ≥ 65536
  · have e1 : widthOf n = 4 := width_4.2 g1
    have e2 : filled n (.p (.int .u8 0)) (.p (.int .u8 0)) (.p (.int .u8 0)) (.p (.int .u8 0)) = [b8 (240 + n / 262144), b8 (128 + n / 4096 % 64), b8 (128 + n / 64 % 64), b8 (128 + n % 64)] := by simp only [filled, g1, if_true]
    rw [e2] at hm
    rw [e1, utf8_4 g1]
    simp [rowsOf, hm, b8, byteRows, bv (240 + n / 262144) (by omega) (by omega), bv (128 + n / 4096 % 64) (by omega) (by omega), bv (128 + n / 64 % 64) (by omega) (by omega), bv (128 + n % 64) (by omega) (by omega)]
  by_cases g2 : n ≥ 2048
  · have e1 : widthOf n = 3 := width_3.2 ⟨g2, by omega⟩
    have e2 : filled n (.p (.int .u8 0)) (.p (.int .u8 0)) (.p (.int .u8 0)) (.p (.int .u8 0)) = [b8 (224 + n / 4096), b8 (128 + n / 64 % 64), b8 (128 + n % 64), .p (.int .u8 0)] := by simp only [filled, g1, g2, if_true, if_false]
    rw [e2] at hm
    rw [e1, utf8_3 g2 (by omega)]
    simp [rowsOf, hm, b8, byteRows, bv (224 + n / 4096) (by omega) (by omega), bv (128 + n / 64 % 64) (by omega) (by omega), bv (128 + n % 64) (by omega) (by omega)]
  by_cases g3 : n ≥ 128
  · have e1 : widthOf n = 2 := width_2.2 ⟨g3, by omega⟩
    have e2 : filled n (.p (.int .u8 0)) (.p (.int .u8 0)) (.p (.int .u8 0)) (.p (.int .u8 0)) = [b8 (192 + n / 64), b8 (128 + n % 64), .p (.int .u8 0), .p (.int .u8 0)] := by simp only [filled, g1, g2, g3, if_true, if_false]
    rw [e2] at hm
    rw [e1, utf8_2 g3 (by omega)]
    simp [rowsOf, hm, b8, byteRows, bv (192 + n / 64) (by omega) (by omega), bv (128 + n % 64) (by omega) (by omega)]
  · have e1 : widthOf n = 1 := width_1.2 (by omega)
    have e2 : filled n (.p (.int .u8 0)) (.p (.int .u8 0)) (.p (.int .u8 0)) (.p (.int .u8 0)) = [b8 n, .p (.int .u8 0), .p (.int .u8 0), .p (.int .u8 0)] := by simp only [filled, g1, g2, g3, if_false]
    rw [e2] at hm
    rw [e1, utf8_1 (by omega)]
    simp [rowsOf, hm, b8, byteRows, bv n (by omega) (by omega)]
end Hx
