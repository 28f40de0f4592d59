
import Derived.Test.YtifcegbomagcpaaDoorHxU03e
namespace Hx
open Go
theorem byte_nat {x : Int} (h1 : 0 ≤ x) (h2 : x ≤ 255) : ((byte x).toNat : Int) = x := by
  unfold byte
  rw [UInt8.toNat_ofNat']
  omega
theorem byte_self (c : UInt8) : byte (c.toNat : Int) = c := by
  apply UInt8.toNat_inj.1
  have h := u8_range c
  have := byte_nat h.1 h.2
  omega
theorem byte_eq {x : Int} {c : UInt8} (h : x = (c.toNat : Int)) : byte x = c := by
  rw [h, byte_self]
theorem cont_iff {b : UInt8} : cont b = true ↔ (b.toNat : Int) / 64 = 2 := by
  simp [cont]
theorem fits_some {n size a b : Int} (h : fits n size = some (a, b)) : a = n ∧ b = size ∧ isSign n = true ∧ widthOf n = size := by
  unfold fits at h
  split at h
  · rename_i h1
    split at h
    · rename_i h2
      simp only [Option.some.injEq, Prod.mk.injEq] at h
      exact ⟨h.1.symm, h.2.symm, h1, h2⟩
    · cases h
  · cases h
theorem width_1 {n : Int} : widthOf n = 1 ↔ n < 128 := by
  unfold widthOf; split <;> (try split) <;> (try split) <;> omega
theorem width_2 {n : Int} : widthOf n = 2 ↔ 128 ≤ n ∧ n < 2048 := by
  unfold widthOf; split <;> (try split) <;> (try split) <;> omega
theorem width_3 {n : Int} : widthOf n = 3 ↔ 2048 ≤ n ∧ n < 65536 := by
  unfold widthOf; split <;> (try split) <;> (try split) <;> omega
theorem width_4 {n : Int} : widthOf n = 4 ↔ 65536 ≤ n := by
  unfold widthOf; split <;> (try split) <;> (try split) <;> omega
theorem utf8_1 {n : Int} (h : n < 128) : utf8 n = [byte n] := by
  unfold utf8; rw [if_pos h]
theorem utf8_2 {n : Int} (h1 : 128 ≤ n) (h2 : n < 2048) : utf8 n = [byte (192 + n / 64), byte (128 + n % 64)] := by
  unfold utf8; rw [if_neg (by omega), if_pos h2]
theorem utf8_3 {n : Int} (h1 : 2048 ≤ n) (h2 : n < 65536) : utf8 n = [byte (224 + n / 4096), byte (128 + n / 64 % 64), byte (128 + n % 64)] := by
  unfold utf8; rw [if_neg (by omega), if_neg (by omega), if_pos h2]
theorem utf8_4 {n : Int} (h1 : 65536 ≤ n) : utf8 n = [byte (240 + n / 262144), byte (128 + n / 4096 % 64), byte (128 + n / 64 % 64), byte (128 + n % 64)] := by
  unfold utf8; rw [if_neg (by omega), if_neg (by omega), if_neg (by omega)]
theorem readU_some {s : List UInt8} {n size : Int} (h : readU s = some (n, size)) : isSign n = true ∧ ∃ rest, s = utf8 n ++ rest ∧ size = (utf8 n).length := by
  cases s with
  | nil => cases h
  | cons c r =>
  rw [readU] at h
  obtain ⟨c0, c1⟩ := u8_range c
  unfold readB at h
  split at h
  · obtain ⟨rfl, rfl, h1, h2⟩ := fits_some h
    refine ⟨h1, r, ?_⟩
    rw [utf8_1 (width_1.1 h2), byte_self]
    exact ⟨rfl, rfl⟩
  split at h
  · split at h <;> try (cases h; done)
    rename_i b r
    obtain ⟨b0, b1⟩ := u8_range b
    cases hb : cont b <;> rw [hb] at h <;> simp only [cond_true, cond_false] at h <;> try (cases h; done)
    have hb' := cont_iff.1 hb
    obtain ⟨rfl, rfl, h1, h2⟩ := fits_some h
    obtain ⟨g1, g2⟩ := width_2.1 h2
    refine ⟨h1, r, ?_⟩
    rw [utf8_2 g1 g2, byte_eq (c := c) (by omega), byte_eq (c := b) (by omega)]
    exact ⟨rfl, rfl⟩
  split at h
  · split at h <;> try (cases h; done)
    rename_i b d r
    obtain ⟨b0, b1⟩ := u8_range b
    obtain ⟨d0, d1⟩ := u8_range d
    cases hb : cont b <;> rw [hb] at h <;> simp only [cond_true, cond_false] at h <;> try (cases h; done)
    cases hd : cont d <;> rw [hd] at h <;> simp only [cond_true, cond_false] at h <;> try (cases h; done)
    have hb' := cont_iff.1 hb
    have hd' := cont_iff.1 hd
    obtain ⟨rfl, rfl, h1, h2⟩ := fits_some h
    obtain ⟨g1, g2⟩ := width_3.1 h2
    refine ⟨h1, r, ?_⟩
    rw [utf8_3 g1 g2, byte_eq (c := c) (by omega), byte_eq (c := b) (by omega), byte_eq (c := d) (by omega)]
    exact ⟨rfl, rfl⟩
  split at h
  · split at h <;> try (cases h; done)
    rename_i b d e r
    obtain ⟨b0, b1⟩ := u8_range b
    obtain ⟨d0, d1⟩ := u8_range d
    obtain ⟨e0, e1⟩ := u8_range e
    cases hb : cont b <;> rw [hb] at h <;> simp only [cond_true, cond_false] at h <;> try (cases h; done)
    cases hd : cont d <;> rw [hd] at h <;> simp only [cond_true, cond_false] at h <;> try (cases h; done)
    cases he : cont e <;> rw [he] at h <;> simp only [cond_true, cond_false] at h <;> try (cases h; done)
    have hb' := cont_iff.1 hb
    have hd' := cont_iff.1 hd
    have he' := cont_iff.1 he
    obtain ⟨rfl, rfl, h1, h2⟩ := fits_some h
    have g1 := width_4.1 h2
    refine ⟨h1, r, ?_⟩
    rw [utf8_4 g1, byte_eq (c := c) (by omega), byte_eq (c := b) (by omega), byte_eq (c := d) (by omega), byte_eq (c := e) (by omega)]
    exact ⟨rfl, rfl⟩
  · cases h
theorem utf8_len_pos (n : Int) : 0 < (utf8 n).length := by
  unfold utf8; split <;> (try split) <;> (try split) <;> simp
end Hx

namespace Hx
open Go
set_option linter.unusedSimpArgs false
set_option maxHeartbeats 1000000
variable {E : Env}
attribute [-simp] List.getD_eq_getElem?_getD getElem?_pos
structure R03 (E : Env) : Prop extends V03 E where
  walk : E.fn 21 = some Fn.f_utf_walk
  count : E.fn 12 = some Fn.f_utf_Count
  count1 : E.fn 23 = some Fn.f_utf_Count_1
  right : E.fn 11 = some Fn.f_utf_Right
  rSigns : E.fn 8 = some Fn.f_haulageref03_Signs
  rRight : E.fn 22 = some Fn.f_haulageref03_Right
theorem readU_size {s : List UInt8} {n size : Int} (h : readU s = some (n, size)) : 1 ≤ size ∧ size ≤ s.length ∧ size ≤ 4 := by
  obtain ⟨h1, rest, rfl, rfl⟩ := readU_some h
  have := utf8_len_pos n
  have h4 : (utf8 n).length ≤ 4 := by
    unfold utf8; split <;> (try split) <;> (try split) <;> simp
  rw [List.length_append]
  omega
theorem utf_walk (u : R03 E) (s : List UInt8) (hs : (s.length : Int) ≤ 9223372036854775800) (g : Nat) (caps : List AV) (k : Nat) (hk : s.length + 7 ≤ k) (J : Nat → Mem → Prop)
    (hJ : ∀ (at' : Nat) (n size : Int) (m : Mem), at' < s.length → J at' m → readU (s.drop at') = some (n, size) → ∃ m', denF E k g ([.p (.int .i64 at'), .p (.int .i64 n)] ++ caps) m = some (.ret (.tup []), m') ∧ J (at' + size.toNat) m')
    (m : Mem) (h0 : J 0 m) : ∃ b m', denF E (k + 1) 21 [.p (.str s), .fn g caps] m = some (.ret (.p (.bool b)), m') ∧
      ((b = true ∧ J s.length m') ∨ (b = false ∧ ∃ at', at' < s.length ∧ readU (s.drop at') = none ∧ J at' m')) := by
  suffices h : Wp (den E (denF E k) k Fn.f_utf_walk.body ⟨[.p (.str s), .fn g caps] ++ List.replicate 28 (.tup []), m, []⟩) fun e st => ∃ b, leave Fn.f_utf_walk (some (e, st)) = some (.ret (.p (.bool b)), st.m) ∧
      ((b = true ∧ J s.length st.m) ∨ (b = false ∧ ∃ at', at' < s.length ∧ readU (s.drop at') = none ∧ J at' st.m)) by
    obtain ⟨e, st, h1, b, h2, h3⟩ := h
    refine ⟨b, st.m, ?_, h3⟩
    rw [denF_own u.walk rfl]
    exact (congrArg (leave Fn.f_utf_walk) h1).trans h2
  simp [Fn.f_utf_walk]
  refine (loop_wp (α := Nat) (I := fun a st => a ≤ s.length ∧ ∃ m, J a m ∧ Live Fn.f_utf_walk_k0 (Fn.f_utf_walk_s0 (.p (.str s)) (.fn g caps) (.p (.int .i64 a))) m st) (meas := fun a => s.length - a)
    (Q := fun e st => (e = .exit 0 ∧ st.ds = [] ∧ J s.length st.m ∧ st.ts.length = 30) ∨ (e = .ret ∧ st.ds = [] ∧ st.ts.getD 4 (.tup []) = .p (.bool false) ∧ ∃ at', at' < s.length ∧ readU (s.drop at') = none ∧ J at' st.m)) ?_ k 0 _ ⟨Nat.zero_le _, m, h0, rfl, rfl, rfl, rfl⟩ (by omega)).mono ?_
  · rintro a st ⟨ha, m, hj, hl⟩
    rw [loopF_live hl]
    by_cases h1 : a < s.length
    · have h2 : (a : Int) < s.length := by omega
      have hR := fun m => utf_Read u.toV03 (k - 6) (s.drop a) m
      rw [show k - 6 + 6 = k by omega] at hR
      cases r : readU (s.drop a) with
      | none =>
        rw [r] at hR
        simp [Fn.f_utf_walk_b0, Fn.f_utf_walk_s0, h1, h2, hR, readV, ha]
        exact ⟨a, h1, r, hj⟩
      | some p =>
        obtain ⟨n, size⟩ := p
        rw [r] at hR
        obtain ⟨m', hc, hj'⟩ := hJ a n size m h1 hj r
        obtain ⟨z1, z2, z3⟩ := readU_size r
        rw [List.length_drop] at z2
        have hw : IntKind.i64.wrap ((a : Int) + size) = a + size := wrap_i64 (by omega) (by omega)
        simp only [List.cons_append, List.nil_append] at hc
        simp [Fn.f_utf_walk_b0, Fn.f_utf_walk_s0, h1, h2, hR, readV, ha, hc, hw]
        refine ⟨a + size.toNat, by omega, by omega, m', hj', rfl, ?_, rfl, rfl⟩
        simp [keep, Fn.f_utf_walk_k0]
        omega
    · have h2 : ¬ (a : Int) < s.length := by omega
      have : a = s.length := by omega
      subst this
      simp [Fn.f_utf_walk_b0, Fn.f_utf_walk_s0]
      exact hj
  · rintro e st (⟨rfl, h1, h2, h3⟩ | ⟨rfl, h1, h2, at', h3, h4, h5⟩)
    · obtain ⟨ts, m', ds⟩ := st
      simp only at h1 h2 h3
      match ts, h3 with
      | _ :: _ :: _ :: _ :: _ :: _, _ =>
        simp [h1]
        exact h2
    · simp [h1, h2]
      exact ⟨at', h3, h4, h5⟩
end Hx

namespace Hx
open Go
set_option linter.unusedSimpArgs false
set_option maxHeartbeats 1000000
variable {E : Env}
attribute [-simp] List.getD_eq_getElem?_getD getElem?_pos
def sgs (f : List UInt8 → Option (Int × Int)) : Nat → List UInt8 → Option (List Int)
  | _, [] => some []
  | 0, _ :: _ => none
  | k + 1, c :: r => match f (c :: r) with
    | none => none
    | some p => match sgs f k ((c :: r).drop p.2.toNat) with
      | none => none
      | some l => some (p.1 :: l)
def signs (s : List UInt8) : Option (List Int) := sgs readU s.length s
theorem sgs_more {f : List UInt8 → Option (Int × Int)} (hf : ∀ s p, f s = some p → 1 ≤ p.2 ∧ p.2 ≤ s.length) : ∀ (k k' : Nat) (s : List UInt8), s.length ≤ k → s.length ≤ k' → sgs f k s = sgs f k' s
  | k, k', [], _, _ => by cases k <;> cases k' <;> rfl
  | 0, _, _ :: _, h, _ => by simp at h
  | _, 0, _ :: _, _, h => by simp at h
  | k + 1, k' + 1, c :: r, h, h' => by
    simp only [sgs]
    cases hr : f (c :: r) with
    | none => rfl
    | some p =>
      obtain ⟨z1, z2⟩ := hf _ _ hr
      have hl : ((c :: r).drop p.2.toNat).length ≤ r.length := by
        rw [List.length_drop]; simp only [List.length_cons]; omega
      simp only [List.length_cons] at h h'
      simp only [sgs_more hf k k' ((c :: r).drop p.2.toNat) (by omega) (by omega)]
theorem sgs_step {f : List UInt8 → Option (Int × Int)} (hf : ∀ s p, f s = some p → 1 ≤ p.2 ∧ p.2 ≤ s.length) {s : List UInt8} (h : s ≠ []) : sgs f s.length s = match f s with
    | none => none
    | some p => match sgs f (s.drop p.2.toNat).length (s.drop p.2.toNat) with
      | none => none
      | some l => some (p.1 :: l) := by
  cases s with
  | nil => exact absurd rfl h
  | cons c r =>
    simp only [List.length_cons, sgs]
    cases hr : f (c :: r) with
    | none => rfl
    | some p =>
      obtain ⟨z1, z2⟩ := hf _ _ hr
      have hl : ((c :: r).drop p.2.toNat).length ≤ r.length := by
        rw [List.length_drop]; simp only [List.length_cons]; omega
      simp only [sgs_more hf r.length _ ((c :: r).drop p.2.toNat) hl (Nat.le_refl _)]
theorem signs_nil : signs [] = some [] := rfl
theorem signs_step {s : List UInt8} (h : s ≠ []) : signs s = match readU s with
    | none => none
    | some p => match signs (s.drop p.2.toNat) with
      | none => none
      | some l => some (p.1 :: l) :=
  sgs_step (fun s p hp => ⟨(readU_size (n := p.1) (size := p.2) hp).1, (readU_size (n := p.1) (size := p.2) hp).2.1⟩) h
def SoFar (s : List UInt8) (at' : Nat) (acc : List Int) : Prop := at' ≤ s.length ∧ acc.length ≤ at' ∧ signs s = (signs (s.drop at')).map (acc ++ ·)
theorem soFar_0 (s : List UInt8) : SoFar s 0 [] := ⟨Nat.zero_le _, Nat.le_refl _, by simp⟩
theorem soFar_next {s : List UInt8} {at' : Nat} {acc : List Int} {n size : Int} (h : SoFar s at' acc) (ha : at' < s.length) (hr : readU (s.drop at') = some (n, size)) : SoFar s (at' + size.toNat) (acc ++ [n]) := by
  obtain ⟨h1, h2, h3⟩ := h
  obtain ⟨z1, z2, _⟩ := readU_size hr
  rw [List.length_drop] at z2
  refine ⟨by omega, by simp only [List.length_append, List.length_cons, List.length_nil]; omega, ?_⟩
  rw [h3, signs_step (s := s.drop at') (by intro e; have := congrArg List.length e; simp at this; omega), hr]
  simp only [List.drop_drop]
  cases signs (s.drop (at' + size.toNat)) <;> simp
theorem soFar_bad {s : List UInt8} {at' : Nat} {acc : List Int} (h : SoFar s at' acc) (ha : at' < s.length) (hr : readU (s.drop at') = none) : signs s = none := by
  rw [h.2.2, signs_step (s := s.drop at') (by intro e; have := congrArg List.length e; simp at this; omega), hr]
  rfl
theorem soFar_end {s : List UInt8} {acc : List Int} (h : SoFar s s.length acc) : signs s = some acc := by
  rw [h.2.2, List.drop_length, signs_nil]; simp
def countOf (s : List UInt8) : Int := match signs s with | none => -1 | some l => l.length
theorem utf_Count1 (u : R03 E) (k : Nat) (a n : AV) (c : Int) (h0 : 0 ≤ c) (h1 : c ≤ 9223372036854775800) : denF E (k + 1) 23 [a, n, .ptr 0 0] [.cells [.p (.int .i64 c)]] = some (.ret (.tup []), [.cells [.p (.int .i64 (c + 1))]]) := by
  refine denF_wp_own u.count1 rfl ?_
  have w : IntKind.i64.wrap (c + 1) = c + 1 := wrap_i64 (by omega) (by omega)
  simp [Fn.f_utf_Count_1, w]
theorem utf_Count (u : R03 E) (s : List UInt8) (hs : (s.length : Int) ≤ 1000000000000) (k : Nat) (hk : s.length + 8 ≤ k) (m : Mem) : denF E (k + 1) 12 [.p (.str s)] m = some (.ret (.p (.int .i64 (countOf s))), m) := by
  obtain ⟨k, rfl⟩ : ∃ j, k = j + 1 := ⟨k - 1, by omega⟩
  refine denF_wp u.count rfl (args' := [.p (.str s)]) rfl ?_
  obtain ⟨b, m', hw, hb⟩ := utf_walk u s (by omega) 23 [.ptr 0 0] k (by omega) (fun at' m => ∃ acc, SoFar s at' acc ∧ m = [.cells [.p (.int .i64 acc.length)]])
    (by
      rintro at' n size m ha ⟨acc, hf, rfl⟩ hr
      have := hf.1
      have := hf.2.1
      obtain ⟨k, rfl⟩ : ∃ j, k = j + 1 := ⟨k - 1, by omega⟩
      refine ⟨_, utf_Count1 u k _ _ _ (by omega) (by omega), acc ++ [n], soFar_next hf ha hr, by simp⟩)
    [.cells [.p (.int .i64 0)]] ⟨[], soFar_0 s, rfl⟩
  rcases hb with ⟨rfl, acc, hf, rfl⟩ | ⟨rfl, at', ha, hr, acc, hf, rfl⟩
  · simp [Fn.f_utf_Count, hw, countOf, soFar_end hf]
  · simp [Fn.f_utf_Count, hw, countOf, soFar_bad hf ha hr]
theorem utf_Right (u : R03 E) (s : List UInt8) (hs : (s.length : Int) ≤ 1000000000000) (k : Nat) (hk : s.length + 9 ≤ k) (m : Mem) : denF E (k + 1) 11 [.p (.str s)] m = some (.ret (.p (.bool (signs s).isSome)), m) := by
  obtain ⟨k, rfl⟩ : ∃ j, k = j + 1 := ⟨k - 1, by omega⟩
  refine denF_wp u.right rfl (args' := [.p (.str s)]) rfl ?_
  have hC := fun m => utf_Count u s hs k (by omega) m
  cases h : signs s with
  | none => simp [Fn.f_utf_Right, hC, countOf, h]
  | some l => simp [Fn.f_utf_Right, hC, countOf, h]

def Grow (n : Nat) (rows : List (List PV)) (ov : AV) (m : Mem) : Prop := (rows = [] ∧ ov = .p .nils) ∨ (rows ≠ [] ∧ ∃ t, ov = .tv n rows t ∧ m[t]? = some (.tok n rows.length))
theorem get_app {m : Mem} {t : Nat} {b : Blk} (h : m[t]? = some b) (l : Mem) : (m ++ l)[t]? = some b := by
  have : t < m.length := by
    rcases Nat.lt_or_ge t m.length with h' | h'
    · exact h'
    · rw [List.getElem?_eq_none h'] at h; cases h
  rw [List.getElem?_append_left this, h]
theorem get_set {m : Mem} {t : Nat} {b : Blk} (h : m[t]? = some b) (x : Blk) : (m.set t x)[t]? = some x := by
  have : t < m.length := by
    rcases Nat.lt_or_ge t m.length with h' | h'
    · exact h'
    · rw [List.getElem?_eq_none h'] at h; cases h
  exact List.getElem?_set_self this
theorem get_new {m : Mem} {x : Blk} : (m ++ [x])[m.length]? = some x := by
  rw [List.getElem?_append_right (Nat.le_refl _), Nat.sub_self]; rfl
end Hx

namespace Hx
open Go
set_option linter.unusedSimpArgs false
set_option maxHeartbeats 1000000
variable {E : Env}
attribute [-simp] List.getD_eq_getElem?_getD getElem?_pos
end Hx

namespace Hx
open Go
set_option linter.unusedSimpArgs false
set_option maxHeartbeats 1000000
variable {E : Env}
attribute [-simp] List.getD_eq_getElem?_getD getElem?_pos
theorem unBytes_rows : ∀ s : List UInt8, unBytes (byteRows s) = some s
  | [] => rfl
  | c :: s => by
    simp only [byteRows, List.map_cons, unBytes, byteRow, unByte]
    have h := unBytes_rows s
    simp only [byteRows] at h
    rw [h]
    simp
end Hx

namespace Hx
open Go
set_option linter.unusedSimpArgs false
set_option maxHeartbeats 1000000
variable {E : Env}
attribute [-simp] List.getD_eq_getElem?_getD getElem?_pos
end Hx

/-
  HxM05: the digits of a number: plain laws.
-/
namespace Hx
def dgt (d : Nat) : UInt8 := UInt8.ofNat (48 + d)
def digs (n : Nat) : List UInt8 := if n < 10 then [dgt n] else digs (n / 10) ++ [dgt (n % 10)]
termination_by n
decreasing_by omega
def digits (n : Int) : List UInt8 := if n < 0 then 45 :: digs n.natAbs else digs n.natAbs
theorem digs_small {n : Nat} (h : n < 10) : digs n = [dgt n] := by rw [digs, if_pos h]
theorem digs_big {n : Nat} (h : ¬ n < 10) : digs n = digs (n / 10) ++ [dgt (n % 10)] := by rw [digs, if_neg h]
theorem digs_ne (n : Nat) : digs n ≠ [] := by
  by_cases h : n < 10
  · rw [digs_small h]; simp
  · rw [digs_big h]; simp
theorem digs_pos (n : Nat) : 0 < (digs n).length := by
  cases h : digs n with
  | nil => exact absurd h (digs_ne n)
  | cons => simp
theorem digs_len : ∀ (k n : Nat), n < 10 ^ (k + 1) → (digs n).length ≤ k + 1
  | 0, n, h => by
    rw [digs_small (by simpa using h)]
    simp
  | k + 1, n, h => by
    by_cases hn : n < 10
    · rw [digs_small hn]; simp
    · rw [digs_big hn, List.length_append]
      have := digs_len k (n / 10) (by
        have e : 10 ^ (k + 1 + 1) = 10 * 10 ^ (k + 1) := by rw [Nat.pow_succ, Nat.mul_comm]
        rw [e] at h
        exact Nat.div_lt_of_lt_mul h)
      simp only [List.length_cons, List.length_nil]
      omega
theorem dgt_toNat {d : Nat} (h : d < 10) : (dgt d).toNat = 48 + d := by
  unfold dgt
  rw [UInt8.toNat_ofNat']
  omega
theorem digs_mem {c : UInt8} : ∀ (k n : Nat), n ≤ k → c ∈ digs n → 48 ≤ c.toNat ∧ c.toNat ≤ 57
  | 0, n, hk, h => by
    rw [digs_small (by omega)] at h
    simp only [List.mem_cons, List.not_mem_nil, or_false] at h
    subst h
    rw [dgt_toNat (by omega)]
    omega
  | k + 1, n, hk, h => by
    by_cases hn : n < 10
    · rw [digs_small hn] at h
      simp only [List.mem_cons, List.not_mem_nil, or_false] at h
      subst h
      rw [dgt_toNat (by omega)]
      omega
    · rw [digs_big hn] at h
      simp only [List.mem_append, List.mem_cons, List.not_mem_nil, or_false] at h
      rcases h with h | rfl
      · exact digs_mem k (n / 10) (by omega) h
      · rw [dgt_toNat (by omega)]
        omega
theorem digits_64 {n : Int} (h1 : -9223372036854775808 ≤ n) (h2 : n ≤ 9223372036854775807) : (digits n).length ≤ 20 := by
  have := digs_len 18 n.natAbs (by omega)
  unfold digits
  split <;> (try simp only [List.length_cons]) <;> omega
theorem digits_ne (n : Int) : digits n ≠ [] := by
  unfold digits
  split
  · simp
  · exact digs_ne _
end Hx
