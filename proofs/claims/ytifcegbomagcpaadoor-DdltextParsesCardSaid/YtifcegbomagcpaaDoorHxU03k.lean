/-
  HxU03k: the text of numbers, the program's and the document's.
-/
import Derived.Test.YtifcegbomagcpaaDoorHxU03e
namespace Hx
open Go
theorem byte_nat {x : Int} (h1 : 0 ≤ x) (h2 : x ≤ 255) : ((byte x).toNat : Int) = x := by
  unfold byte
  rw [UInt8.toNat_ofNat']
  omega
theorem byte_self (c : UInt8) : byte (c.toNat : Int) = c := by
  apply UInt8.toNat_inj.1
  have h := u8_range c
  have := byte_nat h.1 h.2
  omega
theorem byte_eq {x : Int} {c : UInt8} (h : x = (c.toNat : Int)) : byte x = c := by
  rw [h, byte_self]
theorem cont_iff {b : UInt8} : cont b = true ↔ (b.toNat : Int) / 64 = 2 := by
  simp [cont]
theorem fits_some {n size a b : Int} (h : fits n size = some (a, b)) : a = n ∧ b = size ∧ isSign n = true ∧ widthOf n = size := by
  unfold fits at h
  split at h
  · rename_i h1
    split at h
    · rename_i h2
      simp only [Option.some.injEq, Prod.mk.injEq] at h
      exact ⟨h.1.symm, h.2.symm, h1, h2⟩
    · cases h
  · cases h
theorem fits_of {n size : Int} (h1 : isSign n = true) (h2 : widthOf n = size) : fits n size = some (n, size) := by
  unfold fits; rw [if_pos h1, if_pos h2]
theorem width_1 {n : Int} : widthOf n = 1 ↔ n < 128 := by
  unfold widthOf; split <;> (try split) <;> (try split) <;> omega
theorem width_2 {n : Int} : widthOf n = 2 ↔ 128 ≤ n ∧ n < 2048 := by
  unfold widthOf; split <;> (try split) <;> (try split) <;> omega
theorem width_3 {n : Int} : widthOf n = 3 ↔ 2048 ≤ n ∧ n < 65536 := by
  unfold widthOf; split <;> (try split) <;> (try split) <;> omega
theorem width_4 {n : Int} : widthOf n = 4 ↔ 65536 ≤ n := by
  unfold widthOf; split <;> (try split) <;> (try split) <;> omega
theorem utf8_1 {n : Int} (h : n < 128) : utf8 n = [byte n] := by
  unfold utf8; rw [if_pos h]
theorem utf8_2 {n : Int} (h1 : 128 ≤ n) (h2 : n < 2048) : utf8 n = [byte (192 + n / 64), byte (128 + n % 64)] := by
  unfold utf8; rw [if_neg (by omega), if_pos h2]
theorem utf8_3 {n : Int} (h1 : 2048 ≤ n) (h2 : n < 65536) : utf8 n = [byte (224 + n / 4096), byte (128 + n / 64 % 64), byte (128 + n % 64)] := by
  unfold utf8; rw [if_neg (by omega), if_neg (by omega), if_pos h2]
theorem utf8_4 {n : Int} (h1 : 65536 ≤ n) : utf8 n = [byte (240 + n / 262144), byte (128 + n / 4096 % 64), byte (128 + n / 64 % 64), byte (128 + n % 64)] := by
  unfold utf8; rw [if_neg (by omega), if_neg (by omega), if_neg (by omega)]
theorem readU_some {s : List UInt8} {n size : Int} (h : readU s = some (n, size)) : isSign n = true ∧ ∃ rest, s = utf8 n ++ rest ∧ size = (utf8 n).length := by
  cases s with
  | nil => cases h
  | cons c r =>
  rw [readU] at h
  obtain ⟨c0, c1⟩ := u8_range c
  unfold readB at h
  split at h
  · obtain ⟨rfl, rfl, h1, h2⟩ := fits_some h
    refine ⟨h1, r, ?_⟩
    rw [utf8_1 (width_1.1 h2), byte_self]
    exact ⟨rfl, rfl⟩
  split at h
  · split at h <;> try (cases h; done)
    rename_i b r
    obtain ⟨b0, b1⟩ := u8_range b
    cases hb : cont b <;> rw [hb] at h <;> simp only [cond_true, cond_false] at h <;> try (cases h; done)
    have hb' := cont_iff.1 hb
    obtain ⟨rfl, rfl, h1, h2⟩ := fits_some h
    obtain ⟨g1, g2⟩ := width_2.1 h2
    refine ⟨h1, r, ?_⟩
    rw [utf8_2 g1 g2, byte_eq (c := c) (by omega), byte_eq (c := b) (by omega)]
    exact ⟨rfl, rfl⟩
  split at h
  · split at h <;> try (cases h; done)
    rename_i b d r
    obtain ⟨b0, b1⟩ := u8_range b
    obtain ⟨d0, d1⟩ := u8_range d
    cases hb : cont b <;> rw [hb] at h <;> simp only [cond_true, cond_false] at h <;> try (cases h; done)
    cases hd : cont d <;> rw [hd] at h <;> simp only [cond_true, cond_false] at h <;> try (cases h; done)
    have hb' := cont_iff.1 hb
    have hd' := cont_iff.1 hd
    obtain ⟨rfl, rfl, h1, h2⟩ := fits_some h
    obtain ⟨g1, g2⟩ := width_3.1 h2
    refine ⟨h1, r, ?_⟩
    rw [utf8_3 g1 g2, byte_eq (c := c) (by omega), byte_eq (c := b) (by omega), byte_eq (c := d) (by omega)]
    exact ⟨rfl, rfl⟩
  split at h
  · split at h <;> try (cases h; done)
    rename_i b d e r
    obtain ⟨b0, b1⟩ := u8_range b
    obtain ⟨d0, d1⟩ := u8_range d
    obtain ⟨e0, e1⟩ := u8_range e
    cases hb : cont b <;> rw [hb] at h <;> simp only [cond_true, cond_false] at h <;> try (cases h; done)
    cases hd : cont d <;> rw [hd] at h <;> simp only [cond_true, cond_false] at h <;> try (cases h; done)
    cases he : cont e <;> rw [he] at h <;> simp only [cond_true, cond_false] at h <;> try (cases h; done)
    have hb' := cont_iff.1 hb
    have hd' := cont_iff.1 hd
    have he' := cont_iff.1 he
    obtain ⟨rfl, rfl, h1, h2⟩ := fits_some h
    have g1 := width_4.1 h2
    refine ⟨h1, r, ?_⟩
    rw [utf8_4 g1, byte_eq (c := c) (by omega), byte_eq (c := b) (by omega), byte_eq (c := d) (by omega), byte_eq (c := e) (by omega)]
    exact ⟨rfl, rfl⟩
  · cases h
theorem readU_utf8 {n : Int} (h : isSign n = true) (rest : List UInt8) : readU (utf8 n ++ rest) = some (n, ((utf8 n).length : Int)) := by
  obtain ⟨h0, h1, _⟩ := isSign_iff.1 h
  by_cases g1 : n < 128
  · rw [utf8_1 g1]
    show readB _ _ = some (n, 1)
    rw [byte_nat (by omega) (by omega)]
    simp only [readB, if_pos g1, fits_of h (width_1.2 g1)]
  by_cases g2 : n < 2048
  · rw [utf8_2 (by omega) g2]
    show readB _ (byte (128 + n % 64) :: rest) = some (n, 2)
    have hb : cont (byte (128 + n % 64)) = true := cont_iff.2 (by rw [byte_nat (by omega) (by omega)]; omega)
    rw [byte_nat (by omega) (by omega), readB, if_neg (by omega), if_pos (by omega)]
    simp only [hb, cond_true]
    rw [byte_nat (by omega) (by omega), show (192 + n / 64) % 32 * 64 + (128 + n % 64) % 64 = n by omega, fits_of h (width_2.2 ⟨by omega, g2⟩)]
  by_cases g3 : n < 65536
  · rw [utf8_3 (by omega) g3]
    show readB _ (byte (128 + n / 64 % 64) :: byte (128 + n % 64) :: rest) = some (n, 3)
    have hb : cont (byte (128 + n / 64 % 64)) = true := cont_iff.2 (by rw [byte_nat (by omega) (by omega)]; omega)
    have hd : cont (byte (128 + n % 64)) = true := cont_iff.2 (by rw [byte_nat (by omega) (by omega)]; omega)
    rw [byte_nat (by omega) (by omega), readB, if_neg (by omega), if_neg (by omega), if_pos (by omega)]
    simp only [hb, hd, cond_true]
    rw [byte_nat (x := 128 + n / 64 % 64) (by omega) (by omega), byte_nat (x := 128 + n % 64) (by omega) (by omega), show ((224 + n / 4096) % 16 * 64 + (128 + n / 64 % 64) % 64) * 64 + (128 + n % 64) % 64 = n by omega, fits_of h (width_3.2 ⟨by omega, g3⟩)]
  · rw [utf8_4 (by omega)]
    show readB _ (byte (128 + n / 4096 % 64) :: byte (128 + n / 64 % 64) :: byte (128 + n % 64) :: rest) = some (n, 4)
    have hb : cont (byte (128 + n / 4096 % 64)) = true := cont_iff.2 (by rw [byte_nat (by omega) (by omega)]; omega)
    have hd : cont (byte (128 + n / 64 % 64)) = true := cont_iff.2 (by rw [byte_nat (by omega) (by omega)]; omega)
    have he : cont (byte (128 + n % 64)) = true := cont_iff.2 (by rw [byte_nat (by omega) (by omega)]; omega)
    rw [byte_nat (by omega) (by omega), readB, if_neg (by omega), if_neg (by omega), if_neg (by omega), if_pos (by omega)]
    simp only [hb, hd, he, cond_true]
    rw [byte_nat (x := 128 + n / 4096 % 64) (by omega) (by omega), byte_nat (x := 128 + n / 64 % 64) (by omega) (by omega), byte_nat (x := 128 + n % 64) (by omega) (by omega), show (((240 + n / 262144) % 8 * 64 + (128 + n / 4096 % 64) % 64) * 64 + (128 + n / 64 % 64) % 64) * 64 + (128 + n % 64) % 64 = n by omega, fits_of h (width_4.2 (by omega))]
theorem utf8_len_pos (n : Int) : 0 < (utf8 n).length := by
  unfold utf8; split <;> (try split) <;> (try split) <;> simp
theorem utf8_prefix {n m : Int} (hn : isSign n = true) (hm : isSign m = true) {a b : List UInt8} (h : utf8 n ++ a = utf8 m ++ b) : n = m := by
  have h1 := readU_utf8 hn a
  rw [h, readU_utf8 hm b] at h1
  simp only [Option.some.injEq, Prod.mk.injEq] at h1
  exact h1.1.symm
theorem hitR_iff {s : List UInt8} {n : Int} {k : Nat} : hitR s n k = true ↔ isSign n = true ∧ utf8 n = s.take k := by
  simp [hitR]
theorem hit_len {s : List UInt8} {n m : Int} {k : Nat} (hn : isSign n = true) {rest : List UInt8} (hs : s = utf8 n ++ rest) (hk : k < (utf8 n).length) : hitR s m k = false := by
  cases h : hitR s m k with
  | false => rfl
  | true =>
    obtain ⟨hm, ht⟩ := hitR_iff.1 h
    have e : s = utf8 m ++ s.drop k := by rw [ht, List.take_append_drop]
    have := utf8_prefix hn hm (hs.symm.trans e)
    subst this
    have hl : (utf8 n).length = (s.take k).length := by rw [← ht]
    rw [List.length_take] at hl
    omega
theorem refR_some {s : List UInt8} {n size : Int} (h : refR s = some (n, size)) : ∃ k : Nat, size = k ∧ hitR s n k = true := by
  unfold refR at h
  split at h
  · cases h
  rename_i c r
  cases h1 : hitR (c :: r) c.toNat 1 <;> simp only [h1, cond_true, cond_false] at h
  · split at h
    · cases h
    rename_i b r
    cases h2 : hitR (c :: b :: r) (((c.toNat : Int) - 192) * 64 + b.toNat - 128) 2 <;> simp only [h2, cond_true, cond_false] at h
    · split at h
      · cases h
      rename_i d r
      cases h3 : hitR (c :: b :: d :: r) ((((c.toNat : Int) - 224) * 64 + b.toNat - 128) * 64 + d.toNat - 128) 3 <;> simp only [h3, cond_true, cond_false] at h
      · split at h
        · cases h
        rename_i e r
        cases h4 : hitR (c :: b :: d :: e :: r) (((((c.toNat : Int) - 240) * 64 + b.toNat - 128) * 64 + d.toNat - 128) * 64 + e.toNat - 128) 4 <;> simp only [h4, cond_true, cond_false] at h
        · cases h
        · simp only [Option.some.injEq, Prod.mk.injEq] at h
          obtain ⟨rfl, rfl⟩ := h
          exact ⟨4, rfl, h4⟩
      · simp only [Option.some.injEq, Prod.mk.injEq] at h
        obtain ⟨rfl, rfl⟩ := h
        exact ⟨3, rfl, h3⟩
    · simp only [Option.some.injEq, Prod.mk.injEq] at h
      obtain ⟨rfl, rfl⟩ := h
      exact ⟨2, rfl, h2⟩
  · simp only [Option.some.injEq, Prod.mk.injEq] at h
    obtain ⟨rfl, rfl⟩ := h
    exact ⟨1, rfl, h1⟩
theorem hit_self {n : Int} (h : isSign n = true) (rest : List UInt8) {k : Nat} (hk : (utf8 n).length = k) : hitR (utf8 n ++ rest) n k = true := by
  subst hk
  exact hitR_iff.2 ⟨h, by rw [List.take_left]⟩
theorem refR_utf8 {n : Int} (h : isSign n = true) (rest : List UInt8) : refR (utf8 n ++ rest) = some (n, ((utf8 n).length : Int)) := by
  obtain ⟨h0, h1, _⟩ := isSign_iff.1 h
  have hlen := fun k (m : Int) (hk : k < (utf8 n).length) => hit_len (m := m) (k := k) h (rfl : utf8 n ++ rest = utf8 n ++ rest) hk
  have hself := fun k hk => hit_self h rest (k := k) hk
  by_cases g1 : n < 128
  · rw [utf8_1 g1] at hlen hself ⊢
    have e := hself 1 rfl
    simp only [List.cons_append, List.nil_append] at e ⊢
    unfold refR
    simp only [byte_nat (x := n) (by omega) (by omega), e, cond_true]
    rfl
  by_cases g2 : n < 2048
  · rw [utf8_2 (by omega) g2] at hlen hself ⊢
    have e := hself 2 rfl
    have l1 := fun m => hlen 1 m (by simp)
    simp only [List.cons_append, List.nil_append] at e l1 ⊢
    have v : (192 + n / 64 - 192) * 64 + (128 + n % 64) - 128 = n := by omega
    unfold refR
    simp only [l1, cond_false, byte_nat (x := 192 + n / 64) (by omega) (by omega), byte_nat (x := 128 + n % 64) (by omega) (by omega), v, e, cond_true]
    rfl
  by_cases g3 : n < 65536
  · rw [utf8_3 (by omega) g3] at hlen hself ⊢
    have e := hself 3 rfl
    have l1 := fun m => hlen 1 m (by simp)
    have l2 := fun m => hlen 2 m (by simp)
    simp only [List.cons_append, List.nil_append] at e l1 l2 ⊢
    have v : ((224 + n / 4096 - 224) * 64 + (128 + n / 64 % 64) - 128) * 64 + (128 + n % 64) - 128 = n := by omega
    unfold refR
    simp only [l1, l2, cond_false, byte_nat (x := 224 + n / 4096) (by omega) (by omega), byte_nat (x := 128 + n / 64 % 64) (by omega) (by omega), byte_nat (x := 128 + n % 64) (by omega) (by omega), v, e, cond_true]
    rfl
  · rw [utf8_4 (by omega)] at hlen hself ⊢
    have e := hself 4 rfl
    have l1 := fun m => hlen 1 m (by simp)
    have l2 := fun m => hlen 2 m (by simp)
    have l3 := fun m => hlen 3 m (by simp)
    simp only [List.cons_append, List.nil_append] at e l1 l2 l3 ⊢
    have v : (((240 + n / 262144 - 240) * 64 + (128 + n / 4096 % 64) - 128) * 64 + (128 + n / 64 % 64) - 128) * 64 + (128 + n % 64) - 128 = n := by omega
    unfold refR
    simp only [l1, l2, l3, cond_false, byte_nat (x := 240 + n / 262144) (by omega) (by omega), byte_nat (x := 128 + n / 4096 % 64) (by omega) (by omega), byte_nat (x := 128 + n / 64 % 64) (by omega) (by omega), byte_nat (x := 128 + n % 64) (by omega) (by omega), v, e, cond_true]
    rfl
theorem refR_eq (s : List UInt8) : refR s = readU s := by
  cases h : readU s with
  | some p =>
    obtain ⟨n, size⟩ := p
    obtain ⟨h1, rest, rfl, rfl⟩ := readU_some h
    exact refR_utf8 h1 rest
  | none =>
    cases h2 : refR s with
    | none => rfl
    | some p =>
      obtain ⟨n, size⟩ := p
      obtain ⟨k, rfl, hk⟩ := refR_some h2
      obtain ⟨h1, ht⟩ := hitR_iff.1 hk
      have e : s = utf8 n ++ s.drop k := by rw [ht, List.take_append_drop]
      rw [e, readU_utf8 h1] at h
      cases h
end Hx

namespace Hx
open Go
set_option linter.unusedSimpArgs false
set_option maxHeartbeats 1000000
variable {E : Env}
attribute [-simp] List.getD_eq_getElem?_getD getElem?_pos
structure R03 (E : Env) : Prop extends V03 E where
  walk : E.fn 21 = some Fn.f_utf_walk
  count : E.fn 12 = some Fn.f_utf_Count
  count1 : E.fn 23 = some Fn.f_utf_Count_1
  right : E.fn 11 = some Fn.f_utf_Right
  rSigns : E.fn 8 = some Fn.f_haulageref03_Signs
  rRight : E.fn 22 = some Fn.f_haulageref03_Right
structure W03 (E : Env) : Prop extends U03 E, R03 E where
  signs : E.fn 13 = some Fn.f_utf_Signs
  signs1 : E.fn 24 = some Fn.f_utf_Signs_1
  cut : E.fn 6 = some Fn.f_utf_Cut
  cut1 : E.fn 20 = some Fn.f_utf_Cut_1
  text : E.fn 9 = some Fn.f_utf_Text
  rText : E.fn 10 = some Fn.f_haulageref03_Text
  rCut : E.fn 7 = some Fn.f_haulageref03_Cut
  rSame : E.fn 14 = some Fn.f_haulageref03_Same
theorem readU_size {s : List UInt8} {n size : Int} (h : readU s = some (n, size)) : 1 ≤ size ∧ size ≤ s.length ∧ size ≤ 4 := by
  obtain ⟨h1, rest, rfl, rfl⟩ := readU_some h
  have := utf8_len_pos n
  have h4 : (utf8 n).length ≤ 4 := by
    unfold utf8; split <;> (try split) <;> (try split) <;> simp
  rw [List.length_append]
  omega
theorem utf_walk (u : R03 E) (s : List UInt8) (hs : (s.length : Int) ≤ 9223372036854775800) (g : Nat) (caps : List AV) (k : Nat) (hk : s.length + 7 ≤ k) (J : Nat → Mem → Prop)
    (hJ : ∀ (at' : Nat) (n size : Int) (m : Mem), at' < s.length → J at' m → readU (s.drop at') = some (n, size) → ∃ m', denF E k g ([.p (.int .i64 at'), .p (.int .i64 n)] ++ caps) m = some (.ret (.tup []), m') ∧ J (at' + size.toNat) m')
    (m : Mem) (h0 : J 0 m) : ∃ b m', denF E (k + 1) 21 [.p (.str s), .fn g caps] m = some (.ret (.p (.bool b)), m') ∧
      ((b = true ∧ J s.length m') ∨ (b = false ∧ ∃ at', at' < s.length ∧ readU (s.drop at') = none ∧ J at' m')) := by
  suffices h : Wp (den E (denF E k) k Fn.f_utf_walk.body ⟨[.p (.str s), .fn g caps] ++ List.replicate 28 (.tup []), m, []⟩) fun e st => ∃ b, leave Fn.f_utf_walk (some (e, st)) = some (.ret (.p (.bool b)), st.m) ∧
      ((b = true ∧ J s.length st.m) ∨ (b = false ∧ ∃ at', at' < s.length ∧ readU (s.drop at') = none ∧ J at' st.m)) by
    obtain ⟨e, st, h1, b, h2, h3⟩ := h
    refine ⟨b, st.m, ?_, h3⟩
    rw [denF_own u.walk rfl]
    exact (congrArg (leave Fn.f_utf_walk) h1).trans h2
  simp [Fn.f_utf_walk]
  refine (loop_wp (α := Nat) (I := fun a st => a ≤ s.length ∧ ∃ m, J a m ∧ Live Fn.f_utf_walk_k0 (Fn.f_utf_walk_s0 (.p (.str s)) (.fn g caps) (.p (.int .i64 a))) m st) (meas := fun a => s.length - a)
    (Q := fun e st => (e = .exit 0 ∧ st.ds = [] ∧ J s.length st.m ∧ st.ts.length = 30) ∨ (e = .ret ∧ st.ds = [] ∧ st.ts.getD 4 (.tup []) = .p (.bool false) ∧ ∃ at', at' < s.length ∧ readU (s.drop at') = none ∧ J at' st.m)) ?_ k 0 _ ⟨Nat.zero_le _, m, h0, rfl, rfl, rfl, rfl⟩ (by omega)).mono ?_
  · rintro a st ⟨ha, m, hj, hl⟩
    rw [loopF_live hl]
    by_cases h1 : a < s.length
    · have h2 : (a : Int) < s.length := by omega
      have hR := fun m => utf_Read u.toV03 (k - 6) (s.drop a) m
      rw [show k - 6 + 6 = k by omega] at hR
      cases r : readU (s.drop a) with
      | none =>
        rw [r] at hR
        simp [Fn.f_utf_walk_b0, Fn.f_utf_walk_s0, h1, h2, hR, readV, ha]
        exact ⟨a, h1, r, hj⟩
      | some p =>
        obtain ⟨n, size⟩ := p
        rw [r] at hR
        obtain ⟨m', hc, hj'⟩ := hJ a n size m h1 hj r
        obtain ⟨z1, z2, z3⟩ := readU_size r
        rw [List.length_drop] at z2
        have hw : IntKind.i64.wrap ((a : Int) + size) = a + size := wrap_i64 (by omega) (by omega)
        simp only [List.cons_append, List.nil_append] at hc
        simp [Fn.f_utf_walk_b0, Fn.f_utf_walk_s0, h1, h2, hR, readV, ha, hc, hw]
        refine ⟨a + size.toNat, by omega, by omega, m', hj', rfl, ?_, rfl, rfl⟩
        simp [keep, Fn.f_utf_walk_k0]
        omega
    · have h2 : ¬ (a : Int) < s.length := by omega
      have : a = s.length := by omega
      subst this
      simp [Fn.f_utf_walk_b0, Fn.f_utf_walk_s0]
      exact hj
  · rintro e st (⟨rfl, h1, h2, h3⟩ | ⟨rfl, h1, h2, at', h3, h4, h5⟩)
    · obtain ⟨ts, m', ds⟩ := st
      simp only at h1 h2 h3
      match ts, h3 with
      | _ :: _ :: _ :: _ :: _ :: _, _ =>
        simp [h1]
        exact h2
    · simp [h1, h2]
      exact ⟨at', h3, h4, h5⟩
end Hx

namespace Hx
open Go
set_option linter.unusedSimpArgs false
set_option maxHeartbeats 1000000
variable {E : Env}
attribute [-simp] List.getD_eq_getElem?_getD getElem?_pos
def sgs (f : List UInt8 → Option (Int × Int)) : Nat → List UInt8 → Option (List Int)
  | _, [] => some []
  | 0, _ :: _ => none
  | k + 1, c :: r => match f (c :: r) with
    | none => none
    | some p => match sgs f k ((c :: r).drop p.2.toNat) with
      | none => none
      | some l => some (p.1 :: l)
def signs (s : List UInt8) : Option (List Int) := sgs readU s.length s
theorem sgs_more {f : List UInt8 → Option (Int × Int)} (hf : ∀ s p, f s = some p → 1 ≤ p.2 ∧ p.2 ≤ s.length) : ∀ (k k' : Nat) (s : List UInt8), s.length ≤ k → s.length ≤ k' → sgs f k s = sgs f k' s
  | k, k', [], _, _ => by cases k <;> cases k' <;> rfl
  | 0, _, _ :: _, h, _ => by simp at h
  | _, 0, _ :: _, _, h => by simp at h
  | k + 1, k' + 1, c :: r, h, h' => by
    simp only [sgs]
    cases hr : f (c :: r) with
    | none => rfl
    | some p =>
      obtain ⟨z1, z2⟩ := hf _ _ hr
      have hl : ((c :: r).drop p.2.toNat).length ≤ r.length := by
        rw [List.length_drop]; simp only [List.length_cons]; omega
      simp only [List.length_cons] at h h'
      simp only [sgs_more hf k k' ((c :: r).drop p.2.toNat) (by omega) (by omega)]
theorem sgs_step {f : List UInt8 → Option (Int × Int)} (hf : ∀ s p, f s = some p → 1 ≤ p.2 ∧ p.2 ≤ s.length) {s : List UInt8} (h : s ≠ []) : sgs f s.length s = match f s with
    | none => none
    | some p => match sgs f (s.drop p.2.toNat).length (s.drop p.2.toNat) with
      | none => none
      | some l => some (p.1 :: l) := by
  cases s with
  | nil => exact absurd rfl h
  | cons c r =>
    simp only [List.length_cons, sgs]
    cases hr : f (c :: r) with
    | none => rfl
    | some p =>
      obtain ⟨z1, z2⟩ := hf _ _ hr
      have hl : ((c :: r).drop p.2.toNat).length ≤ r.length := by
        rw [List.length_drop]; simp only [List.length_cons]; omega
      simp only [sgs_more hf r.length _ ((c :: r).drop p.2.toNat) hl (Nat.le_refl _)]
theorem signs_nil : signs [] = some [] := rfl
theorem signs_step {s : List UInt8} (h : s ≠ []) : signs s = match readU s with
    | none => none
    | some p => match signs (s.drop p.2.toNat) with
      | none => none
      | some l => some (p.1 :: l) :=
  sgs_step (fun s p hp => ⟨(readU_size (n := p.1) (size := p.2) hp).1, (readU_size (n := p.1) (size := p.2) hp).2.1⟩) h
def SoFar (s : List UInt8) (at' : Nat) (acc : List Int) : Prop := at' ≤ s.length ∧ acc.length ≤ at' ∧ signs s = (signs (s.drop at')).map (acc ++ ·)
theorem soFar_0 (s : List UInt8) : SoFar s 0 [] := ⟨Nat.zero_le _, Nat.le_refl _, by simp⟩
theorem soFar_next {s : List UInt8} {at' : Nat} {acc : List Int} {n size : Int} (h : SoFar s at' acc) (ha : at' < s.length) (hr : readU (s.drop at') = some (n, size)) : SoFar s (at' + size.toNat) (acc ++ [n]) := by
  obtain ⟨h1, h2, h3⟩ := h
  obtain ⟨z1, z2, _⟩ := readU_size hr
  rw [List.length_drop] at z2
  refine ⟨by omega, by simp only [List.length_append, List.length_cons, List.length_nil]; omega, ?_⟩
  rw [h3, signs_step (s := s.drop at') (by intro e; have := congrArg List.length e; simp at this; omega), hr]
  simp only [List.drop_drop]
  cases signs (s.drop (at' + size.toNat)) <;> simp
theorem soFar_bad {s : List UInt8} {at' : Nat} {acc : List Int} (h : SoFar s at' acc) (ha : at' < s.length) (hr : readU (s.drop at') = none) : signs s = none := by
  rw [h.2.2, signs_step (s := s.drop at') (by intro e; have := congrArg List.length e; simp at this; omega), hr]
  rfl
theorem soFar_end {s : List UInt8} {acc : List Int} (h : SoFar s s.length acc) : signs s = some acc := by
  rw [h.2.2, List.drop_length, signs_nil]; simp
def countOf (s : List UInt8) : Int := match signs s with | none => -1 | some l => l.length
theorem utf_Count1 (u : R03 E) (k : Nat) (a n : AV) (c : Int) (h0 : 0 ≤ c) (h1 : c ≤ 9223372036854775800) : denF E (k + 1) 23 [a, n, .ptr 0 0] [.cells [.p (.int .i64 c)]] = some (.ret (.tup []), [.cells [.p (.int .i64 (c + 1))]]) := by
  refine denF_wp_own u.count1 rfl ?_
  have w : IntKind.i64.wrap (c + 1) = c + 1 := wrap_i64 (by omega) (by omega)
  simp [Fn.f_utf_Count_1, w]
theorem utf_Count (u : R03 E) (s : List UInt8) (hs : (s.length : Int) ≤ 1000000000000) (k : Nat) (hk : s.length + 8 ≤ k) (m : Mem) : denF E (k + 1) 12 [.p (.str s)] m = some (.ret (.p (.int .i64 (countOf s))), m) := by
  obtain ⟨k, rfl⟩ : ∃ j, k = j + 1 := ⟨k - 1, by omega⟩
  refine denF_wp u.count rfl (args' := [.p (.str s)]) rfl ?_
  obtain ⟨b, m', hw, hb⟩ := utf_walk u s (by omega) 23 [.ptr 0 0] k (by omega) (fun at' m => ∃ acc, SoFar s at' acc ∧ m = [.cells [.p (.int .i64 acc.length)]])
    (by
      rintro at' n size m ha ⟨acc, hf, rfl⟩ hr
      have := hf.1
      have := hf.2.1
      obtain ⟨k, rfl⟩ : ∃ j, k = j + 1 := ⟨k - 1, by omega⟩
      refine ⟨_, utf_Count1 u k _ _ _ (by omega) (by omega), acc ++ [n], soFar_next hf ha hr, by simp⟩)
    [.cells [.p (.int .i64 0)]] ⟨[], soFar_0 s, rfl⟩
  rcases hb with ⟨rfl, acc, hf, rfl⟩ | ⟨rfl, at', ha, hr, acc, hf, rfl⟩
  · simp [Fn.f_utf_Count, hw, countOf, soFar_end hf]
  · simp [Fn.f_utf_Count, hw, countOf, soFar_bad hf ha hr]
theorem utf_Right (u : R03 E) (s : List UInt8) (hs : (s.length : Int) ≤ 1000000000000) (k : Nat) (hk : s.length + 9 ≤ k) (m : Mem) : denF E (k + 1) 11 [.p (.str s)] m = some (.ret (.p (.bool (signs s).isSome)), m) := by
  obtain ⟨k, rfl⟩ : ∃ j, k = j + 1 := ⟨k - 1, by omega⟩
  refine denF_wp u.right rfl (args' := [.p (.str s)]) rfl ?_
  have hC := fun m => utf_Count u s hs k (by omega) m
  cases h : signs s with
  | none => simp [Fn.f_utf_Right, hC, countOf, h]
  | some l => simp [Fn.f_utf_Right, hC, countOf, h]

def Grow (n : Nat) (rows : List (List PV)) (ov : AV) (m : Mem) : Prop := (rows = [] ∧ ov = .p .nils) ∨ (rows ≠ [] ∧ ∃ t, ov = .tv n rows t ∧ m[t]? = some (.tok n rows.length))
def slP (n : Nat) (rows : List (List PV)) : PV := match rows with | [] => .nils | _ => .vals n rows
def rowI (x : Int) : List PV := [.int .i64 x]
theorem get_app {m : Mem} {t : Nat} {b : Blk} (h : m[t]? = some b) (l : Mem) : (m ++ l)[t]? = some b := by
  have : t < m.length := by
    rcases Nat.lt_or_ge t m.length with h' | h'
    · exact h'
    · rw [List.getElem?_eq_none h'] at h; cases h
  rw [List.getElem?_append_left this, h]
theorem get_set {m : Mem} {t : Nat} {b : Blk} (h : m[t]? = some b) (x : Blk) : (m.set t x)[t]? = some x := by
  have : t < m.length := by
    rcases Nat.lt_or_ge t m.length with h' | h'
    · exact h'
    · rw [List.getElem?_eq_none h'] at h; cases h
  exact List.getElem?_set_self this
theorem get_new {m : Mem} {x : Blk} : (m ++ [x])[m.length]? = some x := by
  rw [List.getElem?_append_right (Nat.le_refl _), Nat.sub_self]; rfl
end Hx

namespace Hx
open Go
set_option linter.unusedSimpArgs false
set_option maxHeartbeats 1000000
variable {E : Env}
attribute [-simp] List.getD_eq_getElem?_getD getElem?_pos
def signsV (s : List UInt8) : PV := match signs s with | none => .nils | some l => slP 1 (l.map rowI)
theorem grow_strip {n : Nat} {rows : List (List PV)} {ov : AV} {m : Mem} (h : Grow n rows ov m) : stripV ov = some (.p (slP n rows)) := by
  rcases h with ⟨rfl, rfl⟩ | ⟨hr, t, rfl, h⟩
  · rfl
  · cases rows with
    | nil => exact absurd rfl hr
    | cons a l => rfl
end Hx

namespace Hx
open Go
set_option linter.unusedSimpArgs false
set_option maxHeartbeats 1000000
variable {E : Env}
attribute [-simp] List.getD_eq_getElem?_getD getElem?_pos
end Hx

namespace Hx
open Go
set_option linter.unusedSimpArgs false
set_option maxHeartbeats 1000000
variable {E : Env}
attribute [-simp] List.getD_eq_getElem?_getD getElem?_pos
end Hx
