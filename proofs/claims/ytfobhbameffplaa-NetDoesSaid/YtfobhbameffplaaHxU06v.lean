/-
  HxU06v: right values.
-/
import Derived.Test.YtfobhbameffplaaHxU03d
import Derived.Test.YtfobhbameffplaaHxFn06
namespace Hx
open Go
set_option linter.unusedSimpArgs false
variable {E : Env}
attribute [-simp] List.getD_eq_getElem?_getD getElem?_pos
def hitR (s : List UInt8) (n : Int) (size : Nat) : Bool := isSign n && (utf8 n == s.take size)
def refR (s : List UInt8) : Option (Int × Int) := match s with
  | [] => none
  | c :: r => bif hitR s c.toNat 1 then some ((c.toNat : Int), 1) else match r with
    | [] => none
    | b :: r => bif hitR s (((c.toNat : Int) - 192) * 64 + b.toNat - 128) 2 then some (((c.toNat : Int) - 192) * 64 + b.toNat - 128, 2) else match r with
      | [] => none
      | d :: r => bif hitR s ((((c.toNat : Int) - 224) * 64 + b.toNat - 128) * 64 + d.toNat - 128) 3 then some ((((c.toNat : Int) - 224) * 64 + b.toNat - 128) * 64 + d.toNat - 128, 3) else match r with
        | [] => none
        | e :: _ => bif hitR s (((((c.toNat : Int) - 240) * 64 + b.toNat - 128) * 64 + d.toNat - 128) * 64 + e.toNat - 128) 4 then some (((((c.toNat : Int) - 240) * 64 + b.toNat - 128) * 64 + d.toNat - 128) * 64 + e.toNat - 128, 4) else none
def rdSt (s : List UInt8) (size : Int) : List AV := Fn.f_haulageref03_Read_s0 (.p (.str s)) (.p (.int .i64 size))
def rdDone (n size : Int) (st : St) : Prop := st.ds = [] ∧ st.ts.getD 2 (.tup []) = .p (.int .i64 n) ∧ st.ts.getD 3 (.tup []) = .p (.int .i64 size) ∧ st.ts.getD 4 (.tup []) = .p (.bool true)
def rdAfter (s : List UInt8) (n : Int) (size : Nat) (e : Ex) (st : St) : Prop :=
  if hitR s n size = true then e = .ret ∧ rdDone n size st else e = .norm ∧ Live Fn.f_haulageref03_Read_k0 (rdSt s (size + 1)) [] st
theorem pIs : Fn.f_haulageref03_Is.pure = true := rfl
theorem pPut : Fn.f_haulageref03_Put.pure = true := rfl
theorem rd_exit (k : Nat) (s : List UInt8) (size : Int) (h : 4 < size ∨ (s.length : Int) < size) :
    Wp (den E (denF E k) k Fn.f_haulageref03_Read_b0 ⟨rdSt s size, [], []⟩) (fun e st => e = .exit 0 ∧ st.m = [] ∧ st.ds = [] ∧ st.ts.length = 58) := by
  by_cases h1 : size ≤ 4
  · have h2 : ¬ (size ≤ (s.length : Int)) := by omega
    simp [Fn.f_haulageref03_Read_b0, rdSt, Fn.f_haulageref03_Read_s0, h1, h2]
  · simp [Fn.f_haulageref03_Read_b0, rdSt, Fn.f_haulageref03_Read_s0, h1]
def rdFin (s : List UInt8) (e : Ex) (st : St) : Prop :=
  (∃ n size, refR s = some (n, size) ∧ e = .ret ∧ rdDone n size st) ∨ (refR s = none ∧ e = .exit 0 ∧ st.m = [] ∧ st.ds = [] ∧ st.ts.length = 58)
abbrev rdF (E : Env) (k : Nat) : St → Option (Ex × St) := loopF E (denF E k) k Fn.f_haulageref03_Read_k0 Fn.f_haulageref03_Read_b0
abbrev rdAt (s : List UInt8) (size : Int) (st : St) : Prop := Live Fn.f_haulageref03_Read_k0 (rdSt s size) [] st
theorem rd_out {k n : Nat} {s : List UInt8} {size : Int} {st : St} (ha : rdAt s size st) (h : 4 < size ∨ (s.length : Int) < size) (hr : refR s = none) :
    Wp (iter (rdF E k) (n + 1) st) (rdFin s) := by
  refine iter_wp_succ ?_
  rw [rdF, loopF_live ha]
  refine (rd_exit k s size h).mono ?_
  rintro e st' ⟨rfl, h1⟩
  exact .inr ⟨hr, rfl, h1⟩
theorem rd_go {k n : Nat} {s : List UInt8} {size : Nat} {x : Int} {st : St} (ha : rdAt s size st) (hs : Wp (den E (denF E k) k Fn.f_haulageref03_Read_b0 ⟨rdSt s size, [], []⟩) (rdAfter s x size))
    (hit : hitR s x size = true → refR s = some (x, (size : Int))) (go : hitR s x size = false → ∀ st', rdAt s (size + 1) st' → Wp (iter (rdF E k) n st') (rdFin s)) : Wp (iter (rdF E k) (n + 1) st) (rdFin s) := by
  refine iter_wp_succ ?_
  rw [rdF, loopF_live ha]
  refine hs.mono ?_
  intro e st' hq
  unfold rdAfter at hq
  split at hq
  · rename_i h
    obtain ⟨rfl, h1⟩ := hq
    exact .inl ⟨x, size, hit h, rfl, h1⟩
  · rename_i h
    obtain ⟨rfl, h1⟩ := hq
    exact go (by simpa using h) st' h1
theorem set3_get {ts : List AV} (h : ts.length = 58) (a b c : AV) : (((ts.set 2 a).set 3 b).set 4 c).getD 2 (.tup []) = a ∧ (((ts.set 2 a).set 3 b).set 4 c).getD 3 (.tup []) = b ∧ (((ts.set 2 a).set 3 b).set 4 c).getD 4 (.tup []) = c := by
  match ts, h with
  | _ :: _ :: _ :: _ :: _ :: _, _ => exact ⟨rfl, rfl, rfl⟩
end Hx

namespace Hx
open Go
theorem byte_nat {x : Int} (h1 : 0 ≤ x) (h2 : x ≤ 255) : ((byte x).toNat : Int) = x := by
  unfold byte
  rw [UInt8.toNat_ofNat']
  omega
theorem byte_self (c : UInt8) : byte (c.toNat : Int) = c := by
  apply UInt8.toNat_inj.1
  have h := u8_range c
  have := byte_nat h.1 h.2
  omega
theorem byte_eq {x : Int} {c : UInt8} (h : x = (c.toNat : Int)) : byte x = c := by
  rw [h, byte_self]
theorem cont_iff {b : UInt8} : cont b = true ↔ (b.toNat : Int) / 64 = 2 := by
  simp [cont]
theorem fits_some {n size a b : Int} (h : fits n size = some (a, b)) : a = n ∧ b = size ∧ isSign n = true ∧ widthOf n = size := by
  unfold fits at h
  split at h
  · rename_i h1
    split at h
    · rename_i h2
      simp only [Option.some.injEq, Prod.mk.injEq] at h
      exact ⟨h.1.symm, h.2.symm, h1, h2⟩
    · cases h
  · cases h
theorem fits_of {n size : Int} (h1 : isSign n = true) (h2 : widthOf n = size) : fits n size = some (n, size) := by
  unfold fits; rw [if_pos h1, if_pos h2]
theorem width_1 {n : Int} : widthOf n = 1 ↔ n < 128 := by
  unfold widthOf; split <;> (try split) <;> (try split) <;> omega
theorem width_2 {n : Int} : widthOf n = 2 ↔ 128 ≤ n ∧ n < 2048 := by
  unfold widthOf; split <;> (try split) <;> (try split) <;> omega
theorem width_3 {n : Int} : widthOf n = 3 ↔ 2048 ≤ n ∧ n < 65536 := by
  unfold widthOf; split <;> (try split) <;> (try split) <;> omega
theorem width_4 {n : Int} : widthOf n = 4 ↔ 65536 ≤ n := by
  unfold widthOf; split <;> (try split) <;> (try split) <;> omega
theorem utf8_1 {n : Int} (h : n < 128) : utf8 n = [byte n] := by
  unfold utf8; rw [if_pos h]
theorem utf8_2 {n : Int} (h1 : 128 ≤ n) (h2 : n < 2048) : utf8 n = [byte (192 + n / 64), byte (128 + n % 64)] := by
  unfold utf8; rw [if_neg (by omega), if_pos h2]
theorem utf8_3 {n : Int} (h1 : 2048 ≤ n) (h2 : n < 65536) : utf8 n = [byte (224 + n / 4096), byte (128 + n / 64 % 64), byte (128 + n % 64)] := by
  unfold utf8; rw [if_neg (by omega), if_neg (by omega), if_pos h2]
theorem utf8_4 {n : Int} (h1 : 65536 ≤ n) : utf8 n = [byte (240 + n / 262144), byte (128 + n / 4096 % 64), byte (128 + n / 64 % 64), byte (128 + n % 64)] := by
  unfold utf8; rw [if_neg (by omega), if_neg (by omega), if_neg (by omega)]
theorem readU_some {s : List UInt8} {n size : Int} (h : readU s = some (n, size)) : isSign n = true ∧ ∃ rest, s = utf8 n ++ rest ∧ size = (utf8 n).length := by
  cases s with
  | nil => cases h
  | cons c r =>
  rw [readU] at h
  obtain ⟨c0, c1⟩ := u8_range c
  unfold readB at h
  split at h
  · obtain ⟨rfl, rfl, h1, h2⟩ := fits_some h
    refine ⟨h1, r, ?_⟩
    rw [utf8_1 (width_1.1 h2), byte_self]
    exact ⟨rfl, rfl⟩
  split at h
  · split at h <;> try (cases h; done)
    rename_i b r
    obtain ⟨b0, b1⟩ := u8_range b
    cases hb : cont b <;> rw [hb] at h <;> simp only [cond_true, cond_false] at h <;> try (cases h; done)
    have hb' := cont_iff.1 hb
    obtain ⟨rfl, rfl, h1, h2⟩ := fits_some h
    obtain ⟨g1, g2⟩ := width_2.1 h2
    refine ⟨h1, r, ?_⟩
    rw [utf8_2 g1 g2, byte_eq (c := c) (by omega), byte_eq (c := b) (by omega)]
    exact ⟨rfl, rfl⟩
  split at h
  · split at h <;> try (cases h; done)
    rename_i b d r
    obtain ⟨b0, b1⟩ := u8_range b
    obtain ⟨d0, d1⟩ := u8_range d
    cases hb : cont b <;> rw [hb] at h <;> simp only [cond_true, cond_false] at h <;> try (cases h; done)
    cases hd : cont d <;> rw [hd] at h <;> simp only [cond_true, cond_false] at h <;> try (cases h; done)
    have hb' := cont_iff.1 hb
    have hd' := cont_iff.1 hd
    obtain ⟨rfl, rfl, h1, h2⟩ := fits_some h
    obtain ⟨g1, g2⟩ := width_3.1 h2
    refine ⟨h1, r, ?_⟩
    rw [utf8_3 g1 g2, byte_eq (c := c) (by omega), byte_eq (c := b) (by omega), byte_eq (c := d) (by omega)]
    exact ⟨rfl, rfl⟩
  split at h
  · split at h <;> try (cases h; done)
    rename_i b d e r
    obtain ⟨b0, b1⟩ := u8_range b
    obtain ⟨d0, d1⟩ := u8_range d
    obtain ⟨e0, e1⟩ := u8_range e
    cases hb : cont b <;> rw [hb] at h <;> simp only [cond_true, cond_false] at h <;> try (cases h; done)
    cases hd : cont d <;> rw [hd] at h <;> simp only [cond_true, cond_false] at h <;> try (cases h; done)
    cases he : cont e <;> rw [he] at h <;> simp only [cond_true, cond_false] at h <;> try (cases h; done)
    have hb' := cont_iff.1 hb
    have hd' := cont_iff.1 hd
    have he' := cont_iff.1 he
    obtain ⟨rfl, rfl, h1, h2⟩ := fits_some h
    have g1 := width_4.1 h2
    refine ⟨h1, r, ?_⟩
    rw [utf8_4 g1, byte_eq (c := c) (by omega), byte_eq (c := b) (by omega), byte_eq (c := d) (by omega), byte_eq (c := e) (by omega)]
    exact ⟨rfl, rfl⟩
  · cases h
theorem readU_utf8 {n : Int} (h : isSign n = true) (rest : List UInt8) : readU (utf8 n ++ rest) = some (n, ((utf8 n).length : Int)) := by
  obtain ⟨h0, h1, _⟩ := isSign_iff.1 h
  by_cases g1 : n < 128
  · rw [utf8_1 g1]
    show readB _ _ = some (n, 1)
    rw [byte_nat (by omega) (by omega)]
    simp only [readB, if_pos g1, fits_of h (width_1.2 g1)]
  by_cases g2 : n < 2048
  · rw [utf8_2 (by omega) g2]
    show readB _ (byte (128 + n % 64) :: rest) = some (n, 2)
    have hb : cont (byte (128 + n % 64)) = true := cont_iff.2 (by rw [byte_nat (by omega) (by omega)]; omega)
    rw [byte_nat (by omega) (by omega), readB, if_neg (by omega), if_pos (by omega)]
    simp only [hb, cond_true]
    rw [byte_nat (by omega) (by omega), show (192 + n / 64) % 32 * 64 + (128 + n % 64) % 64 = n by omega, fits_of h (width_2.2 ⟨by omega, g2⟩)]
  by_cases g3 : n < 65536
  · rw [utf8_3 (by omega) g3]
    show readB _ (byte (128 + n / 64 % 64) :: byte (128 + n % 64) :: rest) = some (n, 3)
    have hb : cont (byte (128 + n / 64 % 64)) = true := cont_iff.2 (by rw [byte_nat (by omega) (by omega)]; omega)
    have hd : cont (byte (128 + n % 64)) = true := cont_iff.2 (by rw [byte_nat (by omega) (by omega)]; omega)
    rw [byte_nat (by omega) (by omega), readB, if_neg (by omega), if_neg (by omega), if_pos (by omega)]
    simp only [hb, hd, cond_true]
    rw [byte_nat (x := 128 + n / 64 % 64) (by omega) (by omega), byte_nat (x := 128 + n % 64) (by omega) (by omega), show ((224 + n / 4096) % 16 * 64 + (128 + n / 64 % 64) % 64) * 64 + (128 + n % 64) % 64 = n by omega, fits_of h (width_3.2 ⟨by omega, g3⟩)]
  · rw [utf8_4 (by omega)]
    show readB _ (byte (128 + n / 4096 % 64) :: byte (128 + n / 64 % 64) :: byte (128 + n % 64) :: rest) = some (n, 4)
    have hb : cont (byte (128 + n / 4096 % 64)) = true := cont_iff.2 (by rw [byte_nat (by omega) (by omega)]; omega)
    have hd : cont (byte (128 + n / 64 % 64)) = true := cont_iff.2 (by rw [byte_nat (by omega) (by omega)]; omega)
    have he : cont (byte (128 + n % 64)) = true := cont_iff.2 (by rw [byte_nat (by omega) (by omega)]; omega)
    rw [byte_nat (by omega) (by omega), readB, if_neg (by omega), if_neg (by omega), if_neg (by omega), if_pos (by omega)]
    simp only [hb, hd, he, cond_true]
    rw [byte_nat (x := 128 + n / 4096 % 64) (by omega) (by omega), byte_nat (x := 128 + n / 64 % 64) (by omega) (by omega), byte_nat (x := 128 + n % 64) (by omega) (by omega), show (((240 + n / 262144) % 8 * 64 + (128 + n / 4096 % 64) % 64) * 64 + (128 + n / 64 % 64) % 64) * 64 + (128 + n % 64) % 64 = n by omega, fits_of h (width_4.2 (by omega))]
theorem utf8_len_pos (n : Int) : 0 < (utf8 n).length := by
  unfold utf8; split <;> (try split) <;> (try split) <;> simp
theorem utf8_prefix {n m : Int} (hn : isSign n = true) (hm : isSign m = true) {a b : List UInt8} (h : utf8 n ++ a = utf8 m ++ b) : n = m := by
  have h1 := readU_utf8 hn a
  rw [h, readU_utf8 hm b] at h1
  simp only [Option.some.injEq, Prod.mk.injEq] at h1
  exact h1.1.symm
theorem hitR_iff {s : List UInt8} {n : Int} {k : Nat} : hitR s n k = true ↔ isSign n = true ∧ utf8 n = s.take k := by
  simp [hitR]
theorem hit_len {s : List UInt8} {n m : Int} {k : Nat} (hn : isSign n = true) {rest : List UInt8} (hs : s = utf8 n ++ rest) (hk : k < (utf8 n).length) : hitR s m k = false := by
  cases h : hitR s m k with
  | false => rfl
  | true =>
    obtain ⟨hm, ht⟩ := hitR_iff.1 h
    have e : s = utf8 m ++ s.drop k := by rw [ht, List.take_append_drop]
    have := utf8_prefix hn hm (hs.symm.trans e)
    subst this
    have hl : (utf8 n).length = (s.take k).length := by rw [← ht]
    rw [List.length_take] at hl
    omega
theorem refR_some {s : List UInt8} {n size : Int} (h : refR s = some (n, size)) : ∃ k : Nat, size = k ∧ hitR s n k = true := by
  unfold refR at h
  split at h
  · cases h
  rename_i c r
  cases h1 : hitR (c :: r) c.toNat 1 <;> simp only [h1, cond_true, cond_false] at h
  · split at h
    · cases h
    rename_i b r
    cases h2 : hitR (c :: b :: r) (((c.toNat : Int) - 192) * 64 + b.toNat - 128) 2 <;> simp only [h2, cond_true, cond_false] at h
    · split at h
      · cases h
      rename_i d r
      cases h3 : hitR (c :: b :: d :: r) ((((c.toNat : Int) - 224) * 64 + b.toNat - 128) * 64 + d.toNat - 128) 3 <;> simp only [h3, cond_true, cond_false] at h
      · split at h
        · cases h
        rename_i e r
        cases h4 : hitR (c :: b :: d :: e :: r) (((((c.toNat : Int) - 240) * 64 + b.toNat - 128) * 64 + d.toNat - 128) * 64 + e.toNat - 128) 4 <;> simp only [h4, cond_true, cond_false] at h
        · cases h
        · simp only [Option.some.injEq, Prod.mk.injEq] at h
          obtain ⟨rfl, rfl⟩ := h
          exact ⟨4, rfl, h4⟩
      · simp only [Option.some.injEq, Prod.mk.injEq] at h
        obtain ⟨rfl, rfl⟩ := h
        exact ⟨3, rfl, h3⟩
    · simp only [Option.some.injEq, Prod.mk.injEq] at h
      obtain ⟨rfl, rfl⟩ := h
      exact ⟨2, rfl, h2⟩
  · simp only [Option.some.injEq, Prod.mk.injEq] at h
    obtain ⟨rfl, rfl⟩ := h
    exact ⟨1, rfl, h1⟩
theorem hit_self {n : Int} (h : isSign n = true) (rest : List UInt8) {k : Nat} (hk : (utf8 n).length = k) : hitR (utf8 n ++ rest) n k = true := by
  subst hk
  exact hitR_iff.2 ⟨h, by rw [List.take_left]⟩
theorem refR_utf8 {n : Int} (h : isSign n = true) (rest : List UInt8) : refR (utf8 n ++ rest) = some (n, ((utf8 n).length : Int)) := by
  obtain ⟨h0, h1, _⟩ := isSign_iff.1 h
  have hlen := fun k (m : Int) (hk : k < (utf8 n).length) => hit_len (m := m) (k := k) h (rfl : utf8 n ++ rest = utf8 n ++ rest) hk
  have hself := fun k hk => hit_self h rest (k := k) hk
  by_cases g1 : n < 128
  · rw [utf8_1 g1] at hlen hself ⊢
    have e := hself 1 rfl
    simp only [List.cons_append, List.nil_append] at e ⊢
    unfold refR
    simp only [byte_nat (x := n) (by omega) (by omega), e, cond_true]
    rfl
  by_cases g2 : n < 2048
  · rw [utf8_2 (by omega) g2] at hlen hself ⊢
    have e := hself 2 rfl
    have l1 := fun m => hlen 1 m (by simp)
    simp only [List.cons_append, List.nil_append] at e l1 ⊢
    have v : (192 + n / 64 - 192) * 64 + (128 + n % 64) - 128 = n := by omega
    unfold refR
    simp only [l1, cond_false, byte_nat (x := 192 + n / 64) (by omega) (by omega), byte_nat (x := 128 + n % 64) (by omega) (by omega), v, e, cond_true]
    rfl
  by_cases g3 : n < 65536
  · rw [utf8_3 (by omega) g3] at hlen hself ⊢
    have e := hself 3 rfl
    have l1 := fun m => hlen 1 m (by simp)
    have l2 := fun m => hlen 2 m (by simp)
    simp only [List.cons_append, List.nil_append] at e l1 l2 ⊢
    have v : ((224 + n / 4096 - 224) * 64 + (128 + n / 64 % 64) - 128) * 64 + (128 + n % 64) - 128 = n := by omega
    unfold refR
    simp only [l1, l2, cond_false, byte_nat (x := 224 + n / 4096) (by omega) (by omega), byte_nat (x := 128 + n / 64 % 64) (by omega) (by omega), byte_nat (x := 128 + n % 64) (by omega) (by omega), v, e, cond_true]
    rfl
  · rw [utf8_4 (by omega)] at hlen hself ⊢
    have e := hself 4 rfl
    have l1 := fun m => hlen 1 m (by simp)
    have l2 := fun m => hlen 2 m (by simp)
    have l3 := fun m => hlen 3 m (by simp)
    simp only [List.cons_append, List.nil_append] at e l1 l2 l3 ⊢
    have v : (((240 + n / 262144 - 240) * 64 + (128 + n / 4096 % 64) - 128) * 64 + (128 + n / 64 % 64) - 128) * 64 + (128 + n % 64) - 128 = n := by omega
    unfold refR
    simp only [l1, l2, l3, cond_false, byte_nat (x := 240 + n / 262144) (by omega) (by omega), byte_nat (x := 128 + n / 4096 % 64) (by omega) (by omega), byte_nat (x := 128 + n / 64 % 64) (by omega) (by omega), byte_nat (x := 128 + n % 64) (by omega) (by omega), v, e, cond_true]
    rfl
theorem refR_eq (s : List UInt8) : refR s = readU s := by
  cases h : readU s with
  | some p =>
    obtain ⟨n, size⟩ := p
    obtain ⟨h1, rest, rfl, rfl⟩ := readU_some h
    exact refR_utf8 h1 rest
  | none =>
    cases h2 : refR s with
    | none => rfl
    | some p =>
      obtain ⟨n, size⟩ := p
      obtain ⟨k, rfl, hk⟩ := refR_some h2
      obtain ⟨h1, ht⟩ := hitR_iff.1 hk
      have e : s = utf8 n ++ s.drop k := by rw [ht, List.take_append_drop]
      rw [e, readU_utf8 h1] at h
      cases h
end Hx

namespace Hx
open Go
set_option linter.unusedSimpArgs false
set_option maxHeartbeats 1000000
variable {E : Env}
attribute [-simp] List.getD_eq_getElem?_getD getElem?_pos
theorem readU_size {s : List UInt8} {n size : Int} (h : readU s = some (n, size)) : 1 ≤ size ∧ size ≤ s.length ∧ size ≤ 4 := by
  obtain ⟨h1, rest, rfl, rfl⟩ := readU_some h
  have := utf8_len_pos n
  have h4 : (utf8 n).length ≤ 4 := by
    unfold utf8; split <;> (try split) <;> (try split) <;> simp
  rw [List.length_append]
  omega
end Hx

namespace Hx
open Go
set_option linter.unusedSimpArgs false
set_option maxHeartbeats 1000000
variable {E : Env}
attribute [-simp] List.getD_eq_getElem?_getD getElem?_pos
def sgs (f : List UInt8 → Option (Int × Int)) : Nat → List UInt8 → Option (List Int)
  | _, [] => some []
  | 0, _ :: _ => none
  | k + 1, c :: r => match f (c :: r) with
    | none => none
    | some p => match sgs f k ((c :: r).drop p.2.toNat) with
      | none => none
      | some l => some (p.1 :: l)
def signs (s : List UInt8) : Option (List Int) := sgs readU s.length s
theorem sgs_more {f : List UInt8 → Option (Int × Int)} (hf : ∀ s p, f s = some p → 1 ≤ p.2 ∧ p.2 ≤ s.length) : ∀ (k k' : Nat) (s : List UInt8), s.length ≤ k → s.length ≤ k' → sgs f k s = sgs f k' s
  | k, k', [], _, _ => by cases k <;> cases k' <;> rfl
  | 0, _, _ :: _, h, _ => by simp at h
  | _, 0, _ :: _, _, h => by simp at h
  | k + 1, k' + 1, c :: r, h, h' => by
    simp only [sgs]
    cases hr : f (c :: r) with
    | none => rfl
    | some p =>
      obtain ⟨z1, z2⟩ := hf _ _ hr
      have hl : ((c :: r).drop p.2.toNat).length ≤ r.length := by
        rw [List.length_drop]; simp only [List.length_cons]; omega
      simp only [List.length_cons] at h h'
      simp only [sgs_more hf k k' ((c :: r).drop p.2.toNat) (by omega) (by omega)]
theorem sgs_step {f : List UInt8 → Option (Int × Int)} (hf : ∀ s p, f s = some p → 1 ≤ p.2 ∧ p.2 ≤ s.length) {s : List UInt8} (h : s ≠ []) : sgs f s.length s = match f s with
    | none => none
    | some p => match sgs f (s.drop p.2.toNat).length (s.drop p.2.toNat) with
      | none => none
      | some l => some (p.1 :: l) := by
  cases s with
  | nil => exact absurd rfl h
  | cons c r =>
    simp only [List.length_cons, sgs]
    cases hr : f (c :: r) with
    | none => rfl
    | some p =>
      obtain ⟨z1, z2⟩ := hf _ _ hr
      have hl : ((c :: r).drop p.2.toNat).length ≤ r.length := by
        rw [List.length_drop]; simp only [List.length_cons]; omega
      simp only [sgs_more hf r.length _ ((c :: r).drop p.2.toNat) hl (Nat.le_refl _)]
theorem signs_nil : signs [] = some [] := rfl
theorem signs_step {s : List UInt8} (h : s ≠ []) : signs s = match readU s with
    | none => none
    | some p => match signs (s.drop p.2.toNat) with
      | none => none
      | some l => some (p.1 :: l) :=
  sgs_step (fun s p hp => ⟨(readU_size (n := p.1) (size := p.2) hp).1, (readU_size (n := p.1) (size := p.2) hp).2.1⟩) h
def SoFar (s : List UInt8) (at' : Nat) (acc : List Int) : Prop := at' ≤ s.length ∧ acc.length ≤ at' ∧ signs s = (signs (s.drop at')).map (acc ++ ·)
theorem soFar_0 (s : List UInt8) : SoFar s 0 [] := ⟨Nat.zero_le _, Nat.le_refl _, by simp⟩
theorem soFar_next {s : List UInt8} {at' : Nat} {acc : List Int} {n size : Int} (h : SoFar s at' acc) (ha : at' < s.length) (hr : readU (s.drop at') = some (n, size)) : SoFar s (at' + size.toNat) (acc ++ [n]) := by
  obtain ⟨h1, h2, h3⟩ := h
  obtain ⟨z1, z2, _⟩ := readU_size hr
  rw [List.length_drop] at z2
  refine ⟨by omega, by simp only [List.length_append, List.length_cons, List.length_nil]; omega, ?_⟩
  rw [h3, signs_step (s := s.drop at') (by intro e; have := congrArg List.length e; simp at this; omega), hr]
  simp only [List.drop_drop]
  cases signs (s.drop (at' + size.toNat)) <;> simp
theorem soFar_bad {s : List UInt8} {at' : Nat} {acc : List Int} (h : SoFar s at' acc) (ha : at' < s.length) (hr : readU (s.drop at') = none) : signs s = none := by
  rw [h.2.2, signs_step (s := s.drop at') (by intro e; have := congrArg List.length e; simp at this; omega), hr]
  rfl
theorem soFar_end {s : List UInt8} {acc : List Int} (h : SoFar s s.length acc) : signs s = some acc := by
  rw [h.2.2, List.drop_length, signs_nil]; simp

def Grow (n : Nat) (rows : List (List PV)) (ov : AV) (m : Mem) : Prop := (rows = [] ∧ ov = .p .nils) ∨ (rows ≠ [] ∧ ∃ t, ov = .tv n rows t ∧ m[t]? = some (.tok n rows.length))
def slP (n : Nat) (rows : List (List PV)) : PV := match rows with | [] => .nils | _ => .vals n rows
def rowI (x : Int) : List PV := [.int .i64 x]
theorem get_app {m : Mem} {t : Nat} {b : Blk} (h : m[t]? = some b) (l : Mem) : (m ++ l)[t]? = some b := by
  have : t < m.length := by
    rcases Nat.lt_or_ge t m.length with h' | h'
    · exact h'
    · rw [List.getElem?_eq_none h'] at h; cases h
  rw [List.getElem?_append_left this, h]
theorem get_set {m : Mem} {t : Nat} {b : Blk} (h : m[t]? = some b) (x : Blk) : (m.set t x)[t]? = some x := by
  have : t < m.length := by
    rcases Nat.lt_or_ge t m.length with h' | h'
    · exact h'
    · rw [List.getElem?_eq_none h'] at h; cases h
  exact List.getElem?_set_self this
theorem get_new {m : Mem} {x : Blk} : (m ++ [x])[m.length]? = some x := by
  rw [List.getElem?_append_right (Nat.le_refl _), Nat.sub_self]; rfl
end Hx

namespace Hx
open Go
set_option linter.unusedSimpArgs false
set_option maxHeartbeats 1000000
variable {E : Env}
attribute [-simp] List.getD_eq_getElem?_getD getElem?_pos
def signsV (s : List UInt8) : PV := match signs s with | none => .nils | some l => slP 1 (l.map rowI)
theorem grow_strip {n : Nat} {rows : List (List PV)} {ov : AV} {m : Mem} (h : Grow n rows ov m) : stripV ov = some (.p (slP n rows)) := by
  rcases h with ⟨rfl, rfl⟩ | ⟨hr, t, rfl, h⟩
  · rfl
  · cases rows with
    | nil => exact absurd rfl hr
    | cons a l => rfl
end Hx

namespace Hx
open Go
set_option linter.unusedSimpArgs false
set_option maxHeartbeats 1000000
variable {E : Env}
attribute [-simp] List.getD_eq_getElem?_getD getElem?_pos
end Hx

namespace Hx
open Go
set_option linter.unusedSimpArgs false
set_option maxHeartbeats 1000000
variable {E : Env}
attribute [-simp] List.getD_eq_getElem?_getD getElem?_pos
end Hx

namespace Hx
open Go
set_option linter.unusedSimpArgs false
set_option maxHeartbeats 1000000
variable {E : Env}
attribute [-simp] List.getD_eq_getElem?_getD getElem?_pos
end Hx

namespace Hx
open Go
set_option linter.unusedSimpArgs false
set_option linter.unusedVariables false
set_option maxHeartbeats 4000000
variable {E : Env}
attribute [-simp] List.getD_eq_getElem?_getD getElem?_pos
theorem intBeq {a b : Int} : (a == b) = decide (a = b) := by
  rw [Bool.eq_iff_iff]; simp
theorem maxIf {a c : Int} : (if a < c then c else a) = max a c := by
  split <;> omega
attribute [local simp] intBeq maxIf
def vP (k n : Int) (s : List UInt8) : PV := .agg [.int .i64 k, .int .i64 n, .str s]
def tP (k m : Int) : PV := .agg [.int .i64 k, .int .i64 m]
theorem ref_TRight (h : E.fn 85 = some Fn.f_haulageref06_Right) (k : Nat) (a b : Int) (m : Mem) : denF E (k + 1) 85 [.p (tP a b)] m = some (.ret (.p (.bool (rightT a b))), m) := by
  refine denF_wp h rfl (args' := [.p (tP a b)]) rfl ?_
  unfold rightT tP
  by_cases h1 : a = 1
  · subst h1; simp [Fn.f_haulageref06_Right]
  by_cases h2 : a = 2
  · subst h2; simp [Fn.f_haulageref06_Right]
  by_cases h3 : a = 3
  · subst h3; by_cases hb : 1 ≤ b <;> simp [Fn.f_haulageref06_Right, hb]
  by_cases h4 : a = 4
  · subst h4; by_cases hb : 1 ≤ b <;> simp [Fn.f_haulageref06_Right, hb]
  simp [Fn.f_haulageref06_Right, h1, h2, h3, h4]
end Hx

namespace Hx
open Go
set_option linter.unusedSimpArgs false
set_option linter.unusedVariables false
set_option maxHeartbeats 4000000
variable {E : Env}
attribute [-simp] List.getD_eq_getElem?_getD getElem?_pos
attribute [local simp] intBeq maxIf
def fits32 (n : Int) : Bool := decide (-2147483648 ≤ n ∧ n < 2147483648)
def pw (i : Nat) : Int := ((2 ^ i : Nat) : Int)
theorem pw_succ (i : Nat) : pw (i + 1) = 2 * pw i := by
  unfold pw
  rw [Nat.pow_succ]
  omega
theorem pw_pos (i : Nat) : 0 ≤ pw i := Int.natCast_nonneg _
theorem pw_le {i : Nat} (h : i ≤ 30) : pw i ≤ 1073741824 := by
  have : 2 ^ i ≤ 2 ^ 30 := Nat.pow_le_pow_right (by omega) h
  unfold pw
  omega
end Hx

namespace Hx
open Go
set_option linter.unusedSimpArgs false
set_option linter.unusedVariables false
set_option maxHeartbeats 4000000
variable {E : Env}
attribute [-simp] List.getD_eq_getElem?_getD getElem?_pos
def rightV (k n : Int) (s : List UInt8) : Bool :=
  if k = 0 then (n == 0) && s.isEmpty else if k = 1 then fits32 n && s.isEmpty else if k = 2 then s.isEmpty
  else if k = 3 then (n == 0) && decide (s.length ≤ 120) && (signs s).isSome else if k = 4 then (n == 0) && decide (s.length ≤ 120) else false
def isI64 (n : Int) : Prop := -9223372036854775808 ≤ n ∧ n ≤ 9223372036854775807
end Hx
