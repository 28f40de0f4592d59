/-
  HxU03e: 'Read' of chapter 03, the document's.
-/
import Derived.Test.YtifcegbomagcpaaDoorHxU03d
namespace Hx
open Go
set_option linter.unusedSimpArgs false
variable {E : Env}
attribute [-simp] List.getD_eq_getElem?_getD getElem?_pos
def hitR (s : List UInt8) (n : Int) (size : Nat) : Bool := isSign n && (utf8 n == s.take size)
def refR (s : List UInt8) : Option (Int × Int) := match s with
  | [] => none
  | c :: r => bif hitR s c.toNat 1 then some ((c.toNat : Int), 1) else match r with
    | [] => none
    | b :: r => bif hitR s (((c.toNat : Int) - 192) * 64 + b.toNat - 128) 2 then some (((c.toNat : Int) - 192) * 64 + b.toNat - 128, 2) else match r with
      | [] => none
      | d :: r => bif hitR s ((((c.toNat : Int) - 224) * 64 + b.toNat - 128) * 64 + d.toNat - 128) 3 then some ((((c.toNat : Int) - 224) * 64 + b.toNat - 128) * 64 + d.toNat - 128, 3) else match r with
        | [] => none
        | e :: _ => bif hitR s (((((c.toNat : Int) - 240) * 64 + b.toNat - 128) * 64 + d.toNat - 128) * 64 + e.toNat - 128) 4 then some (((((c.toNat : Int) - 240) * 64 + b.toNat - 128) * 64 + d.toNat - 128) * 64 + e.toNat - 128, 4) else none
def rdSt (s : List UInt8) (size : Int) : List AV := Fn.f_haulageref03_Read_s0 (.p (.str s)) (.p (.int .i64 size))
def rdDone (n size : Int) (st : St) : Prop := st.ds = [] ∧ st.ts.getD 2 (.tup []) = .p (.int .i64 n) ∧ st.ts.getD 3 (.tup []) = .p (.int .i64 size) ∧ st.ts.getD 4 (.tup []) = .p (.bool true)
def rdAfter (s : List UInt8) (n : Int) (size : Nat) (e : Ex) (st : St) : Prop :=
  if hitR s n size = true then e = .ret ∧ rdDone n size st else e = .norm ∧ Live Fn.f_haulageref03_Read_k0 (rdSt s (size + 1)) [] st
theorem pIs : Fn.f_haulageref03_Is.pure = true := rfl
theorem pPut : Fn.f_haulageref03_Put.pure = true := rfl
theorem rd_step1 (u : V03 E) (k : Nat) (c : UInt8) (r : List UInt8) (n : Int) (hn : n = (c.toNat : Int)) :
    Wp (den E (denF E (k + 4)) (k + 4) Fn.f_haulageref03_Read_b0 ⟨rdSt (c :: r) 1, [], []⟩) (rdAfter (c :: r) n 1) := by
  obtain ⟨c0, c1⟩ := u8_range c
  have wc : IntKind.i64.wrap (c.toNat : Int) = (c.toNat : Int) := wrap_i64 (by omega) (by omega)
  have f : ((r.length : Int) + 1 ≥ 1) := by omega
  have f' : (1 : Int) ≤ ((r.length : Int) + 1) := by omega
  have f2 : (1 : Nat) ≤ (r.length + 1) := by omega
  have hI := fun n m => ref_Is u.rIs (k + 3) n m
  rw [hn]
  cases i1 : isSign ((c.toNat : Int)) with
  | false =>
    simp [Fn.f_haulageref03_Read_b0, Fn.f_haulageref03_Read_b1, Fn.f_haulageref03_Read_k1, loopF, rdSt, Fn.f_haulageref03_Read_s0, iter, hI, i1, u.rIs, pIs, bne, wrap_i64, f, f', f2, wc]
    simp [rdAfter, hitR, i1, Live, Fn.f_haulageref03_Read_k0, rdSt, Fn.f_haulageref03_Read_s0, wrap_i64]
  | true =>
  obtain ⟨n1, n2, _⟩ := isSign_iff.1 i1
  have hP := fun m => ref_Put u.rPut u.rOne (k + 2) ((c.toNat : Int)) n1 n2 m
  cases q : (utf8 ((c.toNat : Int)) == (c :: r).take 1) with
  | false =>
    simp only [List.take_succ_cons, List.take_zero] at q
    simp [Fn.f_haulageref03_Read_b0, Fn.f_haulageref03_Read_b1, Fn.f_haulageref03_Read_k1, loopF, rdSt, Fn.f_haulageref03_Read_s0, iter, hI, hP, i1, u.rIs, u.rPut, pIs, pPut, bne, q, wrap_i64, f, f', f2, wc]
    simp [rdAfter, hitR, i1, q, Live, Fn.f_haulageref03_Read_k0, rdSt, Fn.f_haulageref03_Read_s0, wrap_i64]
  | true =>
    simp only [List.take_succ_cons, List.take_zero] at q
    simp [Fn.f_haulageref03_Read_b0, Fn.f_haulageref03_Read_b1, Fn.f_haulageref03_Read_k1, loopF, rdSt, Fn.f_haulageref03_Read_s0, iter, hI, hP, i1, u.rIs, u.rPut, pIs, pPut, bne, q, wrap_i64, f, f', f2, wc]
    simp [rdAfter, hitR, i1, q, rdDone]
theorem rd_step2 (u : V03 E) (k : Nat) (c b : UInt8) (r : List UInt8) (n : Int) (hn : n = (((c.toNat : Int) - 192) * 64 + (b.toNat : Int) - 128)) :
    Wp (den E (denF E (k + 4)) (k + 4) Fn.f_haulageref03_Read_b0 ⟨rdSt (c :: b :: r) 2, [], []⟩) (rdAfter (c :: b :: r) n 2) := by
  obtain ⟨c0, c1⟩ := u8_range c
  obtain ⟨b0, b1⟩ := u8_range b
  have w0 : IntKind.i64.wrap ((c.toNat : Int) - 192) = (c.toNat : Int) - 192 := wrap_i64 (by omega) (by omega)
  have w1 : IntKind.i64.wrap (((c.toNat : Int) - 192) * 64) = ((c.toNat : Int) - 192) * 64 := wrap_i64 (by omega) (by omega)
  have w2 : IntKind.i64.wrap (((c.toNat : Int) - 192) * 64 + (b.toNat : Int)) = ((c.toNat : Int) - 192) * 64 + (b.toNat : Int) := wrap_i64 (by omega) (by omega)
  have w3 : IntKind.i64.wrap (((c.toNat : Int) - 192) * 64 + (b.toNat : Int) - 128) = ((c.toNat : Int) - 192) * 64 + (b.toNat : Int) - 128 := wrap_i64 (by omega) (by omega)
  have wc : IntKind.i64.wrap (c.toNat : Int) = (c.toNat : Int) := wrap_i64 (by omega) (by omega)
  have wb : IntKind.i64.wrap (b.toNat : Int) = (b.toNat : Int) := wrap_i64 (by omega) (by omega)
  have f : ((r.length : Int) + 1 + 1 ≥ 2) := by omega
  have f' : (2 : Int) ≤ ((r.length : Int) + 1 + 1) := by omega
  have f2 : (2 : Nat) ≤ (r.length + 1 + 1) := by omega
  have hI := fun n m => ref_Is u.rIs (k + 3) n m
  rw [hn]
  cases i1 : isSign ((((c.toNat : Int) - 192) * 64 + (b.toNat : Int) - 128)) with
  | false =>
    simp [Fn.f_haulageref03_Read_b0, Fn.f_haulageref03_Read_b1, Fn.f_haulageref03_Read_k1, loopF, rdSt, Fn.f_haulageref03_Read_s0, iter, hI, i1, u.rIs, pIs, bne, wrap_i64, f, f', f2, wc, w0, w1, w2, w3, wb]
    simp [rdAfter, hitR, i1, Live, Fn.f_haulageref03_Read_k0, rdSt, Fn.f_haulageref03_Read_s0, wrap_i64]
  | true =>
  obtain ⟨n1, n2, _⟩ := isSign_iff.1 i1
  have hP := fun m => ref_Put u.rPut u.rOne (k + 2) ((((c.toNat : Int) - 192) * 64 + (b.toNat : Int) - 128)) n1 n2 m
  cases q : (utf8 ((((c.toNat : Int) - 192) * 64 + (b.toNat : Int) - 128)) == (c :: b :: r).take 2) with
  | false =>
    simp only [List.take_succ_cons, List.take_zero] at q
    simp [Fn.f_haulageref03_Read_b0, Fn.f_haulageref03_Read_b1, Fn.f_haulageref03_Read_k1, loopF, rdSt, Fn.f_haulageref03_Read_s0, iter, hI, hP, i1, u.rIs, u.rPut, pIs, pPut, bne, q, wrap_i64, f, f', f2, wc, w0, w1, w2, w3, wb]
    simp [rdAfter, hitR, i1, q, Live, Fn.f_haulageref03_Read_k0, rdSt, Fn.f_haulageref03_Read_s0, wrap_i64]
  | true =>
    simp only [List.take_succ_cons, List.take_zero] at q
    simp [Fn.f_haulageref03_Read_b0, Fn.f_haulageref03_Read_b1, Fn.f_haulageref03_Read_k1, loopF, rdSt, Fn.f_haulageref03_Read_s0, iter, hI, hP, i1, u.rIs, u.rPut, pIs, pPut, bne, q, wrap_i64, f, f', f2, wc, w0, w1, w2, w3, wb]
    simp [rdAfter, hitR, i1, q, rdDone]
theorem rd_step3 (u : V03 E) (k : Nat) (c b d : UInt8) (r : List UInt8) (n : Int) (hn : n = ((((c.toNat : Int) - 224) * 64 + (b.toNat : Int) - 128) * 64 + (d.toNat : Int) - 128)) :
    Wp (den E (denF E (k + 4)) (k + 4) Fn.f_haulageref03_Read_b0 ⟨rdSt (c :: b :: d :: r) 3, [], []⟩) (rdAfter (c :: b :: d :: r) n 3) := by
  obtain ⟨c0, c1⟩ := u8_range c
  obtain ⟨b0, b1⟩ := u8_range b
  obtain ⟨d0, d1⟩ := u8_range d
  have w0 : IntKind.i64.wrap ((c.toNat : Int) - 224) = (c.toNat : Int) - 224 := wrap_i64 (by omega) (by omega)
  have w1 : IntKind.i64.wrap (((c.toNat : Int) - 224) * 64) = ((c.toNat : Int) - 224) * 64 := wrap_i64 (by omega) (by omega)
  have w2 : IntKind.i64.wrap (((c.toNat : Int) - 224) * 64 + (b.toNat : Int)) = ((c.toNat : Int) - 224) * 64 + (b.toNat : Int) := wrap_i64 (by omega) (by omega)
  have w3 : IntKind.i64.wrap (((c.toNat : Int) - 224) * 64 + (b.toNat : Int) - 128) = ((c.toNat : Int) - 224) * 64 + (b.toNat : Int) - 128 := wrap_i64 (by omega) (by omega)
  have w4 : IntKind.i64.wrap ((((c.toNat : Int) - 224) * 64 + (b.toNat : Int) - 128) * 64) = (((c.toNat : Int) - 224) * 64 + (b.toNat : Int) - 128) * 64 := wrap_i64 (by omega) (by omega)
  have w5 : IntKind.i64.wrap ((((c.toNat : Int) - 224) * 64 + (b.toNat : Int) - 128) * 64 + (d.toNat : Int)) = (((c.toNat : Int) - 224) * 64 + (b.toNat : Int) - 128) * 64 + (d.toNat : Int) := wrap_i64 (by omega) (by omega)
  have w6 : IntKind.i64.wrap ((((c.toNat : Int) - 224) * 64 + (b.toNat : Int) - 128) * 64 + (d.toNat : Int) - 128) = (((c.toNat : Int) - 224) * 64 + (b.toNat : Int) - 128) * 64 + (d.toNat : Int) - 128 := wrap_i64 (by omega) (by omega)
  have wc : IntKind.i64.wrap (c.toNat : Int) = (c.toNat : Int) := wrap_i64 (by omega) (by omega)
  have wb : IntKind.i64.wrap (b.toNat : Int) = (b.toNat : Int) := wrap_i64 (by omega) (by omega)
  have wd : IntKind.i64.wrap (d.toNat : Int) = (d.toNat : Int) := wrap_i64 (by omega) (by omega)
  have f : ((r.length : Int) + 1 + 1 + 1 ≥ 3) := by omega
  have f' : (3 : Int) ≤ ((r.length : Int) + 1 + 1 + 1) := by omega
  have f2 : (3 : Nat) ≤ (r.length + 1 + 1 + 1) := by omega
  have hI := fun n m => ref_Is u.rIs (k + 3) n m
  rw [hn]
  cases i1 : isSign (((((c.toNat : Int) - 224) * 64 + (b.toNat : Int) - 128) * 64 + (d.toNat : Int) - 128)) with
  | false =>
    simp [Fn.f_haulageref03_Read_b0, Fn.f_haulageref03_Read_b1, Fn.f_haulageref03_Read_k1, loopF, rdSt, Fn.f_haulageref03_Read_s0, iter, hI, i1, u.rIs, pIs, bne, wrap_i64, f, f', f2, wc, w0, w1, w2, w3, w4, w5, w6, wb, wd]
    simp [rdAfter, hitR, i1, Live, Fn.f_haulageref03_Read_k0, rdSt, Fn.f_haulageref03_Read_s0, wrap_i64]
  | true =>
  obtain ⟨n1, n2, _⟩ := isSign_iff.1 i1
  have hP := fun m => ref_Put u.rPut u.rOne (k + 2) (((((c.toNat : Int) - 224) * 64 + (b.toNat : Int) - 128) * 64 + (d.toNat : Int) - 128)) n1 n2 m
  cases q : (utf8 (((((c.toNat : Int) - 224) * 64 + (b.toNat : Int) - 128) * 64 + (d.toNat : Int) - 128)) == (c :: b :: d :: r).take 3) with
  | false =>
    simp only [List.take_succ_cons, List.take_zero] at q
    simp [Fn.f_haulageref03_Read_b0, Fn.f_haulageref03_Read_b1, Fn.f_haulageref03_Read_k1, loopF, rdSt, Fn.f_haulageref03_Read_s0, iter, hI, hP, i1, u.rIs, u.rPut, pIs, pPut, bne, q, wrap_i64, f, f', f2, wc, w0, w1, w2, w3, w4, w5, w6, wb, wd]
    simp [rdAfter, hitR, i1, q, Live, Fn.f_haulageref03_Read_k0, rdSt, Fn.f_haulageref03_Read_s0, wrap_i64]
  | true =>
    simp only [List.take_succ_cons, List.take_zero] at q
    simp [Fn.f_haulageref03_Read_b0, Fn.f_haulageref03_Read_b1, Fn.f_haulageref03_Read_k1, loopF, rdSt, Fn.f_haulageref03_Read_s0, iter, hI, hP, i1, u.rIs, u.rPut, pIs, pPut, bne, q, wrap_i64, f, f', f2, wc, w0, w1, w2, w3, w4, w5, w6, wb, wd]
    simp [rdAfter, hitR, i1, q, rdDone]
theorem rd_step4 (u : V03 E) (k : Nat) (c b d e : UInt8) (r : List UInt8) (n : Int) (hn : n = (((((c.toNat : Int) - 240) * 64 + (b.toNat : Int) - 128) * 64 + (d.toNat : Int) - 128) * 64 + (e.toNat : Int) - 128)) :
    Wp (den E (denF E (k + 4)) (k + 4) Fn.f_haulageref03_Read_b0 ⟨rdSt (c :: b :: d :: e :: r) 4, [], []⟩) (rdAfter (c :: b :: d :: e :: r) n 4) := by
  obtain ⟨c0, c1⟩ := u8_range c
  obtain ⟨b0, b1⟩ := u8_range b
  obtain ⟨d0, d1⟩ := u8_range d
  obtain ⟨e0, e1⟩ := u8_range e
  have w0 : IntKind.i64.wrap ((c.toNat : Int) - 240) = (c.toNat : Int) - 240 := wrap_i64 (by omega) (by omega)
  have w1 : IntKind.i64.wrap (((c.toNat : Int) - 240) * 64) = ((c.toNat : Int) - 240) * 64 := wrap_i64 (by omega) (by omega)
  have w2 : IntKind.i64.wrap (((c.toNat : Int) - 240) * 64 + (b.toNat : Int)) = ((c.toNat : Int) - 240) * 64 + (b.toNat : Int) := wrap_i64 (by omega) (by omega)
  have w3 : IntKind.i64.wrap (((c.toNat : Int) - 240) * 64 + (b.toNat : Int) - 128) = ((c.toNat : Int) - 240) * 64 + (b.toNat : Int) - 128 := wrap_i64 (by omega) (by omega)
  have w4 : IntKind.i64.wrap ((((c.toNat : Int) - 240) * 64 + (b.toNat : Int) - 128) * 64) = (((c.toNat : Int) - 240) * 64 + (b.toNat : Int) - 128) * 64 := wrap_i64 (by omega) (by omega)
  have w5 : IntKind.i64.wrap ((((c.toNat : Int) - 240) * 64 + (b.toNat : Int) - 128) * 64 + (d.toNat : Int)) = (((c.toNat : Int) - 240) * 64 + (b.toNat : Int) - 128) * 64 + (d.toNat : Int) := wrap_i64 (by omega) (by omega)
  have w6 : IntKind.i64.wrap ((((c.toNat : Int) - 240) * 64 + (b.toNat : Int) - 128) * 64 + (d.toNat : Int) - 128) = (((c.toNat : Int) - 240) * 64 + (b.toNat : Int) - 128) * 64 + (d.toNat : Int) - 128 := wrap_i64 (by omega) (by omega)
  have w7 : IntKind.i64.wrap (((((c.toNat : Int) - 240) * 64 + (b.toNat : Int) - 128) * 64 + (d.toNat : Int) - 128) * 64) = ((((c.toNat : Int) - 240) * 64 + (b.toNat : Int) - 128) * 64 + (d.toNat : Int) - 128) * 64 := wrap_i64 (by omega) (by omega)
  have w8 : IntKind.i64.wrap (((((c.toNat : Int) - 240) * 64 + (b.toNat : Int) - 128) * 64 + (d.toNat : Int) - 128) * 64 + (e.toNat : Int)) = ((((c.toNat : Int) - 240) * 64 + (b.toNat : Int) - 128) * 64 + (d.toNat : Int) - 128) * 64 + (e.toNat : Int) := wrap_i64 (by omega) (by omega)
  have w9 : IntKind.i64.wrap (((((c.toNat : Int) - 240) * 64 + (b.toNat : Int) - 128) * 64 + (d.toNat : Int) - 128) * 64 + (e.toNat : Int) - 128) = ((((c.toNat : Int) - 240) * 64 + (b.toNat : Int) - 128) * 64 + (d.toNat : Int) - 128) * 64 + (e.toNat : Int) - 128 := wrap_i64 (by omega) (by omega)
  have wc : IntKind.i64.wrap (c.toNat : Int) = (c.toNat : Int) := wrap_i64 (by omega) (by omega)
  have wb : IntKind.i64.wrap (b.toNat : Int) = (b.toNat : Int) := wrap_i64 (by omega) (by omega)
  have wd : IntKind.i64.wrap (d.toNat : Int) = (d.toNat : Int) := wrap_i64 (by omega) (by omega)
  have we : IntKind.i64.wrap (e.toNat : Int) = (e.toNat : Int) := wrap_i64 (by omega) (by omega)
  have f : ((r.length : Int) + 1 + 1 + 1 + 1 ≥ 4) := by omega
  have f' : (4 : Int) ≤ ((r.length : Int) + 1 + 1 + 1 + 1) := by omega
  have f2 : (4 : Nat) ≤ (r.length + 1 + 1 + 1 + 1) := by omega
  have hI := fun n m => ref_Is u.rIs (k + 3) n m
  rw [hn]
  cases i1 : isSign ((((((c.toNat : Int) - 240) * 64 + (b.toNat : Int) - 128) * 64 + (d.toNat : Int) - 128) * 64 + (e.toNat : Int) - 128)) with
  | false =>
    simp [Fn.f_haulageref03_Read_b0, Fn.f_haulageref03_Read_b1, Fn.f_haulageref03_Read_k1, loopF, rdSt, Fn.f_haulageref03_Read_s0, iter, hI, i1, u.rIs, pIs, bne, wrap_i64, f, f', f2, wc, w0, w1, w2, w3, w4, w5, w6, w7, w8, w9, wb, wd, we]
    simp [rdAfter, hitR, i1, Live, Fn.f_haulageref03_Read_k0, rdSt, Fn.f_haulageref03_Read_s0, wrap_i64]
  | true =>
  obtain ⟨n1, n2, _⟩ := isSign_iff.1 i1
  have hP := fun m => ref_Put u.rPut u.rOne (k + 2) ((((((c.toNat : Int) - 240) * 64 + (b.toNat : Int) - 128) * 64 + (d.toNat : Int) - 128) * 64 + (e.toNat : Int) - 128)) n1 n2 m
  cases q : (utf8 ((((((c.toNat : Int) - 240) * 64 + (b.toNat : Int) - 128) * 64 + (d.toNat : Int) - 128) * 64 + (e.toNat : Int) - 128)) == (c :: b :: d :: e :: r).take 4) with
  | false =>
    simp only [List.take_succ_cons, List.take_zero] at q
    simp [Fn.f_haulageref03_Read_b0, Fn.f_haulageref03_Read_b1, Fn.f_haulageref03_Read_k1, loopF, rdSt, Fn.f_haulageref03_Read_s0, iter, hI, hP, i1, u.rIs, u.rPut, pIs, pPut, bne, q, wrap_i64, f, f', f2, wc, w0, w1, w2, w3, w4, w5, w6, w7, w8, w9, wb, wd, we]
    simp [rdAfter, hitR, i1, q, Live, Fn.f_haulageref03_Read_k0, rdSt, Fn.f_haulageref03_Read_s0, wrap_i64]
  | true =>
    simp only [List.take_succ_cons, List.take_zero] at q
    simp [Fn.f_haulageref03_Read_b0, Fn.f_haulageref03_Read_b1, Fn.f_haulageref03_Read_k1, loopF, rdSt, Fn.f_haulageref03_Read_s0, iter, hI, hP, i1, u.rIs, u.rPut, pIs, pPut, bne, q, wrap_i64, f, f', f2, wc, w0, w1, w2, w3, w4, w5, w6, w7, w8, w9, wb, wd, we]
    simp [rdAfter, hitR, i1, q, rdDone]
theorem rd_exit (k : Nat) (s : List UInt8) (size : Int) (h : 4 < size ∨ (s.length : Int) < size) :
    Wp (den E (denF E k) k Fn.f_haulageref03_Read_b0 ⟨rdSt s size, [], []⟩) (fun e st => e = .exit 0 ∧ st.m = [] ∧ st.ds = [] ∧ st.ts.length = 58) := by
  by_cases h1 : size ≤ 4
  · have h2 : ¬ (size ≤ (s.length : Int)) := by omega
    simp [Fn.f_haulageref03_Read_b0, rdSt, Fn.f_haulageref03_Read_s0, h1, h2]
  · simp [Fn.f_haulageref03_Read_b0, rdSt, Fn.f_haulageref03_Read_s0, h1]
def rdFin (s : List UInt8) (e : Ex) (st : St) : Prop :=
  (∃ n size, refR s = some (n, size) ∧ e = .ret ∧ rdDone n size st) ∨ (refR s = none ∧ e = .exit 0 ∧ st.m = [] ∧ st.ds = [] ∧ st.ts.length = 58)
abbrev rdF (E : Env) (k : Nat) : St → Option (Ex × St) := loopF E (denF E k) k Fn.f_haulageref03_Read_k0 Fn.f_haulageref03_Read_b0
abbrev rdAt (s : List UInt8) (size : Int) (st : St) : Prop := Live Fn.f_haulageref03_Read_k0 (rdSt s size) [] st
theorem rd_out {k n : Nat} {s : List UInt8} {size : Int} {st : St} (ha : rdAt s size st) (h : 4 < size ∨ (s.length : Int) < size) (hr : refR s = none) :
    Wp (iter (rdF E k) (n + 1) st) (rdFin s) := by
  refine iter_wp_succ ?_
  rw [rdF, loopF_live ha]
  refine (rd_exit k s size h).mono ?_
  rintro e st' ⟨rfl, h1⟩
  exact .inr ⟨hr, rfl, h1⟩
theorem rd_go {k n : Nat} {s : List UInt8} {size : Nat} {x : Int} {st : St} (ha : rdAt s size st) (hs : Wp (den E (denF E k) k Fn.f_haulageref03_Read_b0 ⟨rdSt s size, [], []⟩) (rdAfter s x size))
    (hit : hitR s x size = true → refR s = some (x, (size : Int))) (go : hitR s x size = false → ∀ st', rdAt s (size + 1) st' → Wp (iter (rdF E k) n st') (rdFin s)) : Wp (iter (rdF E k) (n + 1) st) (rdFin s) := by
  refine iter_wp_succ ?_
  rw [rdF, loopF_live ha]
  refine hs.mono ?_
  intro e st' hq
  unfold rdAfter at hq
  split at hq
  · rename_i h
    obtain ⟨rfl, h1⟩ := hq
    exact .inl ⟨x, size, hit h, rfl, h1⟩
  · rename_i h
    obtain ⟨rfl, h1⟩ := hq
    exact go (by simpa using h) st' h1
theorem rd_loop (u : V03 E) (k : Nat) (s : List UInt8) (st : St) (ha : rdAt s 1 st) : Wp (iter (rdF E (k + 5)) (k + 5) st) (rdFin s) := by
  cases s with
  | nil => exact rd_out ha (by simp) (by simp only [refR])
  | cons c r =>
  refine rd_go (n := k + 4) (size := 1) ha (rd_step1 u (k + 1) c r _ rfl) (fun g1 => by simp only [refR, cond_false, cond_true, g1]; rfl) fun g1 st1 ha1 => ?_
  cases r with
  | nil => exact rd_out ha1 (by simp) (by simp only [refR, cond_false, g1])
  | cons b r =>
  refine rd_go (n := k + 3) (size := 2) ha1 (rd_step2 u (k + 1) c b r _ rfl) (fun g2 => by simp only [refR, cond_false, cond_true, g1, g2]; rfl) fun g2 st2 ha2 => ?_
  cases r with
  | nil => exact rd_out ha2 (by simp) (by simp only [refR, cond_false, g1, cond_false, g2])
  | cons d r =>
  refine rd_go (n := k + 2) (size := 3) ha2 (rd_step3 u (k + 1) c b d r _ rfl) (fun g3 => by simp only [refR, cond_false, cond_true, g1, g2, g3]; rfl) fun g3 st3 ha3 => ?_
  cases r with
  | nil => exact rd_out ha3 (by simp) (by simp only [refR, cond_false, g1, cond_false, g2, cond_false, g3])
  | cons e r =>
  refine rd_go (n := k + 1) (size := 4) ha3 (rd_step4 u (k + 1) c b d e r _ rfl) (fun g4 => by simp only [refR, cond_false, cond_true, g1, g2, g3, g4]; rfl) fun g4 st4 ha4 => ?_
  exact rd_out ha4 (.inl (by decide)) (by simp only [refR, cond_false, g1, g2, g3, g4])
theorem set3_get {ts : List AV} (h : ts.length = 58) (a b c : AV) : (((ts.set 2 a).set 3 b).set 4 c).getD 2 (.tup []) = a ∧ (((ts.set 2 a).set 3 b).set 4 c).getD 3 (.tup []) = b ∧ (((ts.set 2 a).set 3 b).set 4 c).getD 4 (.tup []) = c := by
  match ts, h with
  | _ :: _ :: _ :: _ :: _ :: _, _ => exact ⟨rfl, rfl, rfl⟩
theorem ref_Read (u : V03 E) (k : Nat) (s : List UInt8) (m : Mem) : denF E (k + 6) 5 [.p (.str s)] m = some (.ret (readV (refR s)), m) := by
  refine denF_wp u.rRead rfl (args' := [.p (.str s)]) rfl ?_
  simp [Fn.f_haulageref03_Read]
  refine (rd_loop u k s _ ⟨rfl, rfl, rfl, rfl⟩).mono ?_
  intro e st hf
  rcases hf with ⟨n, size, hn, rfl, g2, g3, g4, g5⟩ | ⟨hn, rfl, g2, g3, g4⟩
  · simp [g2, g3, g4, g5, readV, hn]
  · obtain ⟨q1, q2, q3⟩ := set3_get g4 (.p (.int .i64 0)) (.p (.int .i64 0)) (.p (.bool false))
    simp [g3, q1, q2, q3, readV, hn]
end Hx
