/-
  HxA15: the document's small functions (chapters 03 to 06), each under no more than the functions that she reaches.
-/
import Derived.Test.YtfobhbameffplaaHxV05a
import Derived.Test.YtfobhbameffplaaHxV05a
import Derived.Test.YtfobhbameffplaaHxV05a
namespace Hx
open Go
set_option linter.unusedSimpArgs false
set_option linter.unusedVariables false
set_option maxHeartbeats 32000000
set_option maxRecDepth 20000
variable {E : Env}
attribute [-simp] List.getD_eq_getElem?_getD getElem?_pos
structure Q03 (E : Env) : Prop where
  rIs : E.fn 2 = some Fn.f_haulageref03_Is
  rPut : E.fn 3 = some Fn.f_haulageref03_Put
  rRead : E.fn 5 = some Fn.f_haulageref03_Read
  rOne : E.fn 17 = some Fn.f_haulageref03_one
  rSigns : E.fn 8 = some Fn.f_haulageref03_Signs
  rRight : E.fn 22 = some Fn.f_haulageref03_Right
theorem rd_step1Q (u : Q03 E) (k : Nat) (c : UInt8) (r : List UInt8) (n : Int) (hn : n = (c.toNat : Int)) :
    Wp (den E (denF E (k + 4)) (k + 4) Fn.f_haulageref03_Read_b0 ⟨rdSt (c :: r) 1, [], []⟩) (rdAfter (c :: r) n 1) := by
  obtain ⟨c0, c1⟩ := u8_range c
  have wc : IntKind.i64.wrap (c.toNat : Int) = (c.toNat : Int) := wrap_i64 (by omega) (by omega)
  have f : ((r.length : Int) + 1 ≥ 1) := by omega
  have f' : (1 : Int) ≤ ((r.length : Int) + 1) := by omega
  have f2 : (1 : Nat) ≤ (r.length + 1) := by omega
  have hI := fun n m => ref_Is u.rIs (k + 3) n m
  rw [hn]
  cases i1 : isSign ((c.toNat : Int)) with
  | false =>
    simp [Fn.f_haulageref03_Read_b0, Fn.f_haulageref03_Read_b1, Fn.f_haulageref03_Read_k1, loopF, rdSt, Fn.f_haulageref03_Read_s0, iter, hI, i1, u.rIs, pIs, bne, wrap_i64, f, f', f2, wc]
    simp [rdAfter, hitR, i1, Live, Fn.f_haulageref03_Read_k0, rdSt, Fn.f_haulageref03_Read_s0, wrap_i64]
  | true =>
  obtain ⟨n1, n2, _⟩ := isSign_iff.1 i1
  have hP := fun m => ref_Put u.rPut u.rOne (k + 2) ((c.toNat : Int)) n1 n2 m
  cases q : (utf8 ((c.toNat : Int)) == (c :: r).take 1) with
  | false =>
    simp only [List.take_succ_cons, List.take_zero] at q
    simp [Fn.f_haulageref03_Read_b0, Fn.f_haulageref03_Read_b1, Fn.f_haulageref03_Read_k1, loopF, rdSt, Fn.f_haulageref03_Read_s0, iter, hI, hP, i1, u.rIs, u.rPut, pIs, pPut, bne, q, wrap_i64, f, f', f2, wc]
    simp [rdAfter, hitR, i1, q, Live, Fn.f_haulageref03_Read_k0, rdSt, Fn.f_haulageref03_Read_s0, wrap_i64]
  | true =>
    simp only [List.take_succ_cons, List.take_zero] at q
    simp [Fn.f_haulageref03_Read_b0, Fn.f_haulageref03_Read_b1, Fn.f_haulageref03_Read_k1, loopF, rdSt, Fn.f_haulageref03_Read_s0, iter, hI, hP, i1, u.rIs, u.rPut, pIs, pPut, bne, q, wrap_i64, f, f', f2, wc]
    simp [rdAfter, hitR, i1, q, rdDone]
theorem rd_step2Q (u : Q03 E) (k : Nat) (c b : UInt8) (r : List UInt8) (n : Int) (hn : n = (((c.toNat : Int) - 192) * 64 + (b.toNat : Int) - 128)) :
    Wp (den E (denF E (k + 4)) (k + 4) Fn.f_haulageref03_Read_b0 ⟨rdSt (c :: b :: r) 2, [], []⟩) (rdAfter (c :: b :: r) n 2) := by
  obtain ⟨c0, c1⟩ := u8_range c
  obtain ⟨b0, b1⟩ := u8_range b
  have w0 : IntKind.i64.wrap ((c.toNat : Int) - 192) = (c.toNat : Int) - 192 := wrap_i64 (by omega) (by omega)
  have w1 : IntKind.i64.wrap (((c.toNat : Int) - 192) * 64) = ((c.toNat : Int) - 192) * 64 := wrap_i64 (by omega) (by omega)
  have w2 : IntKind.i64.wrap (((c.toNat : Int) - 192) * 64 + (b.toNat : Int)) = ((c.toNat : Int) - 192) * 64 + (b.toNat : Int) := wrap_i64 (by omega) (by omega)
  have w3 : IntKind.i64.wrap (((c.toNat : Int) - 192) * 64 + (b.toNat : Int) - 128) = ((c.toNat : Int) - 192) * 64 + (b.toNat : Int) - 128 := wrap_i64 (by omega) (by omega)
  have wc : IntKind.i64.wrap (c.toNat : Int) = (c.toNat : Int) := wrap_i64 (by omega) (by omega)
  have wb : IntKind.i64.wrap (b.toNat : Int) = (b.toNat : Int) := wrap_i64 (by omega) (by omega)
  have f : ((r.length : Int) + 1 + 1 ≥ 2) := by omega
  have f' : (2 : Int) ≤ ((r.length : Int) + 1 + 1) := by omega
  have f2 : (2 : Nat) ≤ (r.length + 1 + 1) := by omega
  have hI := fun n m => ref_Is u.rIs (k + 3) n m
  rw [hn]
  cases i1 : isSign ((((c.toNat : Int) - 192) * 64 + (b.toNat : Int) - 128)) with
  | false =>
    simp [Fn.f_haulageref03_Read_b0, Fn.f_haulageref03_Read_b1, Fn.f_haulageref03_Read_k1, loopF, rdSt, Fn.f_haulageref03_Read_s0, iter, hI, i1, u.rIs, pIs, bne, wrap_i64, f, f', f2, wc, w0, w1, w2, w3, wb]
    simp [rdAfter, hitR, i1, Live, Fn.f_haulageref03_Read_k0, rdSt, Fn.f_haulageref03_Read_s0, wrap_i64]
  | true =>
  obtain ⟨n1, n2, _⟩ := isSign_iff.1 i1
  have hP := fun m => ref_Put u.rPut u.rOne (k + 2) ((((c.toNat : Int) - 192) * 64 + (b.toNat : Int) - 128)) n1 n2 m
  cases q : (utf8 ((((c.toNat : Int) - 192) * 64 + (b.toNat : Int) - 128)) == (c :: b :: r).take 2) with
  | false =>
    simp only [List.take_succ_cons, List.take_zero] at q
    simp [Fn.f_haulageref03_Read_b0, Fn.f_haulageref03_Read_b1, Fn.f_haulageref03_Read_k1, loopF, rdSt, Fn.f_haulageref03_Read_s0, iter, hI, hP, i1, u.rIs, u.rPut, pIs, pPut, bne, q, wrap_i64, f, f', f2, wc, w0, w1, w2, w3, wb]
    simp [rdAfter, hitR, i1, q, Live, Fn.f_haulageref03_Read_k0, rdSt, Fn.f_haulageref03_Read_s0, wrap_i64]
  | true =>
    simp only [List.take_succ_cons, List.take_zero] at q
    simp [Fn.f_haulageref03_Read_b0, Fn.f_haulageref03_Read_b1, Fn.f_haulageref03_Read_k1, loopF, rdSt, Fn.f_haulageref03_Read_s0, iter, hI, hP, i1, u.rIs, u.rPut, pIs, pPut, bne, q, wrap_i64, f, f', f2, wc, w0, w1, w2, w3, wb]
    simp [rdAfter, hitR, i1, q, rdDone]
theorem rd_step3Q (u : Q03 E) (k : Nat) (c b d : UInt8) (r : List UInt8) (n : Int) (hn : n = ((((c.toNat : Int) - 224) * 64 + (b.toNat : Int) - 128) * 64 + (d.toNat : Int) - 128)) :
    Wp (den E (denF E (k + 4)) (k + 4) Fn.f_haulageref03_Read_b0 ⟨rdSt (c :: b :: d :: r) 3, [], []⟩) (rdAfter (c :: b :: d :: r) n 3) := by
  obtain ⟨c0, c1⟩ := u8_range c
  obtain ⟨b0, b1⟩ := u8_range b
  obtain ⟨d0, d1⟩ := u8_range d
  have w0 : IntKind.i64.wrap ((c.toNat : Int) - 224) = (c.toNat : Int) - 224 := wrap_i64 (by omega) (by omega)
  have w1 : IntKind.i64.wrap (((c.toNat : Int) - 224) * 64) = ((c.toNat : Int) - 224) * 64 := wrap_i64 (by omega) (by omega)
  have w2 : IntKind.i64.wrap (((c.toNat : Int) - 224) * 64 + (b.toNat : Int)) = ((c.toNat : Int) - 224) * 64 + (b.toNat : Int) := wrap_i64 (by omega) (by omega)
  have w3 : IntKind.i64.wrap (((c.toNat : Int) - 224) * 64 + (b.toNat : Int) - 128) = ((c.toNat : Int) - 224) * 64 + (b.toNat : Int) - 128 := wrap_i64 (by omega) (by omega)
  have w4 : IntKind.i64.wrap ((((c.toNat : Int) - 224) * 64 + (b.toNat : Int) - 128) * 64) = (((c.toNat : Int) - 224) * 64 + (b.toNat : Int) - 128) * 64 := wrap_i64 (by omega) (by omega)
  have w5 : IntKind.i64.wrap ((((c.toNat : Int) - 224) * 64 + (b.toNat : Int) - 128) * 64 + (d.toNat : Int)) = (((c.toNat : Int) - 224) * 64 + (b.toNat : Int) - 128) * 64 + (d.toNat : Int) := wrap_i64 (by omega) (by omega)
  have w6 : IntKind.i64.wrap ((((c.toNat : Int) - 224) * 64 + (b.toNat : Int) - 128) * 64 + (d.toNat : Int) - 128) = (((c.toNat : Int) - 224) * 64 + (b.toNat : Int) - 128) * 64 + (d.toNat : Int) - 128 := wrap_i64 (by omega) (by omega)
  have wc : IntKind.i64.wrap (c.toNat : Int) = (c.toNat : Int) := wrap_i64 (by omega) (by omega)
  have wb : IntKind.i64.wrap (b.toNat : Int) = (b.toNat : Int) := wrap_i64 (by omega) (by omega)
  have wd : IntKind.i64.wrap (d.toNat : Int) = (d.toNat : Int) := wrap_i64 (by omega) (by omega)
  have f : ((r.length : Int) + 1 + 1 + 1 ≥ 3) := by omega
  have f' : (3 : Int) ≤ ((r.length : Int) + 1 + 1 + 1) := by omega
  have f2 : (3 : Nat) ≤ (r.length + 1 + 1 + 1) := by omega
  have hI := fun n m => ref_Is u.rIs (k + 3) n m
  rw [hn]
  cases i1 : isSign (((((c.toNat : Int) - 224) * 64 + (b.toNat : Int) - 128) * 64 + (d.toNat : Int) - 128)) with
  | false =>
    simp [Fn.f_haulageref03_Read_b0, Fn.f_haulageref03_Read_b1, Fn.f_haulageref03_Read_k1, loopF, rdSt, Fn.f_haulageref03_Read_s0, iter, hI, i1, u.rIs, pIs, bne, wrap_i64, f, f', f2, wc, w0, w1, w2, w3, w4, w5, w6, wb, wd]
    simp [rdAfter, hitR, i1, Live, Fn.f_haulageref03_Read_k0, rdSt, Fn.f_haulageref03_Read_s0, wrap_i64]
  | true =>
  obtain ⟨n1, n2, _⟩ := isSign_iff.1 i1
  have hP := fun m => ref_Put u.rPut u.rOne (k + 2) (((((c.toNat : Int) - 224) * 64 + (b.toNat : Int) - 128) * 64 + (d.toNat : Int) - 128)) n1 n2 m
  cases q : (utf8 (((((c.toNat : Int) - 224) * 64 + (b.toNat : Int) - 128) * 64 + (d.toNat : Int) - 128)) == (c :: b :: d :: r).take 3) with
  | false =>
    simp only [List.take_succ_cons, List.take_zero] at q
    simp [Fn.f_haulageref03_Read_b0, Fn.f_haulageref03_Read_b1, Fn.f_haulageref03_Read_k1, loopF, rdSt, Fn.f_haulageref03_Read_s0, iter, hI, hP, i1, u.rIs, u.rPut, pIs, pPut, bne, q, wrap_i64, f, f', f2, wc, w0, w1, w2, w3, w4, w5, w6, wb, wd]
    simp [rdAfter, hitR, i1, q, Live, Fn.f_haulageref03_Read_k0, rdSt, Fn.f_haulageref03_Read_s0, wrap_i64]
  | true =>
    simp only [List.take_succ_cons, List.take_zero] at q
    simp [Fn.f_haulageref03_Read_b0, Fn.f_haulageref03_Read_b1, Fn.f_haulageref03_Read_k1, loopF, rdSt, Fn.f_haulageref03_Read_s0, iter, hI, hP, i1, u.rIs, u.rPut, pIs, pPut, bne, q, wrap_i64, f, f', f2, wc, w0, w1, w2, w3, w4, w5, w6, wb, wd]
    simp [rdAfter, hitR, i1, q, rdDone]
theorem rd_step4Q (u : Q03 E) (k : Nat) (c b d e : UInt8) (r : List UInt8) (n : Int) (hn : n = (((((c.toNat : Int) - 240) * 64 + (b.toNat : Int) - 128) * 64 + (d.toNat : Int) - 128) * 64 + (e.toNat : Int) - 128)) :
    Wp (den E (denF E (k + 4)) (k + 4) Fn.f_haulageref03_Read_b0 ⟨rdSt (c :: b :: d :: e :: r) 4, [], []⟩) (rdAfter (c :: b :: d :: e :: r) n 4) := by
  obtain ⟨c0, c1⟩ := u8_range c
  obtain ⟨b0, b1⟩ := u8_range b
  obtain ⟨d0, d1⟩ := u8_range d
  obtain ⟨e0, e1⟩ := u8_range e
  have w0 : IntKind.i64.wrap ((c.toNat : Int) - 240) = (c.toNat : Int) - 240 := wrap_i64 (by omega) (by omega)
  have w1 : IntKind.i64.wrap (((c.toNat : Int) - 240) * 64) = ((c.toNat : Int) - 240) * 64 := wrap_i64 (by omega) (by omega)
  have w2 : IntKind.i64.wrap (((c.toNat : Int) - 240) * 64 + (b.toNat : Int)) = ((c.toNat : Int) - 240) * 64 + (b.toNat : Int) := wrap_i64 (by omega) (by omega)
  have w3 : IntKind.i64.wrap (((c.toNat : Int) - 240) * 64 + (b.toNat : Int) - 128) = ((c.toNat : Int) - 240) * 64 + (b.toNat : Int) - 128 := wrap_i64 (by omega) (by omega)
  have w4 : IntKind.i64.wrap ((((c.toNat : Int) - 240) * 64 + (b.toNat : Int) - 128) * 64) = (((c.toNat : Int) - 240) * 64 + (b.toNat : Int) - 128) * 64 := wrap_i64 (by omega) (by omega)
  have w5 : IntKind.i64.wrap ((((c.toNat : Int) - 240) * 64 + (b.toNat : Int) - 128) * 64 + (d.toNat : Int)) = (((c.toNat : Int) - 240) * 64 + (b.toNat : Int) - 128) * 64 + (d.toNat : Int) := wrap_i64 (by omega) (by omega)
  have w6 : IntKind.i64.wrap ((((c.toNat : Int) - 240) * 64 + (b.toNat : Int) - 128) * 64 + (d.toNat : Int) - 128) = (((c.toNat : Int) - 240) * 64 + (b.toNat : Int) - 128) * 64 + (d.toNat : Int) - 128 := wrap_i64 (by omega) (by omega)
  have w7 : IntKind.i64.wrap (((((c.toNat : Int) - 240) * 64 + (b.toNat : Int) - 128) * 64 + (d.toNat : Int) - 128) * 64) = ((((c.toNat : Int) - 240) * 64 + (b.toNat : Int) - 128) * 64 + (d.toNat : Int) - 128) * 64 := wrap_i64 (by omega) (by omega)
  have w8 : IntKind.i64.wrap (((((c.toNat : Int) - 240) * 64 + (b.toNat : Int) - 128) * 64 + (d.toNat : Int) - 128) * 64 + (e.toNat : Int)) = ((((c.toNat : Int) - 240) * 64 + (b.toNat : Int) - 128) * 64 + (d.toNat : Int) - 128) * 64 + (e.toNat : Int) := wrap_i64 (by omega) (by omega)
  have w9 : IntKind.i64.wrap (((((c.toNat : Int) - 240) * 64 + (b.toNat : Int) - 128) * 64 + (d.toNat : Int) - 128) * 64 + (e.toNat : Int) - 128) = ((((c.toNat : Int) - 240) * 64 + (b.toNat : Int) - 128) * 64 + (d.toNat : Int) - 128) * 64 + (e.toNat : Int) - 128 := wrap_i64 (by omega) (by omega)
  have wc : IntKind.i64.wrap (c.toNat : Int) = (c.toNat : Int) := wrap_i64 (by omega) (by omega)
  have wb : IntKind.i64.wrap (b.toNat : Int) = (b.toNat : Int) := wrap_i64 (by omega) (by omega)
  have wd : IntKind.i64.wrap (d.toNat : Int) = (d.toNat : Int) := wrap_i64 (by omega) (by omega)
  have we : IntKind.i64.wrap (e.toNat : Int) = (e.toNat : Int) := wrap_i64 (by omega) (by omega)
  have f : ((r.length : Int) + 1 + 1 + 1 + 1 ≥ 4) := by omega
  have f' : (4 : Int) ≤ ((r.length : Int) + 1 + 1 + 1 + 1) := by omega
  have f2 : (4 : Nat) ≤ (r.length + 1 + 1 + 1 + 1) := by omega
  have hI := fun n m => ref_Is u.rIs (k + 3) n m
  rw [hn]
  cases i1 : isSign ((((((c.toNat : Int) - 240) * 64 + (b.toNat : Int) - 128) * 64 + (d.toNat : Int) - 128) * 64 + (e.toNat : Int) - 128)) with
  | false =>
    simp [Fn.f_haulageref03_Read_b0, Fn.f_haulageref03_Read_b1, Fn.f_haulageref03_Read_k1, loopF, rdSt, Fn.f_haulageref03_Read_s0, iter, hI, i1, u.rIs, pIs, bne, wrap_i64, f, f', f2, wc, w0, w1, w2, w3, w4, w5, w6, w7, w8, w9, wb, wd, we]
    simp [rdAfter, hitR, i1, Live, Fn.f_haulageref03_Read_k0, rdSt, Fn.f_haulageref03_Read_s0, wrap_i64]
  | true =>
  obtain ⟨n1, n2, _⟩ := isSign_iff.1 i1
  have hP := fun m => ref_Put u.rPut u.rOne (k + 2) ((((((c.toNat : Int) - 240) * 64 + (b.toNat : Int) - 128) * 64 + (d.toNat : Int) - 128) * 64 + (e.toNat : Int) - 128)) n1 n2 m
  cases q : (utf8 ((((((c.toNat : Int) - 240) * 64 + (b.toNat : Int) - 128) * 64 + (d.toNat : Int) - 128) * 64 + (e.toNat : Int) - 128)) == (c :: b :: d :: e :: r).take 4) with
  | false =>
    simp only [List.take_succ_cons, List.take_zero] at q
    simp [Fn.f_haulageref03_Read_b0, Fn.f_haulageref03_Read_b1, Fn.f_haulageref03_Read_k1, loopF, rdSt, Fn.f_haulageref03_Read_s0, iter, hI, hP, i1, u.rIs, u.rPut, pIs, pPut, bne, q, wrap_i64, f, f', f2, wc, w0, w1, w2, w3, w4, w5, w6, w7, w8, w9, wb, wd, we]
    simp [rdAfter, hitR, i1, q, Live, Fn.f_haulageref03_Read_k0, rdSt, Fn.f_haulageref03_Read_s0, wrap_i64]
  | true =>
    simp only [List.take_succ_cons, List.take_zero] at q
    simp [Fn.f_haulageref03_Read_b0, Fn.f_haulageref03_Read_b1, Fn.f_haulageref03_Read_k1, loopF, rdSt, Fn.f_haulageref03_Read_s0, iter, hI, hP, i1, u.rIs, u.rPut, pIs, pPut, bne, q, wrap_i64, f, f', f2, wc, w0, w1, w2, w3, w4, w5, w6, w7, w8, w9, wb, wd, we]
    simp [rdAfter, hitR, i1, q, rdDone]
theorem rd_loopQ (u : Q03 E) (k : Nat) (s : List UInt8) (st : St) (ha : rdAt s 1 st) : Wp (iter (rdF E (k + 5)) (k + 5) st) (rdFin s) := by
  cases s with
  | nil => exact rd_out ha (by simp) (by simp only [refR])
  | cons c r =>
  refine rd_go (n := k + 4) (size := 1) ha (rd_step1Q u (k + 1) c r _ rfl) (fun g1 => by simp only [refR, cond_false, cond_true, g1]; rfl) fun g1 st1 ha1 => ?_
  cases r with
  | nil => exact rd_out ha1 (by simp) (by simp only [refR, cond_false, g1])
  | cons b r =>
  refine rd_go (n := k + 3) (size := 2) ha1 (rd_step2Q u (k + 1) c b r _ rfl) (fun g2 => by simp only [refR, cond_false, cond_true, g1, g2]; rfl) fun g2 st2 ha2 => ?_
  cases r with
  | nil => exact rd_out ha2 (by simp) (by simp only [refR, cond_false, g1, cond_false, g2])
  | cons d r =>
  refine rd_go (n := k + 2) (size := 3) ha2 (rd_step3Q u (k + 1) c b d r _ rfl) (fun g3 => by simp only [refR, cond_false, cond_true, g1, g2, g3]; rfl) fun g3 st3 ha3 => ?_
  cases r with
  | nil => exact rd_out ha3 (by simp) (by simp only [refR, cond_false, g1, cond_false, g2, cond_false, g3])
  | cons e r =>
  refine rd_go (n := k + 1) (size := 4) ha3 (rd_step4Q u (k + 1) c b d e r _ rfl) (fun g4 => by simp only [refR, cond_false, cond_true, g1, g2, g3, g4]; rfl) fun g4 st4 ha4 => ?_
  exact rd_out ha4 (.inl (by decide)) (by simp only [refR, cond_false, g1, g2, g3, g4])
theorem ref_ReadQ (u : Q03 E) (k : Nat) (s : List UInt8) (m : Mem) : denF E (k + 6) 5 [.p (.str s)] m = some (.ret (readV (refR s)), m) := by
  refine denF_wp u.rRead rfl (args' := [.p (.str s)]) rfl ?_
  simp [Fn.f_haulageref03_Read]
  refine (rd_loopQ u k s _ ⟨rfl, rfl, rfl, rfl⟩).mono ?_
  intro e st hf
  rcases hf with ⟨n, size, hn, rfl, g2, g3, g4, g5⟩ | ⟨hn, rfl, g2, g3, g4⟩
  · simp [g2, g3, g4, g5, readV, hn]
  · obtain ⟨q1, q2, q3⟩ := set3_get g4 (.p (.int .i64 0)) (.p (.int .i64 0)) (.p (.bool false))
    simp [g3, q1, q2, q3, readV, hn]
theorem ref_SignsQ (u : Q03 E) (s : List UInt8) (hs : (s.length : Int) ≤ 1000000000000) (k : Nat) (hk : s.length + 8 ≤ k) (m : Mem) :
    denF E (k + 1) 8 [.p (.str s)] m = some (.ret (.tup [.p (signsV s), .p (.bool (signs s).isSome)]), m) := by
  refine denF_wp u.rSigns rfl (args' := [.p (.str s)]) rfl ?_
  simp [Fn.f_haulageref03_Signs]
  refine (loop_wp (α := Nat) (I := fun i st => ∃ acc ov m, SoFar s i acc ∧ Grow 1 (acc.map rowI) ov m ∧ Live Fn.f_haulageref03_Signs_k0 (Fn.f_haulageref03_Signs_s0 (.p (.str (s.drop i))) ov) m st) (meas := fun i => s.length - i)
    (Q := fun e st => (∃ acc ov, e = .exit 0 ∧ st.ds = [] ∧ signs s = some acc ∧ Grow 1 (acc.map rowI) ov st.m ∧ st.ts.length = 26 ∧ st.ts.getD 4 (.tup []) = ov) ∨ (e = .ret ∧ st.ds = [] ∧ signs s = none ∧ st.ts.getD 2 (.tup []) = .p .nils ∧ st.ts.getD 3 (.tup []) = .p (.bool false))) ?_ k 0 _ ⟨[], _, [], soFar_0 s, .inl ⟨rfl, rfl⟩, rfl, rfl, rfl, rfl⟩ (by omega)).mono ?_
  · rintro i st ⟨acc, ov, m, hf, hg, hlive⟩
    rw [loopF_live hlive]
    have h0 := hf.1
    have h1 := hf.2.1
    by_cases hi : i < s.length
    · have hne : (s.drop i == []) = false := by
        simp only [beq_eq_false_iff_ne, ne_eq]
        intro e; have := congrArg List.length e; simp at this; omega
      have hR := fun m => ref_ReadQ u (k - 6) (s.drop i) m
      rw [show k - 6 + 6 = k by omega, refR_eq] at hR
      cases r : readU (s.drop i) with
      | none =>
        rw [r] at hR
        simp [Fn.f_haulageref03_Signs_b0, Fn.f_haulageref03_Signs_s0, hne, hR, readV, soFar_bad hf hi r]
      | some p =>
        obtain ⟨n, size⟩ := p
        rw [r] at hR
        obtain ⟨z1, z2, z3⟩ := readU_size r
        have z4 : size.toNat ≤ (s.drop i).length := by omega
        have z5 : 0 ≤ size := by omega
        rw [List.length_drop] at z2 z4
        rcases hg with ⟨hr, rfl⟩ | ⟨hr, t, rfl, ht⟩
        · have hacc : acc = [] := by simpa using hr
          subst hacc
          simp [Fn.f_haulageref03_Signs_b0, Fn.f_haulageref03_Signs_s0, hne, hR, readV, z4, z5, room]
          refine ⟨i + size.toNat, by omega, [n], soFar_next hf hi r, _, _, .inr ⟨by simp, m.length + 1, rfl, ?_⟩, rfl, ?_, rfl, rfl⟩
          · have := get_new (m := m ++ [Blk.tok 1 1]) (x := .tok 1 1)
            simpa using this
          · simp [Fn.f_haulageref03_Signs_k0, rowI]
            rw [List.take_of_length_le (by rw [List.length_drop]; exact Nat.le_refl _), List.drop_drop]
        · rw [List.length_map] at ht
          have ht2 : ∀ y, (m ++ [y])[t]? = some (.tok 1 acc.length) := fun y => get_app ht _
          have hb : (acc.length + 1) * 8 ≤ room ∧ acc.length + 1 ≤ room := by unfold room; omega
          simp [Fn.f_haulageref03_Signs_b0, Fn.f_haulageref03_Signs_s0, hne, hR, readV, z4, z5, ht2, hb]
          refine ⟨i + size.toNat, by omega, acc ++ [n], soFar_next hf hi r, .tv 1 (acc.map rowI ++ [rowI n]) t, _, .inr ⟨by simp, t, by simp, ?_⟩, rfl, ?_, rfl, rfl⟩
          · rw [get_set (ht2 _)]; simp
          · simp [Fn.f_haulageref03_Signs_k0, rowI]
            rw [List.take_of_length_le (by rw [List.length_drop]; exact Nat.le_refl _), List.drop_drop]
    · have : i = s.length := by omega
      subst this
      simp [Fn.f_haulageref03_Signs_b0, Fn.f_haulageref03_Signs_s0]
      exact ⟨acc, soFar_end hf, hg⟩
  · rintro e st (⟨acc, ov, rfl, h1, h2, h3, h4, h5⟩ | ⟨rfl, h1, h2, h3, h4⟩)
    · obtain ⟨ts, m', ds⟩ := st
      simp only at h1 h3 h4 h5
      match ts, h4 with
      | [t0, t1, t2, t3, t4, t5, t6, t7, t8, t9, t10, t11, t12, t13, t14, t15, t16, t17, t18, t19, t20, t21, t22, t23, t24, t25], _ =>
        simp only [getD_succ', getD_zero'] at h5
        subst h5
        have hq := grow_strip h3
        rcases h3 with ⟨h3, rfl⟩ | ⟨h3, t, rfl, ht⟩
        · have : acc = [] := by simpa using h3
          subst this
          simp [h1, signsV, h2, slP]
        · simp only [stripV, strip0, Option.some.injEq, AV.p.injEq] at hq
          simp [h1, signsV, h2, ← hq]
    · simp [h1, h3, h4, signsV, h2]
theorem ref_RightQ (u : Q03 E) (s : List UInt8) (hs : (s.length : Int) ≤ 1000000000000) (k : Nat) (hk : s.length + 9 ≤ k) (m : Mem) : denF E (k + 1) 22 [.p (.str s)] m = some (.ret (.p (.bool (signs s).isSome)), m) := by
  obtain ⟨k, rfl⟩ : ∃ j, k = j + 1 := ⟨k - 1, by omega⟩
  refine denF_wp u.rRight rfl (args' := [.p (.str s)]) rfl ?_
  have hC := fun m => ref_SignsQ u s hs k (by omega) m
  simp [Fn.f_haulageref03_Right, hC]
structure Q01 (E : Env) : Prop where
  half : E.fn 56 = some Fn.f_haulageref01_Half
  rFits : E.fn 36 = some Fn.f_haulageref01_Fits
theorem ref_HalfQ (u : Q01 E) (k : Nat) (m : Mem) : denF E (k + 40) 56 [.p (.int .i64 32)] m = some (.ret (.p (.int .i64 2147483648)), m) := by
  refine denF_wp u.half rfl (args' := [.p (.int .i64 32)]) rfl ?_
  simp [Fn.f_haulageref01_Half]
  refine (loop_wp (α := Nat) (I := fun i st => i ≤ 31 ∧ Live Fn.f_haulageref01_Half_k0 (Fn.f_haulageref01_Half_s0 (.p (.int .i64 32)) (.p (.int .i64 (pw i))) (.p (.int .i64 (i + 1)))) [] st) (meas := fun i => 31 - i)
    (Q := fun e st => e = .exit 0 ∧ st.ds = [] ∧ st.ts.length = 13 ∧ st.ts.getD 3 (.tup []) = .p (.int .i64 2147483648)) ?_ (k + 39) 0 _ ⟨Nat.zero_le _, rfl, rfl, rfl, rfl⟩ (by omega)).mono ?_
  · rintro i st ⟨hi0, hlive⟩
    rw [loopF_live hlive]
    have hw1 : IntKind.i64.wrap ((i : Int) + 1 + 1) = i + 2 := by rw [wrap_i64] <;> omega
    by_cases hi : i = 31
    · subst hi
      have h31 : pw 31 = 2147483648 := rfl
      simp [Fn.f_haulageref01_Half_b0, Fn.f_haulageref01_Half_s0, h31]
    · have hi' : (i : Int) + 1 < 32 := by omega
      have hw2 : IntKind.i64.wrap (2 * pw i) = pw (i + 1) := by
        have := pw_pos i
        have := pw_le (i := i) (by omega)
        rw [wrap_i64 (by omega) (by omega), pw_succ]
      simp [Fn.f_haulageref01_Half_b0, Fn.f_haulageref01_Half_s0, hi', hw1, hw2]
      exact ⟨i + 1, by omega, by omega, rfl, by simp [keep, Fn.f_haulageref01_Half_k0, Fn.f_haulageref01_Half_s0]; omega, rfl, rfl⟩
  · rintro e st ⟨rfl, h1, h2, h3⟩
    obtain ⟨ts, m', ds⟩ := st
    simp only at h1 h2 h3
    match ts, h2, h3 with
    | [t0, t1, t2, t3, t4, t5, t6, t7, t8, t9, t10, t11, t12], h2, h3 =>
      simp at h3
      simp [h1, h3]
theorem ref_FitsQ (u : Q01 E) (k : Nat) (n : Int) (m : Mem) : denF E (k + 41) 36 [.p (.int .i64 n), .p (.int .i64 32)] m = some (.ret (.p (.bool (fits32 n))), m) := by
  refine denF_wp u.rFits rfl (args' := [.p (.int .i64 n), .p (.int .i64 32)]) rfl ?_
  have hh := fun m => ref_HalfQ u k m
  have hw : IntKind.i64.wrap (-2147483648) = -2147483648 := rfl
  unfold fits32
  by_cases h : -2147483648 ≤ n
  · simp [Fn.f_haulageref01_Fits, hh, hw, h]
  · simp [Fn.f_haulageref01_Fits, hh, hw, h]
theorem ref_VRightQ (q3 : Q03 E) (q1 : Q01 E) (h34 : E.fn 34 = some Fn.f_haulageref05_Right) (a n : Int) (s : List UInt8) (hn : isI64 n) (hs : (s.length : Int) ≤ 1000000000000) (k : Nat) (hk : s.length + 41 ≤ k) (m : Mem) :
    denF E (k + 1) 34 [.p (vP a n s)] m = some (.ret (.p (.bool (rightV a n s))), m) := by
  refine denF_wp h34 rfl (args' := [.p (vP a n s)]) rfl ?_
  obtain ⟨j, rfl⟩ : ∃ j, k = j + 41 := ⟨k - 41, by omega⟩
  have hF := fun m => ref_FitsQ q1 j n m
  have hU := fun m => ref_RightQ q3 s hs (j + 40) (by omega) m
  have hl : ∃ b : Bool, decide ((s.length : Int) ≤ 120) = b ∧ decide ((120 : Int) < s.length) = !b ∧ decide (s.length ≤ 120) = b := by
    by_cases h : s.length ≤ 120
    · exact ⟨true, by simp; omega, by simp; omega, by simp; omega⟩
    · exact ⟨false, by simp; omega, by simp; omega, by simp; omega⟩
  obtain ⟨b, hb1, hb2, hb3⟩ := hl
  have he : (s == []) = s.isEmpty := by cases s <;> rfl
  obtain ⟨z, hz⟩ : ∃ z, (n == 0) = z := ⟨_, rfl⟩
  obtain ⟨g, hg⟩ : ∃ g, (signs s).isSome = g := ⟨_, rfl⟩
  obtain ⟨f, hf⟩ : ∃ f, fits32 n = f := ⟨_, rfl⟩
  obtain ⟨e, hee⟩ : ∃ e, s.isEmpty = e := ⟨_, rfl⟩
  rw [hee] at he
  rw [hg] at hU
  rw [hf] at hF
  have hzf : z = true → f = true := by
    intro h
    rw [h] at hz
    have := beq_iff_eq.1 hz
    subst this
    rw [← hf]
    rfl
  have hsb : e = true → b = true ∧ g = true := by
    intro h
    have : s = [] := by cases s with
      | nil => rfl
      | cons => rw [← hee] at h; cases h
    subst this
    rw [← hb3, ← hg, signs_nil]
    exact ⟨rfl, rfl⟩
  unfold rightV vP
  by_cases h0 : a = 0
  · subst h0
    cases z <;> cases e <;> cases b <;> first | exact absurd (hsb rfl).1 Bool.false_ne_true | exact absurd (hsb rfl).2 Bool.false_ne_true | exact absurd (hzf rfl) Bool.false_ne_true | simp (maxSteps := 400000) [Fn.f_haulageref05_Right, hF, hU, bne, he, hb1, hb2, hb3, hz, hg, hf, hee]
  by_cases h1 : a = 1
  · subst h1
    cases z <;> cases f <;> cases e <;> cases b <;> first | exact absurd (hsb rfl).1 Bool.false_ne_true | exact absurd (hsb rfl).2 Bool.false_ne_true | exact absurd (hzf rfl) Bool.false_ne_true | simp (maxSteps := 400000) [Fn.f_haulageref05_Right, hF, hU, bne, he, hb1, hb2, hb3, hz, hg, hf, hee]
  by_cases h2 : a = 2
  · subst h2
    cases z <;> cases e <;> cases b <;> first | exact absurd (hsb rfl).1 Bool.false_ne_true | exact absurd (hsb rfl).2 Bool.false_ne_true | exact absurd (hzf rfl) Bool.false_ne_true | simp (maxSteps := 400000) [Fn.f_haulageref05_Right, hF, hU, bne, he, hb1, hb2, hb3, hz, hg, hf, hee]
  by_cases h3 : a = 3
  · subst h3
    cases z <;> cases g <;> cases e <;> cases b <;> first | exact absurd (hsb rfl).1 Bool.false_ne_true | exact absurd (hsb rfl).2 Bool.false_ne_true | exact absurd (hzf rfl) Bool.false_ne_true | simp (maxSteps := 400000) [Fn.f_haulageref05_Right, hF, hU, bne, he, hb1, hb2, hb3, hz, hg, hf, hee]
  by_cases h4 : a = 4
  · subst h4
    cases z <;> cases e <;> cases b <;> first | exact absurd (hsb rfl).1 Bool.false_ne_true | exact absurd (hsb rfl).2 Bool.false_ne_true | exact absurd (hzf rfl) Bool.false_ne_true | simp (maxSteps := 400000) [Fn.f_haulageref05_Right, hF, hU, bne, he, hb1, hb2, hb3, hz, hg, hf, hee]
  have e0 : (a == 0) = false := by simpa using h0
  have e1 : (a == 1) = false := by simpa using h1
  have e2 : (a == 2) = false := by simpa using h2
  have e3 : (a == 3) = false := by simpa using h3
  have e4 : (a == 4) = false := by simpa using h4
  simp (maxSteps := 1000000) [Fn.f_haulageref05_Right, h0, h1, h2, h3, h4, e0, e1, e2, e3, e4]
theorem ref_VRightLQ (q3 : Q03 E) (q1 : Q01 E) (h34 : E.fn 34 = some Fn.f_haulageref05_Right) (a n : Int) (s : List UInt8) (hn : isI64 n) (k : Nat) (hk : 400 ≤ k) (m : Mem) :
    denF E (k + 1) 34 [.p (vP a n s)] m = some (.ret (.p (.bool (rightV a n s))), m) := by
  by_cases h : s.length ≤ 120
  · exact ref_VRightQ q3 q1 h34 a n s hn (by omega) k (by omega) m
  · have he : (s == []) = false := by cases s with
      | nil => simp at h
      | cons a l => rfl
    have he' : s.isEmpty = false := by cases s with
      | nil => simp at h
      | cons a l => rfl
    have hr : rightV a n s = false := by unfold rightV; simp [he', h]
    rw [hr]
    refine denF_wp h34 rfl (args' := [.p (vP a n s)]) rfl ?_
    obtain ⟨j, rfl⟩ : ∃ j, k = j + 41 := ⟨k - 41, by omega⟩
    have hF := fun m => ref_FitsQ q1 (j + 0) n m
    have h1 : ¬ ((s.length : Int) ≤ 120) := by omega
    unfold vP
    by_cases h0 : a = 0
    · subst h0; cases hz : (n == 0) <;> simp (maxSteps := 4000000) [Fn.f_haulageref05_Right, he, hz]
    by_cases h2 : a = 1
    · subst h2; cases hz : fits32 n <;> rw [hz] at hF <;> simp (maxSteps := 4000000) [Fn.f_haulageref05_Right, he, hF]
    by_cases h3 : a = 2
    · subst h3; simp (maxSteps := 4000000) [Fn.f_haulageref05_Right, he]
    by_cases h4 : a = 3
    · subst h4; cases hz : (n == 0) <;> simp (maxSteps := 4000000) [Fn.f_haulageref05_Right, he, hz, h, h1]
    by_cases h5 : a = 4
    · subst h5; cases hz : (n == 0) <;> simp (maxSteps := 4000000) [Fn.f_haulageref05_Right, he, hz, h, h1]
    have e0 : (a == 0) = false := by simpa using h0
    have e1 : (a == 1) = false := by simpa using h2
    have e2 : (a == 2) = false := by simpa using h3
    have e3 : (a == 3) = false := by simpa using h4
    have e4 : (a == 4) = false := by simpa using h5
    simp (maxSteps := 4000000) [Fn.f_haulageref05_Right, e0, e1, e2, e3, e4]
structure QN4 (E : Env) : Prop where
  rletter : E.fn 67 = some Fn.f_haulageref04_letter
  rpart : E.fn 66 = some Fn.f_haulageref04_Part
  rread : E.fn 51 = some Fn.f_haulageref04_Read
theorem ref_partQ (u : QN4 E) (k : Nat) (c : UInt8) (m : Mem) : denF E (k + 2) 66 [.p (.int .u8 c.toNat)] m = some (.ret (.p (.bool (partC c))), m) := by
  refine denF_wp u.rpart rfl (args' := [.p (.int .u8 c.toNat)]) rfl ?_
  have hl := fun m => ref_letter u.rletter k c m
  unfold partC
  generalize letter c = l at *
  generalize (c.toNat : Int) = x at *
  cases l
  · by_cases h3 : (48 : Int) ≤ x
    · by_cases h4 : x ≤ 57
      · simp [Fn.f_haulageref04_Part, hl, h3, h4]
      · simp [Fn.f_haulageref04_Part, hl, h3, h4]
    · simp [Fn.f_haulageref04_Part, hl, h3]
  · simp [Fn.f_haulageref04_Part, hl]
theorem ref_NReadQ (u : QN4 E) (s : List UInt8) (hs : (s.length : Int) ≤ 1000000000000) (k : Nat) (hk : s.length + 4 ≤ k) (m : Mem) : denF E (k + 1) 51 [.p (.str s)] m = some (.ret (.p (.int .i64 (nameLen s))), m) := by
  refine denF_wp u.rread rfl (args' := [.p (.str s)]) rfl ?_
  obtain ⟨j, rfl⟩ : ∃ j, k = j + 2 := ⟨k - 2, by omega⟩
  simp [Fn.f_haulageref04_Read]
  refine (loop_wp (α := Nat) (I := fun i st => NameFar s i ∧ Live Fn.f_haulageref04_Read_k0 (Fn.f_haulageref04_Read_s0 (.p (.str s)) (.p (.int .i64 i))) [] st) (meas := fun i => s.length - i)
    (Q := fun e st => st.ds = [] ∧ e = .exit 0 ∧ st.ts.length = 26 ∧ st.ts.getD 3 (.tup []) = .p (.int .i64 (nameLen s))) ?_ (j + 2) 0 _ ⟨⟨Nat.zero_le _, .inl rfl⟩, rfl, rfl, rfl, rfl⟩ (by omega)).mono ?_
  · rintro i st ⟨hf, hlive⟩
    rw [loopF_live hlive]
    by_cases hi : i < s.length
    · have hi' : (i : Int) < s.length := by omega
      obtain ⟨c, hc⟩ : ∃ c, s[i]? = some c := ⟨_, List.getElem?_eq_getElem hi⟩
      obtain ⟨d, hd⟩ : ∃ d, s[0]? = some d := ⟨_, List.getElem?_eq_getElem (by omega)⟩
      have hp := fun m => ref_partQ u j c m
      have hl := fun m => ref_letter u.rletter (j + 1) d m
      have hw : IntKind.i64.wrap ((i : Int) + 1) = i + 1 := wrap_i64 (by omega) (by omega)
      by_cases h0 : i = 0
      · subst h0
        rw [hc] at hd
        obtain rfl := Option.some.inj hd
        cases hq : letter c with
        | true =>
          have hn := name_next hf hc (by rw [hq]; rfl)
          rw [letter_part hq] at hp
          rw [hq] at hl
          have hw1 : IntKind.i64.wrap 1 = 1 := rfl
          simp [Fn.f_haulageref04_Read_b0, Fn.f_haulageref04_Read_s0, hi, hi', hc, hp, hl, hw1]
          exact ⟨1, by omega, hn, rfl, rfl, rfl, rfl⟩
        | false =>
          have hn := name_stop hf hc (by rw [hq]; simp)
          rw [hq] at hl
          cases hr : partC c <;> rw [hr] at hp <;> simp [Fn.f_haulageref04_Read_b0, Fn.f_haulageref04_Read_s0, hi, hi', hc, hp, hl, hn]
      · have h0' : (0 : Int) < i := by omega
        have h0'' : 0 < i := by omega
        cases hr : partC c with
        | true =>
          have hn := name_next hf hc (by rw [hr]; simp [h0''])
          rw [hr] at hp
          simp [Fn.f_haulageref04_Read_b0, Fn.f_haulageref04_Read_s0, hi, hi', hc, hp, hw, h0', h0'']
          exact ⟨i + 1, by omega, hn, rfl, rfl, rfl, rfl⟩
        | false =>
          have hlc : letter c = false := by
            cases hq : letter c with
            | false => rfl
            | true => rw [letter_part hq] at hr; cases hr
          have hn := name_stop hf hc (by rw [hr, hlc]; rfl)
          rw [hr] at hp
          simp [Fn.f_haulageref04_Read_b0, Fn.f_haulageref04_Read_s0, hi, hi', hc, hp, hn]
    · have hi' : ¬ (i : Int) < s.length := by omega
      have hn : i = s.length := by have := hf.1; omega
      subst hn
      have := name_end hf
      simp [Fn.f_haulageref04_Read_b0, Fn.f_haulageref04_Read_s0, this]
  · rintro e st ⟨h0, rfl, h1, h3⟩
    obtain ⟨ts, m', ds⟩ := st
    simp only at h0 h1 h3
    match ts, h1, h3 with
    | t0 :: t1 :: t2 :: t3 :: t4 :: t5 :: t6 :: t7 :: t8 :: t9 :: t10 :: t11 :: t12 :: t13 :: t14 :: t15 :: t16 :: t17 :: t18 :: t19 :: t20 :: t21 :: t22 :: t23 :: t24 :: t25 :: [], h1, h3 =>
      simp at h3
      simp [h0, h3]
theorem ref_NRightNQ (n04 : QN4 E) (nright : E.fn 188 = some Fn.f_haulageref04_Right) (w : List UInt8) (hw : (w.length : Int) ≤ 1000000000) (k : Nat) (hk : w.length + 5 ≤ k) (m : Mem) :
    denF E (k + 1) 188 [.p (.str w)] m = some (.ret (.p (.bool (rightN w))), m) := by
  refine denF_wp nright rfl (args' := [.p (.str w)]) rfl ?_
  obtain ⟨j, rfl⟩ : ∃ j, k = j + 1 := ⟨k - 1, by omega⟩
  have hN := fun m => ref_NReadQ n04 w (by omega) j (by omega) m
  unfold rightN
  cases w with
  | nil => simp [Fn.f_haulageref04_Right]
  | cons c w =>
    have h0 : (0 : Int) < ((c :: w).length : Int) := by simp only [List.length_cons]; omega
    by_cases h : (c :: w).length ≤ 16
    · have h2 : ((nameLen (c :: w) : Int) == ((c :: w).length : Int)) = decide (nameLen (c :: w) = (c :: w).length) := by
        by_cases h3 : nameLen (c :: w) = (c :: w).length
        · rw [h3]; simp
        · rw [decide_eq_false h3]; simpa using (by omega : ¬ ((nameLen (c :: w) : Int) = ((c :: w).length : Int)))
      generalize hq : c :: w = q at *
      have he : q.isEmpty = false := by subst hq; rfl
      have h1' : ((q.length : Int) ≤ 16) := by omega
      have h0' : 0 < q.length := by omega
      simp [Fn.f_haulageref04_Right, hN, h0, h0', he, h, h1', h2]
    · generalize hq : c :: w = q at *
      have he : q.isEmpty = false := by subst hq; rfl
      have h1' : ¬ ((q.length : Int) ≤ 16) := by omega
      have h0' : 0 < q.length := by omega
      simp [Fn.f_haulageref04_Right, hN, h0, h0', he, h, h1']
theorem ref_NRightLQ (n04 : QN4 E) (nright : E.fn 188 = some Fn.f_haulageref04_Right) (w : List UInt8) (k : Nat) (hk : 40 ≤ k) (m : Mem) :
    denF E (k + 1) 188 [.p (.str w)] m = some (.ret (.p (.bool (rightN w))), m) := by
  by_cases h : w.length ≤ 16
  · exact ref_NRightNQ n04 nright w (by omega) k (by omega) m
  · have hr : rightN w = false := by unfold rightN; simp [h]
    rw [hr]
    refine denF_wp nright rfl (args' := [.p (.str w)]) rfl ?_
    have h1 : ¬ ((w.length : Int) ≤ 16) := by omega
    have h0 : (0 : Int) < w.length := by omega
    have h0' : 0 < w.length := by omega
    simp [Fn.f_haulageref04_Right, h, h1, h0, h0']
attribute [local simp] intBeq maxIf in
theorem ref_WideQ (h85 : E.fn 85 = some Fn.f_haulageref06_Right) (h88 : E.fn 88 = some Fn.f_haulageref06_Wide) (k : Nat) (a b c d : Int) (m : Mem) : denF E (k + 2) 88 [.p (tP a b), .p (tP c d)] m = some (.ret (.p (.bool (wideT a b c d))), m) := by
  refine denF_wp h88 rfl (args' := [.p (tP a b), .p (tP c d)]) rfl ?_
  have hr := fun m => ref_TRight h85 k a b m
  have hr' := fun m => ref_TRight h85 k c d m
  unfold wideT
  unfold tP at *
  cases h1 : rightT a b with
  | false => rw [h1] at hr; simp [Fn.f_haulageref06_Wide, hr]
  | true =>
    rw [h1] at hr
    cases h2 : rightT c d with
    | false => rw [h2] at hr'; simp [Fn.f_haulageref06_Wide, hr, hr']
    | true =>
      rw [h2] at hr'
      rcases right_cases h1 with ⟨rfl, rfl⟩ | ⟨rfl, rfl⟩ | ⟨rfl, _⟩ | ⟨rfl, _⟩ <;> rcases right_cases h2 with ⟨rfl, rfl⟩ | ⟨rfl, rfl⟩ | ⟨rfl, _⟩ | ⟨rfl, _⟩ <;> simp [Fn.f_haulageref06_Wide, hr, hr', needT]
theorem rightV_cases {k n : Int} {s : List UInt8} (h : rightV k n s = true) : (k = 0 ∧ n = 0 ∧ s = []) ∨ (k = 1 ∧ s = [] ∧ fits32 n = true) ∨ (k = 2 ∧ s = []) ∨ (k = 3 ∧ n = 0 ∧ s.length ≤ 120 ∧ (signs s).isSome = true) ∨ (k = 4 ∧ n = 0 ∧ s.length ≤ 120) := by
  have he : s.isEmpty = true → s = [] := by intro h; cases s with | nil => rfl | cons => cases h
  unfold rightV at h
  split at h
  · simp only [Bool.and_eq_true, beq_iff_eq] at h
    exact .inl ⟨by assumption, h.1, he h.2⟩
  split at h
  · simp only [Bool.and_eq_true] at h
    exact .inr (.inl ⟨by assumption, he h.2, h.1⟩)
  split at h
  · exact .inr (.inr (.inl ⟨by assumption, he h⟩))
  split at h
  · simp only [Bool.and_eq_true, beq_iff_eq, decide_eq_true_eq] at h
    exact .inr (.inr (.inr (.inl ⟨by assumption, h.1.1, h.1.2, h.2⟩)))
  split at h
  · simp only [Bool.and_eq_true, beq_iff_eq, decide_eq_true_eq] at h
    exact .inr (.inr (.inr (.inr ⟨by assumption, h.1, h.2⟩)))
  · cases h
def castR (k n : Int) (s : List UInt8) (e : Int) : AV := .tup [.p (vP k n s), .p (.int .i64 e)]
def castS (a n : Int) (s : List UInt8) : List UInt8 := if a = 3 ∨ a = 4 then s else digits n
def castV (a n : Int) (s : List UInt8) (c d : Int) : AV :=
  if rightV a n s && rightT c d then
    if a = 0 then castR 0 n s 0 else if c < a then castR 0 0 [] 9 else if c < 3 then castR c n [] 0
    else if d < (castS a n s).length then castR 0 0 [] 10 else castR c 0 (castS a n s) 0
  else castR 0 0 [] 2
attribute [local simp] intBeq in
theorem ref_CastQ (q3 : Q03 E) (q1 : Q01 E) (h34 : E.fn 34 = some Fn.f_haulageref05_Right) (h85 : E.fn 85 = some Fn.f_haulageref06_Right) (h40 : E.fn 40 = some Fn.f_haulageref05_Digits) (h82 : E.fn 82 = some Fn.f_haulageref06_Cast) (a n c d : Int) (s : List UInt8) (hn : isI64 n) (hs : (s.length : Int) ≤ 1000000000000) (k : Nat) (hk : s.length + 42 ≤ k) (m : Mem) :
    denF E (k + 1) 82 [.p (vP a n s), .p (tP c d)] m = some (.ret (castV a n s c d), m) := by
  refine denF_wp h82 rfl (args' := [.p (vP a n s), .p (tP c d)]) rfl ?_
  obtain ⟨j, rfl⟩ : ∃ j, k = j + 41 := ⟨k - 41, by omega⟩
  have hr := fun m => ref_TRight h85 (j + 40) c d m
  have hv := fun m => ref_VRightQ q3 q1 h34 a n s hn hs (j + 40) (by omega) m
  have hD := fun m => ref_Digits' h40 n hn.1 hn.2 (j + 19) m
  unfold castV castR
  unfold vP tP at *
  cases h1 : rightV a n s with
  | false => simp (maxSteps := 400000) [Fn.f_haulageref06_Cast, hv, h1]
  | true =>
  cases h2 : rightT c d with
  | false => simp (maxSteps := 400000) [Fn.f_haulageref06_Cast, hv, hr, h1, h2]
  | true =>
  rw [h1] at hv
  rw [h2] at hr
  rcases rightV_cases h1 with ⟨rfl, rfl, rfl⟩ | ⟨rfl, rfl, _⟩ | ⟨rfl, rfl⟩ | ⟨rfl, rfl, _, _⟩ | ⟨rfl, rfl, _⟩
  · rcases right_cases h2 with ⟨rfl, rfl⟩ | ⟨rfl, rfl⟩ | ⟨rfl, _⟩ | ⟨rfl, _⟩
    · simp (maxSteps := 400000) [Fn.f_haulageref06_Cast, hv, hr, hD, castS]
    · simp (maxSteps := 400000) [Fn.f_haulageref06_Cast, hv, hr, hD, castS]
    · simp (maxSteps := 400000) [Fn.f_haulageref06_Cast, hv, hr, hD, castS]
    · simp (maxSteps := 400000) [Fn.f_haulageref06_Cast, hv, hr, hD, castS]
  · rcases right_cases h2 with ⟨rfl, rfl⟩ | ⟨rfl, rfl⟩ | ⟨rfl, _⟩ | ⟨rfl, _⟩
    · simp (maxSteps := 400000) [Fn.f_haulageref06_Cast, hv, hr, hD, castS]
    · simp (maxSteps := 400000) [Fn.f_haulageref06_Cast, hv, hr, hD, castS]
    · by_cases hl : d < ((digits n).length : Int)
      · simp (maxSteps := 400000) [Fn.f_haulageref06_Cast, hv, hr, hD, castS, hl]
      · simp (maxSteps := 400000) [Fn.f_haulageref06_Cast, hv, hr, hD, castS, hl]
    · by_cases hl : d < ((digits n).length : Int)
      · simp (maxSteps := 400000) [Fn.f_haulageref06_Cast, hv, hr, hD, castS, hl]
      · simp (maxSteps := 400000) [Fn.f_haulageref06_Cast, hv, hr, hD, castS, hl]
  · rcases right_cases h2 with ⟨rfl, rfl⟩ | ⟨rfl, rfl⟩ | ⟨rfl, _⟩ | ⟨rfl, _⟩
    · simp (maxSteps := 400000) [Fn.f_haulageref06_Cast, hv, hr, hD, castS]
    · simp (maxSteps := 400000) [Fn.f_haulageref06_Cast, hv, hr, hD, castS]
    · by_cases hl : d < ((digits n).length : Int)
      · simp (maxSteps := 400000) [Fn.f_haulageref06_Cast, hv, hr, hD, castS, hl]
      · simp (maxSteps := 400000) [Fn.f_haulageref06_Cast, hv, hr, hD, castS, hl]
    · by_cases hl : d < ((digits n).length : Int)
      · simp (maxSteps := 400000) [Fn.f_haulageref06_Cast, hv, hr, hD, castS, hl]
      · simp (maxSteps := 400000) [Fn.f_haulageref06_Cast, hv, hr, hD, castS, hl]
  · rcases right_cases h2 with ⟨rfl, rfl⟩ | ⟨rfl, rfl⟩ | ⟨rfl, _⟩ | ⟨rfl, _⟩
    · simp (maxSteps := 400000) [Fn.f_haulageref06_Cast, hv, hr, hD, castS]
    · simp (maxSteps := 400000) [Fn.f_haulageref06_Cast, hv, hr, hD, castS]
    · by_cases hl : d < (s.length : Int)
      · simp (maxSteps := 400000) [Fn.f_haulageref06_Cast, hv, hr, hD, castS, hl]
      · simp (maxSteps := 400000) [Fn.f_haulageref06_Cast, hv, hr, hD, castS, hl]
    · by_cases hl : d < (s.length : Int)
      · simp (maxSteps := 400000) [Fn.f_haulageref06_Cast, hv, hr, hD, castS, hl]
      · simp (maxSteps := 400000) [Fn.f_haulageref06_Cast, hv, hr, hD, castS, hl]
  · rcases right_cases h2 with ⟨rfl, rfl⟩ | ⟨rfl, rfl⟩ | ⟨rfl, _⟩ | ⟨rfl, _⟩
    · simp (maxSteps := 400000) [Fn.f_haulageref06_Cast, hv, hr, hD, castS]
    · simp (maxSteps := 400000) [Fn.f_haulageref06_Cast, hv, hr, hD, castS]
    · simp (maxSteps := 400000) [Fn.f_haulageref06_Cast, hv, hr, hD, castS]
    · by_cases hl : d < (s.length : Int)
      · simp (maxSteps := 400000) [Fn.f_haulageref06_Cast, hv, hr, hD, castS, hl]
      · simp (maxSteps := 400000) [Fn.f_haulageref06_Cast, hv, hr, hD, castS, hl]
theorem ref_VOrder5Q (h42 : E.fn 42 = some Fn.f_haulageref05_Order) (h59 : E.fn 59 = some Fn.f_haulageref04_Order) (k : Nat) (a n a' n' : Int) (s s' : List UInt8) (hs : (s.length : Int) ≤ 1000000000) (hk : s.length + 4 ≤ k) (m : Mem) :
    denF E (k + 1) 42 [.p (.agg [.int .i64 a, .int .i64 n, .str s]), .p (.agg [.int .i64 a', .int .i64 n', .str s'])] m = some (.ret (.p (.int .i64 (ord5 (a, n, s) (a', n', s')))), m) := by
  refine denF_wp h42 rfl (args' := [.p (.agg [.int .i64 a, .int .i64 n, .str s]), .p (.agg [.int .i64 a', .int .i64 n', .str s'])]) rfl ?_
  obtain ⟨j, rfl⟩ : ∃ j, k = j + 1 := ⟨k - 1, by omega⟩
  have hN := fun m => ref_NOrder h59 s s' (by omega) j (by omega) m
  unfold ord5
  dsimp only
  by_cases h1 : a < a'
  · rw [if_pos (.inl h1)]
    simp (maxSteps := 1000000) [Fn.f_haulageref05_Order, h1]
  · by_cases h2 : a' < a
    · have e1 : (a == a') = false := by simp; omega
      rw [if_neg (by omega), if_pos (by omega)]
      simp (maxSteps := 1000000) [Fn.f_haulageref05_Order, h1, h2, e1]
    · have : a = a' := by omega
      subst this
      by_cases h3 : n < n'
      · rw [if_pos (.inr ⟨rfl, h3⟩)]
        simp (maxSteps := 1000000) [Fn.f_haulageref05_Order, h3]
      · by_cases h4 : n' < n
        · rw [if_neg (by omega), if_pos (.inr ⟨rfl, h4⟩)]
          simp (maxSteps := 1000000) [Fn.f_haulageref05_Order, h3, h4]
        · rw [if_neg (by omega), if_neg (by omega)]
          simp (maxSteps := 1000000) [Fn.f_haulageref05_Order, h3, h4, hN]
end Hx
