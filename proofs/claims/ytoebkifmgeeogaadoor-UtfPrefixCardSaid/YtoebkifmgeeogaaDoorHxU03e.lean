/-
  HxU03e: 'Read' of chapter 03, the document's.
-/
import Derived.Test.YtoebkifmgeeogaaDoorHxU03d
namespace Hx
open Go
set_option linter.unusedSimpArgs false
variable {E : Env}
attribute [-simp] List.getD_eq_getElem?_getD getElem?_pos
def OptPost (o : Option (Ex × St)) (Q : Ex × St → Prop) : Prop := ∃ r, o = some r ∧ Q r
theorem OptPost_some {r : Ex × St} {Q : Ex × St → Prop} : OptPost (some r) Q ↔ Q r := by
  constructor
  · rintro ⟨r', h, hq⟩; cases h; exact hq
  · intro h; exact ⟨r, rfl, h⟩
def hitR (s : List UInt8) (n : Int) (size : Nat) : Bool := isSign n && (utf8 n == s.take size)
def refR (s : List UInt8) : Option (Int × Int) := match s with
  | [] => none
  | c :: r => bif hitR s c.toNat 1 then some ((c.toNat : Int), 1) else match r with
    | [] => none
    | b :: r => bif hitR s (((c.toNat : Int) - 192) * 64 + b.toNat - 128) 2 then some (((c.toNat : Int) - 192) * 64 + b.toNat - 128, 2) else match r with
      | [] => none
      | d :: r => bif hitR s ((((c.toNat : Int) - 224) * 64 + b.toNat - 128) * 64 + d.toNat - 128) 3 then some ((((c.toNat : Int) - 224) * 64 + b.toNat - 128) * 64 + d.toNat - 128, 3) else match r with
        | [] => none
        | e :: _ => bif hitR s (((((c.toNat : Int) - 240) * 64 + b.toNat - 128) * 64 + d.toNat - 128) * 64 + e.toNat - 128) 4 then some (((((c.toNat : Int) - 240) * 64 + b.toNat - 128) * 64 + d.toNat - 128) * 64 + e.toNat - 128, 4) else none
def rdSt (s : List UInt8) (size : Int) (t11 t12 t13 t14 t49 t50 t51 t52 t53 t54 : AV) : List AV :=
  [.p (.str s), .unk, .unk, .unk, .unk, .p (.int .i64 size), .unk, .unk, .unk, .unk, .unk, t11, t12, t13, t14, .unk, .unk, .unk, .unk, .unk, .unk, .unk, .unk, .unk, .unk, .unk, .unk, .unk, .unk, .unk, .unk, .unk, .unk, .unk, .unk, .unk, .unk, .unk, .unk, .unk, .unk, .unk, .unk, .unk, .unk, .unk, .unk, .unk, .unk, t49, t50, t51, t52, t53, t54, .unk, .unk, .unk]
def rdMask : List Bool := [true, false, false, false, false, true, false, false, false, false, false, true, true, true, true, false, false, false, false, false, false, false, false, false, false, false, false, false, false, false, false, false, false, false, false, false, false, false, false, false, false, false, false, false, false, false, false, false, false, true, true, true, true, true, true, false, false, false]
def rdBody : XCode :=
  (.seq (.seq (.ops [⟨some 8, .mov (.tmp 5), none, 0⟩,
         ⟨some 9, .bin .leq (.tmp 8) (.con (.int .i64 4)), none, 0⟩,
         ⟨some 10, .mov (.tmp 9), none, 0⟩,
         ⟨some 11, .mov (.tmp 5), some (10, true), 0⟩,
         ⟨some 12, .mov (.tmp 0), some (10, true), 0⟩,
         ⟨some 13, .lenS (.tmp 12), some (10, true), 0⟩,
         ⟨some 14, .bin .leq (.tmp 11) (.tmp 13), some (10, true), 0⟩,
         ⟨some 15, .pick (.tmp 10) (.tmp 14) (.con (.bool false)), none, 0⟩])
      (.cond (.tmp 15)
       .skip
       (.exit 0)))
     (.seq (.block 1
       (.seq (.ops [⟨some 18, .mov (.tmp 0), none, 0⟩,
          ⟨some 19, .indexStr (.tmp 18) (.con (.int .i64 0)), none, 0⟩,
          ⟨some 20, .toInt .i64 (.tmp 19), none, 0⟩,
          ⟨some 6, .mov (.tmp 20), none, 0⟩])
       (.seq (.seq (.ops [⟨some 21, .mov (.tmp 5), none, 0⟩,
           ⟨some 22, .bin .eql (.tmp 21) (.con (.int .i64 2)), none, 0⟩])
        (.cond (.tmp 22)
         (.ops [⟨some 23, .mov (.tmp 6), none, 0⟩,
            ⟨some 24, .bin .sub (.tmp 23) (.con (.int .i64 192)), none, 0⟩,
            ⟨some 6, .mov (.tmp 24), none, 0⟩])
         .skip))
       (.seq (.seq (.ops [⟨some 25, .mov (.tmp 5), none, 0⟩,
           ⟨some 26, .bin .eql (.tmp 25) (.con (.int .i64 3)), none, 0⟩])
        (.cond (.tmp 26)
         (.ops [⟨some 27, .mov (.tmp 6), none, 0⟩,
            ⟨some 28, .bin .sub (.tmp 27) (.con (.int .i64 224)), none, 0⟩,
            ⟨some 6, .mov (.tmp 28), none, 0⟩])
         .skip))
       (.seq (.seq (.ops [⟨some 29, .mov (.tmp 5), none, 0⟩,
           ⟨some 30, .bin .eql (.tmp 29) (.con (.int .i64 4)), none, 0⟩])
        (.cond (.tmp 30)
         (.ops [⟨some 31, .mov (.tmp 6), none, 0⟩,
            ⟨some 32, .bin .sub (.tmp 31) (.con (.int .i64 240)), none, 0⟩,
            ⟨some 6, .mov (.tmp 32), none, 0⟩])
         .skip))
       (.seq (.seq (.ops [⟨some 7, .mov (.con (.int .i64 1)), none, 0⟩])
        (.block 2
         (.loop [true, false, false, false, false, true, true, true, false, false, false, true, true, true, true, false, false, false, false, false, false, false, false, false, false, false, false, false, false, false, false, false, false, false, false, false, false, false, false, false, false, false, false, false, false, false, false, false, false, true, true, true, true, true, true, false, false, false]
          (.seq (.seq (.ops [⟨some 33, .mov (.tmp 7), none, 0⟩,
              ⟨some 34, .mov (.tmp 5), none, 0⟩,
              ⟨some 35, .bin .lss (.tmp 33) (.tmp 34), none, 0⟩])
           (.cond (.tmp 35)
            .skip
            (.exit 2)))
          (.seq (.block 3
            (.ops [⟨some 38, .mov (.tmp 6), none, 0⟩,
              ⟨some 39, .bin .mul (.tmp 38) (.con (.int .i64 64)), none, 0⟩,
              ⟨some 40, .mov (.tmp 0), none, 0⟩,
              ⟨some 41, .mov (.tmp 7), none, 0⟩,
              ⟨some 42, .indexStr (.tmp 40) (.tmp 41), none, 0⟩,
              ⟨some 43, .toInt .i64 (.tmp 42), none, 0⟩,
              ⟨some 44, .bin .add (.tmp 39) (.tmp 43), none, 0⟩,
              ⟨some 45, .bin .sub (.tmp 44) (.con (.int .i64 128)), none, 0⟩,
              ⟨some 6, .mov (.tmp 45), none, 0⟩]))
          (.ops [⟨some 36, .mov (.tmp 7), none, 0⟩,
            ⟨some 37, .bin .add (.tmp 36) (.con (.int .i64 1)), none, 0⟩,
            ⟨some 7, .mov (.tmp 37), none, 0⟩]))))))
       (.seq (.draw [⟨some 46, .mov (.tmp 6), none, 0⟩,
          ⟨some 47, .call (.fn 2) [(.tmp 46)], none, 1⟩,
          ⟨some 48, .mov (.tmp 47), none, 0⟩,
          ⟨some 49, .mov (.tmp 6), some (48, true), 0⟩,
          ⟨some 50, .call (.fn 3) [(.tmp 49)], some (48, true), 1⟩,
          ⟨some 51, .mov (.tmp 0), some (48, true), 0⟩,
          ⟨some 52, .mov (.tmp 5), some (48, true), 0⟩,
          ⟨some 53, .cutStr (.tmp 51) none (some (.tmp 52)), some (48, true), 0⟩,
          ⟨some 54, .bin .eql (.tmp 50) (.tmp 53), some (48, true), 0⟩,
          ⟨some 55, .pick (.tmp 48) (.tmp 54) (.con (.bool false)), none, 0⟩]
         [[], [0], [0, 1], [0, 1, 2], [0, 1, 2, 3], [0, 1, 2], [0, 1, 2], [0, 1, 2, 5, 6], [0, 1, 2, 3, 4, 5, 6, 7], [0, 1, 2, 3, 4, 5, 6, 7, 8]])
       (.cond (.tmp 55)
        (.seq (.ops [⟨some 56, .mov (.tmp 6), none, 0⟩,
            ⟨some 57, .mov (.tmp 5), none, 0⟩,
            ⟨some 2, .mov (.tmp 56), none, 0⟩,
            ⟨some 3, .mov (.tmp 57), none, 0⟩,
            ⟨some 4, .mov (.con (.bool true)), none, 0⟩])
         .ret)
        .skip))))))))
     (.ops [⟨some 16, .mov (.tmp 5), none, 0⟩,
       ⟨some 17, .bin .add (.tmp 16) (.con (.int .i64 1)), none, 0⟩,
       ⟨some 5, .mov (.tmp 17), none, 0⟩])))
def rdNext (s : List UInt8) (size : Int) (r : Ex × St) : Prop := r.1 = .norm ∧ r.2.m = [] ∧ r.2.ds = [] ∧ rdMask.length = r.2.ts.length ∧ ∃ t11 t12 t13 t14 t49 t50 t51 t52 t53 t54, keep rdMask r.2.ts = rdSt s size t11 t12 t13 t14 t49 t50 t51 t52 t53 t54
def rdDone (n size : Int) (r : Ex × St) : Prop := r.1 = .ret ∧ r.2.ds = [] ∧ r.2.ts.getD 2 (.tup []) = .p (.int .i64 n) ∧ r.2.ts.getD 3 (.tup []) = .p (.int .i64 size) ∧ r.2.ts.getD 4 (.tup []) = .p (.bool true)
theorem pIs : Fn.f_haulageref03_Is.pure = true := rfl
theorem pPut : Fn.f_haulageref03_Put.pure = true := rfl
theorem rd_step1 (u : U03 E) (k : Nat) (c : UInt8) (r : List UInt8) (t11 t12 t13 t14 t49 t50 t51 t52 t53 t54 : AV) (n : Int) (hn : n = (c.toNat : Int)) :
    OptPost (den E (denF E (k + 4)) (k + 4) rdBody ⟨rdSt (c :: r) 1 t11 t12 t13 t14 t49 t50 t51 t52 t53 t54, [], []⟩) (if hitR (c :: r) n 1 = true then rdDone n 1 else rdNext (c :: r) 2) := by
  obtain ⟨c0, c1⟩ := u8_range c
  have wc : IntKind.i64.wrap (c.toNat : Int) = (c.toNat : Int) := wrap_i64 (by omega) (by omega)
  have f : ((r.length : Int) + 1 ≥ 1) := by omega
  have f' : (1 : Int) ≤ ((r.length : Int) + 1) := by omega
  have f2 : (1 : Nat) ≤ (r.length + 1) := by omega
  have hI := fun n m => ref_Is u.rIs (k + 3) n m
  rw [hn]
  cases i1 : isSign ((c.toNat : Int)) with
  | false =>
    simp [OptPost_some, rdBody, rdSt, iter, hI, i1, hitR, u.rIs, pIs, bne, wrap_i64, f, f', f2, wc]
    simp [rdNext, rdMask, rdSt, wrap_i64]
  | true =>
  obtain ⟨n1, n2, _⟩ := isSign_iff.1 i1
  have hP := fun m => ref_Put u.rPut u.rOne (k + 2) ((c.toNat : Int)) n1 n2 m
  cases q : (utf8 ((c.toNat : Int)) == (c :: r).take 1) with
  | false =>
    simp only [List.take_succ_cons, List.take_zero] at q
    simp [OptPost_some, rdBody, rdSt, iter, hI, hP, i1, hitR, u.rIs, u.rPut, pIs, pPut, bne, q, wrap_i64, f, f', f2, wc]
    simp [rdNext, rdMask, rdSt, wrap_i64]
  | true =>
    simp only [List.take_succ_cons, List.take_zero] at q
    simp [OptPost_some, rdBody, rdSt, iter, hI, hP, i1, hitR, u.rIs, u.rPut, pIs, pPut, bne, q, wrap_i64, f, f', f2, wc]
    simp [rdDone]
theorem rd_step2 (u : U03 E) (k : Nat) (c b : UInt8) (r : List UInt8) (t11 t12 t13 t14 t49 t50 t51 t52 t53 t54 : AV) (n : Int) (hn : n = (((c.toNat : Int) - 192) * 64 + (b.toNat : Int) - 128)) :
    OptPost (den E (denF E (k + 4)) (k + 4) rdBody ⟨rdSt (c :: b :: r) 2 t11 t12 t13 t14 t49 t50 t51 t52 t53 t54, [], []⟩) (if hitR (c :: b :: r) n 2 = true then rdDone n 2 else rdNext (c :: b :: r) 3) := by
  obtain ⟨c0, c1⟩ := u8_range c
  obtain ⟨b0, b1⟩ := u8_range b
  have w0 : IntKind.i64.wrap ((c.toNat : Int) - 192) = (c.toNat : Int) - 192 := wrap_i64 (by omega) (by omega)
  have w1 : IntKind.i64.wrap (((c.toNat : Int) - 192) * 64) = ((c.toNat : Int) - 192) * 64 := wrap_i64 (by omega) (by omega)
  have w2 : IntKind.i64.wrap (((c.toNat : Int) - 192) * 64 + (b.toNat : Int)) = ((c.toNat : Int) - 192) * 64 + (b.toNat : Int) := wrap_i64 (by omega) (by omega)
  have w3 : IntKind.i64.wrap (((c.toNat : Int) - 192) * 64 + (b.toNat : Int) - 128) = ((c.toNat : Int) - 192) * 64 + (b.toNat : Int) - 128 := wrap_i64 (by omega) (by omega)
  have wc : IntKind.i64.wrap (c.toNat : Int) = (c.toNat : Int) := wrap_i64 (by omega) (by omega)
  have wb : IntKind.i64.wrap (b.toNat : Int) = (b.toNat : Int) := wrap_i64 (by omega) (by omega)
  have f : ((r.length : Int) + 1 + 1 ≥ 2) := by omega
  have f' : (2 : Int) ≤ ((r.length : Int) + 1 + 1) := by omega
  have f2 : (2 : Nat) ≤ (r.length + 1 + 1) := by omega
  have hI := fun n m => ref_Is u.rIs (k + 3) n m
  rw [hn]
  cases i1 : isSign ((((c.toNat : Int) - 192) * 64 + (b.toNat : Int) - 128)) with
  | false =>
    simp [OptPost_some, rdBody, rdSt, iter, hI, i1, hitR, u.rIs, pIs, bne, wrap_i64, f, f', f2, wc, w0, w1, w2, w3, wb]
    simp [rdNext, rdMask, rdSt, wrap_i64]
  | true =>
  obtain ⟨n1, n2, _⟩ := isSign_iff.1 i1
  have hP := fun m => ref_Put u.rPut u.rOne (k + 2) ((((c.toNat : Int) - 192) * 64 + (b.toNat : Int) - 128)) n1 n2 m
  cases q : (utf8 ((((c.toNat : Int) - 192) * 64 + (b.toNat : Int) - 128)) == (c :: b :: r).take 2) with
  | false =>
    simp only [List.take_succ_cons, List.take_zero] at q
    simp [OptPost_some, rdBody, rdSt, iter, hI, hP, i1, hitR, u.rIs, u.rPut, pIs, pPut, bne, q, wrap_i64, f, f', f2, wc, w0, w1, w2, w3, wb]
    simp [rdNext, rdMask, rdSt, wrap_i64]
  | true =>
    simp only [List.take_succ_cons, List.take_zero] at q
    simp [OptPost_some, rdBody, rdSt, iter, hI, hP, i1, hitR, u.rIs, u.rPut, pIs, pPut, bne, q, wrap_i64, f, f', f2, wc, w0, w1, w2, w3, wb]
    simp [rdDone]
theorem rd_step3 (u : U03 E) (k : Nat) (c b d : UInt8) (r : List UInt8) (t11 t12 t13 t14 t49 t50 t51 t52 t53 t54 : AV) (n : Int) (hn : n = ((((c.toNat : Int) - 224) * 64 + (b.toNat : Int) - 128) * 64 + (d.toNat : Int) - 128)) :
    OptPost (den E (denF E (k + 4)) (k + 4) rdBody ⟨rdSt (c :: b :: d :: r) 3 t11 t12 t13 t14 t49 t50 t51 t52 t53 t54, [], []⟩) (if hitR (c :: b :: d :: r) n 3 = true then rdDone n 3 else rdNext (c :: b :: d :: r) 4) := by
  obtain ⟨c0, c1⟩ := u8_range c
  obtain ⟨b0, b1⟩ := u8_range b
  obtain ⟨d0, d1⟩ := u8_range d
  have w0 : IntKind.i64.wrap ((c.toNat : Int) - 224) = (c.toNat : Int) - 224 := wrap_i64 (by omega) (by omega)
  have w1 : IntKind.i64.wrap (((c.toNat : Int) - 224) * 64) = ((c.toNat : Int) - 224) * 64 := wrap_i64 (by omega) (by omega)
  have w2 : IntKind.i64.wrap (((c.toNat : Int) - 224) * 64 + (b.toNat : Int)) = ((c.toNat : Int) - 224) * 64 + (b.toNat : Int) := wrap_i64 (by omega) (by omega)
  have w3 : IntKind.i64.wrap (((c.toNat : Int) - 224) * 64 + (b.toNat : Int) - 128) = ((c.toNat : Int) - 224) * 64 + (b.toNat : Int) - 128 := wrap_i64 (by omega) (by omega)
  have w4 : IntKind.i64.wrap ((((c.toNat : Int) - 224) * 64 + (b.toNat : Int) - 128) * 64) = (((c.toNat : Int) - 224) * 64 + (b.toNat : Int) - 128) * 64 := wrap_i64 (by omega) (by omega)
  have w5 : IntKind.i64.wrap ((((c.toNat : Int) - 224) * 64 + (b.toNat : Int) - 128) * 64 + (d.toNat : Int)) = (((c.toNat : Int) - 224) * 64 + (b.toNat : Int) - 128) * 64 + (d.toNat : Int) := wrap_i64 (by omega) (by omega)
  have w6 : IntKind.i64.wrap ((((c.toNat : Int) - 224) * 64 + (b.toNat : Int) - 128) * 64 + (d.toNat : Int) - 128) = (((c.toNat : Int) - 224) * 64 + (b.toNat : Int) - 128) * 64 + (d.toNat : Int) - 128 := wrap_i64 (by omega) (by omega)
  have wc : IntKind.i64.wrap (c.toNat : Int) = (c.toNat : Int) := wrap_i64 (by omega) (by omega)
  have wb : IntKind.i64.wrap (b.toNat : Int) = (b.toNat : Int) := wrap_i64 (by omega) (by omega)
  have wd : IntKind.i64.wrap (d.toNat : Int) = (d.toNat : Int) := wrap_i64 (by omega) (by omega)
  have f : ((r.length : Int) + 1 + 1 + 1 ≥ 3) := by omega
  have f' : (3 : Int) ≤ ((r.length : Int) + 1 + 1 + 1) := by omega
  have f2 : (3 : Nat) ≤ (r.length + 1 + 1 + 1) := by omega
  have hI := fun n m => ref_Is u.rIs (k + 3) n m
  rw [hn]
  cases i1 : isSign (((((c.toNat : Int) - 224) * 64 + (b.toNat : Int) - 128) * 64 + (d.toNat : Int) - 128)) with
  | false =>
    simp [OptPost_some, rdBody, rdSt, iter, hI, i1, hitR, u.rIs, pIs, bne, wrap_i64, f, f', f2, wc, w0, w1, w2, w3, w4, w5, w6, wb, wd]
    simp [rdNext, rdMask, rdSt, wrap_i64]
  | true =>
  obtain ⟨n1, n2, _⟩ := isSign_iff.1 i1
  have hP := fun m => ref_Put u.rPut u.rOne (k + 2) (((((c.toNat : Int) - 224) * 64 + (b.toNat : Int) - 128) * 64 + (d.toNat : Int) - 128)) n1 n2 m
  cases q : (utf8 (((((c.toNat : Int) - 224) * 64 + (b.toNat : Int) - 128) * 64 + (d.toNat : Int) - 128)) == (c :: b :: d :: r).take 3) with
  | false =>
    simp only [List.take_succ_cons, List.take_zero] at q
    simp [OptPost_some, rdBody, rdSt, iter, hI, hP, i1, hitR, u.rIs, u.rPut, pIs, pPut, bne, q, wrap_i64, f, f', f2, wc, w0, w1, w2, w3, w4, w5, w6, wb, wd]
    simp [rdNext, rdMask, rdSt, wrap_i64]
  | true =>
    simp only [List.take_succ_cons, List.take_zero] at q
    simp [OptPost_some, rdBody, rdSt, iter, hI, hP, i1, hitR, u.rIs, u.rPut, pIs, pPut, bne, q, wrap_i64, f, f', f2, wc, w0, w1, w2, w3, w4, w5, w6, wb, wd]
    simp [rdDone]
theorem rd_step4 (u : U03 E) (k : Nat) (c b d e : UInt8) (r : List UInt8) (t11 t12 t13 t14 t49 t50 t51 t52 t53 t54 : AV) (n : Int) (hn : n = (((((c.toNat : Int) - 240) * 64 + (b.toNat : Int) - 128) * 64 + (d.toNat : Int) - 128) * 64 + (e.toNat : Int) - 128)) :
    OptPost (den E (denF E (k + 4)) (k + 4) rdBody ⟨rdSt (c :: b :: d :: e :: r) 4 t11 t12 t13 t14 t49 t50 t51 t52 t53 t54, [], []⟩) (if hitR (c :: b :: d :: e :: r) n 4 = true then rdDone n 4 else rdNext (c :: b :: d :: e :: r) 5) := by
  obtain ⟨c0, c1⟩ := u8_range c
  obtain ⟨b0, b1⟩ := u8_range b
  obtain ⟨d0, d1⟩ := u8_range d
  obtain ⟨e0, e1⟩ := u8_range e
  have w0 : IntKind.i64.wrap ((c.toNat : Int) - 240) = (c.toNat : Int) - 240 := wrap_i64 (by omega) (by omega)
  have w1 : IntKind.i64.wrap (((c.toNat : Int) - 240) * 64) = ((c.toNat : Int) - 240) * 64 := wrap_i64 (by omega) (by omega)
  have w2 : IntKind.i64.wrap (((c.toNat : Int) - 240) * 64 + (b.toNat : Int)) = ((c.toNat : Int) - 240) * 64 + (b.toNat : Int) := wrap_i64 (by omega) (by omega)
  have w3 : IntKind.i64.wrap (((c.toNat : Int) - 240) * 64 + (b.toNat : Int) - 128) = ((c.toNat : Int) - 240) * 64 + (b.toNat : Int) - 128 := wrap_i64 (by omega) (by omega)
  have w4 : IntKind.i64.wrap ((((c.toNat : Int) - 240) * 64 + (b.toNat : Int) - 128) * 64) = (((c.toNat : Int) - 240) * 64 + (b.toNat : Int) - 128) * 64 := wrap_i64 (by omega) (by omega)
  have w5 : IntKind.i64.wrap ((((c.toNat : Int) - 240) * 64 + (b.toNat : Int) - 128) * 64 + (d.toNat : Int)) = (((c.toNat : Int) - 240) * 64 + (b.toNat : Int) - 128) * 64 + (d.toNat : Int) := wrap_i64 (by omega) (by omega)
  have w6 : IntKind.i64.wrap ((((c.toNat : Int) - 240) * 64 + (b.toNat : Int) - 128) * 64 + (d.toNat : Int) - 128) = (((c.toNat : Int) - 240) * 64 + (b.toNat : Int) - 128) * 64 + (d.toNat : Int) - 128 := wrap_i64 (by omega) (by omega)
  have w7 : IntKind.i64.wrap (((((c.toNat : Int) - 240) * 64 + (b.toNat : Int) - 128) * 64 + (d.toNat : Int) - 128) * 64) = ((((c.toNat : Int) - 240) * 64 + (b.toNat : Int) - 128) * 64 + (d.toNat : Int) - 128) * 64 := wrap_i64 (by omega) (by omega)
  have w8 : IntKind.i64.wrap (((((c.toNat : Int) - 240) * 64 + (b.toNat : Int) - 128) * 64 + (d.toNat : Int) - 128) * 64 + (e.toNat : Int)) = ((((c.toNat : Int) - 240) * 64 + (b.toNat : Int) - 128) * 64 + (d.toNat : Int) - 128) * 64 + (e.toNat : Int) := wrap_i64 (by omega) (by omega)
  have w9 : IntKind.i64.wrap (((((c.toNat : Int) - 240) * 64 + (b.toNat : Int) - 128) * 64 + (d.toNat : Int) - 128) * 64 + (e.toNat : Int) - 128) = ((((c.toNat : Int) - 240) * 64 + (b.toNat : Int) - 128) * 64 + (d.toNat : Int) - 128) * 64 + (e.toNat : Int) - 128 := wrap_i64 (by omega) (by omega)
  have wc : IntKind.i64.wrap (c.toNat : Int) = (c.toNat : Int) := wrap_i64 (by omega) (by omega)
  have wb : IntKind.i64.wrap (b.toNat : Int) = (b.toNat : Int) := wrap_i64 (by omega) (by omega)
  have wd : IntKind.i64.wrap (d.toNat : Int) = (d.toNat : Int) := wrap_i64 (by omega) (by omega)
  have we : IntKind.i64.wrap (e.toNat : Int) = (e.toNat : Int) := wrap_i64 (by omega) (by omega)
  have f : ((r.length : Int) + 1 + 1 + 1 + 1 ≥ 4) := by omega
  have f' : (4 : Int) ≤ ((r.length : Int) + 1 + 1 + 1 + 1) := by omega
  have f2 : (4 : Nat) ≤ (r.length + 1 + 1 + 1 + 1) := by omega
  have hI := fun n m => ref_Is u.rIs (k + 3) n m
  rw [hn]
  cases i1 : isSign ((((((c.toNat : Int) - 240) * 64 + (b.toNat : Int) - 128) * 64 + (d.toNat : Int) - 128) * 64 + (e.toNat : Int) - 128)) with
  | false =>
    simp [OptPost_some, rdBody, rdSt, iter, hI, i1, hitR, u.rIs, pIs, bne, wrap_i64, f, f', f2, wc, w0, w1, w2, w3, w4, w5, w6, w7, w8, w9, wb, wd, we]
    simp [rdNext, rdMask, rdSt, wrap_i64]
  | true =>
  obtain ⟨n1, n2, _⟩ := isSign_iff.1 i1
  have hP := fun m => ref_Put u.rPut u.rOne (k + 2) ((((((c.toNat : Int) - 240) * 64 + (b.toNat : Int) - 128) * 64 + (d.toNat : Int) - 128) * 64 + (e.toNat : Int) - 128)) n1 n2 m
  cases q : (utf8 ((((((c.toNat : Int) - 240) * 64 + (b.toNat : Int) - 128) * 64 + (d.toNat : Int) - 128) * 64 + (e.toNat : Int) - 128)) == (c :: b :: d :: e :: r).take 4) with
  | false =>
    simp only [List.take_succ_cons, List.take_zero] at q
    simp [OptPost_some, rdBody, rdSt, iter, hI, hP, i1, hitR, u.rIs, u.rPut, pIs, pPut, bne, q, wrap_i64, f, f', f2, wc, w0, w1, w2, w3, w4, w5, w6, w7, w8, w9, wb, wd, we]
    simp [rdNext, rdMask, rdSt, wrap_i64]
  | true =>
    simp only [List.take_succ_cons, List.take_zero] at q
    simp [OptPost_some, rdBody, rdSt, iter, hI, hP, i1, hitR, u.rIs, u.rPut, pIs, pPut, bne, q, wrap_i64, f, f', f2, wc, w0, w1, w2, w3, w4, w5, w6, w7, w8, w9, wb, wd, we]
    simp [rdDone]
end Hx
