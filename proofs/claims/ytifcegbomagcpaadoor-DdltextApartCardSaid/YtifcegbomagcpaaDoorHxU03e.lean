/-
  HxU03e: 'Read' of chapter 03, the document's.
-/
import Derived.Test.YtifcegbomagcpaaDoorHxU03c
namespace Hx
open Go
set_option linter.unusedSimpArgs false
variable {E : Env}
attribute [-simp] List.getD_eq_getElem?_getD getElem?_pos
def readV : Option (Int × Int) → AV
  | none => .tup [.p (.int .i64 0), .p (.int .i64 0), .p (.bool false)]
  | some (n, size) => .tup [.p (.int .i64 n), .p (.int .i64 size), .p (.bool true)]
def fits (n size : Int) : Option (Int × Int) := if isSign n = true then (if widthOf n = size then some (n, size) else none) else none
def cont (b : UInt8) : Bool := (b.toNat : Int) / 64 == 2
def readB (x : Int) (r : List UInt8) : Option (Int × Int) :=
    if x < 128 then fits x 1
    else if x / 32 = 6 then match r with
      | b :: _ => bif cont b then fits (x % 32 * 64 + (b.toNat : Int) % 64) 2 else none
      | _ => none
    else if x / 16 = 14 then match r with
      | b :: d :: _ => bif cont b then (bif cont d then fits ((x % 16 * 64 + (b.toNat : Int) % 64) * 64 + (d.toNat : Int) % 64) 3 else none) else none
      | _ => none
    else if x / 8 = 30 then match r with
      | b :: d :: e :: _ => bif cont b then (bif cont d then (bif cont e then fits (((x % 8 * 64 + (b.toNat : Int) % 64) * 64 + (d.toNat : Int) % 64) * 64 + (e.toNat : Int) % 64) 4 else none) else none) else none
      | _ => none
    else none
def readU : List UInt8 → Option (Int × Int)
  | [] => none
  | c :: r => readB c.toNat r
theorem u8_range (c : UInt8) : (0 : Int) ≤ c.toNat ∧ (c.toNat : Int) ≤ 255 := by
  have : c.toNat < 256 := UInt8.toNat_lt c
  omega
theorem or64 {x y : Int} (h1 : 0 ≤ x) (h2 : x ≤ 100000000) (h3 : 0 ≤ y) (h4 : y < 64) : bitsI .or .i64 (x * 64) y = some (x * 64 + y) :=
  or_i64 6 h1 (by simp; omega) h3 (by simpa using h4)
theorem utf_Read1 (u : V03 E) (k : Nat) (c : UInt8) (r : List UInt8) (m : Mem) (g : (c.toNat : Int) < 128) :
    denF E (k + 6) 4 [.p (.str (c :: r))] m = some (.ret (readV (readB c.toNat r)), m) := by
  rw [denF_pure u.read rfl]
  have hI := fun n m => utf_is u.is (k + 4) n m
  have hW := fun n m => utf_width u.width u.least k n m
  obtain ⟨c0, c1⟩ := u8_range c
  have hL := fun m => utf_lead u.lead (k + 4) (c.toNat : Int) c0 c1 m
  have e : leadOf c.toNat = (1, (c.toNat : Int)) := by simp only [leadOf, if_pos g]
  rw [e] at hL
  have f : ¬ ((r.length : Int) + 1 < 1) := by omega
  rw [show readB c.toNat r = fits c.toNat 1 by simp only [readB, if_pos g]]
  cases i1 : isSign ((c.toNat : Int)) with
  | false => simp [Fn.f_utf_Read, Fn.f_utf_Read_b0, Fn.f_utf_Read_k0, loopF, hL, hI, iter, i1, readV, fits, f, bne]
  | true =>
    cases w1 : (widthOf ((c.toNat : Int)) == 1) with
    | true =>
      have w1' : widthOf ((c.toNat : Int)) = 1 := by simpa using w1
      simp [Fn.f_utf_Read, Fn.f_utf_Read_b0, Fn.f_utf_Read_k0, loopF, hL, hI, hW, iter, i1, readV, fits, w1', f, bne]
    | false =>
      have w1' : ¬ widthOf ((c.toNat : Int)) = 1 := by simpa using w1
      simp [Fn.f_utf_Read, Fn.f_utf_Read_b0, Fn.f_utf_Read_k0, loopF, hL, hI, hW, iter, i1, readV, fits, w1', w1, f, bne]
theorem utf_Read2 (u : V03 E) (k : Nat) (c : UInt8) (r : List UInt8) (m : Mem) (g1 : ¬ (c.toNat : Int) < 128) (g : (c.toNat : Int) / 32 = 6) :
    denF E (k + 6) 4 [.p (.str (c :: r))] m = some (.ret (readV (readB c.toNat r)), m) := by
  rw [denF_pure u.read rfl]
  have hI := fun n m => utf_is u.is (k + 4) n m
  have hW := fun n m => utf_width u.width u.least k n m
  obtain ⟨c0, c1⟩ := u8_range c
  have hL := fun m => utf_lead u.lead (k + 4) (c.toNat : Int) c0 c1 m
  have e : leadOf c.toNat = (2, (c.toNat : Int) % 32) := by simp only [leadOf, if_neg g1, if_pos g]
  rw [e] at hL
  cases r with
  | nil => rw [show readB c.toNat [] = none by simp only [readB, if_neg g1, if_pos g]]; simp [Fn.f_utf_Read, Fn.f_utf_Read_b0, Fn.f_utf_Read_k0, loopF, hL, readV]
  | cons b r =>
  have f : ¬ ((r.length : Int) + 1 + 1 < 2) := by omega
  obtain ⟨b0, b1⟩ := u8_range b
  have hb := and_u8_63 b0 b1
  have yb : IntKind.i64.wrap ((b.toNat : Int) % 64) = (b.toNat : Int) % 64 := wrap_i64 (by omega) (by omega)
  have xb : IntKind.i64.wrap (((c.toNat : Int) % 32) * 64) = ((c.toNat : Int) % 32) * 64 := wrap_i64 (by omega) (by omega)
  have ob := or64 (x := (c.toNat : Int) % 32) (y := (b.toNat : Int) % 64) (by omega) (by omega) (by omega) (by omega)
  cases jb : ((b.toNat : Int) / 64 == 2) with
  | false => rw [show readB c.toNat (b :: r) = none by simp only [readB, if_neg g1, if_pos g, cont, jb, cond_true, cond_false]]; simp [Fn.f_utf_Read, Fn.f_utf_Read_b0, Fn.f_utf_Read_k0, loopF, hL, iter, readV, f, bne, fdiv64, wrap_i64, hb, yb, xb, ob, jb]
  | true =>
  rw [show readB c.toNat (b :: r) = fits (((c.toNat : Int) % 32) * 64 + (b.toNat : Int) % 64) 2 by simp only [readB, if_neg g1, if_pos g, cont, jb, cond_true]]
  cases i1 : isSign (((c.toNat : Int) % 32) * 64 + (b.toNat : Int) % 64) with
  | false => simp [Fn.f_utf_Read, Fn.f_utf_Read_b0, Fn.f_utf_Read_k0, loopF, hL, hI, iter, i1, readV, fits, f, bne, fdiv64, wrap_i64, hb, yb, xb, ob, jb]
  | true =>
    cases w1 : (widthOf (((c.toNat : Int) % 32) * 64 + (b.toNat : Int) % 64) == 2) with
    | true =>
      have w1' : widthOf (((c.toNat : Int) % 32) * 64 + (b.toNat : Int) % 64) = 2 := by simpa using w1
      simp [Fn.f_utf_Read, Fn.f_utf_Read_b0, Fn.f_utf_Read_k0, loopF, hL, hI, hW, iter, i1, readV, fits, w1', f, bne, fdiv64, wrap_i64, hb, yb, xb, ob, jb]
    | false =>
      have w1' : ¬ widthOf (((c.toNat : Int) % 32) * 64 + (b.toNat : Int) % 64) = 2 := by simpa using w1
      simp [Fn.f_utf_Read, Fn.f_utf_Read_b0, Fn.f_utf_Read_k0, loopF, hL, hI, hW, iter, i1, readV, fits, w1', w1, f, bne, fdiv64, wrap_i64, hb, yb, xb, ob, jb]
theorem utf_Read3 (u : V03 E) (k : Nat) (c : UInt8) (r : List UInt8) (m : Mem) (g1 : ¬ (c.toNat : Int) < 128) (g2 : ¬ (c.toNat : Int) / 32 = 6) (g : (c.toNat : Int) / 16 = 14) :
    denF E (k + 6) 4 [.p (.str (c :: r))] m = some (.ret (readV (readB c.toNat r)), m) := by
  rw [denF_pure u.read rfl]
  have hI := fun n m => utf_is u.is (k + 4) n m
  have hW := fun n m => utf_width u.width u.least k n m
  obtain ⟨c0, c1⟩ := u8_range c
  have hL := fun m => utf_lead u.lead (k + 4) (c.toNat : Int) c0 c1 m
  have e : leadOf c.toNat = (3, (c.toNat : Int) % 16) := by simp only [leadOf, if_neg g1, if_neg g2, if_pos g]
  rw [e] at hL
  cases r with
  | nil => rw [show readB c.toNat [] = none by simp only [readB, if_neg g1, if_neg g2, if_pos g]]; simp [Fn.f_utf_Read, Fn.f_utf_Read_b0, Fn.f_utf_Read_k0, loopF, hL, readV]
  | cons b r =>
  cases r with
  | nil => rw [show readB c.toNat [b] = none by simp only [readB, if_neg g1, if_neg g2, if_pos g]]; simp [Fn.f_utf_Read, Fn.f_utf_Read_b0, Fn.f_utf_Read_k0, loopF, hL, readV]
  | cons d r =>
  have f : ¬ ((r.length : Int) + 1 + 1 + 1 < 3) := by omega
  obtain ⟨b0, b1⟩ := u8_range b
  have hb := and_u8_63 b0 b1
  have yb : IntKind.i64.wrap ((b.toNat : Int) % 64) = (b.toNat : Int) % 64 := wrap_i64 (by omega) (by omega)
  have xb : IntKind.i64.wrap (((c.toNat : Int) % 16) * 64) = ((c.toNat : Int) % 16) * 64 := wrap_i64 (by omega) (by omega)
  have ob := or64 (x := (c.toNat : Int) % 16) (y := (b.toNat : Int) % 64) (by omega) (by omega) (by omega) (by omega)
  obtain ⟨d0, d1⟩ := u8_range d
  have hd := and_u8_63 d0 d1
  have yd : IntKind.i64.wrap ((d.toNat : Int) % 64) = (d.toNat : Int) % 64 := wrap_i64 (by omega) (by omega)
  have xd : IntKind.i64.wrap ((((c.toNat : Int) % 16) * 64 + (b.toNat : Int) % 64) * 64) = (((c.toNat : Int) % 16) * 64 + (b.toNat : Int) % 64) * 64 := wrap_i64 (by omega) (by omega)
  have od := or64 (x := ((c.toNat : Int) % 16) * 64 + (b.toNat : Int) % 64) (y := (d.toNat : Int) % 64) (by omega) (by omega) (by omega) (by omega)
  cases jb : ((b.toNat : Int) / 64 == 2) with
  | false => rw [show readB c.toNat (b :: d :: r) = none by simp only [readB, if_neg g1, if_neg g2, if_pos g, cont, jb, cond_true, cond_false]]; simp [Fn.f_utf_Read, Fn.f_utf_Read_b0, Fn.f_utf_Read_k0, loopF, hL, iter, readV, f, bne, fdiv64, wrap_i64, hb, yb, xb, ob, hd, yd, xd, od, jb]
  | true =>
  cases jd : ((d.toNat : Int) / 64 == 2) with
  | false => rw [show readB c.toNat (b :: d :: r) = none by simp only [readB, if_neg g1, if_neg g2, if_pos g, cont, jb, jd, cond_true, cond_false]]; simp [Fn.f_utf_Read, Fn.f_utf_Read_b0, Fn.f_utf_Read_k0, loopF, hL, iter, readV, f, bne, fdiv64, wrap_i64, hb, yb, xb, ob, hd, yd, xd, od, jb, jd]
  | true =>
  rw [show readB c.toNat (b :: d :: r) = fits ((((c.toNat : Int) % 16) * 64 + (b.toNat : Int) % 64) * 64 + (d.toNat : Int) % 64) 3 by simp only [readB, if_neg g1, if_neg g2, if_pos g, cont, jb, jd, cond_true]]
  cases i1 : isSign ((((c.toNat : Int) % 16) * 64 + (b.toNat : Int) % 64) * 64 + (d.toNat : Int) % 64) with
  | false => simp [Fn.f_utf_Read, Fn.f_utf_Read_b0, Fn.f_utf_Read_k0, loopF, hL, hI, iter, i1, readV, fits, f, bne, fdiv64, wrap_i64, hb, yb, xb, ob, hd, yd, xd, od, jb, jd]
  | true =>
    cases w1 : (widthOf ((((c.toNat : Int) % 16) * 64 + (b.toNat : Int) % 64) * 64 + (d.toNat : Int) % 64) == 3) with
    | true =>
      have w1' : widthOf ((((c.toNat : Int) % 16) * 64 + (b.toNat : Int) % 64) * 64 + (d.toNat : Int) % 64) = 3 := by simpa using w1
      simp [Fn.f_utf_Read, Fn.f_utf_Read_b0, Fn.f_utf_Read_k0, loopF, hL, hI, hW, iter, i1, readV, fits, w1', f, bne, fdiv64, wrap_i64, hb, yb, xb, ob, hd, yd, xd, od, jb, jd]
    | false =>
      have w1' : ¬ widthOf ((((c.toNat : Int) % 16) * 64 + (b.toNat : Int) % 64) * 64 + (d.toNat : Int) % 64) = 3 := by simpa using w1
      simp [Fn.f_utf_Read, Fn.f_utf_Read_b0, Fn.f_utf_Read_k0, loopF, hL, hI, hW, iter, i1, readV, fits, w1', w1, f, bne, fdiv64, wrap_i64, hb, yb, xb, ob, hd, yd, xd, od, jb, jd]
theorem utf_Read4 (u : V03 E) (k : Nat) (c : UInt8) (r : List UInt8) (m : Mem) (g1 : ¬ (c.toNat : Int) < 128) (g2 : ¬ (c.toNat : Int) / 32 = 6) (g3 : ¬ (c.toNat : Int) / 16 = 14) (g : (c.toNat : Int) / 8 = 30) :
    denF E (k + 6) 4 [.p (.str (c :: r))] m = some (.ret (readV (readB c.toNat r)), m) := by
  rw [denF_pure u.read rfl]
  have hI := fun n m => utf_is u.is (k + 4) n m
  have hW := fun n m => utf_width u.width u.least k n m
  obtain ⟨c0, c1⟩ := u8_range c
  have hL := fun m => utf_lead u.lead (k + 4) (c.toNat : Int) c0 c1 m
  have e : leadOf c.toNat = (4, (c.toNat : Int) % 8) := by simp only [leadOf, if_neg g1, if_neg g2, if_neg g3, if_pos g]
  rw [e] at hL
  cases r with
  | nil => rw [show readB c.toNat [] = none by simp only [readB, if_neg g1, if_neg g2, if_neg g3, if_pos g]]; simp [Fn.f_utf_Read, Fn.f_utf_Read_b0, Fn.f_utf_Read_k0, loopF, hL, readV]
  | cons b r =>
  cases r with
  | nil => rw [show readB c.toNat [b] = none by simp only [readB, if_neg g1, if_neg g2, if_neg g3, if_pos g]]; simp [Fn.f_utf_Read, Fn.f_utf_Read_b0, Fn.f_utf_Read_k0, loopF, hL, readV]
  | cons d r =>
  cases r with
  | nil => rw [show readB c.toNat [b, d] = none by simp only [readB, if_neg g1, if_neg g2, if_neg g3, if_pos g]]; simp [Fn.f_utf_Read, Fn.f_utf_Read_b0, Fn.f_utf_Read_k0, loopF, hL, readV]
  | cons e r =>
  have f : ¬ ((r.length : Int) + 1 + 1 + 1 + 1 < 4) := by omega
  obtain ⟨b0, b1⟩ := u8_range b
  have hb := and_u8_63 b0 b1
  have yb : IntKind.i64.wrap ((b.toNat : Int) % 64) = (b.toNat : Int) % 64 := wrap_i64 (by omega) (by omega)
  have xb : IntKind.i64.wrap (((c.toNat : Int) % 8) * 64) = ((c.toNat : Int) % 8) * 64 := wrap_i64 (by omega) (by omega)
  have ob := or64 (x := (c.toNat : Int) % 8) (y := (b.toNat : Int) % 64) (by omega) (by omega) (by omega) (by omega)
  obtain ⟨d0, d1⟩ := u8_range d
  have hd := and_u8_63 d0 d1
  have yd : IntKind.i64.wrap ((d.toNat : Int) % 64) = (d.toNat : Int) % 64 := wrap_i64 (by omega) (by omega)
  have xd : IntKind.i64.wrap ((((c.toNat : Int) % 8) * 64 + (b.toNat : Int) % 64) * 64) = (((c.toNat : Int) % 8) * 64 + (b.toNat : Int) % 64) * 64 := wrap_i64 (by omega) (by omega)
  have od := or64 (x := ((c.toNat : Int) % 8) * 64 + (b.toNat : Int) % 64) (y := (d.toNat : Int) % 64) (by omega) (by omega) (by omega) (by omega)
  obtain ⟨e0, e1⟩ := u8_range e
  have he := and_u8_63 e0 e1
  have ye : IntKind.i64.wrap ((e.toNat : Int) % 64) = (e.toNat : Int) % 64 := wrap_i64 (by omega) (by omega)
  have xe : IntKind.i64.wrap (((((c.toNat : Int) % 8) * 64 + (b.toNat : Int) % 64) * 64 + (d.toNat : Int) % 64) * 64) = ((((c.toNat : Int) % 8) * 64 + (b.toNat : Int) % 64) * 64 + (d.toNat : Int) % 64) * 64 := wrap_i64 (by omega) (by omega)
  have oe := or64 (x := (((c.toNat : Int) % 8) * 64 + (b.toNat : Int) % 64) * 64 + (d.toNat : Int) % 64) (y := (e.toNat : Int) % 64) (by omega) (by omega) (by omega) (by omega)
  cases jb : ((b.toNat : Int) / 64 == 2) with
  | false => rw [show readB c.toNat (b :: d :: e :: r) = none by simp only [readB, if_neg g1, if_neg g2, if_neg g3, if_pos g, cont, jb, cond_true, cond_false]]; simp [Fn.f_utf_Read, Fn.f_utf_Read_b0, Fn.f_utf_Read_k0, loopF, hL, iter, readV, f, bne, fdiv64, wrap_i64, hb, yb, xb, ob, hd, yd, xd, od, he, ye, xe, oe, jb]
  | true =>
  cases jd : ((d.toNat : Int) / 64 == 2) with
  | false => rw [show readB c.toNat (b :: d :: e :: r) = none by simp only [readB, if_neg g1, if_neg g2, if_neg g3, if_pos g, cont, jb, jd, cond_true, cond_false]]; simp [Fn.f_utf_Read, Fn.f_utf_Read_b0, Fn.f_utf_Read_k0, loopF, hL, iter, readV, f, bne, fdiv64, wrap_i64, hb, yb, xb, ob, hd, yd, xd, od, he, ye, xe, oe, jb, jd]
  | true =>
  cases je : ((e.toNat : Int) / 64 == 2) with
  | false => rw [show readB c.toNat (b :: d :: e :: r) = none by simp only [readB, if_neg g1, if_neg g2, if_neg g3, if_pos g, cont, jb, jd, je, cond_true, cond_false]]; simp [Fn.f_utf_Read, Fn.f_utf_Read_b0, Fn.f_utf_Read_k0, loopF, hL, iter, readV, f, bne, fdiv64, wrap_i64, hb, yb, xb, ob, hd, yd, xd, od, he, ye, xe, oe, jb, jd, je]
  | true =>
  rw [show readB c.toNat (b :: d :: e :: r) = fits (((((c.toNat : Int) % 8) * 64 + (b.toNat : Int) % 64) * 64 + (d.toNat : Int) % 64) * 64 + (e.toNat : Int) % 64) 4 by simp only [readB, if_neg g1, if_neg g2, if_neg g3, if_pos g, cont, jb, jd, je, cond_true]]
  cases i1 : isSign (((((c.toNat : Int) % 8) * 64 + (b.toNat : Int) % 64) * 64 + (d.toNat : Int) % 64) * 64 + (e.toNat : Int) % 64) with
  | false => simp [Fn.f_utf_Read, Fn.f_utf_Read_b0, Fn.f_utf_Read_k0, loopF, hL, hI, iter, i1, readV, fits, f, bne, fdiv64, wrap_i64, hb, yb, xb, ob, hd, yd, xd, od, he, ye, xe, oe, jb, jd, je]
  | true =>
    cases w1 : (widthOf (((((c.toNat : Int) % 8) * 64 + (b.toNat : Int) % 64) * 64 + (d.toNat : Int) % 64) * 64 + (e.toNat : Int) % 64) == 4) with
    | true =>
      have w1' : widthOf (((((c.toNat : Int) % 8) * 64 + (b.toNat : Int) % 64) * 64 + (d.toNat : Int) % 64) * 64 + (e.toNat : Int) % 64) = 4 := by simpa using w1
      simp [Fn.f_utf_Read, Fn.f_utf_Read_b0, Fn.f_utf_Read_k0, loopF, hL, hI, hW, iter, i1, readV, fits, w1', f, bne, fdiv64, wrap_i64, hb, yb, xb, ob, hd, yd, xd, od, he, ye, xe, oe, jb, jd, je]
    | false =>
      have w1' : ¬ widthOf (((((c.toNat : Int) % 8) * 64 + (b.toNat : Int) % 64) * 64 + (d.toNat : Int) % 64) * 64 + (e.toNat : Int) % 64) = 4 := by simpa using w1
      simp [Fn.f_utf_Read, Fn.f_utf_Read_b0, Fn.f_utf_Read_k0, loopF, hL, hI, hW, iter, i1, readV, fits, w1', w1, f, bne, fdiv64, wrap_i64, hb, yb, xb, ob, hd, yd, xd, od, he, ye, xe, oe, jb, jd, je]
theorem utf_Read (u : V03 E) (k : Nat) (s : List UInt8) (m : Mem) : denF E (k + 6) 4 [.p (.str s)] m = some (.ret (readV (readU s)), m) := by
  cases s with
  | nil => rw [denF_pure u.read rfl]; rfl
  | cons c r =>
  rw [readU]
  by_cases g1 : (c.toNat : Int) < 128
  · exact utf_Read1 u k c r m g1
  by_cases g2 : (c.toNat : Int) / 32 = 6
  · exact utf_Read2 u k c r m g1 g2
  by_cases g3 : (c.toNat : Int) / 16 = 14
  · exact utf_Read3 u k c r m g1 g2 g3
  by_cases g4 : (c.toNat : Int) / 8 = 30
  · exact utf_Read4 u k c r m g1 g2 g3 g4
  obtain ⟨c0, c1⟩ := u8_range c
  have hL := fun m => utf_lead u.lead (k + 4) (c.toNat : Int) c0 c1 m
  have e : leadOf c.toNat = (0, 0) := by simp only [leadOf, if_neg g1, if_neg g2, if_neg g3, if_neg g4]
  rw [e] at hL
  rw [denF_pure u.read rfl, show readB c.toNat r = none by simp only [readB, if_neg g1, if_neg g2, if_neg g3, if_neg g4]]
  simp [Fn.f_utf_Read, Fn.f_utf_Read_b0, Fn.f_utf_Read_k0, loopF, hL, readV]
end Hx

namespace Hx
open Go
set_option linter.unusedSimpArgs false
variable {E : Env}
attribute [-simp] List.getD_eq_getElem?_getD getElem?_pos
end Hx
