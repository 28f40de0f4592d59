/-
  HxU03g: 'walk' of chapter 03, and what runs on it.
-/
import Derived.Test.YtifcegbomagcpaaDoorHxU03c
namespace Hx
open Go
set_option linter.unusedSimpArgs false
variable {E : Env}
attribute [-simp] List.getD_eq_getElem?_getD getElem?_pos
def readV : Option (Int × Int) → AV
  | none => .tup [.p (.int .i64 0), .p (.int .i64 0), .p (.bool false)]
  | some (n, size) => .tup [.p (.int .i64 n), .p (.int .i64 size), .p (.bool true)]
def fits (n size : Int) : Option (Int × Int) := if isSign n = true then (if widthOf n = size then some (n, size) else none) else none
def cont (b : UInt8) : Bool := (b.toNat : Int) / 64 == 2
def readB (x : Int) (r : List UInt8) : Option (Int × Int) :=
    if x < 128 then fits x 1
    else if x / 32 = 6 then match r with
      | b :: _ => bif cont b then fits (x % 32 * 64 + (b.toNat : Int) % 64) 2 else none
      | _ => none
    else if x / 16 = 14 then match r with
      | b :: d :: _ => bif cont b then (bif cont d then fits ((x % 16 * 64 + (b.toNat : Int) % 64) * 64 + (d.toNat : Int) % 64) 3 else none) else none
      | _ => none
    else if x / 8 = 30 then match r with
      | b :: d :: e :: _ => bif cont b then (bif cont d then (bif cont e then fits (((x % 8 * 64 + (b.toNat : Int) % 64) * 64 + (d.toNat : Int) % 64) * 64 + (e.toNat : Int) % 64) 4 else none) else none) else none
      | _ => none
    else none
def readU : List UInt8 → Option (Int × Int)
  | [] => none
  | c :: r => readB c.toNat r
theorem u8_range (c : UInt8) : (0 : Int) ≤ c.toNat ∧ (c.toNat : Int) ≤ 255 := by
  have : c.toNat < 256 := UInt8.toNat_lt c
  omega
theorem or64 {x y : Int} (h1 : 0 ≤ x) (h2 : x ≤ 100000000) (h3 : 0 ≤ y) (h4 : y < 64) : bitsI .or .i64 (x * 64) y = some (x * 64 + y) :=
  or_i64 6 h1 (by simp; omega) h3 (by simpa using h4)
theorem utf_Read1 (u : V03 E) (k : Nat) (c : UInt8) (r : List UInt8) (m : Mem) (g : (c.toNat : Int) < 128) :
    denF E (k + 6) 4 [.p (.str (c :: r))] m = some (.ret (readV (readB c.toNat r)), m) := by
  rw [denF_pure u.read rfl]
  have hI := fun n m => utf_is u.is (k + 4) n m
  have hW := fun n m => utf_width u.width u.least k n m
  obtain ⟨c0, c1⟩ := u8_range c
  have hL := fun m => utf_lead u.lead (k + 4) (c.toNat : Int) c0 c1 m
  have e : leadOf c.toNat = (1, (c.toNat : Int)) := by simp only [leadOf, if_pos g]
  rw [e] at hL
  have f : ¬ ((r.length : Int) + 1 < 1) := by omega
  rw [show readB c.toNat r = fits c.toNat 1 by simp only [readB, if_pos g]]
  cases i1 : isSign ((c.toNat : Int)) with
  | false => simp [Fn.f_utf_Read, Fn.f_utf_Read_b0, Fn.f_utf_Read_k0, loopF, hL, hI, iter, i1, readV, fits, f, bne]
  | true =>
    cases w1 : (widthOf ((c.toNat : Int)) == 1) with
    | true =>
      have w1' : widthOf ((c.toNat : Int)) = 1 := by simpa using w1
      simp [Fn.f_utf_Read, Fn.f_utf_Read_b0, Fn.f_utf_Read_k0, loopF, hL, hI, hW, iter, i1, readV, fits, w1', f, bne]
    | false =>
      have w1' : ¬ widthOf ((c.toNat : Int)) = 1 := by simpa using w1
      simp [Fn.f_utf_Read, Fn.f_utf_Read_b0, Fn.f_utf_Read_k0, loopF, hL, hI, hW, iter, i1, readV, fits, w1', w1, f, bne]
theorem utf_Read2 (u : V03 E) (k : Nat) (c : UInt8) (r : List UInt8) (m : Mem) (g1 : ¬ (c.toNat : Int) < 128) (g : (c.toNat : Int) / 32 = 6) :
    denF E (k + 6) 4 [.p (.str (c :: r))] m = some (.ret (readV (readB c.toNat r)), m) := by
  rw [denF_pure u.read rfl]
  have hI := fun n m => utf_is u.is (k + 4) n m
  have hW := fun n m => utf_width u.width u.least k n m
  obtain ⟨c0, c1⟩ := u8_range c
  have hL := fun m => utf_lead u.lead (k + 4) (c.toNat : Int) c0 c1 m
  have e : leadOf c.toNat = (2, (c.toNat : Int) % 32) := by simp only [leadOf, if_neg g1, if_pos g]
  rw [e] at hL
  cases r with
  | nil => rw [show readB c.toNat [] = none by simp only [readB, if_neg g1, if_pos g]]; simp [Fn.f_utf_Read, Fn.f_utf_Read_b0, Fn.f_utf_Read_k0, loopF, hL, readV]
  | cons b r =>
  have f : ¬ ((r.length : Int) + 1 + 1 < 2) := by omega
  obtain ⟨b0, b1⟩ := u8_range b
  have hb := and_u8_63 b0 b1
  have yb : IntKind.i64.wrap ((b.toNat : Int) % 64) = (b.toNat : Int) % 64 := wrap_i64 (by omega) (by omega)
  have xb : IntKind.i64.wrap (((c.toNat : Int) % 32) * 64) = ((c.toNat : Int) % 32) * 64 := wrap_i64 (by omega) (by omega)
  have ob := or64 (x := (c.toNat : Int) % 32) (y := (b.toNat : Int) % 64) (by omega) (by omega) (by omega) (by omega)
  cases jb : ((b.toNat : Int) / 64 == 2) with
  | false => rw [show readB c.toNat (b :: r) = none by simp only [readB, if_neg g1, if_pos g, cont, jb, cond_true, cond_false]]; simp [Fn.f_utf_Read, Fn.f_utf_Read_b0, Fn.f_utf_Read_k0, loopF, hL, iter, readV, f, bne, fdiv64, wrap_i64, hb, yb, xb, ob, jb]
  | true =>
  rw [show readB c.toNat (b :: r) = fits (((c.toNat : Int) % 32) * 64 + (b.toNat : Int) % 64) 2 by simp only [readB, if_neg g1, if_pos g, cont, jb, cond_true]]
  cases i1 : isSign (((c.toNat : Int) % 32) * 64 + (b.toNat : Int) % 64) with
  | false => simp [Fn.f_utf_Read, Fn.f_utf_Read_b0, Fn.f_utf_Read_k0, loopF, hL, hI, iter, i1, readV, fits, f, bne, fdiv64, wrap_i64, hb, yb, xb, ob, jb]
  | true =>
    cases w1 : (widthOf (((c.toNat : Int) % 32) * 64 + (b.toNat : Int) % 64) == 2) with
    | true =>
      have w1' : widthOf (((c.toNat : Int) % 32) * 64 + (b.toNat : Int) % 64) = 2 := by simpa using w1
      simp [Fn.f_utf_Read, Fn.f_utf_Read_b0, Fn.f_utf_Read_k0, loopF, hL, hI, hW, iter, i1, readV, fits, w1', f, bne, fdiv64, wrap_i64, hb, yb, xb, ob, jb]
    | false =>
      have w1' : ¬ widthOf (((c.toNat : Int) % 32) * 64 + (b.toNat : Int) % 64) = 2 := by simpa using w1
      simp [Fn.f_utf_Read, Fn.f_utf_Read_b0, Fn.f_utf_Read_k0, loopF, hL, hI, hW, iter, i1, readV, fits, w1', w1, f, bne, fdiv64, wrap_i64, hb, yb, xb, ob, jb]
theorem utf_Read3 (u : V03 E) (k : Nat) (c : UInt8) (r : List UInt8) (m : Mem) (g1 : ¬ (c.toNat : Int) < 128) (g2 : ¬ (c.toNat : Int) / 32 = 6) (g : (c.toNat : Int) / 16 = 14) :
    denF E (k + 6) 4 [.p (.str (c :: r))] m = some (.ret (readV (readB c.toNat r)), m) := by
  rw [denF_pure u.read rfl]
  have hI := fun n m => utf_is u.is (k + 4) n m
  have hW := fun n m => utf_width u.width u.least k n m
  obtain ⟨c0, c1⟩ := u8_range c
  have hL := fun m => utf_lead u.lead (k + 4) (c.toNat : Int) c0 c1 m
  have e : leadOf c.toNat = (3, (c.toNat : Int) % 16) := by simp only [leadOf, if_neg g1, if_neg g2, if_pos g]
  rw [e] at hL
  cases r with
  | nil => rw [show readB c.toNat [] = none by simp only [readB, if_neg g1, if_neg g2, if_pos g]]; simp [Fn.f_utf_Read, Fn.f_utf_Read_b0, Fn.f_utf_Read_k0, loopF, hL, readV]
  | cons b r =>
  cases r with
  | nil => rw [show readB c.toNat [b] = none by simp only [readB, if_neg g1, if_neg g2, if_pos g]]; simp [Fn.f_utf_Read, Fn.f_utf_Read_b0, Fn.f_utf_Read_k0, loopF, hL, readV]
  | cons d r =>
  have f : ¬ ((r.length : Int) + 1 + 1 + 1 < 3) := by omega
  obtain ⟨b0, b1⟩ := u8_range b
  have hb := and_u8_63 b0 b1
  have yb : IntKind.i64.wrap ((b.toNat : Int) % 64) = (b.toNat : Int) % 64 := wrap_i64 (by omega) (by omega)
  have xb : IntKind.i64.wrap (((c.toNat : Int) % 16) * 64) = ((c.toNat : Int) % 16) * 64 := wrap_i64 (by omega) (by omega)
  have ob := or64 (x := (c.toNat : Int) % 16) (y := (b.toNat : Int) % 64) (by omega) (by omega) (by omega) (by omega)
  obtain ⟨d0, d1⟩ := u8_range d
  have hd := and_u8_63 d0 d1
  have yd : IntKind.i64.wrap ((d.toNat : Int) % 64) = (d.toNat : Int) % 64 := wrap_i64 (by omega) (by omega)
  have xd : IntKind.i64.wrap ((((c.toNat : Int) % 16) * 64 + (b.toNat : Int) % 64) * 64) = (((c.toNat : Int) % 16) * 64 + (b.toNat : Int) % 64) * 64 := wrap_i64 (by omega) (by omega)
  have od := or64 (x := ((c.toNat : Int) % 16) * 64 + (b.toNat : Int) % 64) (y := (d.toNat : Int) % 64) (by omega) (by omega) (by omega) (by omega)
  cases jb : ((b.toNat : Int) / 64 == 2) with
  | false => rw [show readB c.toNat (b :: d :: r) = none by simp only [readB, if_neg g1, if_neg g2, if_pos g, cont, jb, cond_true, cond_false]]; simp [Fn.f_utf_Read, Fn.f_utf_Read_b0, Fn.f_utf_Read_k0, loopF, hL, iter, readV, f, bne, fdiv64, wrap_i64, hb, yb, xb, ob, hd, yd, xd, od, jb]
  | true =>
  cases jd : ((d.toNat : Int) / 64 == 2) with
  | false => rw [show readB c.toNat (b :: d :: r) = none by simp only [readB, if_neg g1, if_neg g2, if_pos g, cont, jb, jd, cond_true, cond_false]]; simp [Fn.f_utf_Read, Fn.f_utf_Read_b0, Fn.f_utf_Read_k0, loopF, hL, iter, readV, f, bne, fdiv64, wrap_i64, hb, yb, xb, ob, hd, yd, xd, od, jb, jd]
  | true =>
  rw [show readB c.toNat (b :: d :: r) = fits ((((c.toNat : Int) % 16) * 64 + (b.toNat : Int) % 64) * 64 + (d.toNat : Int) % 64) 3 by simp only [readB, if_neg g1, if_neg g2, if_pos g, cont, jb, jd, cond_true]]
  cases i1 : isSign ((((c.toNat : Int) % 16) * 64 + (b.toNat : Int) % 64) * 64 + (d.toNat : Int) % 64) with
  | false => simp [Fn.f_utf_Read, Fn.f_utf_Read_b0, Fn.f_utf_Read_k0, loopF, hL, hI, iter, i1, readV, fits, f, bne, fdiv64, wrap_i64, hb, yb, xb, ob, hd, yd, xd, od, jb, jd]
  | true =>
    cases w1 : (widthOf ((((c.toNat : Int) % 16) * 64 + (b.toNat : Int) % 64) * 64 + (d.toNat : Int) % 64) == 3) with
    | true =>
      have w1' : widthOf ((((c.toNat : Int) % 16) * 64 + (b.toNat : Int) % 64) * 64 + (d.toNat : Int) % 64) = 3 := by simpa using w1
      simp [Fn.f_utf_Read, Fn.f_utf_Read_b0, Fn.f_utf_Read_k0, loopF, hL, hI, hW, iter, i1, readV, fits, w1', f, bne, fdiv64, wrap_i64, hb, yb, xb, ob, hd, yd, xd, od, jb, jd]
    | false =>
      have w1' : ¬ widthOf ((((c.toNat : Int) % 16) * 64 + (b.toNat : Int) % 64) * 64 + (d.toNat : Int) % 64) = 3 := by simpa using w1
      simp [Fn.f_utf_Read, Fn.f_utf_Read_b0, Fn.f_utf_Read_k0, loopF, hL, hI, hW, iter, i1, readV, fits, w1', w1, f, bne, fdiv64, wrap_i64, hb, yb, xb, ob, hd, yd, xd, od, jb, jd]
theorem utf_Read4 (u : V03 E) (k : Nat) (c : UInt8) (r : List UInt8) (m : Mem) (g1 : ¬ (c.toNat : Int) < 128) (g2 : ¬ (c.toNat : Int) / 32 = 6) (g3 : ¬ (c.toNat : Int) / 16 = 14) (g : (c.toNat : Int) / 8 = 30) :
    denF E (k + 6) 4 [.p (.str (c :: r))] m = some (.ret (readV (readB c.toNat r)), m) := by
  rw [denF_pure u.read rfl]
  have hI := fun n m => utf_is u.is (k + 4) n m
  have hW := fun n m => utf_width u.width u.least k n m
  obtain ⟨c0, c1⟩ := u8_range c
  have hL := fun m => utf_lead u.lead (k + 4) (c.toNat : Int) c0 c1 m
  have e : leadOf c.toNat = (4, (c.toNat : Int) % 8) := by simp only [leadOf, if_neg g1, if_neg g2, if_neg g3, if_pos g]
  rw [e] at hL
  cases r with
  | nil => rw [show readB c.toNat [] = none by simp only [readB, if_neg g1, if_neg g2, if_neg g3, if_pos g]]; simp [Fn.f_utf_Read, Fn.f_utf_Read_b0, Fn.f_utf_Read_k0, loopF, hL, readV]
  | cons b r =>
  cases r with
  | nil => rw [show readB c.toNat [b] = none by simp only [readB, if_neg g1, if_neg g2, if_neg g3, if_pos g]]; simp [Fn.f_utf_Read, Fn.f_utf_Read_b0, Fn.f_utf_Read_k0, loopF, hL, readV]
  | cons d r =>
  cases r with
  | nil => rw [show readB c.toNat [b, d] = none by simp only [readB, if_neg g1, if_neg g2, if_neg g3, if_pos g]]; simp [Fn.f_utf_Read, Fn.f_utf_Read_b0, Fn.f_utf_Read_k0, loopF, hL, readV]
  | cons e r =>
  have f : ¬ ((r.length : Int) + 1 + 1 + 1 + 1 < 4) := by omega
  obtain ⟨b0, b1⟩ := u8_range b
  have hb := and_u8_63 b0 b1
  have yb : IntKind.i64.wrap ((b.toNat : Int) % 64) = (b.toNat : Int) % 64 := wrap_i64 (by omega) (by omega)
  have xb : IntKind.i64.wrap (((c.toNat : Int) % 8) * 64) = ((c.toNat : Int) % 8) * 64 := wrap_i64 (by omega) (by omega)
  have ob := or64 (x := (c.toNat : Int) % 8) (y := (b.toNat : Int) % 64) (by omega) (by omega) (by omega) (by omega)
  obtain ⟨d0, d1⟩ := u8_range d
  have hd := and_u8_63 d0 d1
  have yd : IntKind.i64.wrap ((d.toNat : Int) % 64) = (d.toNat : Int) % 64 := wrap_i64 (by omega) (by omega)
  have xd : IntKind.i64.wrap ((((c.toNat : Int) % 8) * 64 + (b.toNat : Int) % 64) * 64) = (((c.toNat : Int) % 8) * 64 + (b.toNat : Int) % 64) * 64 := wrap_i64 (by omega) (by omega)
  have od := or64 (x := ((c.toNat : Int) % 8) * 64 + (b.toNat : Int) % 64) (y := (d.toNat : Int) % 64) (by omega) (by omega) (by omega) (by omega)
  obtain ⟨e0, e1⟩ := u8_range e
  have he := and_u8_63 e0 e1
  have ye : IntKind.i64.wrap ((e.toNat : Int) % 64) = (e.toNat : Int) % 64 := wrap_i64 (by omega) (by omega)
  have xe : IntKind.i64.wrap (((((c.toNat : Int) % 8) * 64 + (b.toNat : Int) % 64) * 64 + (d.toNat : Int) % 64) * 64) = ((((c.toNat : Int) % 8) * 64 + (b.toNat : Int) % 64) * 64 + (d.toNat : Int) % 64) * 64 := wrap_i64 (by omega) (by omega)
  have oe := or64 (x := (((c.toNat : Int) % 8) * 64 + (b.toNat : Int) % 64) * 64 + (d.toNat : Int) % 64) (y := (e.toNat : Int) % 64) (by omega) (by omega) (by omega) (by omega)
  cases jb : ((b.toNat : Int) / 64 == 2) with
  | false => rw [show readB c.toNat (b :: d :: e :: r) = none by simp only [readB, if_neg g1, if_neg g2, if_neg g3, if_pos g, cont, jb, cond_true, cond_false]]; simp [Fn.f_utf_Read, Fn.f_utf_Read_b0, Fn.f_utf_Read_k0, loopF, hL, iter, readV, f, bne, fdiv64, wrap_i64, hb, yb, xb, ob, hd, yd, xd, od, he, ye, xe, oe, jb]
  | true =>
  cases jd : ((d.toNat : Int) / 64 == 2) with
  | false => rw [show readB c.toNat (b :: d :: e :: r) = none by simp only [readB, if_neg g1, if_neg g2, if_neg g3, if_pos g, cont, jb, jd, cond_true, cond_false]]; simp [Fn.f_utf_Read, Fn.f_utf_Read_b0, Fn.f_utf_Read_k0, loopF, hL, iter, readV, f, bne, fdiv64, wrap_i64, hb, yb, xb, ob, hd, yd, xd, od, he, ye, xe, oe, jb, jd]
  | true =>
  cases je : ((e.toNat : Int) / 64 == 2) with
  | false => rw [show readB c.toNat (b :: d :: e :: r) = none by simp only [readB, if_neg g1, if_neg g2, if_neg g3, if_pos g, cont, jb, jd, je, cond_true, cond_false]]; simp [Fn.f_utf_Read, Fn.f_utf_Read_b0, Fn.f_utf_Read_k0, loopF, hL, iter, readV, f, bne, fdiv64, wrap_i64, hb, yb, xb, ob, hd, yd, xd, od, he, ye, xe, oe, jb, jd, je]
  | true =>
  rw [show readB c.toNat (b :: d :: e :: r) = fits (((((c.toNat : Int) % 8) * 64 + (b.toNat : Int) % 64) * 64 + (d.toNat : Int) % 64) * 64 + (e.toNat : Int) % 64) 4 by simp only [readB, if_neg g1, if_neg g2, if_neg g3, if_pos g, cont, jb, jd, je, cond_true]]
  cases i1 : isSign (((((c.toNat : Int) % 8) * 64 + (b.toNat : Int) % 64) * 64 + (d.toNat : Int) % 64) * 64 + (e.toNat : Int) % 64) with
  | false => simp [Fn.f_utf_Read, Fn.f_utf_Read_b0, Fn.f_utf_Read_k0, loopF, hL, hI, iter, i1, readV, fits, f, bne, fdiv64, wrap_i64, hb, yb, xb, ob, hd, yd, xd, od, he, ye, xe, oe, jb, jd, je]
  | true =>
    cases w1 : (widthOf (((((c.toNat : Int) % 8) * 64 + (b.toNat : Int) % 64) * 64 + (d.toNat : Int) % 64) * 64 + (e.toNat : Int) % 64) == 4) with
    | true =>
      have w1' : widthOf (((((c.toNat : Int) % 8) * 64 + (b.toNat : Int) % 64) * 64 + (d.toNat : Int) % 64) * 64 + (e.toNat : Int) % 64) = 4 := by simpa using w1
      simp [Fn.f_utf_Read, Fn.f_utf_Read_b0, Fn.f_utf_Read_k0, loopF, hL, hI, hW, iter, i1, readV, fits, w1', f, bne, fdiv64, wrap_i64, hb, yb, xb, ob, hd, yd, xd, od, he, ye, xe, oe, jb, jd, je]
    | false =>
      have w1' : ¬ widthOf (((((c.toNat : Int) % 8) * 64 + (b.toNat : Int) % 64) * 64 + (d.toNat : Int) % 64) * 64 + (e.toNat : Int) % 64) = 4 := by simpa using w1
      simp [Fn.f_utf_Read, Fn.f_utf_Read_b0, Fn.f_utf_Read_k0, loopF, hL, hI, hW, iter, i1, readV, fits, w1', w1, f, bne, fdiv64, wrap_i64, hb, yb, xb, ob, hd, yd, xd, od, he, ye, xe, oe, jb, jd, je]
theorem utf_Read (u : V03 E) (k : Nat) (s : List UInt8) (m : Mem) : denF E (k + 6) 4 [.p (.str s)] m = some (.ret (readV (readU s)), m) := by
  cases s with
  | nil => rw [denF_pure u.read rfl]; rfl
  | cons c r =>
  rw [readU]
  by_cases g1 : (c.toNat : Int) < 128
  · exact utf_Read1 u k c r m g1
  by_cases g2 : (c.toNat : Int) / 32 = 6
  · exact utf_Read2 u k c r m g1 g2
  by_cases g3 : (c.toNat : Int) / 16 = 14
  · exact utf_Read3 u k c r m g1 g2 g3
  by_cases g4 : (c.toNat : Int) / 8 = 30
  · exact utf_Read4 u k c r m g1 g2 g3 g4
  obtain ⟨c0, c1⟩ := u8_range c
  have hL := fun m => utf_lead u.lead (k + 4) (c.toNat : Int) c0 c1 m
  have e : leadOf c.toNat = (0, 0) := by simp only [leadOf, if_neg g1, if_neg g2, if_neg g3, if_neg g4]
  rw [e] at hL
  rw [denF_pure u.read rfl, show readB c.toNat r = none by simp only [readB, if_neg g1, if_neg g2, if_neg g3, if_neg g4]]
  simp [Fn.f_utf_Read, Fn.f_utf_Read_b0, Fn.f_utf_Read_k0, loopF, hL, readV]
end Hx

namespace Hx
open Go
set_option linter.unusedSimpArgs false
variable {E : Env}
attribute [-simp] List.getD_eq_getElem?_getD getElem?_pos
end Hx

namespace Hx
open Go
theorem byte_nat {x : Int} (h1 : 0 ≤ x) (h2 : x ≤ 255) : ((byte x).toNat : Int) = x := by
  unfold byte
  rw [UInt8.toNat_ofNat']
  omega
theorem byte_self (c : UInt8) : byte (c.toNat : Int) = c := by
  apply UInt8.toNat_inj.1
  have h := u8_range c
  have := byte_nat h.1 h.2
  omega
theorem byte_eq {x : Int} {c : UInt8} (h : x = (c.toNat : Int)) : byte x = c := by
  rw [h, byte_self]
theorem cont_iff {b : UInt8} : cont b = true ↔ (b.toNat : Int) / 64 = 2 := by
  simp [cont]
theorem fits_some {n size a b : Int} (h : fits n size = some (a, b)) : a = n ∧ b = size ∧ isSign n = true ∧ widthOf n = size := by
  unfold fits at h
  split at h
  · rename_i h1
    split at h
    · rename_i h2
      simp only [Option.some.injEq, Prod.mk.injEq] at h
      exact ⟨h.1.symm, h.2.symm, h1, h2⟩
    · cases h
  · cases h
theorem width_1 {n : Int} : widthOf n = 1 ↔ n < 128 := by
  unfold widthOf; split <;> (try split) <;> (try split) <;> omega
theorem width_2 {n : Int} : widthOf n = 2 ↔ 128 ≤ n ∧ n < 2048 := by
  unfold widthOf; split <;> (try split) <;> (try split) <;> omega
theorem width_3 {n : Int} : widthOf n = 3 ↔ 2048 ≤ n ∧ n < 65536 := by
  unfold widthOf; split <;> (try split) <;> (try split) <;> omega
theorem width_4 {n : Int} : widthOf n = 4 ↔ 65536 ≤ n := by
  unfold widthOf; split <;> (try split) <;> (try split) <;> omega
theorem utf8_1 {n : Int} (h : n < 128) : utf8 n = [byte n] := by
  unfold utf8; rw [if_pos h]
theorem utf8_2 {n : Int} (h1 : 128 ≤ n) (h2 : n < 2048) : utf8 n = [byte (192 + n / 64), byte (128 + n % 64)] := by
  unfold utf8; rw [if_neg (by omega), if_pos h2]
theorem utf8_3 {n : Int} (h1 : 2048 ≤ n) (h2 : n < 65536) : utf8 n = [byte (224 + n / 4096), byte (128 + n / 64 % 64), byte (128 + n % 64)] := by
  unfold utf8; rw [if_neg (by omega), if_neg (by omega), if_pos h2]
theorem utf8_4 {n : Int} (h1 : 65536 ≤ n) : utf8 n = [byte (240 + n / 262144), byte (128 + n / 4096 % 64), byte (128 + n / 64 % 64), byte (128 + n % 64)] := by
  unfold utf8; rw [if_neg (by omega), if_neg (by omega), if_neg (by omega)]
theorem readU_some {s : List UInt8} {n size : Int} (h : readU s = some (n, size)) : isSign n = true ∧ ∃ rest, s = utf8 n ++ rest ∧ size = (utf8 n).length := by
  cases s with
  | nil => cases h
  | cons c r =>
  rw [readU] at h
  obtain ⟨c0, c1⟩ := u8_range c
  unfold readB at h
  split at h
  · obtain ⟨rfl, rfl, h1, h2⟩ := fits_some h
    refine ⟨h1, r, ?_⟩
    rw [utf8_1 (width_1.1 h2), byte_self]
    exact ⟨rfl, rfl⟩
  split at h
  · split at h <;> try (cases h; done)
    rename_i b r
    obtain ⟨b0, b1⟩ := u8_range b
    cases hb : cont b <;> rw [hb] at h <;> simp only [cond_true, cond_false] at h <;> try (cases h; done)
    have hb' := cont_iff.1 hb
    obtain ⟨rfl, rfl, h1, h2⟩ := fits_some h
    obtain ⟨g1, g2⟩ := width_2.1 h2
    refine ⟨h1, r, ?_⟩
    rw [utf8_2 g1 g2, byte_eq (c := c) (by omega), byte_eq (c := b) (by omega)]
    exact ⟨rfl, rfl⟩
  split at h
  · split at h <;> try (cases h; done)
    rename_i b d r
    obtain ⟨b0, b1⟩ := u8_range b
    obtain ⟨d0, d1⟩ := u8_range d
    cases hb : cont b <;> rw [hb] at h <;> simp only [cond_true, cond_false] at h <;> try (cases h; done)
    cases hd : cont d <;> rw [hd] at h <;> simp only [cond_true, cond_false] at h <;> try (cases h; done)
    have hb' := cont_iff.1 hb
    have hd' := cont_iff.1 hd
    obtain ⟨rfl, rfl, h1, h2⟩ := fits_some h
    obtain ⟨g1, g2⟩ := width_3.1 h2
    refine ⟨h1, r, ?_⟩
    rw [utf8_3 g1 g2, byte_eq (c := c) (by omega), byte_eq (c := b) (by omega), byte_eq (c := d) (by omega)]
    exact ⟨rfl, rfl⟩
  split at h
  · split at h <;> try (cases h; done)
    rename_i b d e r
    obtain ⟨b0, b1⟩ := u8_range b
    obtain ⟨d0, d1⟩ := u8_range d
    obtain ⟨e0, e1⟩ := u8_range e
    cases hb : cont b <;> rw [hb] at h <;> simp only [cond_true, cond_false] at h <;> try (cases h; done)
    cases hd : cont d <;> rw [hd] at h <;> simp only [cond_true, cond_false] at h <;> try (cases h; done)
    cases he : cont e <;> rw [he] at h <;> simp only [cond_true, cond_false] at h <;> try (cases h; done)
    have hb' := cont_iff.1 hb
    have hd' := cont_iff.1 hd
    have he' := cont_iff.1 he
    obtain ⟨rfl, rfl, h1, h2⟩ := fits_some h
    have g1 := width_4.1 h2
    refine ⟨h1, r, ?_⟩
    rw [utf8_4 g1, byte_eq (c := c) (by omega), byte_eq (c := b) (by omega), byte_eq (c := d) (by omega), byte_eq (c := e) (by omega)]
    exact ⟨rfl, rfl⟩
  · cases h
theorem utf8_len_pos (n : Int) : 0 < (utf8 n).length := by
  unfold utf8; split <;> (try split) <;> (try split) <;> simp
end Hx

namespace Hx
open Go
set_option linter.unusedSimpArgs false
set_option maxHeartbeats 1000000
variable {E : Env}
attribute [-simp] List.getD_eq_getElem?_getD getElem?_pos
structure R03 (E : Env) : Prop extends V03 E where
  walk : E.fn 21 = some Fn.f_utf_walk
  count : E.fn 12 = some Fn.f_utf_Count
  count1 : E.fn 23 = some Fn.f_utf_Count_1
  right : E.fn 11 = some Fn.f_utf_Right
  rSigns : E.fn 8 = some Fn.f_haulageref03_Signs
  rRight : E.fn 22 = some Fn.f_haulageref03_Right
theorem readU_size {s : List UInt8} {n size : Int} (h : readU s = some (n, size)) : 1 ≤ size ∧ size ≤ s.length ∧ size ≤ 4 := by
  obtain ⟨h1, rest, rfl, rfl⟩ := readU_some h
  have := utf8_len_pos n
  have h4 : (utf8 n).length ≤ 4 := by
    unfold utf8; split <;> (try split) <;> (try split) <;> simp
  rw [List.length_append]
  omega
theorem utf_walk (u : R03 E) (s : List UInt8) (hs : (s.length : Int) ≤ 9223372036854775800) (g : Nat) (caps : List AV) (k : Nat) (hk : s.length + 7 ≤ k) (J : Nat → Mem → Prop)
    (hJ : ∀ (at' : Nat) (n size : Int) (m : Mem), at' < s.length → J at' m → readU (s.drop at') = some (n, size) → ∃ m', denF E k g ([.p (.int .i64 at'), .p (.int .i64 n)] ++ caps) m = some (.ret (.tup []), m') ∧ J (at' + size.toNat) m')
    (m : Mem) (h0 : J 0 m) : ∃ b m', denF E (k + 1) 21 [.p (.str s), .fn g caps] m = some (.ret (.p (.bool b)), m') ∧
      ((b = true ∧ J s.length m') ∨ (b = false ∧ ∃ at', at' < s.length ∧ readU (s.drop at') = none ∧ J at' m')) := by
  suffices h : Wp (den E (denF E k) k Fn.f_utf_walk.body ⟨[.p (.str s), .fn g caps] ++ List.replicate 28 (.tup []), m, []⟩) fun e st => ∃ b, leave Fn.f_utf_walk (some (e, st)) = some (.ret (.p (.bool b)), st.m) ∧
      ((b = true ∧ J s.length st.m) ∨ (b = false ∧ ∃ at', at' < s.length ∧ readU (s.drop at') = none ∧ J at' st.m)) by
    obtain ⟨e, st, h1, b, h2, h3⟩ := h
    refine ⟨b, st.m, ?_, h3⟩
    rw [denF_own u.walk rfl]
    exact (congrArg (leave Fn.f_utf_walk) h1).trans h2
  simp [Fn.f_utf_walk]
  refine (loop_wp (α := Nat) (I := fun a st => a ≤ s.length ∧ ∃ m, J a m ∧ Live Fn.f_utf_walk_k0 (Fn.f_utf_walk_s0 (.p (.str s)) (.fn g caps) (.p (.int .i64 a))) m st) (meas := fun a => s.length - a)
    (Q := fun e st => (e = .exit 0 ∧ st.ds = [] ∧ J s.length st.m ∧ st.ts.length = 30) ∨ (e = .ret ∧ st.ds = [] ∧ st.ts.getD 4 (.tup []) = .p (.bool false) ∧ ∃ at', at' < s.length ∧ readU (s.drop at') = none ∧ J at' st.m)) ?_ k 0 _ ⟨Nat.zero_le _, m, h0, rfl, rfl, rfl, rfl⟩ (by omega)).mono ?_
  · rintro a st ⟨ha, m, hj, hl⟩
    rw [loopF_live hl]
    by_cases h1 : a < s.length
    · have h2 : (a : Int) < s.length := by omega
      have hR := fun m => utf_Read u.toV03 (k - 6) (s.drop a) m
      rw [show k - 6 + 6 = k by omega] at hR
      cases r : readU (s.drop a) with
      | none =>
        rw [r] at hR
        simp [Fn.f_utf_walk_b0, Fn.f_utf_walk_s0, h1, h2, hR, readV, ha]
        exact ⟨a, h1, r, hj⟩
      | some p =>
        obtain ⟨n, size⟩ := p
        rw [r] at hR
        obtain ⟨m', hc, hj'⟩ := hJ a n size m h1 hj r
        obtain ⟨z1, z2, z3⟩ := readU_size r
        rw [List.length_drop] at z2
        have hw : IntKind.i64.wrap ((a : Int) + size) = a + size := wrap_i64 (by omega) (by omega)
        simp only [List.cons_append, List.nil_append] at hc
        simp [Fn.f_utf_walk_b0, Fn.f_utf_walk_s0, h1, h2, hR, readV, ha, hc, hw]
        refine ⟨a + size.toNat, by omega, by omega, m', hj', rfl, ?_, rfl, rfl⟩
        simp [keep, Fn.f_utf_walk_k0]
        omega
    · have h2 : ¬ (a : Int) < s.length := by omega
      have : a = s.length := by omega
      subst this
      simp [Fn.f_utf_walk_b0, Fn.f_utf_walk_s0]
      exact hj
  · rintro e st (⟨rfl, h1, h2, h3⟩ | ⟨rfl, h1, h2, at', h3, h4, h5⟩)
    · obtain ⟨ts, m', ds⟩ := st
      simp only at h1 h2 h3
      match ts, h3 with
      | _ :: _ :: _ :: _ :: _ :: _, _ =>
        simp [h1]
        exact h2
    · simp [h1, h2]
      exact ⟨at', h3, h4, h5⟩
end Hx
