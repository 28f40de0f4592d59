/-
  HxU07c: numbers as bytes, the highest first (sortkey.put; the document's Put and back).
-/
import Derived.Test.YtpgnoaacdommbaaDoorHxFn07
import Derived.Test.YtpgnoaacdommbaaDoorHxM07
import Derived.Test.YtpgnoaacdommbaaDoorHxU07a
import Derived.Test.YtpgnoaacdommbaaDoorHxU03k
namespace Hx
open Go
set_option linter.unusedSimpArgs false
set_option linter.unusedVariables false
set_option maxHeartbeats 4000000
variable {E : Env}
attribute [-simp] List.getD_eq_getElem?_getD getElem?_pos
theorem wrap_u64 {n : Int} (h1 : 0 ≤ n) (h2 : n < 18446744073709551616) : IntKind.u64.wrap n = n := by
  simp only [IntKind.wrap, IntKind.signed, IntKind.bits]
  simp
  omega
theorem xor_u64 {x y : Nat} (hx : x < 18446744073709551616) (hy : y < 18446744073709551616) : bitsI .xor .u64 (x : Int) (y : Int) = some ((x ^^^ y : Nat) : Int) := by
  have hb : IntKind.u64.bits = 64 := rfl
  have hlt : x ^^^ y < 18446744073709551616 := Nat.xor_lt_two_pow (n := 64) hx hy
  simp only [bitsI, hb, BitVec.ofInt_natCast, BitVec.toNat_xor, BitVec.toNat_ofNat]
  rw [Nat.mod_eq_of_lt (by omega : x < 2 ^ 64), Nat.mod_eq_of_lt (by omega : y < 2 ^ 64), wrap_u64 (by omega) (by omega)]
theorem shift_u64 {y i : Nat} (hi : i ≤ 7) : IntKind.u8.wrap ((y : Int).fdiv (2 ^ (min (8 * i) 64))) = ((UInt8.ofNat (y / 256 ^ i % 256)).toNat : Int) := by
  have hp : (2 : Int) ^ (min (8 * i) 64) = ((256 ^ i : Nat) : Int) := by
    rw [Nat.min_eq_left (by omega), Int.natCast_pow]
    show (2 : Int) ^ (8 * i) = 256 ^ i
    rw [Int.pow_mul]
    rfl
  rw [hp, Int.fdiv_eq_ediv_of_nonneg _ (Int.natCast_nonneg _), wrap_u8_mod, UInt8.toNat_ofNat']
  have : (y : Int) / ((256 ^ i : Nat) : Int) = ((y / 256 ^ i : Nat) : Int) := by rw [Int.natCast_ediv]
  rw [this]
  omega
@[simp] theorem bits_u64 : IntKind.u64.bits = 64 := rfl
theorem denF_own_ex {f : Nat} {xf : XFunc} (h : E.fn f = some xf) (hp : xf.pure = false) {n : Nat} {args : List AV} {m : Mem} {P : Out → Mem → Prop}
    (hd : Wp (den E (denF E n) n xf.body ⟨args ++ List.replicate (xf.ntmps - args.length) (.tup []), m, []⟩) fun e st => ∃ out m1, leave xf (some (e, st)) = some (out, m1) ∧ P out m1) : ∃ out m1, denF E (n + 1) f args m = some (out, m1) ∧ P out m1 := by
  obtain ⟨e, st, h1, out, m1, h2, h3⟩ := hd
  refine ⟨out, m1, ?_, h3⟩
  rw [denF_own h hp, h1, h2]
theorem sk_put (h : E.fn 118 = some Fn.f_sortkey_put) (k : Nat) (hk : 12 ≤ k) (w : Nat) (hw0 : 1 ≤ w) (hw : w ≤ 8) (x : Nat) (hx : x < 18446744073709551616) (acc : List UInt8) (hne : acc ≠ []) (hacc : acc.length ≤ 1000000000000) (t : Nat) (m : Mem) (ht : m[t]? = some (.tok 1 acc.length)) :
    ∃ m', denF E (k + 1) 118 [.tv 1 (byteRows acc) t, .p (.int .u64 x), .p (.int .i64 w)] m = some (.ret (.tv 1 (byteRows (acc ++ be w (x ^^^ 2 ^ (8 * w - 1)))) t), m') ∧ m'[t]? = some (.tok 1 (acc ++ be w (x ^^^ 2 ^ (8 * w - 1))).length) := by
  obtain ⟨y, hy⟩ : ∃ y, y = x ^^^ 2 ^ (8 * w - 1) := ⟨_, rfl⟩
  rw [← hy]
  have hp64 : 2 ^ (8 * w - 1) < 18446744073709551616 := by
    have : 2 ^ (8 * w - 1) < 2 ^ 64 := Nat.pow_lt_pow_right (by omega) (by omega)
    omega
  obtain ⟨p, hp⟩ : ∃ p, p = 2 ^ (8 * w - 1) := ⟨_, rfl⟩
  have hylt : y < 18446744073709551616 := by rw [hy]; exact Nat.xor_lt_two_pow (n := 64) hx hp64
  have w1 : IntKind.i64.wrap (8 * (w : Int)) = 8 * w := wrap_i64 (by omega) (by omega)
  have w2 : IntKind.i64.wrap (8 * (w : Int) - 1) = 8 * w - 1 := wrap_i64 (by omega) (by omega)
  have w3 : IntKind.i64.wrap ((w : Int) - 1) = w - 1 := wrap_i64 (by omega) (by omega)
  have w4 : IntKind.u64.wrap (2 ^ (min ((8 * (w : Int)).toNat - 1) 64)) = (p : Int) := by
    have e : min ((8 * (w : Int)).toNat - 1) 64 = 8 * w - 1 := by omega
    rw [e]
    have : (2 : Int) ^ (8 * w - 1) = (p : Int) := by rw [hp, Int.natCast_pow]; rfl
    rw [this, wrap_u64 (by omega) (by omega)]
  have w5 := xor_u64 hx hp64
  rw [← hy, ← hp] at w5
  have hneg : ¬ (8 * (w : Int) - 1 < 0) := by omega
  have main : ∀ st, Live Fn.f_sortkey_put_k0 (Fn.f_sortkey_put_s0 (.tv 1 (byteRows acc) t) (.p (.int .u64 y)) (.p (.int .i64 ((w : Int) - 1)))) m st →
      Wp (iter (loopF E (denF E k) k Fn.f_sortkey_put_k0 Fn.f_sortkey_put_b0) k st) (fun e st => e = .exit 0 ∧ st.ds = [] ∧ st.ts.length = 29 ∧ st.ts.getD 0 (.tup []) = .tv 1 (byteRows (acc ++ be w y)) t ∧ st.m[t]? = some (.tok 1 (acc ++ be w y).length)) := by
    intro st hst
    refine loop_wp (α := Nat) (I := fun j st => ∃ D m, D ++ be j y = acc ++ be w y ∧ j ≤ w ∧ D ≠ [] ∧ m[t]? = some (.tok 1 D.length) ∧
        Live Fn.f_sortkey_put_k0 (Fn.f_sortkey_put_s0 (.tv 1 (byteRows D) t) (.p (.int .u64 y)) (.p (.int .i64 ((j : Int) - 1)))) m st) (meas := fun j => j) ?_ k w st ⟨acc, m, rfl, Nat.le_refl _, hne, ht, hst⟩ (by omega)
    rintro j st ⟨D, m, hD, hj, hDne, hm, hlive⟩
    rw [loopF_live hlive]
    cases j with
    | zero =>
      rw [be, List.append_nil] at hD
      subst hD
      simp [Fn.f_sortkey_put_b0, Fn.f_sortkey_put_s0]
      simpa using hm
    | succ i =>
      have hDl := congrArg List.length hD
      simp only [List.length_append, be_len] at hDl
      have hs := shift_u64 (y := y) (i := i) (by omega)
      have v1 : IntKind.i64.wrap (8 * (i : Int)) = 8 * i := wrap_i64 (by omega) (by omega)
      have v2 : IntKind.i64.wrap ((i : Int) - 1) = i - 1 := wrap_i64 (by omega) (by omega)
      have v3 : ¬ 8 * (i : Int) < 0 := by omega
      have v4 : (8 * (i : Int)).toNat = 8 * i := by omega
      rw [be] at hD
      generalize UInt8.ofNat (y / 256 ^ i % 256) = c at *
      have hm2 : ∀ z, (m ++ [z])[t]? = some (.tok 1 D.length) := fun z => get_app hm [z]
      have hb1 : (byteRows D).length = D.length := by simp [byteRows]
      have hb2 : D.length + 1 ≤ room := by unfold room; omega
      simp [Fn.f_sortkey_put_b0, Fn.f_sortkey_put_s0, v1, v2, v3, v4, hs, hm2, hb1, hb2]
      have happ : byteRows (D ++ [c]) = byteRows D ++ [[PV.int .u8 c.toNat]] := by simp [byteRows, byteRow]
      refine ⟨i, Nat.lt_succ_self i, D ++ [c], by rw [← hD]; simp, by omega, by simp, (m ++ [Blk.tok 1 1]).set t (Blk.tok 1 (D.length + 1)), ?_, rfl, ?_, rfl, rfl⟩
      · rw [get_set (hm2 _)]; simp
      · rw [happ]; simp [keep, Fn.f_sortkey_put_k0, Fn.f_sortkey_put_s0]
  have fin := denF_own_ex h rfl (n := k) (args := [.tv 1 (byteRows acc) t, .p (.int .u64 x), .p (.int .i64 w)]) (m := m)
    (P := fun out m1 => out = .ret (.tv 1 (byteRows (acc ++ be w y)) t) ∧ m1[t]? = some (.tok 1 (acc ++ be w y).length)) (by
      simp [Fn.f_sortkey_put, w1, w2, w3, w4, w5, hneg]
      refine (main _ ?_).mono ?_
      · exact ⟨rfl, rfl, rfl, rfl⟩
      rintro e st ⟨rfl, h1, h2, h3, h4⟩
      obtain ⟨ts, m', ds⟩ := st
      simp only at h1 h2 h3 h4
      subst h1
      match ts, h2, h3 with
      | t0 :: t1 :: t2 :: t3 :: t4 :: t5 :: t6 :: t7 :: t8 :: t9 :: t10 :: t11 :: t12 :: t13 :: t14 :: t15 :: t16 :: t17 :: t18 :: t19 :: t20 :: t21 :: t22 :: t23 :: t24 :: t25 :: t26 :: t27 :: t28 :: [], h2, h3 =>
        simp only [getD_zero', getD_succ'] at h3
        subst h3
        simp
        exact ⟨_, _, ⟨rfl, rfl⟩, rfl, by simpa using h4⟩)
  obtain ⟨out, m1, h1, rfl, h2⟩ := fin
  exact ⟨m1, h1, h2⟩
def PutInv (w x i : Nat) (st : St) : Prop := ∃ (y : Nat) (D : List UInt8) (m : Mem), i ≤ w ∧ y < 18446744073709551616 ∧ D ++ le (w - i) y = le w x ∧ D.length = i ∧ Live Fn.f_haulageref01_Put_k0 (Fn.f_haulageref01_Put_s0 (.p (.int .u64 y)) (.p (.int .i64 w)) (.p (.str D)) (.p (.int .i64 i))) m st
theorem PutInv.mk {w x i : Nat} {st : St} (y : Nat) (D : List UInt8) (m : Mem) (h1 : i ≤ w) (h2 : y < 18446744073709551616) (h3 : D ++ le (w - i) y = le w x) (h4 : D.length = i) (h5 : Live Fn.f_haulageref01_Put_k0 (Fn.f_haulageref01_Put_s0 (.p (.int .u64 y)) (.p (.int .i64 w)) (.p (.str D)) (.p (.int .i64 i))) m st) : PutInv w x i st := ⟨y, D, m, h1, h2, h3, h4, h5⟩
theorem ref_Put01 (h : E.fn 119 = some Fn.f_haulageref01_Put) (k : Nat) (hk : 12 ≤ k) (w : Nat) (hw : w ≤ 8) (x : Nat) (hx : x < 18446744073709551616) (m : Mem) :
    denF E (k + 1) 119 [.p (.int .u64 x), .p (.int .i64 w)] m = some (.ret (.p (.str (le w x))), m) := by
  refine denF_wp h rfl (args' := [.p (.int .u64 x), .p (.int .i64 w)]) rfl ?_
  simp [Fn.f_haulageref01_Put]
  refine (loop_wp (α := Nat) (I := fun i st => PutInv w x i st) (meas := fun i => w - i)
    (Q := fun e st => e = .exit 0 ∧ st.ds = [] ∧ st.ts.length = 22 ∧ st.ts.getD 5 (.tup []) = .p (.str (le w x))) ?_ k 0 _ (PutInv.mk x [] [] (Nat.zero_le _) hx rfl rfl ⟨rfl, rfl, rfl, rfl⟩) (by omega)).mono ?_
  · rintro i st ⟨y, D, m, hi, hy, hD, hDl, hlive⟩
    rw [loopF_live hlive]
    by_cases hlt : i < w
    · have hlt' : (i : Int) < w := by omega
      have e : w - i = (w - (i + 1)) + 1 := by omega
      rw [e, le] at hD
      have hw1 : IntKind.i64.wrap ((i : Int) + 1) = i + 1 := wrap_i64 (by omega) (by omega)
      have hq : IntKind.u8.wrap ((y : Int).tmod 256) = ((UInt8.ofNat (y % 256)).toNat : Int) := by
        rw [Int.tmod_eq_emod_of_nonneg (by omega), wrap_u8_mod, UInt8.toNat_ofNat']
        omega
      have hdv : IntKind.u64.wrap ((y : Int).tdiv 256) = ((y / 256 : Nat) : Int) := by
        rw [Int.tdiv_eq_ediv_of_nonneg (by omega), wrap_u64 (by omega) (by omega)]
        omega
      have hq2 : IntKind.u8.wrap ((y : Int) % 256) = ((UInt8.ofNat (y % 256)).toNat : Int) := by
        rw [← hq, Int.tmod_eq_emod_of_nonneg (by omega)]
      have hdv2 : IntKind.u64.wrap ((y : Int) / 256) = ((y / 256 : Nat) : Int) := by
        rw [← hdv, Int.tdiv_eq_ediv_of_nonneg (by omega)]
      obtain ⟨q, hqq⟩ : ∃ q, q = y / 256 := ⟨_, rfl⟩
      rw [← hqq] at hD hdv hdv2
      generalize UInt8.ofNat (y % 256) = c at *
      have hun : unBytes [[PV.int .u8 ((c.toNat : Nat) : Int)]] = some [c] := unBytes_rows [c]
      have hlim : D.length + 1 ≤ strLim := by unfold strLim; omega
      simp [Fn.f_haulageref01_Put_b0, Fn.f_haulageref01_Put_s0, hlt', hw1, hq, hq2, hdv, hdv2, hun, hlim]
      exact ⟨i + 1, by omega, PutInv.mk q (D ++ [c]) _ (by omega) (by omega) (by rw [← hD]; simp) (by simp [hDl]) ⟨rfl, rfl, rfl, rfl⟩⟩
    · have hi2 : i = w := by omega
      subst hi2
      rw [Nat.sub_self, le, List.append_nil] at hD
      subst hD
      simp [Fn.f_haulageref01_Put_b0, Fn.f_haulageref01_Put_s0]
  · rintro e st ⟨rfl, h1, h2, h3⟩
    obtain ⟨ts, m', ds⟩ := st
    simp only at h1 h2 h3
    match ts, h2, h3 with
    | t0 :: t1 :: t2 :: t3 :: t4 :: t5 :: t6 :: t7 :: t8 :: t9 :: t10 :: t11 :: t12 :: t13 :: t14 :: t15 :: t16 :: t17 :: t18 :: t19 :: t20 :: t21 :: [], h2, h3 =>
      simp only [getD_zero', getD_succ'] at h3
      simp [h1, h3]
theorem ref_back (h : E.fn 120 = some Fn.f_haulageref07_back) (k : Nat) (s : List UInt8) (hs : (s.length : Int) ≤ 1000000000000) (hk : s.length + 2 ≤ k) (m : Mem) :
    denF E (k + 1) 120 [.p (.str s)] m = some (.ret (.p (.str s.reverse)), m) := by
  refine denF_wp h rfl (args' := [.p (.str s)]) rfl ?_
  have w0 : IntKind.i64.wrap ((s.length : Int) - 1) = s.length - 1 := wrap_i64 (by omega) (by omega)
  simp [Fn.f_haulageref07_back, w0]
  refine (loop_wp (α := Nat) (I := fun j st => j ≤ s.length ∧ Live Fn.f_haulageref07_back_k0 (Fn.f_haulageref07_back_s0 (.p (.str s)) (.p (.str (s.drop j).reverse)) (.p (.int .i64 ((j : Int) - 1)))) [] st) (meas := fun j => j)
    (Q := fun e st => e = .exit 0 ∧ st.ds = [] ∧ st.ts.length = 20 ∧ st.ts.getD 3 (.tup []) = .p (.str s.reverse)) ?_ k s.length _ ⟨Nat.le_refl _, rfl, by rw [List.drop_length]; rfl, rfl, rfl⟩ (by omega)).mono ?_
  · rintro j st ⟨hj, hlive⟩
    rw [loopF_live hlive]
    cases j with
    | zero => simp [Fn.f_haulageref07_back_b0, Fn.f_haulageref07_back_s0]
    | succ i =>
      obtain ⟨c, hc⟩ : ∃ c, s[i]? = some c := ⟨_, List.getElem?_eq_getElem (by omega)⟩
      have hw1 : IntKind.i64.wrap ((i : Int) + 1) = i + 1 := wrap_i64 (by omega) (by omega)
      have hw2 : IntKind.i64.wrap ((i : Int) - 1) = i - 1 := wrap_i64 (by omega) (by omega)
      have hd : (s.drop i).reverse = (s.drop (i + 1)).reverse ++ [c] := by rw [drop_at7 hc, List.reverse_cons]
      have hcut : (s.take (i + 1)).drop i = [c] := by
        rw [take_last hc, List.drop_append_of_le_length (by rw [List.length_take]; omega), List.drop_eq_nil_of_le (by rw [List.length_take]; omega), List.nil_append]
      have hl : (s.drop (i + 1)).reverse.length = s.length - (i + 1) := by rw [List.length_reverse, List.length_drop]
      have hlim : (s.drop (i + 1)).reverse.length + 1 ≤ strLim := by unfold strLim; omega
      have hj' : i + 1 ≤ s.length := hj
      have ha : (0 : Int) ≤ (i : Int) + 1 := by omega
      have hb : ((i : Int) + 1).toNat = i + 1 := by omega
      generalize hR : (s.drop (i + 1)).reverse = R at *
      simp [Fn.f_haulageref07_back_b0, Fn.f_haulageref07_back_s0, hw1, hw2, bounds, asNat, asInt, hj', hcut, hlim, hR, ha, hb]
      exact ⟨i, by omega, by omega, rfl, by rw [hd]; rfl, rfl, rfl⟩
  · rintro e st ⟨rfl, h1, h2, h3⟩
    obtain ⟨ts, m', ds⟩ := st
    simp only at h1 h2 h3
    match ts, h2, h3 with
    | t0 :: t1 :: t2 :: t3 :: t4 :: t5 :: t6 :: t7 :: t8 :: t9 :: t10 :: t11 :: t12 :: t13 :: t14 :: t15 :: t16 :: t17 :: t18 :: t19 :: [], h2, h3 =>
      simp only [getD_zero', getD_succ'] at h3
      simp [h1, h3]
end Hx
