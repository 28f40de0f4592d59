/-
  HxV05i: texts between quotes, as the document reads them.
-/
import Derived.Test.YtifcegbomagcpaaGreatDoorHxV05f
import Derived.Test.YtifcegbomagcpaaGreatDoorHxM05b
namespace Hx
open Go
set_option linter.unusedSimpArgs false
set_option linter.unusedVariables false
set_option maxHeartbeats 4000000
variable {E : Env}
attribute [-simp] List.getD_eq_getElem?_getD getElem?_pos
theorem quotes_snoc (s : List UInt8) (c : UInt8) : quotes (s ++ [c]) = quotes s ++ quoteC c := by simp [quotes]
theorem quoteC_len (c : UInt8) : (quoteC c).length ≤ 4 := by
  unfold quoteC
  split
  · simp
  split
  · simp
  split <;> simp
theorem quotes_len : ∀ s : List UInt8, (quotes s).length ≤ 4 * s.length
  | [] => by simp [quotes]
  | c :: s => by
    have e : quotes (c :: s) = quoteC c ++ quotes s := by simp [quotes]
    have := quoteC_len c
    have := quotes_len s
    rw [e, List.length_append, List.length_cons]
    omega
theorem take_snoc {s : List UInt8} {i : Nat} {c : UInt8} (h : s[i]? = some c) : s.take (i + 1) = s.take i ++ [c] := by
  rw [List.take_add_one, h]; rfl
def QInv (s : List UInt8) (i : Nat) (st : St) : Prop := ∃ m, i ≤ s.length ∧ BGrow (34 :: quotes (s.take i)) 0 m ∧ Live Fn.f_name_Quote_k0 (Fn.f_name_Quote_s0 (.p (.str s)) (.ty 0 (.ptr 0 0)) (.p (.int .i64 s.length)) (.p (.int .i64 i))) m st
theorem QInv.mk {s : List UInt8} {i : Nat} {st : St} (m : Mem) (h1 : i ≤ s.length) (h2 : BGrow (34 :: quotes (s.take i)) 0 m) (h3 : Live Fn.f_name_Quote_k0 (Fn.f_name_Quote_s0 (.p (.str s)) (.ty 0 (.ptr 0 0)) (.p (.int .i64 s.length)) (.p (.int .i64 i))) m st) : QInv s i st := ⟨m, h1, h2, h3⟩
theorem name_Quote (u : Q05 E) (s : List UInt8) (hs : (s.length : Int) ≤ 1000000000) (k : Nat) (hk : s.length + 10 ≤ k) (m : Mem) : denF E (k + 1) 214 [.p (.str s)] m = some (.ret (.p (.str (34 :: (quotes s ++ [34])))), m) := by
  refine denF_wp u.quote rfl (args' := [.p (.str s)]) rfl ?_
  obtain ⟨j, rfl⟩ : ∃ j, k = j + 2 := ⟨k - 2, by omega⟩
  have hB0 : BGrow [] 0 [Blk.cells [.p .nilp, .p .nils]] := ⟨_, _, rfl, .inl rfl, .inl ⟨rfl, rfl⟩⟩
  obtain ⟨m1, e1, b1, l1, _⟩ := bld_byte u j 0 [] 34 _ hB0 (by simp)
  have e34 : ((34 : UInt8).toNat : Int) = 34 := rfl
  rw [e34] at e1
  simp [Fn.f_name_Quote, e1]
  refine (loop_wp (α := Nat) (I := fun i st => QInv s i st) (meas := fun i => s.length - i)
    (Q := fun e st => e = .exit 0 ∧ st.ds = [] ∧ st.ts.length = 46 ∧ BGrow (34 :: quotes s) 0 st.m ∧ st.ts.getD 3 (.tup []) = .ty 0 (.ptr 0 0)) ?_ (j + 2) 0 _ (QInv.mk m1 (Nat.zero_le _) b1 ⟨rfl, rfl, rfl, rfl⟩) (by omega)).mono ?_
  · rintro i st ⟨m, hi0, hg, hlive⟩
    rw [loopF_live hlive]
    by_cases hi : i < s.length
    · have hi' : (i : Int) < s.length := by omega
      obtain ⟨c, hc⟩ : ∃ c, s[i]? = some c := ⟨_, List.getElem?_eq_getElem hi⟩
      have hw : IntKind.i64.wrap ((i : Int) + 1) = i + 1 := wrap_i64 (by omega) (by omega)
      have hP := fun m => name_plain u (j + 1) c m
      have hq := quotes_len (s.take i)
      have ht : (s.take i).length ≤ s.length := by rw [List.length_take]; omega
      have hqs : 34 :: quotes (s.take (i + 1)) = (34 :: quotes (s.take i)) ++ quoteC c := by rw [take_snoc hc, quotes_snoc]; rfl
      have hcl := UInt8.toNat_lt c
      have hfin : ∀ (m' : Mem) (st' : St), BGrow ((34 :: quotes (s.take i)) ++ quoteC c) 0 m' → Live Fn.f_name_Quote_k0 (Fn.f_name_Quote_s0 (.p (.str s)) (.ty 0 (.ptr 0 0)) (.p (.int .i64 s.length)) (.p (.int .i64 ((i + 1 : Nat) : Int)))) m' st' → QInv s (i + 1) st' := fun m' st' h1 h2 => QInv.mk m' hi (by rw [hqs]; exact h1) h2
      cases hp : plainC c with
      | true =>
        rw [hp] at hP
        have hqc : quoteC c = [c] := by
          have := step_quote c []
          unfold plainC at hp
          simp at hp
          unfold quoteC
          rw [if_neg (by omega), if_neg (by omega), if_neg (by omega)]
        rw [hqc] at hfin
        obtain ⟨m2, e2, b2, l2, _⟩ := bld_byte u j 0 _ c m hg (by simp; omega)
        simp [Fn.f_name_Quote_b0, Fn.f_name_Quote_s0, hi, hi', hc, hP, hw, e2]
        exact ⟨i + 1, by omega, hfin m2 _ b2 ⟨rfl, rfl, rfl, rfl⟩⟩
      | false =>
        rw [hp] at hP
        by_cases h10 : c = 10
        · subst h10
          have hqc : quoteC 10 = [92, 110] := by decide
          rw [hqc] at hfin
          have g : (((10 : UInt8).toNat : Int)) = 10 := rfl
          rw [g] at hP
          obtain ⟨m2, e2, b2, l2, _⟩ := bld_text u j 0 _ [92, 110] (by simp) (by simp) m hg (by simp; omega)
          simp [Fn.f_name_Quote_b0, Fn.f_name_Quote_s0, hi, hi', hc, hP, hw, e2]
          exact ⟨i + 1, by omega, hfin m2 _ b2 ⟨rfl, rfl, rfl, rfl⟩⟩
        have g10 : ((c.toNat : Int) == 10) = false := by
          have : (c == 10) = false := by simpa using h10
          rw [u8beq] at this; exact this
        obtain ⟨m2, e2, b2, l2, _⟩ := bld_byte u j 0 _ 92 m hg (by simp; omega)
        have g92 : ((92 : UInt8).toNat : Int) = 92 := rfl
        rw [g92] at e2
        obtain ⟨m3, e3, b3, l3, _⟩ := bld_byte u j 0 _ c m2 b2 (by simp; omega)
        by_cases h34 : c = 34
        · subst h34
          have hqc : quoteC 34 = [92, 34] := by decide
          rw [hqc] at hfin
          simp only [List.append_assoc, List.singleton_append] at b3
          have g : (((34 : UInt8).toNat : Int)) = 34 := rfl
          rw [g] at hP e3
          simp [Fn.f_name_Quote_b0, Fn.f_name_Quote_s0, hi, hi', hc, hP, hw, e2, e3]
          exact ⟨i + 1, by omega, hfin m3 _ b3 ⟨rfl, rfl, rfl, rfl⟩⟩
        by_cases h92 : c = 92
        · subst h92
          have hqc : quoteC 92 = [92, 92] := by decide
          rw [hqc] at hfin
          simp only [List.append_assoc, List.singleton_append] at b3
          rw [g92] at hP e3
          simp [Fn.f_name_Quote_b0, Fn.f_name_Quote_s0, hi, hi', hc, hP, hw, e2, e3]
          exact ⟨i + 1, by omega, hfin m3 _ b3 ⟨rfl, rfl, rfl, rfl⟩⟩
        have g34 : ((c.toNat : Int) == 34) = false := by
          have : (c == 34) = false := by simpa using h34
          rw [u8beq] at this; exact this
        have g92' : ((c.toNat : Int) == 92) = false := by
          have : (c == 92) = false := by simpa using h92
          rw [u8beq] at this; exact this
        have hqc : quoteC c = [92, 120, hexd (c.toNat / 16), hexd (c.toNat % 16)] := by
          have n34 : ¬ (c.toNat : Int) = 34 := by simpa using g34
          have n92 : ¬ (c.toNat : Int) = 92 := by simpa using g92'
          have n10 : ¬ (c.toNat : Int) = 10 := by simpa using g10
          have : ¬ ((32 : Int) ≤ c.toNat ∧ (c.toNat : Int) ≤ 126) := by
            rintro ⟨h1, h2⟩
            unfold plainC at hp
            simp [n34, n92, h1, h2] at hp
          unfold quoteC
          rw [if_neg (by omega), if_neg (by omega), if_pos (by omega)]
        rw [hqc] at hfin
        have x1 := hexS_at (n := c.toNat / 16) (by omega)
        have x2 := hexS_at (n := c.toNat % 16) (by omega)
        have d1 := fdiv16 c.toNat
        have d2 : bitsI .and .u8 (c.toNat : Int) 15 = some ((c.toNat % 16 : Nat) : Int) := by
          rw [and_u8_15 (by omega) (by omega)]
          rfl
        obtain ⟨q1, hq1⟩ : ∃ q, q = c.toNat / 16 := ⟨_, rfl⟩
        obtain ⟨q2, hq2⟩ : ∃ q, q = c.toNat % 16 := ⟨_, rfl⟩
        rw [← hq1] at x1 d1
        rw [← hq2] at x2 d2
        rw [← hq1, ← hq2] at hfin
        obtain ⟨m2, e2, b2, l2, _⟩ := bld_text u j 0 _ [92, 120] (by simp) (by simp) m hg (by simp; omega)
        obtain ⟨m3, e3, b3, l3, _⟩ := bld_byte u j 0 _ (hexd q1) m2 b2 (by simp; omega)
        obtain ⟨m4, e4, b4, l4, _⟩ := bld_byte u j 0 _ (hexd q2) m3 b3 (by simp; omega)
        simp only [List.append_assoc, List.singleton_append, List.cons_append, List.nil_append] at b4
        simp [Fn.f_name_Quote_b0, Fn.f_name_Quote_s0, hi, hi', hc, hP, hw, g10, g34, g92', d1, d2, x1, x2, e2, e3, e4]
        exact ⟨i + 1, by omega, hfin m4 _ b4 ⟨rfl, rfl, rfl, rfl⟩⟩
    · have hi' : ¬ (i : Int) < s.length := by omega
      rw [List.take_of_length_le (by omega)] at hg
      simp [Fn.f_name_Quote_b0, Fn.f_name_Quote_s0, hi, hi', hg]
  · rintro e st ⟨rfl, h1, h2, hg, h3⟩
    obtain ⟨ts, m', ds⟩ := st
    simp only at h1 h2 h3 hg
    subst h1
    have hq := quotes_len s
    obtain ⟨m2, e2, b2, l2, _⟩ := bld_byte u j 0 _ 34 m' hg (by simp; omega)
    rw [e34] at e2
    obtain ⟨m3, e3⟩ := bld_str u (j + 1) 0 _ (by simp) m2 b2 (by simp; omega)
    simp only [List.cons_append] at e3
    match ts, h2, h3 with
    | t0 :: t1 :: t2 :: t3 :: t4 :: t5 :: t6 :: t7 :: t8 :: t9 :: t10 :: t11 :: t12 :: t13 :: t14 :: t15 :: t16 :: t17 :: t18 :: t19 :: t20 :: t21 :: t22 :: t23 :: t24 :: t25 :: t26 :: t27 :: t28 :: t29 :: t30 :: t31 :: t32 :: t33 :: t34 :: t35 :: t36 :: t37 :: t38 :: t39 :: t40 :: t41 :: t42 :: t43 :: t44 :: t45 :: [], h2, h3 =>
      simp only [getD_zero', getD_succ'] at h3
      subst h3
      simp [e2, e3]
theorem ref_Quote (u : Q05 E) (h60 : E.fn 60 = some Fn.f_haulageref04_Quote) (s : List UInt8) (hs : (s.length : Int) ≤ 1000000000) (k : Nat) (hk : s.length + 10 ≤ k) (m : Mem) : denF E (k + 1) 60 [.p (.str s)] m = some (.ret (.p (.str (34 :: (quotes s ++ [34])))), m) := by
  refine denF_wp h60 rfl (args' := [.p (.str s)]) rfl ?_
  obtain ⟨j, rfl⟩ : ∃ j, k = j + 1 := ⟨k - 1, by omega⟩
  simp [Fn.f_haulageref04_Quote]
  refine (loop_wp (α := Nat) (I := fun i st => i ≤ s.length ∧ Live Fn.f_haulageref04_Quote_k0 (Fn.f_haulageref04_Quote_s0 (.p (.str s)) (.p (.str (34 :: quotes (s.take i)))) (.p (.int .i64 i))) [] st) (meas := fun i => s.length - i)
    (Q := fun e st => e = .exit 0 ∧ st.ds = [] ∧ st.ts.length = 19 ∧ st.ts.getD 3 (.tup []) = .p (.str (34 :: quotes s))) ?_ (j + 1) 0 _ ⟨Nat.zero_le _, rfl, rfl, rfl, rfl⟩ (by omega)).mono ?_
  · rintro i st ⟨hi0, hlive⟩
    rw [loopF_live hlive]
    by_cases hi : i < s.length
    · have hi' : (i : Int) < s.length := by omega
      obtain ⟨c, hc⟩ : ∃ c, s[i]? = some c := ⟨_, List.getElem?_eq_getElem hi⟩
      have hw : IntKind.i64.wrap ((i : Int) + 1) = i + 1 := wrap_i64 (by omega) (by omega)
      have hO := fun m => ref_one4 u j c m
      have hq := quotes_len (s.take i)
      have ht : (s.take i).length ≤ s.length := by rw [List.length_take]; omega
      have hqs : quotes (s.take (i + 1)) = quotes (s.take i) ++ quoteC c := by rw [take_snoc hc, quotes_snoc]
      have hcl := quoteC_len c
      have hlim : (quotes (s.take i)).length + 1 + (quoteC c).length ≤ strLim := by unfold strLim; omega
      simp [Fn.f_haulageref04_Quote_b0, Fn.f_haulageref04_Quote_s0, hi, hi', hc, hO, hw, hlim]
      exact ⟨i + 1, by omega, hi, rfl, by simp [keep, Fn.f_haulageref04_Quote_k0, hqs], rfl, rfl⟩
    · have hi' : ¬ (i : Int) < s.length := by omega
      rw [List.take_of_length_le (by omega)] at hlive
      have e : s.take i = s := List.take_of_length_le (by omega)
      simp [Fn.f_haulageref04_Quote_b0, Fn.f_haulageref04_Quote_s0, hi, hi', e]
  · rintro e st ⟨rfl, h1, h2, h3⟩
    obtain ⟨ts, m', ds⟩ := st
    simp only at h1 h2 h3
    subst h1
    have hq := quotes_len s
    have hlim : (quotes s).length + 1 + 1 ≤ strLim := by unfold strLim; omega
    match ts, h2, h3 with
    | t0 :: t1 :: t2 :: t3 :: t4 :: t5 :: t6 :: t7 :: t8 :: t9 :: t10 :: t11 :: t12 :: t13 :: t14 :: t15 :: t16 :: t17 :: t18 :: [], h2, h3 =>
      simp only [getD_zero', getD_succ'] at h3
      subst h3
      simp [hlim]
end Hx

namespace Hx
open Go
set_option linter.unusedSimpArgs false
set_option linter.unusedVariables false
set_option maxHeartbeats 4000000
variable {E : Env}
attribute [-simp] List.getD_eq_getElem?_getD getElem?_pos
def UqInv (s : List UInt8) (i : Nat) (st : St) : Prop := ∃ (acc : List UInt8) (ov : AV) (m : Mem), UInv s i acc ∧ Grow 1 (byteRows acc) ov m ∧ Live Fn.f_name_Unquote_k0 (Fn.f_name_Unquote_s0 (.p (.str s)) ov (.p (.int .i64 i))) m st
theorem UqInv.mk {s : List UInt8} {i : Nat} {st : St} (acc : List UInt8) (ov : AV) (m : Mem) (h1 : UInv s i acc) (h2 : Grow 1 (byteRows acc) ov m) (h3 : Live Fn.f_name_Unquote_k0 (Fn.f_name_Unquote_s0 (.p (.str s)) ov (.p (.int .i64 i))) m st) : UqInv s i st := ⟨acc, ov, m, h1, h2, h3⟩
end Hx

namespace Hx
open Go
set_option linter.unusedSimpArgs false
set_option linter.unusedVariables false
set_option maxHeartbeats 4000000
variable {E : Env}
attribute [-simp] List.getD_eq_getElem?_getD getElem?_pos
def hexC (c : UInt8) : List UInt8 := [hexd (c.toNat / 16), hexd (c.toNat % 16)]
def hexes (s : List UInt8) : List UInt8 := s.flatMap hexC
theorem hexes_snoc (s : List UInt8) (c : UInt8) : hexes (s ++ [c]) = hexes s ++ hexC c := by simp [hexes]
theorem hexes_len (s : List UInt8) : (hexes s).length = 2 * s.length := by
  induction s with
  | nil => rfl
  | cons c s ih =>
    have e : hexes (c :: s) = hexC c ++ hexes s := by simp [hexes]
    have : (hexC c).length = 2 := rfl
    rw [e, List.length_append, ih, List.length_cons]
    omega
structure H05 (E : Env) : Prop where
  q : Q05 E
  rhex : E.fn 61 = some Fn.f_haulageref05_hex
theorem ref_hex (u : H05 E) (s : List UInt8) (hs : (s.length : Int) ≤ 1000000000) (k : Nat) (hk : s.length + 4 ≤ k) (m : Mem) : denF E (k + 1) 61 [.p (.str s)] m = some (.ret (.p (.str (hexes s))), m) := by
  refine denF_wp u.rhex rfl (args' := [.p (.str s)]) rfl ?_
  simp [Fn.f_haulageref05_hex]
  refine (loop_wp (α := Nat) (I := fun i st => i ≤ s.length ∧ Live Fn.f_haulageref05_hex_k0 (Fn.f_haulageref05_hex_s0 (.p (.str s)) (.p (.str (hexes (s.take i)))) (.p (.int .i64 i))) [] st) (meas := fun i => s.length - i)
    (Q := fun e st => e = .exit 0 ∧ st.ds = [] ∧ st.ts.length = 35 ∧ st.ts.getD 3 (.tup []) = .p (.str (hexes s))) ?_ k 0 _ ⟨Nat.zero_le _, rfl, rfl, rfl, rfl⟩ (by omega)).mono ?_
  · rintro i st ⟨hi0, hlive⟩
    rw [loopF_live hlive]
    by_cases hi : i < s.length
    · have hi' : (i : Int) < s.length := by omega
      obtain ⟨c, hc⟩ : ∃ c, s[i]? = some c := ⟨_, List.getElem?_eq_getElem hi⟩
      have hw : IntKind.i64.wrap ((i : Int) + 1) = ((i + 1 : Nat) : Int) := by rw [wrap_i64 (by omega) (by omega)]; omega
      have hcl := UInt8.toNat_lt c
      have hqs : hexes (s.take (i + 1)) = hexes (s.take i) ++ hexC c := by rw [take_snoc hc, hexes_snoc]
      have hl := hexes_len (s.take i)
      have ht : (s.take i).length ≤ s.length := by rw [List.length_take]; omega
      have w1 : IntKind.u8.wrap ((c.toNat / 16 : Nat) : Int) = ((c.toNat / 16 : Nat) : Int) := wrap_u8 (by omega) (by omega)
      have w2 : IntKind.u8.wrap (((c.toNat / 16 : Nat) : Int) + 1) = ((c.toNat / 16 + 1 : Nat) : Int) := by rw [wrap_u8 (by omega) (by omega)]; omega
      have w3 : IntKind.u8.wrap (((c.toNat % 16 : Nat) : Int) + 1) = ((c.toNat % 16 + 1 : Nat) : Int) := by rw [wrap_u8 (by omega) (by omega)]; omega
      have x1 := hexS_cut (n := c.toNat / 16) (by omega)
      have x2 := hexS_cut (n := c.toNat % 16) (by omega)
      have d1 := tdiv16 c.toNat
      have d2 := tmod16 c.toNat
      have l1 : c.toNat / 16 + 1 ≤ 16 := by omega
      have l2 : c.toNat % 16 + 1 ≤ 16 := by omega
      unfold hexC at hqs
      generalize hq1 : c.toNat / 16 = q1 at *
      generalize hq2 : c.toNat % 16 = q2 at *
      generalize hX : hexes (s.take i) = X at *
      have m1 : X.length + 1 ≤ strLim := by unfold strLim; omega
      have m2 : X.length + 1 + 1 ≤ strLim := by unfold strLim; omega
      simp [Fn.f_haulageref05_hex_b0, Fn.f_haulageref05_hex_s0, hi, hi', hc, hw, d1, d2, w1, w2, w3, l1, l2, x1, x2, m1, m2, -Int.natCast_add, -List.take_succ_cons]
      exact ⟨i + 1, by omega, hi, rfl, by simp [keep, Fn.f_haulageref05_hex_k0, Fn.f_haulageref05_hex_s0, hqs], rfl, rfl⟩
    · have hi' : ¬ (i : Int) < s.length := by omega
      have e : s.take i = s := List.take_of_length_le (by omega)
      simp [Fn.f_haulageref05_hex_b0, Fn.f_haulageref05_hex_s0, hi, hi', e]
  · rintro e st ⟨rfl, h1, h2, h3⟩
    obtain ⟨ts, m', ds⟩ := st
    simp only at h1 h2 h3
    subst h1
    match ts, h2, h3 with
    | t0 :: t1 :: t2 :: t3 :: t4 :: t5 :: t6 :: t7 :: t8 :: t9 :: t10 :: t11 :: t12 :: t13 :: t14 :: t15 :: t16 :: t17 :: t18 :: t19 :: t20 :: t21 :: t22 :: t23 :: t24 :: t25 :: t26 :: t27 :: t28 :: t29 :: t30 :: t31 :: t32 :: t33 :: t34 :: [], h2, h3 =>
      simp only [getD_zero', getD_succ'] at h3
      subst h3
      simp

def stepH : List UInt8 → Option UInt8
  | h :: l :: _ => match hexv h, hexv l with
    | some x, some y => some (UInt8.ofNat (16 * x + y))
    | _, _ => none
  | _ => none
def unhX : Nat → List UInt8 → Nat → List UInt8 → List UInt8 × Nat × Bool
  | 0, _, _, _ => ([], 0, false)
  | k + 1, acc, n, s => if s = [] then (acc, n, false) else if s.head? = some 34 then (acc, n, true) else match stepH s with
    | none => ([], 0, false)
    | some c => unhX k (acc ++ [c]) (n + 2) (s.drop 2)
def unh (acc : List UInt8) (n : Nat) (s : List UInt8) : List UInt8 × Nat × Bool := unhX (s.length + 1) acc n s
end Hx

namespace Hx
open Go
set_option linter.unusedSimpArgs false
set_option linter.unusedVariables false
set_option maxHeartbeats 4000000
variable {E : Env}
attribute [-simp] List.getD_eq_getElem?_getD getElem?_pos
def RqInv (s : List UInt8) (i : Nat) (st : St) : Prop := ∃ (acc : List UInt8) (m : Mem), UInv s i acc ∧ Live Fn.f_haulageref04_Unquote_k0 (Fn.f_haulageref04_Unquote_s0 (.p (.str s)) (.p (.str acc)) (.p (.int .i64 i))) m st
theorem RqInv.mk {s : List UInt8} {i : Nat} {st : St} (acc : List UInt8) (m : Mem) (h1 : UInv s i acc) (h3 : Live Fn.f_haulageref04_Unquote_k0 (Fn.f_haulageref04_Unquote_s0 (.p (.str s)) (.p (.str acc)) (.p (.int .i64 i))) m st) : RqInv s i st := ⟨acc, m, h1, h3⟩
end Hx
