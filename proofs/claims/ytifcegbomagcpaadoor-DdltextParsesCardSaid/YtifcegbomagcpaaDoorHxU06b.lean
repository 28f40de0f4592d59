/-
  HxU06b: numbers that fit 32 bits; right values; values that fit a type.
-/
import Derived.Test.YtifcegbomagcpaaDoorHxV05h
import Derived.Test.YtifcegbomagcpaaDoorHxU05
namespace Hx
open Go
set_option linter.unusedSimpArgs false
set_option linter.unusedVariables false
set_option maxHeartbeats 4000000
variable {E : Env}
attribute [-simp] List.getD_eq_getElem?_getD getElem?_pos
def hexC (c : UInt8) : List UInt8 := [hexd (c.toNat / 16), hexd (c.toNat % 16)]
def hexes (s : List UInt8) : List UInt8 := s.flatMap hexC
theorem hexes_snoc (s : List UInt8) (c : UInt8) : hexes (s ++ [c]) = hexes s ++ hexC c := by simp [hexes]
theorem hexes_len (s : List UInt8) : (hexes s).length = 2 * s.length := by
  induction s with
  | nil => rfl
  | cons c s ih =>
    have e : hexes (c :: s) = hexC c ++ hexes s := by simp [hexes]
    have : (hexC c).length = 2 := rfl
    rw [e, List.length_append, ih, List.length_cons]
    omega
structure H05 (E : Env) : Prop where
  q : Q05 E
  rhex : E.fn 61 = some Fn.f_haulageref05_hex
theorem ref_hex (u : H05 E) (s : List UInt8) (hs : (s.length : Int) ≤ 1000000000) (k : Nat) (hk : s.length + 4 ≤ k) (m : Mem) : denF E (k + 1) 61 [.p (.str s)] m = some (.ret (.p (.str (hexes s))), m) := by
  refine denF_wp u.rhex rfl (args' := [.p (.str s)]) rfl ?_
  simp [Fn.f_haulageref05_hex]
  refine (loop_wp (α := Nat) (I := fun i st => i ≤ s.length ∧ Live Fn.f_haulageref05_hex_k0 (Fn.f_haulageref05_hex_s0 (.p (.str s)) (.p (.str (hexes (s.take i)))) (.p (.int .i64 i))) [] st) (meas := fun i => s.length - i)
    (Q := fun e st => e = .exit 0 ∧ st.ds = [] ∧ st.ts.length = 35 ∧ st.ts.getD 3 (.tup []) = .p (.str (hexes s))) ?_ k 0 _ ⟨Nat.zero_le _, rfl, rfl, rfl, rfl⟩ (by omega)).mono ?_
  · rintro i st ⟨hi0, hlive⟩
    rw [loopF_live hlive]
    by_cases hi : i < s.length
    · have hi' : (i : Int) < s.length := by omega
      obtain ⟨c, hc⟩ : ∃ c, s[i]? = some c := ⟨_, List.getElem?_eq_getElem hi⟩
      have hw : IntKind.i64.wrap ((i : Int) + 1) = ((i + 1 : Nat) : Int) := by rw [wrap_i64 (by omega) (by omega)]; omega
      have hcl := UInt8.toNat_lt c
      have hqs : hexes (s.take (i + 1)) = hexes (s.take i) ++ hexC c := by rw [take_snoc hc, hexes_snoc]
      have hl := hexes_len (s.take i)
      have ht : (s.take i).length ≤ s.length := by rw [List.length_take]; omega
      have w1 : IntKind.u8.wrap ((c.toNat / 16 : Nat) : Int) = ((c.toNat / 16 : Nat) : Int) := wrap_u8 (by omega) (by omega)
      have w2 : IntKind.u8.wrap (((c.toNat / 16 : Nat) : Int) + 1) = ((c.toNat / 16 + 1 : Nat) : Int) := by rw [wrap_u8 (by omega) (by omega)]; omega
      have w3 : IntKind.u8.wrap (((c.toNat % 16 : Nat) : Int) + 1) = ((c.toNat % 16 + 1 : Nat) : Int) := by rw [wrap_u8 (by omega) (by omega)]; omega
      have x1 := hexS_cut (n := c.toNat / 16) (by omega)
      have x2 := hexS_cut (n := c.toNat % 16) (by omega)
      have d1 := tdiv16 c.toNat
      have d2 := tmod16 c.toNat
      have l1 : c.toNat / 16 + 1 ≤ 16 := by omega
      have l2 : c.toNat % 16 + 1 ≤ 16 := by omega
      unfold hexC at hqs
      generalize hq1 : c.toNat / 16 = q1 at *
      generalize hq2 : c.toNat % 16 = q2 at *
      generalize hX : hexes (s.take i) = X at *
      have m1 : X.length + 1 ≤ strLim := by unfold strLim; omega
      have m2 : X.length + 1 + 1 ≤ strLim := by unfold strLim; omega
      simp [Fn.f_haulageref05_hex_b0, Fn.f_haulageref05_hex_s0, hi, hi', hc, hw, d1, d2, w1, w2, w3, l1, l2, x1, x2, m1, m2, -Int.natCast_add, -List.take_succ_cons]
      exact ⟨i + 1, by omega, hi, rfl, by simp [keep, Fn.f_haulageref05_hex_k0, Fn.f_haulageref05_hex_s0, hqs], rfl, rfl⟩
    · have hi' : ¬ (i : Int) < s.length := by omega
      have e : s.take i = s := List.take_of_length_le (by omega)
      simp [Fn.f_haulageref05_hex_b0, Fn.f_haulageref05_hex_s0, hi, hi', e]
  · rintro e st ⟨rfl, h1, h2, h3⟩
    obtain ⟨ts, m', ds⟩ := st
    simp only at h1 h2 h3
    subst h1
    match ts, h2, h3 with
    | t0 :: t1 :: t2 :: t3 :: t4 :: t5 :: t6 :: t7 :: t8 :: t9 :: t10 :: t11 :: t12 :: t13 :: t14 :: t15 :: t16 :: t17 :: t18 :: t19 :: t20 :: t21 :: t22 :: t23 :: t24 :: t25 :: t26 :: t27 :: t28 :: t29 :: t30 :: t31 :: t32 :: t33 :: t34 :: [], h2, h3 =>
      simp only [getD_zero', getD_succ'] at h3
      subst h3
      simp

def stepH : List UInt8 → Option UInt8
  | h :: l :: _ => match hexv h, hexv l with
    | some x, some y => some (UInt8.ofNat (16 * x + y))
    | _, _ => none
  | _ => none
theorem stepH_cons (h l : UInt8) (r : List UInt8) : stepH (h :: l :: r) = match hexv h, hexv l with
    | some x, some y => some (UInt8.ofNat (16 * x + y))
    | _, _ => none := rfl
theorem stepH_some {s : List UInt8} {c : UInt8} (h : stepH s = some c) : s.take 2 = hexC c ∧ 2 ≤ s.length := by
  match s with
  | [] => cases h
  | [_] => cases h
  | a :: b :: r =>
    rw [stepH_cons] at h
    cases hx : hexv a with
    | none => rw [hx] at h; cases h
    | some x =>
      cases hy : hexv b with
      | none => rw [hx, hy] at h; cases h
      | some y =>
        rw [hx, hy] at h
        obtain rfl := Option.some.inj h
        obtain ⟨i1, i2⟩ := hexd_hexv a x hx
        obtain ⟨j1, j2⟩ := hexd_hexv b y hy
        subst i2 j2
        have ht : (UInt8.ofNat (16 * x + y)).toNat = 16 * x + y := by rw [UInt8.toNat_ofNat']; omega
        unfold hexC
        rw [ht]
        have e1 : (16 * x + y) / 16 = x := by omega
        have e2 : (16 * x + y) % 16 = y := by omega
        rw [e1, e2]
        exact ⟨rfl, by simp⟩
theorem stepH_hex (c : UInt8) (t : List UInt8) : stepH (hexC c ++ t) = some c := by
  have hc := UInt8.toNat_lt c
  have e : 16 * (c.toNat / 16) + c.toNat % 16 = c.toNat := by omega
  unfold hexC stepH
  simp only [List.cons_append, List.nil_append, hexv_d (show c.toNat / 16 < 16 by omega), hexv_d (show c.toNat % 16 < 16 by omega), e, UInt8.ofNat_toNat]
def unhX : Nat → List UInt8 → Nat → List UInt8 → List UInt8 × Nat × Bool
  | 0, _, _, _ => ([], 0, false)
  | k + 1, acc, n, s => if s = [] then (acc, n, false) else if s.head? = some 34 then (acc, n, true) else match stepH s with
    | none => ([], 0, false)
    | some c => unhX k (acc ++ [c]) (n + 2) (s.drop 2)
theorem unhX_more : ∀ (k j : Nat) (acc : List UInt8) (n : Nat) (s : List UInt8), s.length < k → s.length < j → unhX k acc n s = unhX j acc n s
  | 0, _, _, _, _, h, _ => absurd h (Nat.not_lt_zero _)
  | _, 0, _, _, _, _, h => absurd h (Nat.not_lt_zero _)
  | k + 1, j + 1, acc, n, s, h1, h2 => by
    unfold unhX
    cases hs : stepH s with
    | none => rfl
    | some c =>
      obtain ⟨_, h3⟩ := stepH_some hs
      simp only
      rw [unhX_more k j (acc ++ [c]) (n + 2) (s.drop 2) (by rw [List.length_drop]; omega) (by rw [List.length_drop]; omega)]
def unh (acc : List UInt8) (n : Nat) (s : List UInt8) : List UInt8 × Nat × Bool := unhX (s.length + 1) acc n s
theorem unh_nil {acc : List UInt8} {n : Nat} : unh acc n [] = (acc, n, false) := rfl
theorem unh_quote {acc : List UInt8} {n : Nat} {s : List UInt8} (h : s.head? = some 34) : unh acc n s = (acc, n, true) := by
  unfold unh unhX
  rw [if_neg (by intro e; subst e; cases h), if_pos h]
theorem unh_none {acc : List UInt8} {n : Nat} {s : List UInt8} (h0 : s ≠ []) (h : ¬ s.head? = some 34) (hs : stepH s = none) : unh acc n s = ([], 0, false) := by
  unfold unh unhX
  rw [if_neg h0, if_neg h, hs]
theorem unh_step {acc : List UInt8} {n : Nat} {s : List UInt8} {c : UInt8} (h : ¬ s.head? = some 34) (hs : stepH s = some c) : unh acc n s = unh (acc ++ [c]) (n + 2) (s.drop 2) := by
  obtain ⟨_, h3⟩ := stepH_some hs
  have e : unhX s.length (acc ++ [c]) (n + 2) (s.drop 2) = unh (acc ++ [c]) (n + 2) (s.drop 2) := unhX_more _ _ _ _ _ (by rw [List.length_drop]; omega) (by omega)
  rw [← e]
  unfold unh
  rw [unhX, if_neg (by intro e; subst e; cases hs), if_neg h, hs]
theorem unh_some : ∀ (k : Nat) (s acc t : List UInt8) (n z : Nat), s.length ≤ k → unh acc n s = (t, z, true) → ∃ r, t = acc ++ r ∧ z = n + 2 * r.length ∧ s.take (2 * r.length + 1) = hexes r ++ [34] ∧ 2 * r.length + 1 ≤ s.length
  | k, s, acc, t, n, z, hk, h => by
    by_cases h0 : s = []
    · subst h0
      rw [unh_nil] at h
      simp at h
    by_cases h1 : s.head? = some 34
    · rw [unh_quote h1] at h
      simp only [Prod.mk.injEq, and_true] at h
      obtain ⟨rfl, rfl⟩ := h
      refine ⟨[], by simp, by simp, ?_, ?_⟩
      · cases s with
        | nil => exact absurd rfl h0
        | cons a r => simp at h1; subst h1; simp [hexes]
      · cases s with
        | nil => exact absurd rfl h0
        | cons a r => simp
    cases hs : stepH s with
    | none =>
      rw [unh_none h0 h1 hs] at h
      simp at h
    | some c =>
      rw [unh_step h1 hs] at h
      obtain ⟨g1, g2⟩ := stepH_some hs
      cases k with
      | zero => exact absurd (List.length_eq_zero_iff.1 (by omega)) h0
      | succ k =>
        obtain ⟨r, r1, r2, r3, r4⟩ := unh_some k (s.drop 2) (acc ++ [c]) t (n + 2) z (by rw [List.length_drop]; omega) h
        rw [List.length_drop] at r4
        refine ⟨c :: r, by rw [r1]; simp, by rw [r2, List.length_cons]; omega, ?_, by rw [List.length_cons]; omega⟩
        have e : hexes (c :: r) = hexC c ++ hexes r := by simp [hexes]
        have e2 : 2 * (c :: r).length + 1 = 2 + (2 * r.length + 1) := by rw [List.length_cons]; omega
        rw [e, e2, List.take_add, g1, r3, List.append_assoc]
end Hx

namespace Hx
open Go
set_option linter.unusedSimpArgs false
set_option linter.unusedVariables false
set_option maxHeartbeats 4000000
variable {E : Env}
attribute [-simp] List.getD_eq_getElem?_getD getElem?_pos
theorem ofNat8 {c : Nat} (h : c < 256) : (UInt8.ofNat c).toNat = c := by rw [UInt8.toNat_ofNat']; omega
theorem starts_no {s : List UInt8} (h : ∀ c : Nat, c < 256 → starts s (quoteC (UInt8.ofNat c)) = false) : stepQ s = none := by
  cases hs : stepQ s with
  | none => rfl
  | some p =>
    obtain ⟨x, n⟩ := p
    have := h x.toNat (UInt8.toNat_lt x)
    rw [UInt8.ofNat_toNat, starts_quote] at this
    obtain ⟨_, h2, _⟩ := step_some hs
    rw [hs, h2] at this
    simp at this
theorem starts_yes {s : List UInt8} {c : UInt8} (h : starts s (quoteC c) = true) : stepQ s = some (c, (quoteC c).length) := by
  rw [starts_quote] at h
  simpa using h
def RqIn (s acc : List UInt8) (i c : Nat) (st : St) : Prop := ∃ m, c ≤ 256 ∧ ((Live Fn.f_haulageref04_Unquote_k1 (Fn.f_haulageref04_Unquote_s1 (.p (.str s)) (.p (.str acc)) (.p (.int .i64 i)) (.p (.bool false)) (.p (.int .i64 c))) m st ∧ ∀ x, x < c → starts (s.drop i) (quoteC (UInt8.ofNat x)) = false) ∨
  (∃ x n, stepQ (s.drop i) = some (x, n) ∧ Live Fn.f_haulageref04_Unquote_k1 (Fn.f_haulageref04_Unquote_s1 (.p (.str s)) (.p (.str (acc ++ [x]))) (.p (.int .i64 ((i + n : Nat) : Int))) (.p (.bool true)) (.p (.int .i64 c))) m st))
theorem ref_Unquote_in (u : Q05 E) (h69 : E.fn 69 = some Fn.f_haulageref04_starts) (s acc : List UInt8) (i : Nat) (hs : (s.length : Int) ≤ 1000000000) (hi : i < s.length) (ha : acc.length ≤ i) (K : Nat) (hK : 260 ≤ K) (m : Mem) (st : St)
    (hst : Live Fn.f_haulageref04_Unquote_k1 (Fn.f_haulageref04_Unquote_s1 (.p (.str s)) (.p (.str acc)) (.p (.int .i64 i)) (.p (.bool false)) (.p (.int .i64 0))) m st) :
    Wp (iter (loopF E (denF E K) K Fn.f_haulageref04_Unquote_k1 Fn.f_haulageref04_Unquote_b1) K st)
      (fun e st => e = .exit 2 ∧ st.ds = [] ∧ st.ts.length = 62 ∧ st.ts.getD 0 (.tup []) = .p (.str s) ∧
        ((stepQ (s.drop i) = none ∧ st.ts.getD 7 (.tup []) = .p (.bool false)) ∨
         (∃ x n, stepQ (s.drop i) = some (x, n) ∧ st.ts.getD 7 (.tup []) = .p (.bool true) ∧ st.ts.getD 5 (.tup []) = .p (.str (acc ++ [x])) ∧ st.ts.getD 6 (.tup []) = .p (.int .i64 ((i + n : Nat) : Int))))) := by
  obtain ⟨j, rfl⟩ : ∃ j, K = j + 1 := ⟨K - 1, by omega⟩
  refine loop_wp (α := Nat) (I := fun c st => RqIn s acc i c st) (meas := fun c => 257 - c) ?_ (j + 1) 0 st ⟨m, by omega, .inl ⟨hst, by intro x hx; omega⟩⟩ (by omega)
  rintro c st ⟨m, hc, ⟨hlive, hno⟩ | ⟨x, n, hx, hlive⟩⟩
  · rw [loopF_live hlive]
    by_cases hc2 : c < 256
    · have hc' : (c : Int) < 256 := by omega
      have w1 : IntKind.u8.wrap (c : Int) = c := wrap_u8 (by omega) (by omega)
      have w2 : IntKind.i64.wrap ((c : Int) + 1) = ((c + 1 : Nat) : Int) := by rw [wrap_i64 (by omega) (by omega)]; omega
      have hO := fun m => ref_one4 u j (UInt8.ofNat c) m
      have hS := fun m => ref_starts h69 j (s.drop i) (quoteC (UInt8.ofNat c)) m
      rw [ofNat8 hc2] at hO
      have hle : i ≤ s.length := by omega
      cases hq : starts (s.drop i) (quoteC (UInt8.ofNat c)) with
      | false =>
        rw [hq] at hS
        simp [Fn.f_haulageref04_Unquote_b1, Fn.f_haulageref04_Unquote_s1, hc', w1, w2, hO, hS, hle]
        refine ⟨c + 1, by omega, m, hc2, .inl ⟨⟨rfl, by simp [keep, Fn.f_haulageref04_Unquote_k1, Fn.f_haulageref04_Unquote_s1], rfl, rfl⟩, ?_⟩⟩
        intro x hx
        by_cases hxc : x = c
        · subst hxc; exact hq
        · exact hno x (by omega)
      | true =>
        rw [hq] at hS
        have hst := starts_yes hq
        have hq4 := quoteC_len (UInt8.ofNat c)
        have hlim : acc.length + 1 ≤ strLim := by unfold strLim; omega
        have w3 : IntKind.i64.wrap ((i : Int) + (quoteC (UInt8.ofNat c)).length) = ((i + (quoteC (UInt8.ofNat c)).length : Nat) : Int) := by rw [wrap_i64 (by omega) (by omega)]; omega
        simp [Fn.f_haulageref04_Unquote_b1, Fn.f_haulageref04_Unquote_s1, hc', w1, w2, w3, hO, hS, hle, unBytes, unByte, hlim, -Int.natCast_add]
        exact ⟨c + 1, by omega, _, hc2, .inr ⟨_, _, hst, ⟨rfl, by simp [keep, Fn.f_haulageref04_Unquote_k1, Fn.f_haulageref04_Unquote_s1], rfl, rfl⟩⟩⟩
    · have hc' : ¬ (c : Int) < 256 := by omega
      have hnone := starts_no (s := s.drop i) (fun x hx => hno x (by omega))
      simp [Fn.f_haulageref04_Unquote_b1, Fn.f_haulageref04_Unquote_s1, hc', hnone]
  · rw [loopF_live hlive]
    by_cases hc2 : (c : Int) < 256
    · simp [Fn.f_haulageref04_Unquote_b1, Fn.f_haulageref04_Unquote_s1, hc2, hx]
      exact ⟨x, n, ⟨rfl, rfl⟩, rfl, rfl⟩
    · simp [Fn.f_haulageref04_Unquote_b1, Fn.f_haulageref04_Unquote_s1, hc2, hx]
      exact ⟨x, n, ⟨rfl, rfl⟩, rfl, rfl⟩
def RqInv (s : List UInt8) (i : Nat) (st : St) : Prop := ∃ (acc : List UInt8) (m : Mem), UInv s i acc ∧ Live Fn.f_haulageref04_Unquote_k0 (Fn.f_haulageref04_Unquote_s0 (.p (.str s)) (.p (.str acc)) (.p (.int .i64 i))) m st
theorem RqInv.mk {s : List UInt8} {i : Nat} {st : St} (acc : List UInt8) (m : Mem) (h1 : UInv s i acc) (h3 : Live Fn.f_haulageref04_Unquote_k0 (Fn.f_haulageref04_Unquote_s0 (.p (.str s)) (.p (.str acc)) (.p (.int .i64 i))) m st) : RqInv s i st := ⟨acc, m, h1, h3⟩
theorem ref_Unquote (u : Q05 E) (h69 : E.fn 69 = some Fn.f_haulageref04_starts) (h52 : E.fn 52 = some Fn.f_haulageref04_Unquote) (s : List UInt8) (hs : (s.length : Int) ≤ 1000000000) (k : Nat) (hk : s.length + 260 ≤ k) (m : Mem) : denF E (k + 1) 52 [.p (.str s)] m = some (.ret (unquoteV s), m) := by
  refine denF_wp h52 rfl (args' := [.p (.str s)]) rfl ?_
  unfold unquoteV
  cases s with
  | nil => simp [Fn.f_haulageref04_Unquote]
  | cons a r =>
  by_cases h34 : ¬ a = 34
  · have g := u8ne h34
    have g34 : ((34 : UInt8).toNat : Int) = 34 := rfl
    rw [g34] at g
    simp [Fn.f_haulageref04_Unquote, g, bne, h34]
  obtain rfl := Classical.not_not.1 h34
  have hh : (34 :: r : List UInt8).head? = some 34 := rfl
  rw [if_pos hh]
  simp [Fn.f_haulageref04_Unquote, bne]
  have hU0 := uinv_0 hh
  generalize hsx : (34 :: r : List UInt8) = s at *
  have htail : r = s.tail := by rw [← hsx]; rfl
  rw [htail]
  refine (loop_wp (α := Nat) (I := fun i st => RqInv s i st) (meas := fun i => s.length - i)
    (Q := fun e st => st.ds = [] ∧ ((e = .exit 0 ∧ st.ts.length = 62 ∧ st.ts.getD 0 (.tup []) = .p (.str s) ∧ (∃ acc i, st.ts.getD 5 (.tup []) = .p (.str acc) ∧ st.ts.getD 6 (.tup []) = .p (.int .i64 ((i : Nat) : Int)) ∧ ((s.length ≤ i ∧ unq s.tail = none) ∨ (i < s.length ∧ unq s.tail = some (acc, i))))) ∨
      (e = .ret ∧ unq s.tail = none ∧ st.ts.getD 2 (.tup []) = .p (.str []) ∧ st.ts.getD 3 (.tup []) = .p (.int .i64 0) ∧ st.ts.getD 4 (.tup []) = .p (.bool false)))) ?_ k 1 _ (RqInv.mk [] [] hU0 ⟨rfl, rfl, rfl, rfl⟩) (by omega)).mono ?_
  · rintro i st ⟨D, m, hU, hlive⟩
    rw [loopF_live hlive]
    have hi0 := hU.2.1
    have hDl := hU.2.2.1
    by_cases hi : i < s.length
    · have hi' : (i : Int) < s.length := by omega
      obtain ⟨c, hc⟩ : ∃ c, s[i]? = some c := ⟨_, List.getElem?_eq_getElem hi⟩
      have hdrop : s.drop i = c :: s.drop (i + 1) := drop_at hc
      have g34 : ((34 : UInt8).toNat : Int) = 34 := rfl
      by_cases c34 : c = 34
      · subst c34
        have hq := uinv_quote hU (by rw [hdrop]; rfl)
        simp [Fn.f_haulageref04_Unquote_b0, Fn.f_haulageref04_Unquote_s0, hi, hi', hc, bne]
        exact ⟨i, rfl, .inr ⟨hi, hq⟩⟩
      have g := u8ne c34
      rw [g34] at g
      have hn34 : ¬ (s.drop i).head? = some 34 := by
        rw [head_at, hc]
        simpa using c34
      simp [Fn.f_haulageref04_Unquote_b0, Fn.f_haulageref04_Unquote_s0, hi, hi', hc, bne, g]
      refine (ref_Unquote_in u h69 s D i hs hi hDl k (by omega) m _ ⟨rfl, rfl, rfl, rfl⟩).mono ?_
      rintro e st ⟨rfl, q1, q2, q3, q4⟩
      obtain ⟨ts, m', ds⟩ := st
      simp only at q1 q2 q3 q4
      subst q1
      rcases q4 with ⟨hnone, q4⟩ | ⟨x, n, hx, q4, q5, q6⟩
      · have := uinv_none hU hn34 hnone
        match ts, q2, q3, q4 with
        | t0 :: t1 :: t2 :: t3 :: t4 :: t5 :: t6 :: t7 :: t8 :: t9 :: t10 :: t11 :: t12 :: t13 :: t14 :: t15 :: t16 :: t17 :: t18 :: t19 :: t20 :: t21 :: t22 :: t23 :: t24 :: t25 :: t26 :: t27 :: t28 :: t29 :: t30 :: t31 :: t32 :: t33 :: t34 :: t35 :: t36 :: t37 :: t38 :: t39 :: t40 :: t41 :: t42 :: t43 :: t44 :: t45 :: t46 :: t47 :: t48 :: t49 :: t50 :: t51 :: t52 :: t53 :: t54 :: t55 :: t56 :: t57 :: t58 :: t59 :: t60 :: t61 :: [], q2, q3, q4 =>
          simp only [getD_zero', getD_succ'] at q3 q4
          subst q3 q4
          simp [this]
      · have hU1 := uinv_step hU hn34 hx
        have hp := step_pos hx
        match ts, q2, q3, q4, q5, q6 with
        | t0 :: t1 :: t2 :: t3 :: t4 :: t5 :: t6 :: t7 :: t8 :: t9 :: t10 :: t11 :: t12 :: t13 :: t14 :: t15 :: t16 :: t17 :: t18 :: t19 :: t20 :: t21 :: t22 :: t23 :: t24 :: t25 :: t26 :: t27 :: t28 :: t29 :: t30 :: t31 :: t32 :: t33 :: t34 :: t35 :: t36 :: t37 :: t38 :: t39 :: t40 :: t41 :: t42 :: t43 :: t44 :: t45 :: t46 :: t47 :: t48 :: t49 :: t50 :: t51 :: t52 :: t53 :: t54 :: t55 :: t56 :: t57 :: t58 :: t59 :: t60 :: t61 :: [], q2, q3, q4, q5, q6 =>
          simp only [getD_zero', getD_succ'] at q3 q4 q5 q6
          subst q3 q4 q5 q6
          simp
          exact ⟨i + n, by omega, RqInv.mk (D ++ [x]) _ hU1 ⟨rfl, rfl, rfl, rfl⟩⟩
    · have hi' : ¬ (i : Int) < s.length := by omega
      have hnil : s.drop i = [] := List.drop_eq_nil_of_le (by omega)
      have := uinv_none hU (by rw [hnil]; simp) (by rw [hnil]; rfl)
      simp [Fn.f_haulageref04_Unquote_b0, Fn.f_haulageref04_Unquote_s0, hi, hi', this]
      exact ⟨i, rfl, by omega⟩
  · rintro e st ⟨h0, h⟩
    obtain ⟨ts, m', ds⟩ := st
    simp only at h0 h
    subst h0
    rcases h with ⟨rfl, hl, q0, D, i, q1, q2, ⟨hi, hx⟩ | ⟨hi, hx⟩⟩ | ⟨rfl, hq, q1, q2, q3⟩
    · rw [hx]
      have hi' : (s.length : Int) ≤ i := by omega
      match ts, hl, q0, q1, q2 with
      | t0 :: t1 :: t2 :: t3 :: t4 :: t5 :: t6 :: t7 :: t8 :: t9 :: t10 :: t11 :: t12 :: t13 :: t14 :: t15 :: t16 :: t17 :: t18 :: t19 :: t20 :: t21 :: t22 :: t23 :: t24 :: t25 :: t26 :: t27 :: t28 :: t29 :: t30 :: t31 :: t32 :: t33 :: t34 :: t35 :: t36 :: t37 :: t38 :: t39 :: t40 :: t41 :: t42 :: t43 :: t44 :: t45 :: t46 :: t47 :: t48 :: t49 :: t50 :: t51 :: t52 :: t53 :: t54 :: t55 :: t56 :: t57 :: t58 :: t59 :: t60 :: t61 :: [], hl, q0, q1, q2 =>
        simp only [getD_zero', getD_succ'] at q0 q1 q2
        subst q0 q1 q2
        simp [hi, hi']
    · rw [hx]
      have hi' : ¬ (s.length : Int) ≤ i := by omega
      have hi2 : ¬ s.length ≤ i := by omega
      have hw : IntKind.i64.wrap ((i : Int) + 1) = i + 1 := wrap_i64 (by omega) (by omega)
      match ts, hl, q0, q1, q2 with
      | t0 :: t1 :: t2 :: t3 :: t4 :: t5 :: t6 :: t7 :: t8 :: t9 :: t10 :: t11 :: t12 :: t13 :: t14 :: t15 :: t16 :: t17 :: t18 :: t19 :: t20 :: t21 :: t22 :: t23 :: t24 :: t25 :: t26 :: t27 :: t28 :: t29 :: t30 :: t31 :: t32 :: t33 :: t34 :: t35 :: t36 :: t37 :: t38 :: t39 :: t40 :: t41 :: t42 :: t43 :: t44 :: t45 :: t46 :: t47 :: t48 :: t49 :: t50 :: t51 :: t52 :: t53 :: t54 :: t55 :: t56 :: t57 :: t58 :: t59 :: t60 :: t61 :: [], hl, q0, q1, q2 =>
        simp only [getD_zero', getD_succ'] at q0 q1 q2
        subst q0 q1 q2
        simp [hi2, hi', hw]
    · simp [hq, q1, q2, q3]
end Hx

namespace Hx
open Go
set_option linter.unusedSimpArgs false
set_option linter.unusedVariables false
set_option maxHeartbeats 4000000
variable {E : Env}
attribute [-simp] List.getD_eq_getElem?_getD getElem?_pos
attribute [local simp] intBeq maxIf
def fits32 (n : Int) : Bool := decide (-2147483648 ≤ n ∧ n < 2147483648)
structure F06 (E : Env) : Prop where
  low : E.fn 70 = some Fn.f_word_Low
  fits : E.fn 55 = some Fn.f_word_Fits
  half : E.fn 56 = some Fn.f_haulageref01_Half
  rFits : E.fn 36 = some Fn.f_haulageref01_Fits
theorem low32 (n : Int) (h1 : -9223372036854775808 ≤ n) (h2 : n ≤ 9223372036854775807) : decide ((IntKind.i64.wrap (n * 4294967296)).fdiv 4294967296 = n) = fits32 n := by
  have : IntKind.i64.wrap (n * 4294967296) = (n * 4294967296 + 9223372036854775808) % 18446744073709551616 - 9223372036854775808 := by
    simp only [IntKind.wrap, IntKind.signed, IntKind.bits]
    simp
    split <;> omega
  rw [this, Int.fdiv_eq_ediv_of_nonneg _ (by omega)]
  unfold fits32
  congr 1
  apply propext
  omega
theorem word_Fits (u : F06 E) (k : Nat) (n : Int) (h1 : -9223372036854775808 ≤ n) (h2 : n ≤ 9223372036854775807) (m : Mem) : denF E (k + 2) 55 [.p (.int .i64 n), .p (.int .i64 32)] m = some (.ret (.p (.bool (fits32 n))), m) := by
  have hlow : ∀ m, denF E (k + 1) 70 [.p (.int .i64 n), .p (.int .i64 32)] m = some (.ret (.p (.int .i64 ((IntKind.i64.wrap (n * 4294967296)).fdiv 4294967296))), m) := by
    intro m
    refine denF_wp u.low rfl (args' := [.p (.int .i64 n), .p (.int .i64 32)]) rfl ?_
    have hw : IntKind.i64.wrap 32 = 32 := rfl
    simp [Fn.f_word_Low, hw]
  refine denF_wp u.fits rfl (args' := [.p (.int .i64 n), .p (.int .i64 32)]) rfl ?_
  simp [Fn.f_word_Fits, hlow]
  rw [low32 n h1 h2]
def pw (i : Nat) : Int := ((2 ^ i : Nat) : Int)
theorem pw_succ (i : Nat) : pw (i + 1) = 2 * pw i := by
  unfold pw
  rw [Nat.pow_succ]
  omega
theorem pw_pos (i : Nat) : 0 ≤ pw i := Int.natCast_nonneg _
theorem pw_le {i : Nat} (h : i ≤ 30) : pw i ≤ 1073741824 := by
  have : 2 ^ i ≤ 2 ^ 30 := Nat.pow_le_pow_right (by omega) h
  unfold pw
  omega
theorem ref_Half (u : F06 E) (k : Nat) (m : Mem) : denF E (k + 40) 56 [.p (.int .i64 32)] m = some (.ret (.p (.int .i64 2147483648)), m) := by
  refine denF_wp u.half rfl (args' := [.p (.int .i64 32)]) rfl ?_
  simp [Fn.f_haulageref01_Half]
  refine (loop_wp (α := Nat) (I := fun i st => i ≤ 31 ∧ Live Fn.f_haulageref01_Half_k0 (Fn.f_haulageref01_Half_s0 (.p (.int .i64 32)) (.p (.int .i64 (pw i))) (.p (.int .i64 (i + 1)))) [] st) (meas := fun i => 31 - i)
    (Q := fun e st => e = .exit 0 ∧ st.ds = [] ∧ st.ts.length = 13 ∧ st.ts.getD 3 (.tup []) = .p (.int .i64 2147483648)) ?_ (k + 39) 0 _ ⟨Nat.zero_le _, rfl, rfl, rfl, rfl⟩ (by omega)).mono ?_
  · rintro i st ⟨hi0, hlive⟩
    rw [loopF_live hlive]
    have hw1 : IntKind.i64.wrap ((i : Int) + 1 + 1) = i + 2 := by rw [wrap_i64] <;> omega
    by_cases hi : i = 31
    · subst hi
      have h31 : pw 31 = 2147483648 := rfl
      simp [Fn.f_haulageref01_Half_b0, Fn.f_haulageref01_Half_s0, h31]
    · have hi' : (i : Int) + 1 < 32 := by omega
      have hw2 : IntKind.i64.wrap (2 * pw i) = pw (i + 1) := by
        have := pw_pos i
        have := pw_le (i := i) (by omega)
        rw [wrap_i64 (by omega) (by omega), pw_succ]
      simp [Fn.f_haulageref01_Half_b0, Fn.f_haulageref01_Half_s0, hi', hw1, hw2]
      exact ⟨i + 1, by omega, by omega, rfl, by simp [keep, Fn.f_haulageref01_Half_k0, Fn.f_haulageref01_Half_s0]; omega, rfl, rfl⟩
  · rintro e st ⟨rfl, h1, h2, h3⟩
    obtain ⟨ts, m', ds⟩ := st
    simp only at h1 h2 h3
    match ts, h2, h3 with
    | [t0, t1, t2, t3, t4, t5, t6, t7, t8, t9, t10, t11, t12], h2, h3 =>
      simp at h3
      simp [h1, h3]
theorem ref_Fits (u : F06 E) (k : Nat) (n : Int) (m : Mem) : denF E (k + 41) 36 [.p (.int .i64 n), .p (.int .i64 32)] m = some (.ret (.p (.bool (fits32 n))), m) := by
  refine denF_wp u.rFits rfl (args' := [.p (.int .i64 n), .p (.int .i64 32)]) rfl ?_
  have hh := fun m => ref_Half u k m
  have hw : IntKind.i64.wrap (-2147483648) = -2147483648 := rfl
  unfold fits32
  by_cases h : -2147483648 ≤ n
  · simp [Fn.f_haulageref01_Fits, hh, hw, h]
  · simp [Fn.f_haulageref01_Fits, hh, hw, h]
end Hx
