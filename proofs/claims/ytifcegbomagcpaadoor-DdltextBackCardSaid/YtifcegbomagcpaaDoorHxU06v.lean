/-
  HxU06v: right values.
-/
import Derived.Test.YtifcegbomagcpaaDoorHxV05g
import Derived.Test.YtifcegbomagcpaaDoorHxU06
namespace Hx
open Go
set_option linter.unusedSimpArgs false
set_option linter.unusedVariables false
set_option maxHeartbeats 4000000
variable {E : Env}
attribute [-simp] List.getD_eq_getElem?_getD getElem?_pos
theorem head_at {s : List UInt8} {i : Nat} : (s.drop i).head? = s[i]? := by rw [List.head?_drop]
theorem u8ne {c d : UInt8} (h : c ≠ d) : ((c.toNat : Int) == d.toNat) = false := by
  have : (c == d) = false := by simpa using h
  rw [u8beq] at this; exact this
def UqInv (s : List UInt8) (i : Nat) (st : St) : Prop := ∃ (acc : List UInt8) (ov : AV) (m : Mem), UInv s i acc ∧ Grow 1 (byteRows acc) ov m ∧ Live Fn.f_name_Unquote_k0 (Fn.f_name_Unquote_s0 (.p (.str s)) ov (.p (.int .i64 i))) m st
theorem UqInv.mk {s : List UInt8} {i : Nat} {st : St} (acc : List UInt8) (ov : AV) (m : Mem) (h1 : UInv s i acc) (h2 : Grow 1 (byteRows acc) ov m) (h3 : Live Fn.f_name_Unquote_k0 (Fn.f_name_Unquote_s0 (.p (.str s)) ov (.p (.int .i64 i))) m st) : UqInv s i st := ⟨acc, ov, m, h1, h2, h3⟩
theorem grow_one {D : List UInt8} {ov : AV} {m : Mem} (hg : Grow 1 (byteRows D) ov m) (hl : D.length < 1000000000000) (c : UInt8) : (D = [] ∧ ov = .p .nils) ∨ (∃ t, ov = .tv 1 (byteRows D) t ∧ ∀ z : Blk, (m ++ [z])[t]? = some (.tok 1 D.length)) := by
  rcases hg with ⟨hr, rfl⟩ | ⟨hr, t, rfl, ht⟩
  · exact .inl ⟨by simpa [byteRows] using hr, rfl⟩
  · exact .inr ⟨t, rfl, fun z => by rw [get_app ht, byteRows_len']⟩
theorem grow_nil1 {m : Mem} {c : UInt8} : Grow 1 (byteRows [c]) (.tv 1 (byteRows [c]) (m.length + 1)) (m ++ [Blk.tok 1 1, Blk.tok 1 1]) := .inr ⟨by simp [byteRows], m.length + 1, rfl, by rw [List.getElem?_append_right (by omega)]; simp [byteRows]⟩
theorem grow_set1 {m : Mem} {D : List UInt8} {c : UInt8} {t : Nat} (ht2 : ∀ z : Blk, (m ++ [z])[t]? = some (.tok 1 D.length)) : Grow 1 (byteRows (D ++ [c])) (.tv 1 (byteRows (D ++ [c])) t) ((m ++ [Blk.tok 1 1]).set t (.tok 1 (D.length + 1))) := .inr ⟨by simp [byteRows], t, rfl, by rw [get_set (ht2 _), byteRows_len']; simp⟩
theorem name_Unquote (u : Q05 E) (s : List UInt8) (hs : (s.length : Int) ≤ 1000000000) (k : Nat) (hk : s.length + 10 ≤ k) (m : Mem) : denF E (k + 1) 62 [.p (.str s)] m = some (.ret (unquoteV s), m) := by
  refine denF_wp u.unquote rfl (args' := [.p (.str s)]) rfl ?_
  obtain ⟨j, rfl⟩ : ∃ j, k = j + 3 := ⟨k - 3, by omega⟩
  unfold unquoteV
  cases s with
  | nil => simp [Fn.f_name_Unquote]
  | cons a r =>
  by_cases h34 : ¬ a = 34
  · have g := u8ne h34
    have g34 : ((34 : UInt8).toNat : Int) = 34 := rfl
    rw [g34] at g
    simp [Fn.f_name_Unquote, g, bne, h34]
  obtain rfl := Classical.not_not.1 h34
  have hh : (34 :: r : List UInt8).head? = some 34 := rfl
  rw [if_pos hh]
  simp [Fn.f_name_Unquote, bne]
  have hU0 := uinv_0 hh
  generalize hsx : (34 :: r : List UInt8) = s at *
  have htail : r = s.tail := by rw [← hsx]; rfl
  rw [htail]
  refine (loop_wp (α := Nat) (I := fun i st => UqInv s i st) (meas := fun i => s.length - i)
    (Q := fun e st => st.ds = [] ∧ ((e = .exit 0 ∧ unq s.tail = none ∧ st.ts.length = 60) ∨ (e = .ret ∧ ∃ q, unq s.tail = some q ∧ st.ts.getD 2 (.tup []) = .p (.str q.1) ∧ st.ts.getD 3 (.tup []) = .p (.int .i64 ((q.2 : Int) + 1)) ∧ st.ts.getD 4 (.tup []) = .p (.bool true)) ∨
      (e = .ret ∧ unq s.tail = none ∧ st.ts.getD 2 (.tup []) = .p (.str []) ∧ st.ts.getD 3 (.tup []) = .p (.int .i64 0) ∧ st.ts.getD 4 (.tup []) = .p (.bool false)))) ?_ (j + 3) 1 _ (UqInv.mk [] (.p .nils) [] hU0 (.inl ⟨rfl, rfl⟩) ⟨rfl, rfl, rfl, rfl⟩) (by omega)).mono ?_
  · rintro i st ⟨D, ov, m, hU, hg, hlive⟩
    rw [loopF_live hlive]
    have hi0 := hU.2.1
    have hDl := hU.2.2.1
    by_cases hi : i < s.length
    · have hi' : (i : Int) < s.length := by omega
      obtain ⟨c, hc⟩ : ∃ c, s[i]? = some c := ⟨_, List.getElem?_eq_getElem hi⟩
      have hw : IntKind.i64.wrap ((i : Int) + 1) = i + 1 := wrap_i64 (by omega) (by omega)
      have hP := fun m => name_plain u (j + 2) c m
      have hdrop : s.drop i = c :: s.drop (i + 1) := drop_at hc
      have hgo := grow_one hg (by omega) c
      by_cases c34 : c = 34
      · subst c34
        have hq := uinv_quote hU (by rw [hdrop]; rfl)
        have g34 : ((34 : UInt8).toNat : Int) = 34 := rfl
        have hun := unBytes_rows' D
        rcases hgo with ⟨rfl, rfl⟩ | ⟨t, rfl, ht2⟩
        · simp [Fn.f_name_Unquote_b0, Fn.f_name_Unquote_s0, hi, hi', hc, hw, hq, unBytes]
        · simp [Fn.f_name_Unquote_b0, Fn.f_name_Unquote_s0, hi, hi', hc, hw, hun, hq]
      have g := u8ne c34
      have g34 : ((34 : UInt8).toNat : Int) = 34 := rfl
      rw [g34] at g
      have hn34 : ¬ (s.drop i).head? = some 34 := by
        rw [head_at, hc]
        simpa using c34
      have happ : byteRows (D ++ [c]) = byteRows D ++ [[PV.int .u8 c.toNat]] := by simp [byteRows, byteRow]
      have hbl := byteRows_len' D
      have hb2 : D.length + 1 ≤ room := by unfold room; omega
      cases hp : plainC c with
      | true =>
        rw [hp] at hP
        have hst : stepQ (s.drop i) = some (c, 1) := by rw [hdrop, stepQ_cons, if_pos hp]
        have hU1 := uinv_step hU hn34 hst
        rcases hgo with ⟨rfl, rfl⟩ | ⟨t, rfl, ht2⟩
        · simp [Fn.f_name_Unquote_b0, Fn.f_name_Unquote_s0, hi, hi', hc, hw, g, hP, room]
          exact ⟨i + 1, by omega, UqInv.mk [c] (.tv 1 (byteRows [c]) (m.length + 1)) _ hU1 grow_nil1 ⟨rfl, by simp [keep, Fn.f_name_Unquote_k0, Fn.f_name_Unquote_s0, byteRows, byteRow], rfl, rfl⟩⟩
        · simp [Fn.f_name_Unquote_b0, Fn.f_name_Unquote_s0, hi, hi', hc, hw, g, hP, hbl, hb2, ht2]
          exact ⟨i + 1, by omega, UqInv.mk (D ++ [c]) (.tv 1 (byteRows (D ++ [c])) t) _ hU1 (grow_set1 ht2) ⟨rfl, by simp [keep, Fn.f_name_Unquote_k0, Fn.f_name_Unquote_s0, happ], rfl, rfl⟩⟩
      | false =>
        rw [hp] at hP
        by_cases c92 : c = 92
        · subst c92
          have g92 : ((92 : UInt8).toNat : Int) = 92 := rfl
          rw [g92] at hP g
          have hE := fun m => name_escaped u j (s.drop (i + 1)) m
          have hlt : i + 1 ≤ s.length := hi
          have hst0 : stepQ (s.drop i) = if (esc (s.drop (i + 1))).2 = 0 then none else some ((esc (s.drop (i + 1))).1, (esc (s.drop (i + 1))).2 + 1) := by rw [hdrop, stepQ_cons, if_neg (by rw [hp]; simp), if_pos rfl]
          have t1 : ((i : Int) + 1).toNat = i + 1 := by omega
          have p1 : (0 : Int) ≤ (i : Int) + 1 := by omega
          obtain ⟨x, hx⟩ : ∃ x, (esc (s.drop (i + 1))).1 = x := ⟨_, rfl⟩
          obtain ⟨n, hn⟩ : ∃ n, (esc (s.drop (i + 1))).2 = n := ⟨_, rfl⟩
          rw [hx, hn] at hE hst0
          cases n with
          | zero =>
            have := uinv_none hU hn34 (by rw [hst0]; rfl)
            simp [Fn.f_name_Unquote_b0, Fn.f_name_Unquote_s0, hi, hi', hc, hw, g, hP, hE, this, hlt, t1, p1]
          | succ n =>
            have hst : stepQ (s.drop i) = some (x, n + 2) := by rw [hst0, if_neg (by omega)]
            have hU1 := uinv_step hU hn34 hst
            have hle := hU1.2.1
            have hw3 : IntKind.i64.wrap ((i : Int) + ((n : Int) + 1)) = (i : Int) + n + 1 := by rw [wrap_i64] <;> omega
            have hw4 : IntKind.i64.wrap ((i : Int) + n + 1 + 1) = ((i + (n + 2) : Nat) : Int) := by rw [wrap_i64] <;> omega
            have happ : byteRows (D ++ [x]) = byteRows D ++ [[PV.int .u8 x.toNat]] := by simp [byteRows, byteRow]
            have hn0 : ((n : Int) + 1 == 0) = false := by simp; omega
            rcases hgo with ⟨rfl, rfl⟩ | ⟨t, rfl, ht2⟩
            · simp [Fn.f_name_Unquote_b0, Fn.f_name_Unquote_s0, hi, hi', hc, hw, g, hP, hE, hlt, t1, p1, hn0, hw3, hw4, room]
              exact ⟨i + (n + 2), by omega, UqInv.mk [x] (.tv 1 (byteRows [x]) (m.length + 1)) _ hU1 grow_nil1 ⟨rfl, by simp [keep, Fn.f_name_Unquote_k0, Fn.f_name_Unquote_s0, byteRows, byteRow, hw4], rfl, rfl⟩⟩
            · simp [Fn.f_name_Unquote_b0, Fn.f_name_Unquote_s0, hi, hi', hc, hw, g, hP, hE, hlt, t1, p1, hn0, hw3, hw4, hbl, hb2, ht2]
              exact ⟨i + (n + 2), by omega, UqInv.mk (D ++ [x]) (.tv 1 (byteRows (D ++ [x])) t) _ hU1 (grow_set1 ht2) ⟨rfl, by simp [keep, Fn.f_name_Unquote_k0, Fn.f_name_Unquote_s0, happ, hw4], rfl, rfl⟩⟩
        · have g2 := u8ne c92
          have g92 : ((92 : UInt8).toNat : Int) = 92 := rfl
          rw [g92] at g2
          have hst : stepQ (s.drop i) = none := by rw [hdrop, stepQ_cons, if_neg (by rw [hp]; simp), if_neg c92]
          have := uinv_none hU hn34 hst
          simp [Fn.f_name_Unquote_b0, Fn.f_name_Unquote_s0, hi, hi', hc, hw, g, g2, hP, this]
    · have hi' : ¬ (i : Int) < s.length := by omega
      have hnil : s.drop i = [] := List.drop_eq_nil_of_le (by omega)
      have := uinv_none hU (by rw [hnil]; simp) (by rw [hnil]; rfl)
      simp [Fn.f_name_Unquote_b0, Fn.f_name_Unquote_s0, hi, hi', this]
  · rintro e st ⟨h0, h⟩
    obtain ⟨ts, m', ds⟩ := st
    simp only at h0 h
    subst h0
    rcases h with ⟨rfl, hx, hl⟩ | ⟨rfl, q, hq, q1, q2, q3⟩ | ⟨rfl, hq, q1, q2, q3⟩
    · rw [hx]
      match ts, hl with
      | t0 :: t1 :: t2 :: t3 :: t4 :: t5 :: t6 :: t7 :: t8 :: t9 :: t10 :: t11 :: t12 :: t13 :: t14 :: t15 :: t16 :: t17 :: t18 :: t19 :: t20 :: t21 :: t22 :: t23 :: t24 :: t25 :: t26 :: t27 :: t28 :: t29 :: t30 :: t31 :: t32 :: t33 :: t34 :: t35 :: t36 :: t37 :: t38 :: t39 :: t40 :: t41 :: t42 :: t43 :: t44 :: t45 :: t46 :: t47 :: t48 :: t49 :: t50 :: t51 :: t52 :: t53 :: t54 :: t55 :: t56 :: t57 :: t58 :: t59 :: [], hl => simp
    · simp [hq, q1, q2, q3]
    · simp [hq, q1, q2, q3]
end Hx

namespace Hx
open Go
set_option linter.unusedSimpArgs false
set_option linter.unusedVariables false
set_option maxHeartbeats 4000000
variable {E : Env}
attribute [-simp] List.getD_eq_getElem?_getD getElem?_pos
def hexC (c : UInt8) : List UInt8 := [hexd (c.toNat / 16), hexd (c.toNat % 16)]
def hexes (s : List UInt8) : List UInt8 := s.flatMap hexC
theorem hexes_snoc (s : List UInt8) (c : UInt8) : hexes (s ++ [c]) = hexes s ++ hexC c := by simp [hexes]
theorem hexes_len (s : List UInt8) : (hexes s).length = 2 * s.length := by
  induction s with
  | nil => rfl
  | cons c s ih =>
    have e : hexes (c :: s) = hexC c ++ hexes s := by simp [hexes]
    have : (hexC c).length = 2 := rfl
    rw [e, List.length_append, ih, List.length_cons]
    omega
structure H05 (E : Env) : Prop where
  q : Q05 E
  rhex : E.fn 61 = some Fn.f_haulageref05_hex

def stepH : List UInt8 → Option UInt8
  | h :: l :: _ => match hexv h, hexv l with
    | some x, some y => some (UInt8.ofNat (16 * x + y))
    | _, _ => none
  | _ => none
theorem stepH_cons (h l : UInt8) (r : List UInt8) : stepH (h :: l :: r) = match hexv h, hexv l with
    | some x, some y => some (UInt8.ofNat (16 * x + y))
    | _, _ => none := rfl
theorem stepH_some {s : List UInt8} {c : UInt8} (h : stepH s = some c) : s.take 2 = hexC c ∧ 2 ≤ s.length := by
  match s with
  | [] => cases h
  | [_] => cases h
  | a :: b :: r =>
    rw [stepH_cons] at h
    cases hx : hexv a with
    | none => rw [hx] at h; cases h
    | some x =>
      cases hy : hexv b with
      | none => rw [hx, hy] at h; cases h
      | some y =>
        rw [hx, hy] at h
        obtain rfl := Option.some.inj h
        obtain ⟨i1, i2⟩ := hexd_hexv a x hx
        obtain ⟨j1, j2⟩ := hexd_hexv b y hy
        subst i2 j2
        have ht : (UInt8.ofNat (16 * x + y)).toNat = 16 * x + y := by rw [UInt8.toNat_ofNat']; omega
        unfold hexC
        rw [ht]
        have e1 : (16 * x + y) / 16 = x := by omega
        have e2 : (16 * x + y) % 16 = y := by omega
        rw [e1, e2]
        exact ⟨rfl, by simp⟩
theorem stepH_hex (c : UInt8) (t : List UInt8) : stepH (hexC c ++ t) = some c := by
  have hc := UInt8.toNat_lt c
  have e : 16 * (c.toNat / 16) + c.toNat % 16 = c.toNat := by omega
  unfold hexC stepH
  simp only [List.cons_append, List.nil_append, hexv_d (show c.toNat / 16 < 16 by omega), hexv_d (show c.toNat % 16 < 16 by omega), e, UInt8.ofNat_toNat]
def unhX : Nat → List UInt8 → Nat → List UInt8 → List UInt8 × Nat × Bool
  | 0, _, _, _ => ([], 0, false)
  | k + 1, acc, n, s => if s = [] then (acc, n, false) else if s.head? = some 34 then (acc, n, true) else match stepH s with
    | none => ([], 0, false)
    | some c => unhX k (acc ++ [c]) (n + 2) (s.drop 2)
theorem unhX_more : ∀ (k j : Nat) (acc : List UInt8) (n : Nat) (s : List UInt8), s.length < k → s.length < j → unhX k acc n s = unhX j acc n s
  | 0, _, _, _, _, h, _ => absurd h (Nat.not_lt_zero _)
  | _, 0, _, _, _, _, h => absurd h (Nat.not_lt_zero _)
  | k + 1, j + 1, acc, n, s, h1, h2 => by
    unfold unhX
    cases hs : stepH s with
    | none => rfl
    | some c =>
      obtain ⟨_, h3⟩ := stepH_some hs
      simp only
      rw [unhX_more k j (acc ++ [c]) (n + 2) (s.drop 2) (by rw [List.length_drop]; omega) (by rw [List.length_drop]; omega)]
def unh (acc : List UInt8) (n : Nat) (s : List UInt8) : List UInt8 × Nat × Bool := unhX (s.length + 1) acc n s
theorem unh_nil {acc : List UInt8} {n : Nat} : unh acc n [] = (acc, n, false) := rfl
theorem unh_quote {acc : List UInt8} {n : Nat} {s : List UInt8} (h : s.head? = some 34) : unh acc n s = (acc, n, true) := by
  unfold unh unhX
  rw [if_neg (by intro e; subst e; cases h), if_pos h]
theorem unh_none {acc : List UInt8} {n : Nat} {s : List UInt8} (h0 : s ≠ []) (h : ¬ s.head? = some 34) (hs : stepH s = none) : unh acc n s = ([], 0, false) := by
  unfold unh unhX
  rw [if_neg h0, if_neg h, hs]
theorem unh_step {acc : List UInt8} {n : Nat} {s : List UInt8} {c : UInt8} (h : ¬ s.head? = some 34) (hs : stepH s = some c) : unh acc n s = unh (acc ++ [c]) (n + 2) (s.drop 2) := by
  obtain ⟨_, h3⟩ := stepH_some hs
  have e : unhX s.length (acc ++ [c]) (n + 2) (s.drop 2) = unh (acc ++ [c]) (n + 2) (s.drop 2) := unhX_more _ _ _ _ _ (by rw [List.length_drop]; omega) (by omega)
  rw [← e]
  unfold unh
  rw [unhX, if_neg (by intro e; subst e; cases hs), if_neg h, hs]
theorem hexd_ne34 : ∀ x : Fin 16, hexd x.val ≠ 34 := by decide +kernel
theorem hexC_head (c : UInt8) (t : List UInt8) : ¬ (hexC c ++ t).head? = some 34 := by
  unfold hexC
  have := hexd_ne34 ⟨c.toNat / 16, by have := UInt8.toNat_lt c; omega⟩
  simpa using this
theorem unh_hexes (t : List UInt8) : ∀ (s acc : List UInt8) (n : Nat), unh acc n (hexes s ++ 34 :: t) = (acc ++ s, n + 2 * s.length, true)
  | [], acc, n => by rw [unh_quote rfl]; simp
  | c :: s, acc, n => by
    have e : hexes (c :: s) = hexC c ++ hexes s := by simp [hexes]
    rw [e, List.append_assoc, unh_step (hexC_head c _) (stepH_hex c _)]
    have : (hexC c ++ (hexes s ++ 34 :: t)).drop 2 = hexes s ++ 34 :: t := List.drop_left (l₁ := hexC c)
    rw [this, unh_hexes t s]
    simp only [List.append_assoc, List.singleton_append, List.length_cons, Prod.mk.injEq, true_and, and_true]
    omega
theorem unh_some : ∀ (k : Nat) (s acc t : List UInt8) (n z : Nat), s.length ≤ k → unh acc n s = (t, z, true) → ∃ r, t = acc ++ r ∧ z = n + 2 * r.length ∧ s.take (2 * r.length + 1) = hexes r ++ [34] ∧ 2 * r.length + 1 ≤ s.length
  | k, s, acc, t, n, z, hk, h => by
    by_cases h0 : s = []
    · subst h0
      rw [unh_nil] at h
      simp at h
    by_cases h1 : s.head? = some 34
    · rw [unh_quote h1] at h
      simp only [Prod.mk.injEq, and_true] at h
      obtain ⟨rfl, rfl⟩ := h
      refine ⟨[], by simp, by simp, ?_, ?_⟩
      · cases s with
        | nil => exact absurd rfl h0
        | cons a r => simp at h1; subst h1; simp [hexes]
      · cases s with
        | nil => exact absurd rfl h0
        | cons a r => simp
    cases hs : stepH s with
    | none =>
      rw [unh_none h0 h1 hs] at h
      simp at h
    | some c =>
      rw [unh_step h1 hs] at h
      obtain ⟨g1, g2⟩ := stepH_some hs
      cases k with
      | zero => exact absurd (List.length_eq_zero_iff.1 (by omega)) h0
      | succ k =>
        obtain ⟨r, r1, r2, r3, r4⟩ := unh_some k (s.drop 2) (acc ++ [c]) t (n + 2) z (by rw [List.length_drop]; omega) h
        rw [List.length_drop] at r4
        refine ⟨c :: r, by rw [r1]; simp, by rw [r2, List.length_cons]; omega, ?_, by rw [List.length_cons]; omega⟩
        have e : hexes (c :: r) = hexC c ++ hexes r := by simp [hexes]
        have e2 : 2 * (c :: r).length + 1 = 2 + (2 * r.length + 1) := by rw [List.length_cons]; omega
        rw [e, e2, List.take_add, g1, r3, List.append_assoc]
end Hx

namespace Hx
open Go
set_option linter.unusedSimpArgs false
set_option linter.unusedVariables false
set_option maxHeartbeats 4000000
variable {E : Env}
attribute [-simp] List.getD_eq_getElem?_getD getElem?_pos
end Hx

namespace Hx
open Go
set_option linter.unusedSimpArgs false
set_option linter.unusedVariables false
set_option maxHeartbeats 4000000
variable {E : Env}
attribute [-simp] List.getD_eq_getElem?_getD getElem?_pos
attribute [local simp] intBeq maxIf
def fits32 (n : Int) : Bool := decide (-2147483648 ≤ n ∧ n < 2147483648)
structure F06 (E : Env) : Prop where
  low : E.fn 70 = some Fn.f_word_Low
  fits : E.fn 55 = some Fn.f_word_Fits
  half : E.fn 56 = some Fn.f_haulageref01_Half
  rFits : E.fn 36 = some Fn.f_haulageref01_Fits
theorem low32 (n : Int) (h1 : -9223372036854775808 ≤ n) (h2 : n ≤ 9223372036854775807) : decide ((IntKind.i64.wrap (n * 4294967296)).fdiv 4294967296 = n) = fits32 n := by
  have : IntKind.i64.wrap (n * 4294967296) = (n * 4294967296 + 9223372036854775808) % 18446744073709551616 - 9223372036854775808 := by
    simp only [IntKind.wrap, IntKind.signed, IntKind.bits]
    simp
    split <;> omega
  rw [this, Int.fdiv_eq_ediv_of_nonneg _ (by omega)]
  unfold fits32
  congr 1
  apply propext
  omega
theorem word_Fits (u : F06 E) (k : Nat) (n : Int) (h1 : -9223372036854775808 ≤ n) (h2 : n ≤ 9223372036854775807) (m : Mem) : denF E (k + 2) 55 [.p (.int .i64 n), .p (.int .i64 32)] m = some (.ret (.p (.bool (fits32 n))), m) := by
  have hlow : ∀ m, denF E (k + 1) 70 [.p (.int .i64 n), .p (.int .i64 32)] m = some (.ret (.p (.int .i64 ((IntKind.i64.wrap (n * 4294967296)).fdiv 4294967296))), m) := by
    intro m
    refine denF_wp u.low rfl (args' := [.p (.int .i64 n), .p (.int .i64 32)]) rfl ?_
    have hw : IntKind.i64.wrap 32 = 32 := rfl
    simp [Fn.f_word_Low, hw]
  refine denF_wp u.fits rfl (args' := [.p (.int .i64 n), .p (.int .i64 32)]) rfl ?_
  simp [Fn.f_word_Fits, hlow]
  rw [low32 n h1 h2]
end Hx

namespace Hx
open Go
set_option linter.unusedSimpArgs false
set_option linter.unusedVariables false
set_option maxHeartbeats 4000000
variable {E : Env}
attribute [-simp] List.getD_eq_getElem?_getD getElem?_pos
structure V06 (E : Env) : Prop where
  r : R03 E
  f : F06 E
  vRight : E.fn 33 = some Fn.f_value_Right
def rightV (k n : Int) (s : List UInt8) : Bool :=
  if k = 0 then (n == 0) && s.isEmpty else if k = 1 then fits32 n && s.isEmpty else if k = 2 then s.isEmpty
  else if k = 3 then (n == 0) && decide (s.length ≤ 120) && (signs s).isSome else if k = 4 then (n == 0) && decide (s.length ≤ 120) else false
def isI64 (n : Int) : Prop := -9223372036854775808 ≤ n ∧ n ≤ 9223372036854775807
theorem value_Right (u : V06 E) (a n : Int) (s : List UInt8) (hn : isI64 n) (hs : (s.length : Int) ≤ 1000000000000) (k : Nat) (hk : s.length + 41 ≤ k) (m : Mem) :
    denF E (k + 1) 33 [.p (vP a n s)] m = some (.ret (.p (.bool (rightV a n s))), m) := by
  refine denF_wp u.vRight rfl (args' := [.p (vP a n s)]) rfl ?_
  obtain ⟨j, rfl⟩ : ∃ j, k = j + 2 := ⟨k - 2, by omega⟩
  have hF := fun m => word_Fits u.f j n hn.1 hn.2 m
  have hU := fun m => utf_Right u.r s hs (j + 1) (by omega) m
  have hl : ∃ b : Bool, decide ((s.length : Int) ≤ 120) = b ∧ decide ((120 : Int) < s.length) = !b ∧ decide (s.length ≤ 120) = b := by
    by_cases h : s.length ≤ 120
    · exact ⟨true, by simp; omega, by simp; omega, by simp; omega⟩
    · exact ⟨false, by simp; omega, by simp; omega, by simp; omega⟩
  obtain ⟨b, hb1, hb2, hb3⟩ := hl
  have he : (s == []) = s.isEmpty := by cases s <;> rfl
  obtain ⟨z, hz⟩ : ∃ z, (n == 0) = z := ⟨_, rfl⟩
  obtain ⟨g, hg⟩ : ∃ g, (signs s).isSome = g := ⟨_, rfl⟩
  obtain ⟨f, hf⟩ : ∃ f, fits32 n = f := ⟨_, rfl⟩
  obtain ⟨e, hee⟩ : ∃ e, s.isEmpty = e := ⟨_, rfl⟩
  rw [hee] at he
  rw [hg] at hU
  rw [hf] at hF
  have hzf : z = true → f = true := by
    intro h
    rw [h] at hz
    have := beq_iff_eq.1 hz
    subst this
    rw [← hf]
    rfl
  have hsb : e = true → b = true ∧ g = true := by
    intro h
    have : s = [] := by cases s with
      | nil => rfl
      | cons => rw [← hee] at h; cases h
    subst this
    rw [← hb3, ← hg, signs_nil]
    exact ⟨rfl, rfl⟩
  unfold rightV vP
  by_cases h0 : a = 0
  · subst h0
    cases z <;> cases e <;> cases b <;> first | exact absurd (hsb rfl).1 Bool.false_ne_true | exact absurd (hsb rfl).2 Bool.false_ne_true | exact absurd (hzf rfl) Bool.false_ne_true | simp (maxSteps := 400000) [Fn.f_value_Right, hF, hU, bne, he, hb1, hb2, hb3, hz, hg, hf, hee]
  by_cases h1 : a = 1
  · subst h1
    cases z <;> cases f <;> cases e <;> cases b <;> first | exact absurd (hsb rfl).1 Bool.false_ne_true | exact absurd (hsb rfl).2 Bool.false_ne_true | exact absurd (hzf rfl) Bool.false_ne_true | simp (maxSteps := 400000) [Fn.f_value_Right, hF, hU, bne, he, hb1, hb2, hb3, hz, hg, hf, hee]
  by_cases h2 : a = 2
  · subst h2
    cases z <;> cases e <;> cases b <;> first | exact absurd (hsb rfl).1 Bool.false_ne_true | exact absurd (hsb rfl).2 Bool.false_ne_true | exact absurd (hzf rfl) Bool.false_ne_true | simp (maxSteps := 400000) [Fn.f_value_Right, hF, hU, bne, he, hb1, hb2, hb3, hz, hg, hf, hee]
  by_cases h3 : a = 3
  · subst h3
    cases z <;> cases g <;> cases e <;> cases b <;> first | exact absurd (hsb rfl).1 Bool.false_ne_true | exact absurd (hsb rfl).2 Bool.false_ne_true | exact absurd (hzf rfl) Bool.false_ne_true | simp (maxSteps := 400000) [Fn.f_value_Right, hF, hU, bne, he, hb1, hb2, hb3, hz, hg, hf, hee]
  by_cases h4 : a = 4
  · subst h4
    cases z <;> cases e <;> cases b <;> first | exact absurd (hsb rfl).1 Bool.false_ne_true | exact absurd (hsb rfl).2 Bool.false_ne_true | exact absurd (hzf rfl) Bool.false_ne_true | simp (maxSteps := 400000) [Fn.f_value_Right, hF, hU, bne, he, hb1, hb2, hb3, hz, hg, hf, hee]
  have e0 : (a == 0) = false := by simpa using h0
  have e1 : (a == 1) = false := by simpa using h1
  have e2 : (a == 2) = false := by simpa using h2
  have e3 : (a == 3) = false := by simpa using h3
  have e4 : (a == 4) = false := by simpa using h4
  simp (maxSteps := 1000000) [Fn.f_value_Right, h0, h1, h2, h3, h4, e0, e1, e2, e3, e4]
end Hx
