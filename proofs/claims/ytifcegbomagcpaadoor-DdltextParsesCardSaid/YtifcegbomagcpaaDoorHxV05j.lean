/-
  HxV05j: bytes as digits of the base 16, written and read.
-/
import Derived.Test.YtifcegbomagcpaaDoorHxV05e
import Derived.Test.YtifcegbomagcpaaDoorHxSimp2
namespace Hx
open Go
set_option linter.unusedSimpArgs false
set_option linter.unusedVariables false
set_option maxHeartbeats 4000000
variable {E : Env}
attribute [-simp] List.getD_eq_getElem?_getD getElem?_pos
theorem byteRows_len' (t : List UInt8) : (byteRows t).length = t.length := by simp [byteRows]
theorem unBytes_rows' : ∀ t : List UInt8, unBytes (byteRows t) = some t
  | [] => rfl
  | c :: t => by
    have : byteRows (c :: t) = byteRow c :: byteRows t := rfl
    rw [this, unBytes, unBytes_rows' t]
    simp [byteRow, unByte]
end Hx

namespace Hx
open Go
set_option linter.unusedSimpArgs false
set_option linter.unusedVariables false
set_option maxHeartbeats 4000000
variable {E : Env}
attribute [-simp] List.getD_eq_getElem?_getD getElem?_pos
theorem quoteC_len (c : UInt8) : (quoteC c).length ≤ 4 := by
  unfold quoteC
  split
  · simp
  split
  · simp
  split <;> simp
theorem take_snoc {s : List UInt8} {i : Nat} {c : UInt8} (h : s[i]? = some c) : s.take (i + 1) = s.take i ++ [c] := by
  rw [List.take_add_one, h]; rfl
def QInv (s : List UInt8) (i : Nat) (st : St) : Prop := ∃ m, i ≤ s.length ∧ BGrow (34 :: quotes (s.take i)) 0 m ∧ Live Fn.f_name_Quote_k0 (Fn.f_name_Quote_s0 (.p (.str s)) (.ty 0 (.ptr 0 0)) (.p (.int .i64 s.length)) (.p (.int .i64 i))) m st
theorem QInv.mk {s : List UInt8} {i : Nat} {st : St} (m : Mem) (h1 : i ≤ s.length) (h2 : BGrow (34 :: quotes (s.take i)) 0 m) (h3 : Live Fn.f_name_Quote_k0 (Fn.f_name_Quote_s0 (.p (.str s)) (.ty 0 (.ptr 0 0)) (.p (.int .i64 s.length)) (.p (.int .i64 i))) m st) : QInv s i st := ⟨m, h1, h2, h3⟩
end Hx

namespace Hx
open Go
set_option linter.unusedSimpArgs false
set_option linter.unusedVariables false
set_option maxHeartbeats 4000000
variable {E : Env}
attribute [-simp] List.getD_eq_getElem?_getD getElem?_pos
theorem head_at {s : List UInt8} {i : Nat} : (s.drop i).head? = s[i]? := by rw [List.head?_drop]
theorem u8ne {c d : UInt8} (h : c ≠ d) : ((c.toNat : Int) == d.toNat) = false := by
  have : (c == d) = false := by simpa using h
  rw [u8beq] at this; exact this
def UqInv (s : List UInt8) (i : Nat) (st : St) : Prop := ∃ (acc : List UInt8) (ov : AV) (m : Mem), UInv s i acc ∧ Grow 1 (byteRows acc) ov m ∧ Live Fn.f_name_Unquote_k0 (Fn.f_name_Unquote_s0 (.p (.str s)) ov (.p (.int .i64 i))) m st
theorem UqInv.mk {s : List UInt8} {i : Nat} {st : St} (acc : List UInt8) (ov : AV) (m : Mem) (h1 : UInv s i acc) (h2 : Grow 1 (byteRows acc) ov m) (h3 : Live Fn.f_name_Unquote_k0 (Fn.f_name_Unquote_s0 (.p (.str s)) ov (.p (.int .i64 i))) m st) : UqInv s i st := ⟨acc, ov, m, h1, h2, h3⟩
theorem grow_one {D : List UInt8} {ov : AV} {m : Mem} (hg : Grow 1 (byteRows D) ov m) (hl : D.length < 1000000000000) (c : UInt8) : (D = [] ∧ ov = .p .nils) ∨ (∃ t, ov = .tv 1 (byteRows D) t ∧ ∀ z : Blk, (m ++ [z])[t]? = some (.tok 1 D.length)) := by
  rcases hg with ⟨hr, rfl⟩ | ⟨hr, t, rfl, ht⟩
  · exact .inl ⟨by simpa [byteRows] using hr, rfl⟩
  · exact .inr ⟨t, rfl, fun z => by rw [get_app ht, byteRows_len']⟩
theorem grow_nil1 {m : Mem} {c : UInt8} : Grow 1 (byteRows [c]) (.tv 1 (byteRows [c]) (m.length + 1)) (m ++ [Blk.tok 1 1, Blk.tok 1 1]) := .inr ⟨by simp [byteRows], m.length + 1, rfl, by rw [List.getElem?_append_right (by omega)]; simp [byteRows]⟩
theorem grow_set1 {m : Mem} {D : List UInt8} {c : UInt8} {t : Nat} (ht2 : ∀ z : Blk, (m ++ [z])[t]? = some (.tok 1 D.length)) : Grow 1 (byteRows (D ++ [c])) (.tv 1 (byteRows (D ++ [c])) t) ((m ++ [Blk.tok 1 1]).set t (.tok 1 (D.length + 1))) := .inr ⟨by simp [byteRows], t, rfl, by rw [get_set (ht2 _), byteRows_len']; simp⟩
theorem name_Unquote (u : Q05 E) (s : List UInt8) (hs : (s.length : Int) ≤ 1000000000) (k : Nat) (hk : s.length + 10 ≤ k) (m : Mem) : denF E (k + 1) 62 [.p (.str s)] m = some (.ret (unquoteV s), m) := by
  refine denF_wp u.unquote rfl (args' := [.p (.str s)]) rfl ?_
  obtain ⟨j, rfl⟩ : ∃ j, k = j + 3 := ⟨k - 3, by omega⟩
  unfold unquoteV
  cases s with
  | nil => simp [Fn.f_name_Unquote]
  | cons a r =>
  by_cases h34 : ¬ a = 34
  · have g := u8ne h34
    have g34 : ((34 : UInt8).toNat : Int) = 34 := rfl
    rw [g34] at g
    simp [Fn.f_name_Unquote, g, bne, h34]
  obtain rfl := Classical.not_not.1 h34
  have hh : (34 :: r : List UInt8).head? = some 34 := rfl
  rw [if_pos hh]
  simp [Fn.f_name_Unquote, bne]
  have hU0 := uinv_0 hh
  generalize hsx : (34 :: r : List UInt8) = s at *
  have htail : r = s.tail := by rw [← hsx]; rfl
  rw [htail]
  refine (loop_wp (α := Nat) (I := fun i st => UqInv s i st) (meas := fun i => s.length - i)
    (Q := fun e st => st.ds = [] ∧ ((e = .exit 0 ∧ unq s.tail = none ∧ st.ts.length = 60) ∨ (e = .ret ∧ ∃ q, unq s.tail = some q ∧ st.ts.getD 2 (.tup []) = .p (.str q.1) ∧ st.ts.getD 3 (.tup []) = .p (.int .i64 ((q.2 : Int) + 1)) ∧ st.ts.getD 4 (.tup []) = .p (.bool true)) ∨
      (e = .ret ∧ unq s.tail = none ∧ st.ts.getD 2 (.tup []) = .p (.str []) ∧ st.ts.getD 3 (.tup []) = .p (.int .i64 0) ∧ st.ts.getD 4 (.tup []) = .p (.bool false)))) ?_ (j + 3) 1 _ (UqInv.mk [] (.p .nils) [] hU0 (.inl ⟨rfl, rfl⟩) ⟨rfl, rfl, rfl, rfl⟩) (by omega)).mono ?_
  · rintro i st ⟨D, ov, m, hU, hg, hlive⟩
    rw [loopF_live hlive]
    have hi0 := hU.2.1
    have hDl := hU.2.2.1
    by_cases hi : i < s.length
    · have hi' : (i : Int) < s.length := by omega
      obtain ⟨c, hc⟩ : ∃ c, s[i]? = some c := ⟨_, List.getElem?_eq_getElem hi⟩
      have hw : IntKind.i64.wrap ((i : Int) + 1) = i + 1 := wrap_i64 (by omega) (by omega)
      have hP := fun m => name_plain u (j + 2) c m
      have hdrop : s.drop i = c :: s.drop (i + 1) := drop_at hc
      have hgo := grow_one hg (by omega) c
      by_cases c34 : c = 34
      · subst c34
        have hq := uinv_quote hU (by rw [hdrop]; rfl)
        have g34 : ((34 : UInt8).toNat : Int) = 34 := rfl
        have hun := unBytes_rows' D
        rcases hgo with ⟨rfl, rfl⟩ | ⟨t, rfl, ht2⟩
        · simp [Fn.f_name_Unquote_b0, Fn.f_name_Unquote_s0, hi, hi', hc, hw, hq, unBytes]
        · simp [Fn.f_name_Unquote_b0, Fn.f_name_Unquote_s0, hi, hi', hc, hw, hun, hq]
      have g := u8ne c34
      have g34 : ((34 : UInt8).toNat : Int) = 34 := rfl
      rw [g34] at g
      have hn34 : ¬ (s.drop i).head? = some 34 := by
        rw [head_at, hc]
        simpa using c34
      have happ : byteRows (D ++ [c]) = byteRows D ++ [[PV.int .u8 c.toNat]] := by simp [byteRows, byteRow]
      have hbl := byteRows_len' D
      have hb2 : D.length + 1 ≤ room := by unfold room; omega
      cases hp : plainC c with
      | true =>
        rw [hp] at hP
        have hst : stepQ (s.drop i) = some (c, 1) := by rw [hdrop, stepQ_cons, if_pos hp]
        have hU1 := uinv_step hU hn34 hst
        rcases hgo with ⟨rfl, rfl⟩ | ⟨t, rfl, ht2⟩
        · simp [Fn.f_name_Unquote_b0, Fn.f_name_Unquote_s0, hi, hi', hc, hw, g, hP, room]
          exact ⟨i + 1, by omega, UqInv.mk [c] (.tv 1 (byteRows [c]) (m.length + 1)) _ hU1 grow_nil1 ⟨rfl, by simp [keep, Fn.f_name_Unquote_k0, Fn.f_name_Unquote_s0, byteRows, byteRow], rfl, rfl⟩⟩
        · simp [Fn.f_name_Unquote_b0, Fn.f_name_Unquote_s0, hi, hi', hc, hw, g, hP, hbl, hb2, ht2]
          exact ⟨i + 1, by omega, UqInv.mk (D ++ [c]) (.tv 1 (byteRows (D ++ [c])) t) _ hU1 (grow_set1 ht2) ⟨rfl, by simp [keep, Fn.f_name_Unquote_k0, Fn.f_name_Unquote_s0, happ], rfl, rfl⟩⟩
      | false =>
        rw [hp] at hP
        by_cases c92 : c = 92
        · subst c92
          have g92 : ((92 : UInt8).toNat : Int) = 92 := rfl
          rw [g92] at hP g
          have hE := fun m => name_escaped u j (s.drop (i + 1)) m
          have hlt : i + 1 ≤ s.length := hi
          have hst0 : stepQ (s.drop i) = if (esc (s.drop (i + 1))).2 = 0 then none else some ((esc (s.drop (i + 1))).1, (esc (s.drop (i + 1))).2 + 1) := by rw [hdrop, stepQ_cons, if_neg (by rw [hp]; simp), if_pos rfl]
          have t1 : ((i : Int) + 1).toNat = i + 1 := by omega
          have p1 : (0 : Int) ≤ (i : Int) + 1 := by omega
          obtain ⟨x, hx⟩ : ∃ x, (esc (s.drop (i + 1))).1 = x := ⟨_, rfl⟩
          obtain ⟨n, hn⟩ : ∃ n, (esc (s.drop (i + 1))).2 = n := ⟨_, rfl⟩
          rw [hx, hn] at hE hst0
          cases n with
          | zero =>
            have := uinv_none hU hn34 (by rw [hst0]; rfl)
            simp [Fn.f_name_Unquote_b0, Fn.f_name_Unquote_s0, hi, hi', hc, hw, g, hP, hE, this, hlt, t1, p1]
          | succ n =>
            have hst : stepQ (s.drop i) = some (x, n + 2) := by rw [hst0, if_neg (by omega)]
            have hU1 := uinv_step hU hn34 hst
            have hle := hU1.2.1
            have hw3 : IntKind.i64.wrap ((i : Int) + ((n : Int) + 1)) = (i : Int) + n + 1 := by rw [wrap_i64] <;> omega
            have hw4 : IntKind.i64.wrap ((i : Int) + n + 1 + 1) = ((i + (n + 2) : Nat) : Int) := by rw [wrap_i64] <;> omega
            have happ : byteRows (D ++ [x]) = byteRows D ++ [[PV.int .u8 x.toNat]] := by simp [byteRows, byteRow]
            have hn0 : ((n : Int) + 1 == 0) = false := by simp; omega
            rcases hgo with ⟨rfl, rfl⟩ | ⟨t, rfl, ht2⟩
            · simp [Fn.f_name_Unquote_b0, Fn.f_name_Unquote_s0, hi, hi', hc, hw, g, hP, hE, hlt, t1, p1, hn0, hw3, hw4, room]
              exact ⟨i + (n + 2), by omega, UqInv.mk [x] (.tv 1 (byteRows [x]) (m.length + 1)) _ hU1 grow_nil1 ⟨rfl, by simp [keep, Fn.f_name_Unquote_k0, Fn.f_name_Unquote_s0, byteRows, byteRow, hw4], rfl, rfl⟩⟩
            · simp [Fn.f_name_Unquote_b0, Fn.f_name_Unquote_s0, hi, hi', hc, hw, g, hP, hE, hlt, t1, p1, hn0, hw3, hw4, hbl, hb2, ht2]
              exact ⟨i + (n + 2), by omega, UqInv.mk (D ++ [x]) (.tv 1 (byteRows (D ++ [x])) t) _ hU1 (grow_set1 ht2) ⟨rfl, by simp [keep, Fn.f_name_Unquote_k0, Fn.f_name_Unquote_s0, happ, hw4], rfl, rfl⟩⟩
        · have g2 := u8ne c92
          have g92 : ((92 : UInt8).toNat : Int) = 92 := rfl
          rw [g92] at g2
          have hst : stepQ (s.drop i) = none := by rw [hdrop, stepQ_cons, if_neg (by rw [hp]; simp), if_neg c92]
          have := uinv_none hU hn34 hst
          simp [Fn.f_name_Unquote_b0, Fn.f_name_Unquote_s0, hi, hi', hc, hw, g, g2, hP, this]
    · have hi' : ¬ (i : Int) < s.length := by omega
      have hnil : s.drop i = [] := List.drop_eq_nil_of_le (by omega)
      have := uinv_none hU (by rw [hnil]; simp) (by rw [hnil]; rfl)
      simp [Fn.f_name_Unquote_b0, Fn.f_name_Unquote_s0, hi, hi', this]
  · rintro e st ⟨h0, h⟩
    obtain ⟨ts, m', ds⟩ := st
    simp only at h0 h
    subst h0
    rcases h with ⟨rfl, hx, hl⟩ | ⟨rfl, q, hq, q1, q2, q3⟩ | ⟨rfl, hq, q1, q2, q3⟩
    · rw [hx]
      match ts, hl with
      | t0 :: t1 :: t2 :: t3 :: t4 :: t5 :: t6 :: t7 :: t8 :: t9 :: t10 :: t11 :: t12 :: t13 :: t14 :: t15 :: t16 :: t17 :: t18 :: t19 :: t20 :: t21 :: t22 :: t23 :: t24 :: t25 :: t26 :: t27 :: t28 :: t29 :: t30 :: t31 :: t32 :: t33 :: t34 :: t35 :: t36 :: t37 :: t38 :: t39 :: t40 :: t41 :: t42 :: t43 :: t44 :: t45 :: t46 :: t47 :: t48 :: t49 :: t50 :: t51 :: t52 :: t53 :: t54 :: t55 :: t56 :: t57 :: t58 :: t59 :: [], hl => simp
    · simp [hq, q1, q2, q3]
    · simp [hq, q1, q2, q3]
end Hx

namespace Hx
open Go
set_option linter.unusedSimpArgs false
set_option linter.unusedVariables false
set_option maxHeartbeats 4000000
variable {E : Env}
attribute [-simp] List.getD_eq_getElem?_getD getElem?_pos
def hexC (c : UInt8) : List UInt8 := [hexd (c.toNat / 16), hexd (c.toNat % 16)]
def hexes (s : List UInt8) : List UInt8 := s.flatMap hexC
theorem hexes_snoc (s : List UInt8) (c : UInt8) : hexes (s ++ [c]) = hexes s ++ hexC c := by simp [hexes]
theorem hexes_len (s : List UInt8) : (hexes s).length = 2 * s.length := by
  induction s with
  | nil => rfl
  | cons c s ih =>
    have e : hexes (c :: s) = hexC c ++ hexes s := by simp [hexes]
    have : (hexC c).length = 2 := rfl
    rw [e, List.length_append, ih, List.length_cons]
    omega
structure H05 (E : Env) : Prop where
  q : Q05 E
  rhex : E.fn 61 = some Fn.f_haulageref05_hex
theorem ref_hex (u : H05 E) (s : List UInt8) (hs : (s.length : Int) ≤ 1000000000) (k : Nat) (hk : s.length + 4 ≤ k) (m : Mem) : denF E (k + 1) 61 [.p (.str s)] m = some (.ret (.p (.str (hexes s))), m) := by
  refine denF_wp u.rhex rfl (args' := [.p (.str s)]) rfl ?_
  simp [Fn.f_haulageref05_hex]
  refine (loop_wp (α := Nat) (I := fun i st => i ≤ s.length ∧ Live Fn.f_haulageref05_hex_k0 (Fn.f_haulageref05_hex_s0 (.p (.str s)) (.p (.str (hexes (s.take i)))) (.p (.int .i64 i))) [] st) (meas := fun i => s.length - i)
    (Q := fun e st => e = .exit 0 ∧ st.ds = [] ∧ st.ts.length = 35 ∧ st.ts.getD 3 (.tup []) = .p (.str (hexes s))) ?_ k 0 _ ⟨Nat.zero_le _, rfl, rfl, rfl, rfl⟩ (by omega)).mono ?_
  · rintro i st ⟨hi0, hlive⟩
    rw [loopF_live hlive]
    by_cases hi : i < s.length
    · have hi' : (i : Int) < s.length := by omega
      obtain ⟨c, hc⟩ : ∃ c, s[i]? = some c := ⟨_, List.getElem?_eq_getElem hi⟩
      have hw : IntKind.i64.wrap ((i : Int) + 1) = ((i + 1 : Nat) : Int) := by rw [wrap_i64 (by omega) (by omega)]; omega
      have hcl := UInt8.toNat_lt c
      have hqs : hexes (s.take (i + 1)) = hexes (s.take i) ++ hexC c := by rw [take_snoc hc, hexes_snoc]
      have hl := hexes_len (s.take i)
      have ht : (s.take i).length ≤ s.length := by rw [List.length_take]; omega
      have w1 : IntKind.u8.wrap ((c.toNat / 16 : Nat) : Int) = ((c.toNat / 16 : Nat) : Int) := wrap_u8 (by omega) (by omega)
      have w2 : IntKind.u8.wrap (((c.toNat / 16 : Nat) : Int) + 1) = ((c.toNat / 16 + 1 : Nat) : Int) := by rw [wrap_u8 (by omega) (by omega)]; omega
      have w3 : IntKind.u8.wrap (((c.toNat % 16 : Nat) : Int) + 1) = ((c.toNat % 16 + 1 : Nat) : Int) := by rw [wrap_u8 (by omega) (by omega)]; omega
      have x1 := hexS_cut (n := c.toNat / 16) (by omega)
      have x2 := hexS_cut (n := c.toNat % 16) (by omega)
      have d1 := tdiv16 c.toNat
      have d2 := tmod16 c.toNat
      have l1 : c.toNat / 16 + 1 ≤ 16 := by omega
      have l2 : c.toNat % 16 + 1 ≤ 16 := by omega
      unfold hexC at hqs
      generalize hq1 : c.toNat / 16 = q1 at *
      generalize hq2 : c.toNat % 16 = q2 at *
      generalize hX : hexes (s.take i) = X at *
      have m1 : X.length + 1 ≤ strLim := by unfold strLim; omega
      have m2 : X.length + 1 + 1 ≤ strLim := by unfold strLim; omega
      simp [Fn.f_haulageref05_hex_b0, Fn.f_haulageref05_hex_s0, hi, hi', hc, hw, d1, d2, w1, w2, w3, l1, l2, x1, x2, m1, m2, -Int.natCast_add, -List.take_succ_cons]
      exact ⟨i + 1, by omega, hi, rfl, by simp [keep, Fn.f_haulageref05_hex_k0, Fn.f_haulageref05_hex_s0, hqs], rfl, rfl⟩
    · have hi' : ¬ (i : Int) < s.length := by omega
      have e : s.take i = s := List.take_of_length_le (by omega)
      simp [Fn.f_haulageref05_hex_b0, Fn.f_haulageref05_hex_s0, hi, hi', e]
  · rintro e st ⟨rfl, h1, h2, h3⟩
    obtain ⟨ts, m', ds⟩ := st
    simp only at h1 h2 h3
    subst h1
    match ts, h2, h3 with
    | t0 :: t1 :: t2 :: t3 :: t4 :: t5 :: t6 :: t7 :: t8 :: t9 :: t10 :: t11 :: t12 :: t13 :: t14 :: t15 :: t16 :: t17 :: t18 :: t19 :: t20 :: t21 :: t22 :: t23 :: t24 :: t25 :: t26 :: t27 :: t28 :: t29 :: t30 :: t31 :: t32 :: t33 :: t34 :: [], h2, h3 =>
      simp only [getD_zero', getD_succ'] at h3
      subst h3
      simp

def stepH : List UInt8 → Option UInt8
  | h :: l :: _ => match hexv h, hexv l with
    | some x, some y => some (UInt8.ofNat (16 * x + y))
    | _, _ => none
  | _ => none
theorem stepH_cons (h l : UInt8) (r : List UInt8) : stepH (h :: l :: r) = match hexv h, hexv l with
    | some x, some y => some (UInt8.ofNat (16 * x + y))
    | _, _ => none := rfl
theorem stepH_some {s : List UInt8} {c : UInt8} (h : stepH s = some c) : s.take 2 = hexC c ∧ 2 ≤ s.length := by
  match s with
  | [] => cases h
  | [_] => cases h
  | a :: b :: r =>
    rw [stepH_cons] at h
    cases hx : hexv a with
    | none => rw [hx] at h; cases h
    | some x =>
      cases hy : hexv b with
      | none => rw [hx, hy] at h; cases h
      | some y =>
        rw [hx, hy] at h
        obtain rfl := Option.some.inj h
        obtain ⟨i1, i2⟩ := hexd_hexv a x hx
        obtain ⟨j1, j2⟩ := hexd_hexv b y hy
        subst i2 j2
        have ht : (UInt8.ofNat (16 * x + y)).toNat = 16 * x + y := by rw [UInt8.toNat_ofNat']; omega
        unfold hexC
        rw [ht]
        have e1 : (16 * x + y) / 16 = x := by omega
        have e2 : (16 * x + y) % 16 = y := by omega
        rw [e1, e2]
        exact ⟨rfl, by simp⟩
theorem stepH_hex (c : UInt8) (t : List UInt8) : stepH (hexC c ++ t) = some c := by
  have hc := UInt8.toNat_lt c
  have e : 16 * (c.toNat / 16) + c.toNat % 16 = c.toNat := by omega
  unfold hexC stepH
  simp only [List.cons_append, List.nil_append, hexv_d (show c.toNat / 16 < 16 by omega), hexv_d (show c.toNat % 16 < 16 by omega), e, UInt8.ofNat_toNat]
def unhX : Nat → List UInt8 → Nat → List UInt8 → List UInt8 × Nat × Bool
  | 0, _, _, _ => ([], 0, false)
  | k + 1, acc, n, s => if s = [] then (acc, n, false) else if s.head? = some 34 then (acc, n, true) else match stepH s with
    | none => ([], 0, false)
    | some c => unhX k (acc ++ [c]) (n + 2) (s.drop 2)
theorem unhX_more : ∀ (k j : Nat) (acc : List UInt8) (n : Nat) (s : List UInt8), s.length < k → s.length < j → unhX k acc n s = unhX j acc n s
  | 0, _, _, _, _, h, _ => absurd h (Nat.not_lt_zero _)
  | _, 0, _, _, _, _, h => absurd h (Nat.not_lt_zero _)
  | k + 1, j + 1, acc, n, s, h1, h2 => by
    unfold unhX
    cases hs : stepH s with
    | none => rfl
    | some c =>
      obtain ⟨_, h3⟩ := stepH_some hs
      simp only
      rw [unhX_more k j (acc ++ [c]) (n + 2) (s.drop 2) (by rw [List.length_drop]; omega) (by rw [List.length_drop]; omega)]
def unh (acc : List UInt8) (n : Nat) (s : List UInt8) : List UInt8 × Nat × Bool := unhX (s.length + 1) acc n s
theorem unh_nil {acc : List UInt8} {n : Nat} : unh acc n [] = (acc, n, false) := rfl
theorem unh_quote {acc : List UInt8} {n : Nat} {s : List UInt8} (h : s.head? = some 34) : unh acc n s = (acc, n, true) := by
  unfold unh unhX
  rw [if_neg (by intro e; subst e; cases h), if_pos h]
theorem unh_none {acc : List UInt8} {n : Nat} {s : List UInt8} (h0 : s ≠ []) (h : ¬ s.head? = some 34) (hs : stepH s = none) : unh acc n s = ([], 0, false) := by
  unfold unh unhX
  rw [if_neg h0, if_neg h, hs]
theorem unh_step {acc : List UInt8} {n : Nat} {s : List UInt8} {c : UInt8} (h : ¬ s.head? = some 34) (hs : stepH s = some c) : unh acc n s = unh (acc ++ [c]) (n + 2) (s.drop 2) := by
  obtain ⟨_, h3⟩ := stepH_some hs
  have e : unhX s.length (acc ++ [c]) (n + 2) (s.drop 2) = unh (acc ++ [c]) (n + 2) (s.drop 2) := unhX_more _ _ _ _ _ (by rw [List.length_drop]; omega) (by omega)
  rw [← e]
  unfold unh
  rw [unhX, if_neg (by intro e; subst e; cases hs), if_neg h, hs]
theorem unh_some : ∀ (k : Nat) (s acc t : List UInt8) (n z : Nat), s.length ≤ k → unh acc n s = (t, z, true) → ∃ r, t = acc ++ r ∧ z = n + 2 * r.length ∧ s.take (2 * r.length + 1) = hexes r ++ [34] ∧ 2 * r.length + 1 ≤ s.length
  | k, s, acc, t, n, z, hk, h => by
    by_cases h0 : s = []
    · subst h0
      rw [unh_nil] at h
      simp at h
    by_cases h1 : s.head? = some 34
    · rw [unh_quote h1] at h
      simp only [Prod.mk.injEq, and_true] at h
      obtain ⟨rfl, rfl⟩ := h
      refine ⟨[], by simp, by simp, ?_, ?_⟩
      · cases s with
        | nil => exact absurd rfl h0
        | cons a r => simp at h1; subst h1; simp [hexes]
      · cases s with
        | nil => exact absurd rfl h0
        | cons a r => simp
    cases hs : stepH s with
    | none =>
      rw [unh_none h0 h1 hs] at h
      simp at h
    | some c =>
      rw [unh_step h1 hs] at h
      obtain ⟨g1, g2⟩ := stepH_some hs
      cases k with
      | zero => exact absurd (List.length_eq_zero_iff.1 (by omega)) h0
      | succ k =>
        obtain ⟨r, r1, r2, r3, r4⟩ := unh_some k (s.drop 2) (acc ++ [c]) t (n + 2) z (by rw [List.length_drop]; omega) h
        rw [List.length_drop] at r4
        refine ⟨c :: r, by rw [r1]; simp, by rw [r2, List.length_cons]; omega, ?_, by rw [List.length_cons]; omega⟩
        have e : hexes (c :: r) = hexC c ++ hexes r := by simp [hexes]
        have e2 : 2 * (c :: r).length + 1 = 2 + (2 * r.length + 1) := by rw [List.length_cons]; omega
        rw [e, e2, List.take_add, g1, r3, List.append_assoc]
end Hx
