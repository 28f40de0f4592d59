/-
  HxV05h: texts between quotes, as the program and the document read them.
-/
import Derived.Test.YtifcegbomagcpaaDoorHxV05f
import Derived.Test.YtifcegbomagcpaaDoorHxU05b
namespace Hx
open Go
set_option linter.unusedSimpArgs false
set_option linter.unusedVariables false
set_option maxHeartbeats 4000000
variable {E : Env}
attribute [-simp] List.getD_eq_getElem?_getD getElem?_pos
theorem quotes_snoc (s : List UInt8) (c : UInt8) : quotes (s ++ [c]) = quotes s ++ quoteC c := by simp [quotes]
theorem quoteC_len (c : UInt8) : (quoteC c).length ≤ 4 := by
  unfold quoteC
  split
  · simp
  split
  · simp
  split <;> simp
theorem quotes_len : ∀ s : List UInt8, (quotes s).length ≤ 4 * s.length
  | [] => by simp [quotes]
  | c :: s => by
    have e : quotes (c :: s) = quoteC c ++ quotes s := by simp [quotes]
    have := quoteC_len c
    have := quotes_len s
    rw [e, List.length_append, List.length_cons]
    omega
theorem take_snoc {s : List UInt8} {i : Nat} {c : UInt8} (h : s[i]? = some c) : s.take (i + 1) = s.take i ++ [c] := by
  rw [List.take_add_one, h]; rfl
def QInv (s : List UInt8) (i : Nat) (st : St) : Prop := ∃ m, i ≤ s.length ∧ BGrow (34 :: quotes (s.take i)) 0 m ∧ Live Fn.f_name_Quote_k0 (Fn.f_name_Quote_s0 (.p (.str s)) (.ty 0 (.ptr 0 0)) (.p (.int .i64 s.length)) (.p (.int .i64 i))) m st
theorem QInv.mk {s : List UInt8} {i : Nat} {st : St} (m : Mem) (h1 : i ≤ s.length) (h2 : BGrow (34 :: quotes (s.take i)) 0 m) (h3 : Live Fn.f_name_Quote_k0 (Fn.f_name_Quote_s0 (.p (.str s)) (.ty 0 (.ptr 0 0)) (.p (.int .i64 s.length)) (.p (.int .i64 i))) m st) : QInv s i st := ⟨m, h1, h2, h3⟩
theorem name_Quote (u : Q05 E) (s : List UInt8) (hs : (s.length : Int) ≤ 1000000000) (k : Nat) (hk : s.length + 10 ≤ k) (m : Mem) : denF E (k + 1) 214 [.p (.str s)] m = some (.ret (.p (.str (34 :: (quotes s ++ [34])))), m) := by
  refine denF_wp u.quote rfl (args' := [.p (.str s)]) rfl ?_
  obtain ⟨j, rfl⟩ : ∃ j, k = j + 2 := ⟨k - 2, by omega⟩
  have hB0 : BGrow [] 0 [Blk.cells [.p .nilp, .p .nils]] := ⟨_, _, rfl, .inl rfl, .inl ⟨rfl, rfl⟩⟩
  obtain ⟨m1, e1, b1, l1, _⟩ := bld_byte u j 0 [] 34 _ hB0 (by simp)
  have e34 : ((34 : UInt8).toNat : Int) = 34 := rfl
  rw [e34] at e1
  simp [Fn.f_name_Quote, e1]
  refine (loop_wp (α := Nat) (I := fun i st => QInv s i st) (meas := fun i => s.length - i)
    (Q := fun e st => e = .exit 0 ∧ st.ds = [] ∧ st.ts.length = 46 ∧ BGrow (34 :: quotes s) 0 st.m ∧ st.ts.getD 3 (.tup []) = .ty 0 (.ptr 0 0)) ?_ (j + 2) 0 _ (QInv.mk m1 (Nat.zero_le _) b1 ⟨rfl, rfl, rfl, rfl⟩) (by omega)).mono ?_
  · rintro i st ⟨m, hi0, hg, hlive⟩
    rw [loopF_live hlive]
    by_cases hi : i < s.length
    · have hi' : (i : Int) < s.length := by omega
      obtain ⟨c, hc⟩ : ∃ c, s[i]? = some c := ⟨_, List.getElem?_eq_getElem hi⟩
      have hw : IntKind.i64.wrap ((i : Int) + 1) = i + 1 := wrap_i64 (by omega) (by omega)
      have hP := fun m => name_plain u (j + 1) c m
      have hq := quotes_len (s.take i)
      have ht : (s.take i).length ≤ s.length := by rw [List.length_take]; omega
      have hqs : 34 :: quotes (s.take (i + 1)) = (34 :: quotes (s.take i)) ++ quoteC c := by rw [take_snoc hc, quotes_snoc]; rfl
      have hcl := UInt8.toNat_lt c
      have hfin : ∀ (m' : Mem) (st' : St), BGrow ((34 :: quotes (s.take i)) ++ quoteC c) 0 m' → Live Fn.f_name_Quote_k0 (Fn.f_name_Quote_s0 (.p (.str s)) (.ty 0 (.ptr 0 0)) (.p (.int .i64 s.length)) (.p (.int .i64 ((i + 1 : Nat) : Int)))) m' st' → QInv s (i + 1) st' := fun m' st' h1 h2 => QInv.mk m' hi (by rw [hqs]; exact h1) h2
      cases hp : plainC c with
      | true =>
        rw [hp] at hP
        have hqc : quoteC c = [c] := by
          have := step_quote c []
          unfold plainC at hp
          simp at hp
          unfold quoteC
          rw [if_neg (by omega), if_neg (by omega), if_neg (by omega)]
        rw [hqc] at hfin
        obtain ⟨m2, e2, b2, l2, _⟩ := bld_byte u j 0 _ c m hg (by simp; omega)
        simp [Fn.f_name_Quote_b0, Fn.f_name_Quote_s0, hi, hi', hc, hP, hw, e2]
        exact ⟨i + 1, by omega, hfin m2 _ b2 ⟨rfl, rfl, rfl, rfl⟩⟩
      | false =>
        rw [hp] at hP
        by_cases h10 : c = 10
        · subst h10
          have hqc : quoteC 10 = [92, 110] := by decide
          rw [hqc] at hfin
          have g : (((10 : UInt8).toNat : Int)) = 10 := rfl
          rw [g] at hP
          obtain ⟨m2, e2, b2, l2, _⟩ := bld_text u j 0 _ [92, 110] (by simp) (by simp) m hg (by simp; omega)
          simp [Fn.f_name_Quote_b0, Fn.f_name_Quote_s0, hi, hi', hc, hP, hw, e2]
          exact ⟨i + 1, by omega, hfin m2 _ b2 ⟨rfl, rfl, rfl, rfl⟩⟩
        have g10 : ((c.toNat : Int) == 10) = false := by
          have : (c == 10) = false := by simpa using h10
          rw [u8beq] at this; exact this
        obtain ⟨m2, e2, b2, l2, _⟩ := bld_byte u j 0 _ 92 m hg (by simp; omega)
        have g92 : ((92 : UInt8).toNat : Int) = 92 := rfl
        rw [g92] at e2
        obtain ⟨m3, e3, b3, l3, _⟩ := bld_byte u j 0 _ c m2 b2 (by simp; omega)
        by_cases h34 : c = 34
        · subst h34
          have hqc : quoteC 34 = [92, 34] := by decide
          rw [hqc] at hfin
          simp only [List.append_assoc, List.singleton_append] at b3
          have g : (((34 : UInt8).toNat : Int)) = 34 := rfl
          rw [g] at hP e3
          simp [Fn.f_name_Quote_b0, Fn.f_name_Quote_s0, hi, hi', hc, hP, hw, e2, e3]
          exact ⟨i + 1, by omega, hfin m3 _ b3 ⟨rfl, rfl, rfl, rfl⟩⟩
        by_cases h92 : c = 92
        · subst h92
          have hqc : quoteC 92 = [92, 92] := by decide
          rw [hqc] at hfin
          simp only [List.append_assoc, List.singleton_append] at b3
          rw [g92] at hP e3
          simp [Fn.f_name_Quote_b0, Fn.f_name_Quote_s0, hi, hi', hc, hP, hw, e2, e3]
          exact ⟨i + 1, by omega, hfin m3 _ b3 ⟨rfl, rfl, rfl, rfl⟩⟩
        have g34 : ((c.toNat : Int) == 34) = false := by
          have : (c == 34) = false := by simpa using h34
          rw [u8beq] at this; exact this
        have g92' : ((c.toNat : Int) == 92) = false := by
          have : (c == 92) = false := by simpa using h92
          rw [u8beq] at this; exact this
        have hqc : quoteC c = [92, 120, hexd (c.toNat / 16), hexd (c.toNat % 16)] := by
          have n34 : ¬ (c.toNat : Int) = 34 := by simpa using g34
          have n92 : ¬ (c.toNat : Int) = 92 := by simpa using g92'
          have n10 : ¬ (c.toNat : Int) = 10 := by simpa using g10
          have : ¬ ((32 : Int) ≤ c.toNat ∧ (c.toNat : Int) ≤ 126) := by
            rintro ⟨h1, h2⟩
            unfold plainC at hp
            simp [n34, n92, h1, h2] at hp
          unfold quoteC
          rw [if_neg (by omega), if_neg (by omega), if_pos (by omega)]
        rw [hqc] at hfin
        have x1 := hexS_at (n := c.toNat / 16) (by omega)
        have x2 := hexS_at (n := c.toNat % 16) (by omega)
        have d1 := fdiv16 c.toNat
        have d2 : bitsI .and .u8 (c.toNat : Int) 15 = some ((c.toNat % 16 : Nat) : Int) := by
          rw [and_u8_15 (by omega) (by omega)]
          rfl
        obtain ⟨q1, hq1⟩ : ∃ q, q = c.toNat / 16 := ⟨_, rfl⟩
        obtain ⟨q2, hq2⟩ : ∃ q, q = c.toNat % 16 := ⟨_, rfl⟩
        rw [← hq1] at x1 d1
        rw [← hq2] at x2 d2
        rw [← hq1, ← hq2] at hfin
        obtain ⟨m2, e2, b2, l2, _⟩ := bld_text u j 0 _ [92, 120] (by simp) (by simp) m hg (by simp; omega)
        obtain ⟨m3, e3, b3, l3, _⟩ := bld_byte u j 0 _ (hexd q1) m2 b2 (by simp; omega)
        obtain ⟨m4, e4, b4, l4, _⟩ := bld_byte u j 0 _ (hexd q2) m3 b3 (by simp; omega)
        simp only [List.append_assoc, List.singleton_append, List.cons_append, List.nil_append] at b4
        simp [Fn.f_name_Quote_b0, Fn.f_name_Quote_s0, hi, hi', hc, hP, hw, g10, g34, g92', d1, d2, x1, x2, e2, e3, e4]
        exact ⟨i + 1, by omega, hfin m4 _ b4 ⟨rfl, rfl, rfl, rfl⟩⟩
    · have hi' : ¬ (i : Int) < s.length := by omega
      rw [List.take_of_length_le (by omega)] at hg
      simp [Fn.f_name_Quote_b0, Fn.f_name_Quote_s0, hi, hi', hg]
  · rintro e st ⟨rfl, h1, h2, hg, h3⟩
    obtain ⟨ts, m', ds⟩ := st
    simp only at h1 h2 h3 hg
    subst h1
    have hq := quotes_len s
    obtain ⟨m2, e2, b2, l2, _⟩ := bld_byte u j 0 _ 34 m' hg (by simp; omega)
    rw [e34] at e2
    obtain ⟨m3, e3⟩ := bld_str u (j + 1) 0 _ (by simp) m2 b2 (by simp; omega)
    simp only [List.cons_append] at e3
    match ts, h2, h3 with
    | t0 :: t1 :: t2 :: t3 :: t4 :: t5 :: t6 :: t7 :: t8 :: t9 :: t10 :: t11 :: t12 :: t13 :: t14 :: t15 :: t16 :: t17 :: t18 :: t19 :: t20 :: t21 :: t22 :: t23 :: t24 :: t25 :: t26 :: t27 :: t28 :: t29 :: t30 :: t31 :: t32 :: t33 :: t34 :: t35 :: t36 :: t37 :: t38 :: t39 :: t40 :: t41 :: t42 :: t43 :: t44 :: t45 :: [], h2, h3 =>
      simp only [getD_zero', getD_succ'] at h3
      subst h3
      simp [e2, e3]
end Hx

namespace Hx
open Go
set_option linter.unusedSimpArgs false
set_option linter.unusedVariables false
set_option maxHeartbeats 4000000
variable {E : Env}
attribute [-simp] List.getD_eq_getElem?_getD getElem?_pos
theorem head_at {s : List UInt8} {i : Nat} : (s.drop i).head? = s[i]? := by rw [List.head?_drop]
theorem u8ne {c d : UInt8} (h : c ≠ d) : ((c.toNat : Int) == d.toNat) = false := by
  have : (c == d) = false := by simpa using h
  rw [u8beq] at this; exact this
def UqInv (s : List UInt8) (i : Nat) (st : St) : Prop := ∃ (acc : List UInt8) (ov : AV) (m : Mem), UInv s i acc ∧ Grow 1 (byteRows acc) ov m ∧ Live Fn.f_name_Unquote_k0 (Fn.f_name_Unquote_s0 (.p (.str s)) ov (.p (.int .i64 i))) m st
theorem UqInv.mk {s : List UInt8} {i : Nat} {st : St} (acc : List UInt8) (ov : AV) (m : Mem) (h1 : UInv s i acc) (h2 : Grow 1 (byteRows acc) ov m) (h3 : Live Fn.f_name_Unquote_k0 (Fn.f_name_Unquote_s0 (.p (.str s)) ov (.p (.int .i64 i))) m st) : UqInv s i st := ⟨acc, ov, m, h1, h2, h3⟩
theorem grow_one {D : List UInt8} {ov : AV} {m : Mem} (hg : Grow 1 (byteRows D) ov m) (hl : D.length < 1000000000000) (c : UInt8) : (D = [] ∧ ov = .p .nils) ∨ (∃ t, ov = .tv 1 (byteRows D) t ∧ ∀ z : Blk, (m ++ [z])[t]? = some (.tok 1 D.length)) := by
  rcases hg with ⟨hr, rfl⟩ | ⟨hr, t, rfl, ht⟩
  · exact .inl ⟨by simpa [byteRows] using hr, rfl⟩
  · exact .inr ⟨t, rfl, fun z => by rw [get_app ht, byteRows_len']⟩
theorem grow_nil1 {m : Mem} {c : UInt8} : Grow 1 (byteRows [c]) (.tv 1 (byteRows [c]) (m.length + 1)) (m ++ [Blk.tok 1 1, Blk.tok 1 1]) := .inr ⟨by simp [byteRows], m.length + 1, rfl, by rw [List.getElem?_append_right (by omega)]; simp [byteRows]⟩
theorem grow_set1 {m : Mem} {D : List UInt8} {c : UInt8} {t : Nat} (ht2 : ∀ z : Blk, (m ++ [z])[t]? = some (.tok 1 D.length)) : Grow 1 (byteRows (D ++ [c])) (.tv 1 (byteRows (D ++ [c])) t) ((m ++ [Blk.tok 1 1]).set t (.tok 1 (D.length + 1))) := .inr ⟨by simp [byteRows], t, rfl, by rw [get_set (ht2 _), byteRows_len']; simp⟩
theorem name_Unquote (u : Q05 E) (s : List UInt8) (hs : (s.length : Int) ≤ 1000000000) (k : Nat) (hk : s.length + 10 ≤ k) (m : Mem) : denF E (k + 1) 62 [.p (.str s)] m = some (.ret (unquoteV s), m) := by
  refine denF_wp u.unquote rfl (args' := [.p (.str s)]) rfl ?_
  obtain ⟨j, rfl⟩ : ∃ j, k = j + 3 := ⟨k - 3, by omega⟩
  unfold unquoteV
  cases s with
  | nil => simp [Fn.f_name_Unquote]
  | cons a r =>
  by_cases h34 : ¬ a = 34
  · have g := u8ne h34
    have g34 : ((34 : UInt8).toNat : Int) = 34 := rfl
    rw [g34] at g
    simp [Fn.f_name_Unquote, g, bne, h34]
  obtain rfl := Classical.not_not.1 h34
  have hh : (34 :: r : List UInt8).head? = some 34 := rfl
  rw [if_pos hh]
  simp [Fn.f_name_Unquote, bne]
  have hU0 := uinv_0 hh
  generalize hsx : (34 :: r : List UInt8) = s at *
  have htail : r = s.tail := by rw [← hsx]; rfl
  rw [htail]
  refine (loop_wp (α := Nat) (I := fun i st => UqInv s i st) (meas := fun i => s.length - i)
    (Q := fun e st => st.ds = [] ∧ ((e = .exit 0 ∧ unq s.tail = none ∧ st.ts.length = 60) ∨ (e = .ret ∧ ∃ q, unq s.tail = some q ∧ st.ts.getD 2 (.tup []) = .p (.str q.1) ∧ st.ts.getD 3 (.tup []) = .p (.int .i64 ((q.2 : Int) + 1)) ∧ st.ts.getD 4 (.tup []) = .p (.bool true)) ∨
      (e = .ret ∧ unq s.tail = none ∧ st.ts.getD 2 (.tup []) = .p (.str []) ∧ st.ts.getD 3 (.tup []) = .p (.int .i64 0) ∧ st.ts.getD 4 (.tup []) = .p (.bool false)))) ?_ (j + 3) 1 _ (UqInv.mk [] (.p .nils) [] hU0 (.inl ⟨rfl, rfl⟩) ⟨rfl, rfl, rfl, rfl⟩) (by omega)).mono ?_
  · rintro i st ⟨D, ov, m, hU, hg, hlive⟩
    rw [loopF_live hlive]
    have hi0 := hU.2.1
    have hDl := hU.2.2.1
    by_cases hi : i < s.length
    · have hi' : (i : Int) < s.length := by omega
      obtain ⟨c, hc⟩ : ∃ c, s[i]? = some c := ⟨_, List.getElem?_eq_getElem hi⟩
      have hw : IntKind.i64.wrap ((i : Int) + 1) = i + 1 := wrap_i64 (by omega) (by omega)
      have hP := fun m => name_plain u (j + 2) c m
      have hdrop : s.drop i = c :: s.drop (i + 1) := drop_at hc
      have hgo := grow_one hg (by omega) c
      by_cases c34 : c = 34
      · subst c34
        have hq := uinv_quote hU (by rw [hdrop]; rfl)
        have g34 : ((34 : UInt8).toNat : Int) = 34 := rfl
        have hun := unBytes_rows' D
        rcases hgo with ⟨rfl, rfl⟩ | ⟨t, rfl, ht2⟩
        · simp [Fn.f_name_Unquote_b0, Fn.f_name_Unquote_s0, hi, hi', hc, hw, hq, unBytes]
        · simp [Fn.f_name_Unquote_b0, Fn.f_name_Unquote_s0, hi, hi', hc, hw, hun, hq]
      have g := u8ne c34
      have g34 : ((34 : UInt8).toNat : Int) = 34 := rfl
      rw [g34] at g
      have hn34 : ¬ (s.drop i).head? = some 34 := by
        rw [head_at, hc]
        simpa using c34
      have happ : byteRows (D ++ [c]) = byteRows D ++ [[PV.int .u8 c.toNat]] := by simp [byteRows, byteRow]
      have hbl := byteRows_len' D
      have hb2 : D.length + 1 ≤ room := by unfold room; omega
      cases hp : plainC c with
      | true =>
        rw [hp] at hP
        have hst : stepQ (s.drop i) = some (c, 1) := by rw [hdrop, stepQ_cons, if_pos hp]
        have hU1 := uinv_step hU hn34 hst
        rcases hgo with ⟨rfl, rfl⟩ | ⟨t, rfl, ht2⟩
        · simp [Fn.f_name_Unquote_b0, Fn.f_name_Unquote_s0, hi, hi', hc, hw, g, hP, room]
          exact ⟨i + 1, by omega, UqInv.mk [c] (.tv 1 (byteRows [c]) (m.length + 1)) _ hU1 grow_nil1 ⟨rfl, by simp [keep, Fn.f_name_Unquote_k0, Fn.f_name_Unquote_s0, byteRows, byteRow], rfl, rfl⟩⟩
        · simp [Fn.f_name_Unquote_b0, Fn.f_name_Unquote_s0, hi, hi', hc, hw, g, hP, hbl, hb2, ht2]
          exact ⟨i + 1, by omega, UqInv.mk (D ++ [c]) (.tv 1 (byteRows (D ++ [c])) t) _ hU1 (grow_set1 ht2) ⟨rfl, by simp [keep, Fn.f_name_Unquote_k0, Fn.f_name_Unquote_s0, happ], rfl, rfl⟩⟩
      | false =>
        rw [hp] at hP
        by_cases c92 : c = 92
        · subst c92
          have g92 : ((92 : UInt8).toNat : Int) = 92 := rfl
          rw [g92] at hP g
          have hE := fun m => name_escaped u j (s.drop (i + 1)) m
          have hlt : i + 1 ≤ s.length := hi
          have hst0 : stepQ (s.drop i) = if (esc (s.drop (i + 1))).2 = 0 then none else some ((esc (s.drop (i + 1))).1, (esc (s.drop (i + 1))).2 + 1) := by rw [hdrop, stepQ_cons, if_neg (by rw [hp]; simp), if_pos rfl]
          have t1 : ((i : Int) + 1).toNat = i + 1 := by omega
          have p1 : (0 : Int) ≤ (i : Int) + 1 := by omega
          obtain ⟨x, hx⟩ : ∃ x, (esc (s.drop (i + 1))).1 = x := ⟨_, rfl⟩
          obtain ⟨n, hn⟩ : ∃ n, (esc (s.drop (i + 1))).2 = n := ⟨_, rfl⟩
          rw [hx, hn] at hE hst0
          cases n with
          | zero =>
            have := uinv_none hU hn34 (by rw [hst0]; rfl)
            simp [Fn.f_name_Unquote_b0, Fn.f_name_Unquote_s0, hi, hi', hc, hw, g, hP, hE, this, hlt, t1, p1]
          | succ n =>
            have hst : stepQ (s.drop i) = some (x, n + 2) := by rw [hst0, if_neg (by omega)]
            have hU1 := uinv_step hU hn34 hst
            have hle := hU1.2.1
            have hw3 : IntKind.i64.wrap ((i : Int) + ((n : Int) + 1)) = (i : Int) + n + 1 := by rw [wrap_i64] <;> omega
            have hw4 : IntKind.i64.wrap ((i : Int) + n + 1 + 1) = ((i + (n + 2) : Nat) : Int) := by rw [wrap_i64] <;> omega
            have happ : byteRows (D ++ [x]) = byteRows D ++ [[PV.int .u8 x.toNat]] := by simp [byteRows, byteRow]
            have hn0 : ((n : Int) + 1 == 0) = false := by simp; omega
            rcases hgo with ⟨rfl, rfl⟩ | ⟨t, rfl, ht2⟩
            · simp [Fn.f_name_Unquote_b0, Fn.f_name_Unquote_s0, hi, hi', hc, hw, g, hP, hE, hlt, t1, p1, hn0, hw3, hw4, room]
              exact ⟨i + (n + 2), by omega, UqInv.mk [x] (.tv 1 (byteRows [x]) (m.length + 1)) _ hU1 grow_nil1 ⟨rfl, by simp [keep, Fn.f_name_Unquote_k0, Fn.f_name_Unquote_s0, byteRows, byteRow, hw4], rfl, rfl⟩⟩
            · simp [Fn.f_name_Unquote_b0, Fn.f_name_Unquote_s0, hi, hi', hc, hw, g, hP, hE, hlt, t1, p1, hn0, hw3, hw4, hbl, hb2, ht2]
              exact ⟨i + (n + 2), by omega, UqInv.mk (D ++ [x]) (.tv 1 (byteRows (D ++ [x])) t) _ hU1 (grow_set1 ht2) ⟨rfl, by simp [keep, Fn.f_name_Unquote_k0, Fn.f_name_Unquote_s0, happ, hw4], rfl, rfl⟩⟩
        · have g2 := u8ne c92
          have g92 : ((92 : UInt8).toNat : Int) = 92 := rfl
          rw [g92] at g2
          have hst : stepQ (s.drop i) = none := by rw [hdrop, stepQ_cons, if_neg (by rw [hp]; simp), if_neg c92]
          have := uinv_none hU hn34 hst
          simp [Fn.f_name_Unquote_b0, Fn.f_name_Unquote_s0, hi, hi', hc, hw, g, g2, hP, this]
    · have hi' : ¬ (i : Int) < s.length := by omega
      have hnil : s.drop i = [] := List.drop_eq_nil_of_le (by omega)
      have := uinv_none hU (by rw [hnil]; simp) (by rw [hnil]; rfl)
      simp [Fn.f_name_Unquote_b0, Fn.f_name_Unquote_s0, hi, hi', this]
  · rintro e st ⟨h0, h⟩
    obtain ⟨ts, m', ds⟩ := st
    simp only at h0 h
    subst h0
    rcases h with ⟨rfl, hx, hl⟩ | ⟨rfl, q, hq, q1, q2, q3⟩ | ⟨rfl, hq, q1, q2, q3⟩
    · rw [hx]
      match ts, hl with
      | t0 :: t1 :: t2 :: t3 :: t4 :: t5 :: t6 :: t7 :: t8 :: t9 :: t10 :: t11 :: t12 :: t13 :: t14 :: t15 :: t16 :: t17 :: t18 :: t19 :: t20 :: t21 :: t22 :: t23 :: t24 :: t25 :: t26 :: t27 :: t28 :: t29 :: t30 :: t31 :: t32 :: t33 :: t34 :: t35 :: t36 :: t37 :: t38 :: t39 :: t40 :: t41 :: t42 :: t43 :: t44 :: t45 :: t46 :: t47 :: t48 :: t49 :: t50 :: t51 :: t52 :: t53 :: t54 :: t55 :: t56 :: t57 :: t58 :: t59 :: [], hl => simp
    · simp [hq, q1, q2, q3]
    · simp [hq, q1, q2, q3]
end Hx
