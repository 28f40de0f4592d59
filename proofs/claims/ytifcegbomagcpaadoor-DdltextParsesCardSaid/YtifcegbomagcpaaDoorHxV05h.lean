/-
  HxV05h: texts between quotes, as the program and the document read them.
-/
import Derived.Test.YtifcegbomagcpaaDoorHxFn05
import Derived.Test.YtifcegbomagcpaaDoorHxU03c
import Derived.Test.YtifcegbomagcpaaDoorHxU03k
import Derived.Test.YtifcegbomagcpaaDoorHxU05c
import Derived.Test.YtifcegbomagcpaaDoorHxU05
namespace Hx
open Go
set_option linter.unusedSimpArgs false
set_option linter.unusedVariables false
set_option maxHeartbeats 4000000
variable {E : Env}
attribute [-simp] List.getD_eq_getElem?_getD getElem?_pos
structure Q05 (E : Env) : Prop where
  plain : E.fn 72 = some Fn.f_name_plain
  one : E.fn 68 = some Fn.f_haulageref04_one
  idx : E.fn 64 = some Fn.f_strings_IndexByte
  idx' : E.fn 76 = some Fn.f_internal_stringslite_IndexByte
  escaped : E.fn 75 = some Fn.f_name_escaped
  wbyte : E.fn 71 = some Fn.f_strings_Builder_WriteByte
  wstr : E.fn 73 = some Fn.f_strings_Builder_WriteString
  str : E.fn 74 = some Fn.f_strings_Builder_String
  copy : E.fn 77 = some Fn.f_strings_Builder_copyCheck
  quote : E.fn 214 = some Fn.f_name_Quote
  unquote : E.fn 62 = some Fn.f_name_Unquote
theorem hexS_cut {n : Nat} (h : n < 16) : (([48, 49, 50, 51, 52, 53, 54, 55, 56, 57, 97, 98, 99, 100, 101, 102] : List UInt8).take (n + 1)).drop n = [hexd n] := by
  have : ∀ x : Fin 16, (([48, 49, 50, 51, 52, 53, 54, 55, 56, 57, 97, 98, 99, 100, 101, 102] : List UInt8).take (x.val + 1)).drop x.val = [hexd x.val] := by decide +kernel
  exact this ⟨n, h⟩
theorem tdiv16 (n : Nat) : (n : Int).tdiv 16 = ((n / 16 : Nat) : Int) := by
  rw [Int.tdiv_eq_ediv_of_nonneg (by omega)]; rfl
theorem tmod16 (n : Nat) : (n : Int).tmod 16 = ((n % 16 : Nat) : Int) := by
  rw [Int.tmod_eq_emod_of_nonneg (by omega)]; rfl
theorem u8beq {c d : UInt8} : (c == d) = ((c.toNat : Int) == d.toNat) := by
  rw [Bool.eq_iff_iff]
  simp only [beq_iff_eq]
  exact ⟨fun h => by rw [h], fun h => UInt8.toNat_inj.1 (by omega)⟩
theorem name_plain (u : Q05 E) (k : Nat) (c : UInt8) (m : Mem) : denF E (k + 1) 72 [.p (.int .u8 c.toNat)] m = some (.ret (.p (.bool (plainC c))), m) := by
  refine denF_wp u.plain rfl (args' := [.p (.int .u8 c.toNat)]) rfl ?_
  unfold plainC
  generalize (c.toNat : Int) = x
  by_cases h1 : (32 : Int) ≤ x
  · by_cases h2 : x ≤ 126
    · cases h3 : (x == 34) <;> simp [Fn.f_name_plain, h1, h2, h3, bne]
    · simp [Fn.f_name_plain, h1, h2]
  · simp [Fn.f_name_plain, h1]
theorem ref_one4 (u : Q05 E) (k : Nat) (c : UInt8) (m : Mem) : denF E (k + 1) 68 [.p (.int .u8 c.toNat)] m = some (.ret (.p (.str (quoteC c))), m) := by
  refine denF_wp u.one rfl (args' := [.p (.int .u8 c.toNat)]) rfl ?_
  unfold quoteC
  have hc := UInt8.toNat_lt c
  by_cases h1 : (c.toNat : Int) = 34
  · have : c = 34 := UInt8.toNat_inj.1 (by simp; omega)
    subst this
    simp [Fn.f_haulageref04_one, unBytes, unByte]
  by_cases h2 : (c.toNat : Int) = 92
  · have : c = 92 := UInt8.toNat_inj.1 (by simp; omega)
    subst this
    simp [Fn.f_haulageref04_one, unBytes, unByte]
  have b1 : ((c.toNat : Int) == 34) = false := by simpa using h1
  have b2 : ((c.toNat : Int) == 92) = false := by simpa using h2
  rw [if_neg (by omega)]
  by_cases h3 : (c.toNat : Int) = 10
  · have b3 : ((c.toNat : Int) == 10) = true := by simpa using h3
    rw [if_pos h3]
    simp [Fn.f_haulageref04_one, b1, b2, b3]
  have b3 : ((c.toNat : Int) == 10) = false := by simpa using h3
  rw [if_neg h3]
  have w1 : IntKind.u8.wrap ((c.toNat / 16 : Nat) : Int) = ((c.toNat / 16 : Nat) : Int) := wrap_u8 (by omega) (by omega)
  have w2 : IntKind.u8.wrap (((c.toNat / 16 : Nat) : Int) + 1) = ((c.toNat / 16 + 1 : Nat) : Int) := by rw [wrap_u8 (by omega) (by omega)]; omega
  have w3 : IntKind.u8.wrap (((c.toNat % 16 : Nat) : Int) + 1) = ((c.toNat % 16 + 1 : Nat) : Int) := by rw [wrap_u8 (by omega) (by omega)]; omega
  have x1 := hexS_cut (n := c.toNat / 16) (by omega)
  have x2 := hexS_cut (n := c.toNat % 16) (by omega)
  have d1 := tdiv16 c.toNat
  have d2 := tmod16 c.toNat
  have l1 : c.toNat / 16 + 1 ≤ 16 := by omega
  have l2 : c.toNat % 16 + 1 ≤ 16 := by omega
  generalize hq1 : c.toNat / 16 = q1 at *
  generalize hq2 : c.toNat % 16 = q2 at *
  by_cases h4 : (c.toNat : Int) < 32
  · rw [if_pos (.inl h4)]
    simp [Fn.f_haulageref04_one, b1, b2, b3, h4, d1, d2, w1, w2, w3, l1, l2, x1, x2, strLim, -Int.natCast_add, -List.take_succ_cons]
  · by_cases h5 : 126 < (c.toNat : Int)
    · rw [if_pos (.inr h5)]
      simp [Fn.f_haulageref04_one, b1, b2, b3, h4, h5, d1, d2, w1, w2, w3, l1, l2, x1, x2, strLim, -Int.natCast_add, -List.take_succ_cons]
    · rw [if_neg (by omega)]
      simp [Fn.f_haulageref04_one, b1, b2, b3, h4, h5, unBytes, unByte]
theorem ref_starts (h69 : E.fn 69 = some Fn.f_haulageref04_starts) (k : Nat) (s t : List UInt8) (m : Mem) : denF E (k + 1) 69 [.p (.str s), .p (.str t)] m = some (.ret (.p (.bool (starts s t))), m) := by
  refine denF_wp h69 rfl (args' := [.p (.str s), .p (.str t)]) rfl ?_
  unfold starts
  by_cases h : t.length ≤ s.length
  · have h' : (t.length : Int) ≤ s.length := by omega
    simp [Fn.f_haulageref04_starts, h, h', bounds, asNat, asInt]
  · have h' : ¬ (t.length : Int) ≤ s.length := by omega
    simp [Fn.f_haulageref04_starts, h, h']
theorem index_byte (u : Q05 E) (k : Nat) (s : List UInt8) (c : UInt8) (m : Mem) : denF E (k + 2) 64 [.p (.str s), .p (.int .u8 c.toNat)] m = some (.ret (.p (.int .i64 (idxByte s c))), m) := by
  have h : ∀ m, denF E (k + 1) 76 [.p (.str s), .p (.int .u8 c.toNat)] m = some (.ret (.p (.int .i64 (idxByte s c))), m) := by
    intro m
    refine denF_wp u.idx' rfl (args' := [.p (.str s), .p (.int .u8 c.toNat)]) rfl ?_
    simp [Fn.f_internal_stringslite_IndexByte]
  refine denF_wp u.idx rfl (args' := [.p (.str s), .p (.int .u8 c.toNat)]) rfl ?_
  simp [Fn.f_strings_IndexByte, h]
def hexi (c : UInt8) : Int := match hexv c with | some i => i | none => -1
theorem index_hex (u : Q05 E) (k : Nat) (c : UInt8) (m : Mem) : denF E (k + 2) 64 [.p (.str [48, 49, 50, 51, 52, 53, 54, 55, 56, 57, 97, 98, 99, 100, 101, 102]), .p (.int .u8 c.toNat)] m = some (.ret (.p (.int .i64 (hexi c))), m) := index_byte u k hexS c m
theorem or_i64_hex : ∀ x y : Fin 16, bitsI .or .i64 (16 * x.val : Int) (y.val : Int) = some ((16 * x.val + y.val : Nat) : Int) := by decide +kernel
theorem or_i64_any (x y : Int) : ∃ r, bitsI .or .i64 x y = some r := ⟨_, rfl⟩
theorem name_escaped (u : Q05 E) (k : Nat) (s : List UInt8) (m : Mem) : denF E (k + 3) 75 [.p (.str s)] m = some (.ret (.tup [.p (.int .u8 (esc s).1.toNat), .p (.int .i64 (esc s).2)]), m) := by
  refine denF_wp u.escaped rfl (args' := [.p (.str s)]) rfl ?_
  cases s with
  | nil => simp [Fn.f_name_escaped, esc]
  | cons a r =>
    rw [esc_cons]
    by_cases h1 : a = 110
    · subst h1
      simp [Fn.f_name_escaped]
    rw [if_neg h1]
    have b1 : ((a.toNat : Int) == 110) = false := by
      have : (a == 110) = false := by simpa using h1
      rw [u8beq] at this; exact this
    by_cases h2 : a = 34 ∨ a = 92
    · rw [if_pos h2]
      rcases h2 with rfl | rfl <;> simp [Fn.f_name_escaped]
    rw [if_neg h2]
    have b2 : ((a.toNat : Int) == 34) = false := by
      have : (a == 34) = false := by simp; exact fun e => h2 (.inl e)
      rw [u8beq] at this; exact this
    have b3 : ((a.toNat : Int) == 92) = false := by
      have : (a == 92) = false := by simp; exact fun e => h2 (.inr e)
      rw [u8beq] at this; exact this
    by_cases h3 : a = 120
    · rw [if_pos h3]
      subst h3
      match r with
      | [] => simp [Fn.f_name_escaped]
      | [_] => simp [Fn.f_name_escaped]
      | x :: y :: r =>
        have i1 := fun m => index_hex u k x m
        have i2 := fun m => index_hex u k y m
        have f1 := u.idx
        have p1 : Fn.f_strings_IndexByte.pure = true := rfl
        have hl : ¬ ((r.length : Int) + 1 + 1 + 1 < 3) := by omega
        cases hx : hexv x with
        | none =>
          have e : hexi x = -1 := by unfold hexi; rw [hx]
          rw [e] at i1
          have e16 : IntKind.i64.wrap (-16) = -16 := by decide
          obtain ⟨o, ho⟩ := or_i64_any (-16) (hexi y)
          simp [Fn.f_name_escaped, i1, i2, f1, p1, hl, e16, ho, hx]
        | some i =>
          have e : hexi x = i := by unfold hexi; rw [hx]
          have hi := hexv_lt hx
          rw [e] at i1
          have w16 : IntKind.i64.wrap ((i : Int) * 16) = 16 * i := by rw [wrap_i64 (by omega) (by omega)]; omega
          cases hy : hexv y with
          | none =>
            have e2 : hexi y = -1 := by unfold hexi; rw [hy]
            rw [e2] at i2
            have n0 : ¬ (i : Int) < 0 := by omega
            obtain ⟨o, ho⟩ := or_i64_any (16 * (i : Int)) (-1)
            simp [Fn.f_name_escaped, i1, i2, f1, p1, hl, w16, ho, n0, hx, hy]
          | some j =>
            have e2 : hexi y = j := by unfold hexi; rw [hy]
            have hj := hexv_lt hy
            rw [e2] at i2
            have n0 : ¬ (i : Int) < 0 := by omega
            have n1 : ¬ (j : Int) < 0 := by omega
            have ho := or_i64_hex ⟨i, hi⟩ ⟨j, hj⟩
            simp only at ho
            have w8 : IntKind.u8.wrap ((16 * i + j : Nat) : Int) = ((16 * i + j : Nat) : Int) := wrap_u8 (by omega) (by omega)
            have t8 : (UInt8.ofNat (16 * i + j)).toNat = 16 * i + j := by rw [UInt8.toNat_ofNat']; omega
            obtain ⟨z, hz⟩ : ∃ z, z = 16 * i + j := ⟨_, rfl⟩
            rw [← hz] at ho w8 t8
            simp only [hx, hy]
            simp only [← hz]
            have hZ : z < 256 := by omega
            by_cases g1 : 32 ≤ z ∧ z ≤ 126
            · have g1a : (32 : Int) ≤ z := by omega
              have g1b : (z : Int) ≤ 126 := by omega
              rw [if_pos (.inl g1)]
              simp [Fn.f_name_escaped, i1, i2, f1, p1, hl, w16, ho, n0, n1, w8, g1a, g1b]
            · by_cases g2 : z = 10
              · rw [if_pos (.inr g2)]
                subst g2
                have w10 : IntKind.u8.wrap 10 = 10 := by decide
                simp [Fn.f_name_escaped, i1, i2, f1, p1, hl, w16, ho, n0, n1, w8, w10]
              · have g2b : ((z : Int) == 10) = false := by simp; omega
                rw [if_neg (by omega)]
                by_cases g3 : (32 : Int) ≤ z
                · have g4 : ¬ (z : Int) ≤ 126 := by omega
                  simp [Fn.f_name_escaped, i1, i2, f1, p1, hl, w16, ho, n0, n1, w8, g2b, g3, g4, t8]
                · simp [Fn.f_name_escaped, i1, i2, f1, p1, hl, w16, ho, n0, n1, w8, g2b, g3, t8]
    · rw [if_neg h3]
      have b4 : ((a.toNat : Int) == 120) = false := by
        have : (a == 120) = false := by simpa using h3
        rw [u8beq] at this; exact this
      simp [Fn.f_name_escaped, b1, b2, b3, b4]

def BGrow (acc : List UInt8) (id : Nat) (m : Mem) : Prop := ∃ a b, m[id]? = some (.cells [a, b]) ∧ (a = .p .nilp ∨ a = .ty 0 (.ptr id 0)) ∧
  ((acc = [] ∧ b = .p .nils) ∨ (acc ≠ [] ∧ ∃ t, t ≠ id ∧ b = .ty 1 (.tv 1 (byteRows acc) t) ∧ m[t]? = some (.tok 1 acc.length)))
theorem get_ne {m : Mem} {i j : Nat} {x : Blk} (h : i ≠ j) : (m.set i x)[j]? = m[j]? := by
  rw [List.getElem?_set]
  rw [if_neg h]
theorem get_lt {m : Mem} {t : Nat} {b : Blk} (h : m[t]? = some b) : t < m.length := by
  rcases Nat.lt_or_ge t m.length with h' | h'
  · exact h'
  · rw [List.getElem?_eq_none h'] at h; cases h
end Hx

namespace Hx
open Go
set_option linter.unusedSimpArgs false
set_option linter.unusedVariables false
set_option maxHeartbeats 4000000
variable {E : Env}
attribute [-simp] List.getD_eq_getElem?_getD getElem?_pos
theorem byteRows_len' (t : List UInt8) : (byteRows t).length = t.length := by simp [byteRows]
theorem unBytes_rows' : ∀ t : List UInt8, unBytes (byteRows t) = some t
  | [] => rfl
  | c :: t => by
    have : byteRows (c :: t) = byteRow c :: byteRows t := rfl
    rw [this, unBytes, unBytes_rows' t]
    simp [byteRow, unByte]
end Hx

namespace Hx
open Go
set_option linter.unusedSimpArgs false
set_option linter.unusedVariables false
set_option maxHeartbeats 4000000
variable {E : Env}
attribute [-simp] List.getD_eq_getElem?_getD getElem?_pos
theorem quoteC_len (c : UInt8) : (quoteC c).length ≤ 4 := by
  unfold quoteC
  split
  · simp
  split
  · simp
  split <;> simp
theorem take_snoc {s : List UInt8} {i : Nat} {c : UInt8} (h : s[i]? = some c) : s.take (i + 1) = s.take i ++ [c] := by
  rw [List.take_add_one, h]; rfl
def QInv (s : List UInt8) (i : Nat) (st : St) : Prop := ∃ m, i ≤ s.length ∧ BGrow (34 :: quotes (s.take i)) 0 m ∧ Live Fn.f_name_Quote_k0 (Fn.f_name_Quote_s0 (.p (.str s)) (.ty 0 (.ptr 0 0)) (.p (.int .i64 s.length)) (.p (.int .i64 i))) m st
theorem QInv.mk {s : List UInt8} {i : Nat} {st : St} (m : Mem) (h1 : i ≤ s.length) (h2 : BGrow (34 :: quotes (s.take i)) 0 m) (h3 : Live Fn.f_name_Quote_k0 (Fn.f_name_Quote_s0 (.p (.str s)) (.ty 0 (.ptr 0 0)) (.p (.int .i64 s.length)) (.p (.int .i64 i))) m st) : QInv s i st := ⟨m, h1, h2, h3⟩
end Hx

namespace Hx
open Go
set_option linter.unusedSimpArgs false
set_option linter.unusedVariables false
set_option maxHeartbeats 4000000
variable {E : Env}
attribute [-simp] List.getD_eq_getElem?_getD getElem?_pos
theorem head_at {s : List UInt8} {i : Nat} : (s.drop i).head? = s[i]? := by rw [List.head?_drop]
theorem u8ne {c d : UInt8} (h : c ≠ d) : ((c.toNat : Int) == d.toNat) = false := by
  have : (c == d) = false := by simpa using h
  rw [u8beq] at this; exact this
def UqInv (s : List UInt8) (i : Nat) (st : St) : Prop := ∃ (acc : List UInt8) (ov : AV) (m : Mem), UInv s i acc ∧ Grow 1 (byteRows acc) ov m ∧ Live Fn.f_name_Unquote_k0 (Fn.f_name_Unquote_s0 (.p (.str s)) ov (.p (.int .i64 i))) m st
theorem UqInv.mk {s : List UInt8} {i : Nat} {st : St} (acc : List UInt8) (ov : AV) (m : Mem) (h1 : UInv s i acc) (h2 : Grow 1 (byteRows acc) ov m) (h3 : Live Fn.f_name_Unquote_k0 (Fn.f_name_Unquote_s0 (.p (.str s)) ov (.p (.int .i64 i))) m st) : UqInv s i st := ⟨acc, ov, m, h1, h2, h3⟩
theorem grow_one {D : List UInt8} {ov : AV} {m : Mem} (hg : Grow 1 (byteRows D) ov m) (hl : D.length < 1000000000000) (c : UInt8) : (D = [] ∧ ov = .p .nils) ∨ (∃ t, ov = .tv 1 (byteRows D) t ∧ ∀ z : Blk, (m ++ [z])[t]? = some (.tok 1 D.length)) := by
  rcases hg with ⟨hr, rfl⟩ | ⟨hr, t, rfl, ht⟩
  · exact .inl ⟨by simpa [byteRows] using hr, rfl⟩
  · exact .inr ⟨t, rfl, fun z => by rw [get_app ht, byteRows_len']⟩
theorem grow_nil1 {m : Mem} {c : UInt8} : Grow 1 (byteRows [c]) (.tv 1 (byteRows [c]) (m.length + 1)) (m ++ [Blk.tok 1 1, Blk.tok 1 1]) := .inr ⟨by simp [byteRows], m.length + 1, rfl, by rw [List.getElem?_append_right (by omega)]; simp [byteRows]⟩
theorem grow_set1 {m : Mem} {D : List UInt8} {c : UInt8} {t : Nat} (ht2 : ∀ z : Blk, (m ++ [z])[t]? = some (.tok 1 D.length)) : Grow 1 (byteRows (D ++ [c])) (.tv 1 (byteRows (D ++ [c])) t) ((m ++ [Blk.tok 1 1]).set t (.tok 1 (D.length + 1))) := .inr ⟨by simp [byteRows], t, rfl, by rw [get_set (ht2 _), byteRows_len']; simp⟩
theorem name_Unquote (u : Q05 E) (s : List UInt8) (hs : (s.length : Int) ≤ 1000000000) (k : Nat) (hk : s.length + 10 ≤ k) (m : Mem) : denF E (k + 1) 62 [.p (.str s)] m = some (.ret (unquoteV s), m) := by
  refine denF_wp u.unquote rfl (args' := [.p (.str s)]) rfl ?_
  obtain ⟨j, rfl⟩ : ∃ j, k = j + 3 := ⟨k - 3, by omega⟩
  unfold unquoteV
  cases s with
  | nil => simp [Fn.f_name_Unquote]
  | cons a r =>
  by_cases h34 : ¬ a = 34
  · have g := u8ne h34
    have g34 : ((34 : UInt8).toNat : Int) = 34 := rfl
    rw [g34] at g
    simp [Fn.f_name_Unquote, g, bne, h34]
  obtain rfl := Classical.not_not.1 h34
  have hh : (34 :: r : List UInt8).head? = some 34 := rfl
  rw [if_pos hh]
  simp [Fn.f_name_Unquote, bne]
  have hU0 := uinv_0 hh
  generalize hsx : (34 :: r : List UInt8) = s at *
  have htail : r = s.tail := by rw [← hsx]; rfl
  rw [htail]
  refine (loop_wp (α := Nat) (I := fun i st => UqInv s i st) (meas := fun i => s.length - i)
    (Q := fun e st => st.ds = [] ∧ ((e = .exit 0 ∧ unq s.tail = none ∧ st.ts.length = 60) ∨ (e = .ret ∧ ∃ q, unq s.tail = some q ∧ st.ts.getD 2 (.tup []) = .p (.str q.1) ∧ st.ts.getD 3 (.tup []) = .p (.int .i64 ((q.2 : Int) + 1)) ∧ st.ts.getD 4 (.tup []) = .p (.bool true)) ∨
      (e = .ret ∧ unq s.tail = none ∧ st.ts.getD 2 (.tup []) = .p (.str []) ∧ st.ts.getD 3 (.tup []) = .p (.int .i64 0) ∧ st.ts.getD 4 (.tup []) = .p (.bool false)))) ?_ (j + 3) 1 _ (UqInv.mk [] (.p .nils) [] hU0 (.inl ⟨rfl, rfl⟩) ⟨rfl, rfl, rfl, rfl⟩) (by omega)).mono ?_
  · rintro i st ⟨D, ov, m, hU, hg, hlive⟩
    rw [loopF_live hlive]
    have hi0 := hU.2.1
    have hDl := hU.2.2.1
    by_cases hi : i < s.length
    · have hi' : (i : Int) < s.length := by omega
      obtain ⟨c, hc⟩ : ∃ c, s[i]? = some c := ⟨_, List.getElem?_eq_getElem hi⟩
      have hw : IntKind.i64.wrap ((i : Int) + 1) = i + 1 := wrap_i64 (by omega) (by omega)
      have hP := fun m => name_plain u (j + 2) c m
      have hdrop : s.drop i = c :: s.drop (i + 1) := drop_at hc
      have hgo := grow_one hg (by omega) c
      by_cases c34 : c = 34
      · subst c34
        have hq := uinv_quote hU (by rw [hdrop]; rfl)
        have g34 : ((34 : UInt8).toNat : Int) = 34 := rfl
        have hun := unBytes_rows' D
        rcases hgo with ⟨rfl, rfl⟩ | ⟨t, rfl, ht2⟩
        · simp [Fn.f_name_Unquote_b0, Fn.f_name_Unquote_s0, hi, hi', hc, hw, hq, unBytes]
        · simp [Fn.f_name_Unquote_b0, Fn.f_name_Unquote_s0, hi, hi', hc, hw, hun, hq]
      have g := u8ne c34
      have g34 : ((34 : UInt8).toNat : Int) = 34 := rfl
      rw [g34] at g
      have hn34 : ¬ (s.drop i).head? = some 34 := by
        rw [head_at, hc]
        simpa using c34
      have happ : byteRows (D ++ [c]) = byteRows D ++ [[PV.int .u8 c.toNat]] := by simp [byteRows, byteRow]
      have hbl := byteRows_len' D
      have hb2 : D.length + 1 ≤ room := by unfold room; omega
      cases hp : plainC c with
      | true =>
        rw [hp] at hP
        have hst : stepQ (s.drop i) = some (c, 1) := by rw [hdrop, stepQ_cons, if_pos hp]
        have hU1 := uinv_step hU hn34 hst
        rcases hgo with ⟨rfl, rfl⟩ | ⟨t, rfl, ht2⟩
        · simp [Fn.f_name_Unquote_b0, Fn.f_name_Unquote_s0, hi, hi', hc, hw, g, hP, room]
          exact ⟨i + 1, by omega, UqInv.mk [c] (.tv 1 (byteRows [c]) (m.length + 1)) _ hU1 grow_nil1 ⟨rfl, by simp [keep, Fn.f_name_Unquote_k0, Fn.f_name_Unquote_s0, byteRows, byteRow], rfl, rfl⟩⟩
        · simp [Fn.f_name_Unquote_b0, Fn.f_name_Unquote_s0, hi, hi', hc, hw, g, hP, hbl, hb2, ht2]
          exact ⟨i + 1, by omega, UqInv.mk (D ++ [c]) (.tv 1 (byteRows (D ++ [c])) t) _ hU1 (grow_set1 ht2) ⟨rfl, by simp [keep, Fn.f_name_Unquote_k0, Fn.f_name_Unquote_s0, happ], rfl, rfl⟩⟩
      | false =>
        rw [hp] at hP
        by_cases c92 : c = 92
        · subst c92
          have g92 : ((92 : UInt8).toNat : Int) = 92 := rfl
          rw [g92] at hP g
          have hE := fun m => name_escaped u j (s.drop (i + 1)) m
          have hlt : i + 1 ≤ s.length := hi
          have hst0 : stepQ (s.drop i) = if (esc (s.drop (i + 1))).2 = 0 then none else some ((esc (s.drop (i + 1))).1, (esc (s.drop (i + 1))).2 + 1) := by rw [hdrop, stepQ_cons, if_neg (by rw [hp]; simp), if_pos rfl]
          have t1 : ((i : Int) + 1).toNat = i + 1 := by omega
          have p1 : (0 : Int) ≤ (i : Int) + 1 := by omega
          obtain ⟨x, hx⟩ : ∃ x, (esc (s.drop (i + 1))).1 = x := ⟨_, rfl⟩
          obtain ⟨n, hn⟩ : ∃ n, (esc (s.drop (i + 1))).2 = n := ⟨_, rfl⟩
          rw [hx, hn] at hE hst0
          cases n with
          | zero =>
            have := uinv_none hU hn34 (by rw [hst0]; rfl)
            simp [Fn.f_name_Unquote_b0, Fn.f_name_Unquote_s0, hi, hi', hc, hw, g, hP, hE, this, hlt, t1, p1]
          | succ n =>
            have hst : stepQ (s.drop i) = some (x, n + 2) := by rw [hst0, if_neg (by omega)]
            have hU1 := uinv_step hU hn34 hst
            have hle := hU1.2.1
            have hw3 : IntKind.i64.wrap ((i : Int) + ((n : Int) + 1)) = (i : Int) + n + 1 := by rw [wrap_i64] <;> omega
            have hw4 : IntKind.i64.wrap ((i : Int) + n + 1 + 1) = ((i + (n + 2) : Nat) : Int) := by rw [wrap_i64] <;> omega
            have happ : byteRows (D ++ [x]) = byteRows D ++ [[PV.int .u8 x.toNat]] := by simp [byteRows, byteRow]
            have hn0 : ((n : Int) + 1 == 0) = false := by simp; omega
            rcases hgo with ⟨rfl, rfl⟩ | ⟨t, rfl, ht2⟩
            · simp [Fn.f_name_Unquote_b0, Fn.f_name_Unquote_s0, hi, hi', hc, hw, g, hP, hE, hlt, t1, p1, hn0, hw3, hw4, room]
              exact ⟨i + (n + 2), by omega, UqInv.mk [x] (.tv 1 (byteRows [x]) (m.length + 1)) _ hU1 grow_nil1 ⟨rfl, by simp [keep, Fn.f_name_Unquote_k0, Fn.f_name_Unquote_s0, byteRows, byteRow, hw4], rfl, rfl⟩⟩
            · simp [Fn.f_name_Unquote_b0, Fn.f_name_Unquote_s0, hi, hi', hc, hw, g, hP, hE, hlt, t1, p1, hn0, hw3, hw4, hbl, hb2, ht2]
              exact ⟨i + (n + 2), by omega, UqInv.mk (D ++ [x]) (.tv 1 (byteRows (D ++ [x])) t) _ hU1 (grow_set1 ht2) ⟨rfl, by simp [keep, Fn.f_name_Unquote_k0, Fn.f_name_Unquote_s0, happ, hw4], rfl, rfl⟩⟩
        · have g2 := u8ne c92
          have g92 : ((92 : UInt8).toNat : Int) = 92 := rfl
          rw [g92] at g2
          have hst : stepQ (s.drop i) = none := by rw [hdrop, stepQ_cons, if_neg (by rw [hp]; simp), if_neg c92]
          have := uinv_none hU hn34 hst
          simp [Fn.f_name_Unquote_b0, Fn.f_name_Unquote_s0, hi, hi', hc, hw, g, g2, hP, this]
    · have hi' : ¬ (i : Int) < s.length := by omega
      have hnil : s.drop i = [] := List.drop_eq_nil_of_le (by omega)
      have := uinv_none hU (by rw [hnil]; simp) (by rw [hnil]; rfl)
      simp [Fn.f_name_Unquote_b0, Fn.f_name_Unquote_s0, hi, hi', this]
  · rintro e st ⟨h0, h⟩
    obtain ⟨ts, m', ds⟩ := st
    simp only at h0 h
    subst h0
    rcases h with ⟨rfl, hx, hl⟩ | ⟨rfl, q, hq, q1, q2, q3⟩ | ⟨rfl, hq, q1, q2, q3⟩
    · rw [hx]
      match ts, hl with
      | t0 :: t1 :: t2 :: t3 :: t4 :: t5 :: t6 :: t7 :: t8 :: t9 :: t10 :: t11 :: t12 :: t13 :: t14 :: t15 :: t16 :: t17 :: t18 :: t19 :: t20 :: t21 :: t22 :: t23 :: t24 :: t25 :: t26 :: t27 :: t28 :: t29 :: t30 :: t31 :: t32 :: t33 :: t34 :: t35 :: t36 :: t37 :: t38 :: t39 :: t40 :: t41 :: t42 :: t43 :: t44 :: t45 :: t46 :: t47 :: t48 :: t49 :: t50 :: t51 :: t52 :: t53 :: t54 :: t55 :: t56 :: t57 :: t58 :: t59 :: [], hl => simp
    · simp [hq, q1, q2, q3]
    · simp [hq, q1, q2, q3]
end Hx
