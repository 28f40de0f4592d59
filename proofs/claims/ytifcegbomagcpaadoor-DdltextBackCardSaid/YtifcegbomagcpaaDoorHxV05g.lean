/-
  HxV05g: texts between quotes, as the program and the document write them.
-/
import Derived.Test.YtifcegbomagcpaaDoorHxFn05
import Derived.Test.YtifcegbomagcpaaDoorHxU03c
import Derived.Test.YtifcegbomagcpaaDoorHxU06
import Derived.Test.YtifcegbomagcpaaDoorHxU05c
namespace Hx
open Go
set_option linter.unusedSimpArgs false
set_option linter.unusedVariables false
set_option maxHeartbeats 4000000
variable {E : Env}
attribute [-simp] List.getD_eq_getElem?_getD getElem?_pos
structure Q05 (E : Env) : Prop where
  plain : E.fn 72 = some Fn.f_name_plain
  one : E.fn 68 = some Fn.f_haulageref04_one
  idx : E.fn 64 = some Fn.f_strings_IndexByte
  idx' : E.fn 76 = some Fn.f_internal_stringslite_IndexByte
  escaped : E.fn 75 = some Fn.f_name_escaped
  wbyte : E.fn 71 = some Fn.f_strings_Builder_WriteByte
  wstr : E.fn 73 = some Fn.f_strings_Builder_WriteString
  str : E.fn 74 = some Fn.f_strings_Builder_String
  copy : E.fn 77 = some Fn.f_strings_Builder_copyCheck
  quote : E.fn 214 = some Fn.f_name_Quote
  unquote : E.fn 62 = some Fn.f_name_Unquote
theorem hexS_at {n : Nat} (h : n < 16) : ([48, 49, 50, 51, 52, 53, 54, 55, 56, 57, 97, 98, 99, 100, 101, 102] : List UInt8)[n]? = some (hexd n) := by
  have : ∀ x : Fin 16, ([48, 49, 50, 51, 52, 53, 54, 55, 56, 57, 97, 98, 99, 100, 101, 102] : List UInt8)[x.val]? = some (hexd x.val) := by decide +kernel
  exact this ⟨n, h⟩
theorem fdiv16 (n : Nat) : (n : Int).fdiv 16 = ((n / 16 : Nat) : Int) := by
  rw [Int.fdiv_eq_ediv_of_nonneg _ (by decide)]; rfl
theorem u8beq {c d : UInt8} : (c == d) = ((c.toNat : Int) == d.toNat) := by
  rw [Bool.eq_iff_iff]
  simp only [beq_iff_eq]
  exact ⟨fun h => by rw [h], fun h => UInt8.toNat_inj.1 (by omega)⟩
theorem name_plain (u : Q05 E) (k : Nat) (c : UInt8) (m : Mem) : denF E (k + 1) 72 [.p (.int .u8 c.toNat)] m = some (.ret (.p (.bool (plainC c))), m) := by
  refine denF_wp u.plain rfl (args' := [.p (.int .u8 c.toNat)]) rfl ?_
  unfold plainC
  generalize (c.toNat : Int) = x
  by_cases h1 : (32 : Int) ≤ x
  · by_cases h2 : x ≤ 126
    · cases h3 : (x == 34) <;> simp [Fn.f_name_plain, h1, h2, h3, bne]
    · simp [Fn.f_name_plain, h1, h2]
  · simp [Fn.f_name_plain, h1]
theorem index_byte (u : Q05 E) (k : Nat) (s : List UInt8) (c : UInt8) (m : Mem) : denF E (k + 2) 64 [.p (.str s), .p (.int .u8 c.toNat)] m = some (.ret (.p (.int .i64 (idxByte s c))), m) := by
  have h : ∀ m, denF E (k + 1) 76 [.p (.str s), .p (.int .u8 c.toNat)] m = some (.ret (.p (.int .i64 (idxByte s c))), m) := by
    intro m
    refine denF_wp u.idx' rfl (args' := [.p (.str s), .p (.int .u8 c.toNat)]) rfl ?_
    simp [Fn.f_internal_stringslite_IndexByte]
  refine denF_wp u.idx rfl (args' := [.p (.str s), .p (.int .u8 c.toNat)]) rfl ?_
  simp [Fn.f_strings_IndexByte, h]
def hexi (c : UInt8) : Int := match hexv c with | some i => i | none => -1
theorem index_hex (u : Q05 E) (k : Nat) (c : UInt8) (m : Mem) : denF E (k + 2) 64 [.p (.str [48, 49, 50, 51, 52, 53, 54, 55, 56, 57, 97, 98, 99, 100, 101, 102]), .p (.int .u8 c.toNat)] m = some (.ret (.p (.int .i64 (hexi c))), m) := index_byte u k hexS c m
theorem or_i64_hex : ∀ x y : Fin 16, bitsI .or .i64 (16 * x.val : Int) (y.val : Int) = some ((16 * x.val + y.val : Nat) : Int) := by decide +kernel
theorem or_i64_any (x y : Int) : ∃ r, bitsI .or .i64 x y = some r := ⟨_, rfl⟩
theorem name_escaped (u : Q05 E) (k : Nat) (s : List UInt8) (m : Mem) : denF E (k + 3) 75 [.p (.str s)] m = some (.ret (.tup [.p (.int .u8 (esc s).1.toNat), .p (.int .i64 (esc s).2)]), m) := by
  refine denF_wp u.escaped rfl (args' := [.p (.str s)]) rfl ?_
  cases s with
  | nil => simp [Fn.f_name_escaped, esc]
  | cons a r =>
    rw [esc_cons]
    by_cases h1 : a = 110
    · subst h1
      simp [Fn.f_name_escaped]
    rw [if_neg h1]
    have b1 : ((a.toNat : Int) == 110) = false := by
      have : (a == 110) = false := by simpa using h1
      rw [u8beq] at this; exact this
    by_cases h2 : a = 34 ∨ a = 92
    · rw [if_pos h2]
      rcases h2 with rfl | rfl <;> simp [Fn.f_name_escaped]
    rw [if_neg h2]
    have b2 : ((a.toNat : Int) == 34) = false := by
      have : (a == 34) = false := by simp; exact fun e => h2 (.inl e)
      rw [u8beq] at this; exact this
    have b3 : ((a.toNat : Int) == 92) = false := by
      have : (a == 92) = false := by simp; exact fun e => h2 (.inr e)
      rw [u8beq] at this; exact this
    by_cases h3 : a = 120
    · rw [if_pos h3]
      subst h3
      match r with
      | [] => simp [Fn.f_name_escaped]
      | [_] => simp [Fn.f_name_escaped]
      | x :: y :: r =>
        have i1 := fun m => index_hex u k x m
        have i2 := fun m => index_hex u k y m
        have f1 := u.idx
        have p1 : Fn.f_strings_IndexByte.pure = true := rfl
        have hl : ¬ ((r.length : Int) + 1 + 1 + 1 < 3) := by omega
        cases hx : hexv x with
        | none =>
          have e : hexi x = -1 := by unfold hexi; rw [hx]
          rw [e] at i1
          have e16 : IntKind.i64.wrap (-16) = -16 := by decide
          obtain ⟨o, ho⟩ := or_i64_any (-16) (hexi y)
          simp [Fn.f_name_escaped, i1, i2, f1, p1, hl, e16, ho, hx]
        | some i =>
          have e : hexi x = i := by unfold hexi; rw [hx]
          have hi := hexv_lt hx
          rw [e] at i1
          have w16 : IntKind.i64.wrap ((i : Int) * 16) = 16 * i := by rw [wrap_i64 (by omega) (by omega)]; omega
          cases hy : hexv y with
          | none =>
            have e2 : hexi y = -1 := by unfold hexi; rw [hy]
            rw [e2] at i2
            have n0 : ¬ (i : Int) < 0 := by omega
            obtain ⟨o, ho⟩ := or_i64_any (16 * (i : Int)) (-1)
            simp [Fn.f_name_escaped, i1, i2, f1, p1, hl, w16, ho, n0, hx, hy]
          | some j =>
            have e2 : hexi y = j := by unfold hexi; rw [hy]
            have hj := hexv_lt hy
            rw [e2] at i2
            have n0 : ¬ (i : Int) < 0 := by omega
            have n1 : ¬ (j : Int) < 0 := by omega
            have ho := or_i64_hex ⟨i, hi⟩ ⟨j, hj⟩
            simp only at ho
            have w8 : IntKind.u8.wrap ((16 * i + j : Nat) : Int) = ((16 * i + j : Nat) : Int) := wrap_u8 (by omega) (by omega)
            have t8 : (UInt8.ofNat (16 * i + j)).toNat = 16 * i + j := by rw [UInt8.toNat_ofNat']; omega
            obtain ⟨z, hz⟩ : ∃ z, z = 16 * i + j := ⟨_, rfl⟩
            rw [← hz] at ho w8 t8
            simp only [hx, hy]
            simp only [← hz]
            have hZ : z < 256 := by omega
            by_cases g1 : 32 ≤ z ∧ z ≤ 126
            · have g1a : (32 : Int) ≤ z := by omega
              have g1b : (z : Int) ≤ 126 := by omega
              rw [if_pos (.inl g1)]
              simp [Fn.f_name_escaped, i1, i2, f1, p1, hl, w16, ho, n0, n1, w8, g1a, g1b]
            · by_cases g2 : z = 10
              · rw [if_pos (.inr g2)]
                subst g2
                have w10 : IntKind.u8.wrap 10 = 10 := by decide
                simp [Fn.f_name_escaped, i1, i2, f1, p1, hl, w16, ho, n0, n1, w8, w10]
              · have g2b : ((z : Int) == 10) = false := by simp; omega
                rw [if_neg (by omega)]
                by_cases g3 : (32 : Int) ≤ z
                · have g4 : ¬ (z : Int) ≤ 126 := by omega
                  simp [Fn.f_name_escaped, i1, i2, f1, p1, hl, w16, ho, n0, n1, w8, g2b, g3, g4, t8]
                · simp [Fn.f_name_escaped, i1, i2, f1, p1, hl, w16, ho, n0, n1, w8, g2b, g3, t8]
    · rw [if_neg h3]
      have b4 : ((a.toNat : Int) == 120) = false := by
        have : (a == 120) = false := by simpa using h3
        rw [u8beq] at this; exact this
      simp [Fn.f_name_escaped, b1, b2, b3, b4]

def BGrow (acc : List UInt8) (id : Nat) (m : Mem) : Prop := ∃ a b, m[id]? = some (.cells [a, b]) ∧ (a = .p .nilp ∨ a = .ty 0 (.ptr id 0)) ∧
  ((acc = [] ∧ b = .p .nils) ∨ (acc ≠ [] ∧ ∃ t, t ≠ id ∧ b = .ty 1 (.tv 1 (byteRows acc) t) ∧ m[t]? = some (.tok 1 acc.length)))
theorem get_ne {m : Mem} {i j : Nat} {x : Blk} (h : i ≠ j) : (m.set i x)[j]? = m[j]? := by
  rw [List.getElem?_set]
  rw [if_neg h]
theorem get_lt {m : Mem} {t : Nat} {b : Blk} (h : m[t]? = some b) : t < m.length := by
  rcases Nat.lt_or_ge t m.length with h' | h'
  · exact h'
  · rw [List.getElem?_eq_none h'] at h; cases h
theorem bld_copy (u : Q05 E) (k : Nat) (id : Nat) (a b : AV) (m : Mem) (h : m[id]? = some (.cells [a, b])) (ha : a = .p .nilp ∨ a = .ty 0 (.ptr id 0)) :
    denF E (k + 1) 77 [.ty 0 (.ptr id 0)] m = some (.ret (.tup []), m.set id (.cells [.ty 0 (.ptr id 0), b])) := by
  refine denF_wp_own u.copy rfl ?_
  rcases ha with rfl | rfl
  · simp [Fn.f_strings_Builder_copyCheck, h]
  · have e : m.set id (.cells [.ty 0 (.ptr id 0), b]) = m := by
      obtain ⟨h1, h2⟩ := List.getElem?_eq_some_iff.1 h
      rw [← h2, List.set_getElem_self]
    rw [e]
    simp [Fn.f_strings_Builder_copyCheck, h]
end Hx

namespace Hx
open Go
set_option linter.unusedSimpArgs false
set_option linter.unusedVariables false
set_option maxHeartbeats 4000000
variable {E : Env}
attribute [-simp] List.getD_eq_getElem?_getD getElem?_pos
theorem byteRows_len' (t : List UInt8) : (byteRows t).length = t.length := by simp [byteRows]
theorem byteRows_app (a b : List UInt8) : byteRows (a ++ b) = byteRows a ++ byteRows b := by simp [byteRows]
theorem byteRows_ne {a : List UInt8} (h : a ≠ []) : byteRows a ≠ [] := by
  intro e; exact h (by simpa [byteRows] using e)
theorem bld_byte (u : Q05 E) (k : Nat) (id : Nat) (acc : List UInt8) (c : UInt8) (m : Mem) (h : BGrow acc id m) (hl : acc.length < 1000000000000) :
    ∃ m', denF E (k + 2) 71 [.ty 0 (.ptr id 0), .p (.int .u8 c.toNat)] m = some (.ret (.p .nili), m') ∧ BGrow (acc ++ [c]) id m' ∧ m.length ≤ m'.length ∧
      (∀ j b, m[j]? = some b → j ≠ id → (∀ n z, b ≠ .tok n z) → m'[j]? = some b) := by
  obtain ⟨a, b, h1, ha, hb⟩ := h
  have hid := get_lt h1
  have hc := fun m => bld_copy u k id a b m
  have hset : ∀ x : Blk, (m.set id x)[id]? = some x := fun x => get_set h1 x
  rcases hb with ⟨rfl, rfl⟩ | ⟨hne, t, htid, rfl, ht⟩
  · refine ⟨((m.set id (.cells [.ty 0 (.ptr id 0), .p .nils]) ++ [Blk.tok 1 1] ++ [Blk.tok 1 1])).set id (.cells [.ty 0 (.ptr id 0), .ty 1 (.tv 1 (byteRows [c]) (m.length + 1))]), ?_, ?_, ?_, ?_⟩
    · refine denF_wp_own u.wbyte rfl ?_
      have hcc := hc m h1 ha
      have g1 : ∀ (x y z : Blk), (m.set id x ++ [y] ++ [z])[id]? = some x := fun x y z => get_app (get_app (hset x) _) _
      have g2 : ∀ (x y z : Blk), (m.set id x ++ [y, z])[id]? = some x := fun x y z => get_app (hset x) _
      simp [Fn.f_strings_Builder_WriteByte, hcc, hset, room, byteRows, byteRow, g1, g2]
    · refine ⟨.ty 0 (.ptr id 0), _, get_set (get_app (get_app (hset _) _) _) _, .inr rfl, .inr ⟨by simp, m.length + 1, by omega, by simp, ?_⟩⟩
      rw [get_ne (by omega), List.getElem?_append_right (by simp)]
      simp
    · simp
    · intro j b hj hne hb
      rw [get_ne (fun e => hne e.symm)]
      refine get_app (get_app ?_ _) _
      rw [get_ne (fun e => hne e.symm)]
      exact hj
  · refine ⟨(((m.set id (.cells [.ty 0 (.ptr id 0), .ty 1 (.tv 1 (byteRows acc) t)])) ++ [Blk.tok 1 1]).set t (Blk.tok 1 (acc.length + 1))).set id (.cells [.ty 0 (.ptr id 0), .ty 1 (.tv 1 (byteRows (acc ++ [c])) t)]), ?_, ?_, ?_, ?_⟩
    · refine denF_wp_own u.wbyte rfl ?_
      have hcc := hc m h1 ha
      have g1 : ∀ (x : Blk) (y z : Blk), ((m.set id x ++ [y]).set t z)[id]? = some x := fun x y z => by rw [get_ne htid]; exact get_app (hset x) _
      have g2 : ∀ (x y : Blk), (m.set id x ++ [y])[t]? = some (.tok 1 acc.length) := fun x y => get_app (by rw [get_ne (fun e => htid e.symm)]; exact ht) _
      have hbl := byteRows_len' acc
      have hb2 : acc.length + 1 ≤ room := by unfold room; omega
      have happ : byteRows acc ++ [[PV.int .u8 c.toNat]] = byteRows (acc ++ [c]) := by simp [byteRows, byteRow]
      simp [Fn.f_strings_Builder_WriteByte, hcc, hset, hbl, hb2, g1, g2, happ]
    · have g0 : ∀ (x : Blk) (y z : Blk), ((m.set id x ++ [y]).set t z)[id]? = some x := fun x y z => by rw [get_ne htid]; exact get_app (hset x) _
      refine ⟨.ty 0 (.ptr id 0), _, get_set (g0 _ _ _) _, .inr rfl, .inr ⟨by simp, t, htid, rfl, ?_⟩⟩
      rw [get_ne (fun e => htid e.symm), get_set (get_app (by rw [get_ne (fun e => htid e.symm)]; exact ht) _)]
      simp
    · simp
    · intro j b hj hne' hb
      rw [get_ne (fun e => hne' e.symm)]
      have : j ≠ t := by
        rintro rfl
        rw [ht] at hj
        exact hb _ _ (Option.some.inj hj).symm
      rw [get_ne (fun e => this e.symm)]
      refine get_app ?_ _
      rw [get_ne (fun e => hne' e.symm)]
      exact hj
theorem bld_text (u : Q05 E) (k : Nat) (id : Nat) (acc new : List UInt8) (hn : new ≠ []) (hnl : new.length < 1000000000000) (m : Mem) (h : BGrow acc id m) (hl : acc.length < 1000000000000) :
    ∃ m', denF E (k + 2) 73 [.ty 0 (.ptr id 0), .p (.str new)] m = some (.ret (.tup [.p (.int .i64 new.length), .p .nili]), m') ∧ BGrow (acc ++ new) id m' ∧ m.length ≤ m'.length ∧
      (∀ j b, m[j]? = some b → j ≠ id → (∀ n z, b ≠ .tok n z) → m'[j]? = some b) := by
  obtain ⟨a, b, h1, ha, hb⟩ := h
  have hid := get_lt h1
  have hc := fun m => bld_copy u k id a b m
  have hset : ∀ x : Blk, (m.set id x)[id]? = some x := fun x => get_set h1 x
  have hnl' := byteRows_len' new
  have hnn := byteRows_ne hn
  have hr1 : new.length ≤ room := by unfold room; omega
  rcases hb with ⟨rfl, rfl⟩ | ⟨hne, t, htid, rfl, ht⟩
  · refine ⟨((m.set id (.cells [.ty 0 (.ptr id 0), .p .nils]) ++ [Blk.tok 1 new.length])).set id (.cells [.ty 0 (.ptr id 0), .ty 1 (.tv 1 (byteRows new) m.length)]), ?_, ?_, ?_, ?_⟩
    · refine denF_wp_own u.wstr rfl ?_
      have hcc := hc m h1 ha
      have g1 : ∀ (x y : Blk), (m.set id x ++ [y])[id]? = some x := fun x y => get_app (hset x) _
      simp [Fn.f_strings_Builder_WriteString, hcc, hset, hnl', hnn, hr1, g1]
    · refine ⟨.ty 0 (.ptr id 0), _, get_set (get_app (hset _) _) _, .inr rfl, .inr ⟨by simpa using hn, m.length, by omega, by simp, ?_⟩⟩
      rw [get_ne (by omega), List.getElem?_append_right (by simp)]
      simp
    · simp
    · intro j b hj hne hb
      rw [get_ne (fun e => hne e.symm)]
      refine get_app ?_ _
      rw [get_ne (fun e => hne e.symm)]
      exact hj
  · refine ⟨((m.set id (.cells [.ty 0 (.ptr id 0), .ty 1 (.tv 1 (byteRows acc) t)])).set t (Blk.tok 1 (acc.length + new.length))).set id (.cells [.ty 0 (.ptr id 0), .ty 1 (.tv 1 (byteRows (acc ++ new)) t)]), ?_, ?_, ?_, ?_⟩
    · refine denF_wp_own u.wstr rfl ?_
      have hcc := hc m h1 ha
      have g1 : ∀ (x z : Blk), ((m.set id x).set t z)[id]? = some x := fun x z => by rw [get_ne htid]; exact hset x
      have g2 : ∀ (x : Blk), (m.set id x)[t]? = some (.tok 1 acc.length) := fun x => by rw [get_ne (fun e => htid e.symm)]; exact ht
      have hbl := byteRows_len' acc
      have hb2 : acc.length + new.length ≤ room := by unfold room; omega
      have happ := (byteRows_app acc new).symm
      simp [Fn.f_strings_Builder_WriteString, hcc, hset, hbl, hb2, hnl', g1, g2, happ]
    · have g0 : ∀ (x z : Blk), ((m.set id x).set t z)[id]? = some x := fun x z => by rw [get_ne htid]; exact hset x
      refine ⟨.ty 0 (.ptr id 0), _, get_set (g0 _ _) _, .inr rfl, .inr ⟨by simp [hn], t, htid, rfl, ?_⟩⟩
      rw [get_ne (fun e => htid e.symm), get_set (by rw [get_ne (fun e => htid e.symm)]; exact ht)]
      simp
    · simp
    · intro j b hj hne' hb
      rw [get_ne (fun e => hne' e.symm)]
      have : j ≠ t := by
        rintro rfl
        rw [ht] at hj
        exact hb _ _ (Option.some.inj hj).symm
      rw [get_ne (fun e => this e.symm), get_ne (fun e => hne' e.symm)]
      exact hj
theorem unBytes_rows' : ∀ t : List UInt8, unBytes (byteRows t) = some t
  | [] => rfl
  | c :: t => by
    have : byteRows (c :: t) = byteRow c :: byteRows t := rfl
    rw [this, unBytes, unBytes_rows' t]
    simp [byteRow, unByte]
theorem bld_str (u : Q05 E) (k : Nat) (id : Nat) (acc : List UInt8) (hne : acc ≠ []) (m : Mem) (h : BGrow acc id m) (hl : acc.length < 1000000000000) :
    ∃ m', denF E (k + 1) 74 [.ty 0 (.ptr id 0)] m = some (.ret (.p (.str acc)), m') := by
  obtain ⟨a, b, h1, ha, hb⟩ := h
  rcases hb with ⟨rfl, rfl⟩ | ⟨_, t, htid, rfl, ht⟩
  · exact absurd rfl hne
  · refine ⟨m.set t .dead, ?_⟩
    refine denF_wp_own u.str rfl ?_
    have hid := get_lt h1
    have hbl := byteRows_len' acc
    have hun := unBytes_rows' acc
    have hnn := byteRows_ne hne
    have hsl : acc.length ≤ strLim := by unfold strLim; omega
    simp [Fn.f_strings_Builder_String, h1, hid, hnn, hbl, ht, hun, hne, hsl]
end Hx

namespace Hx
open Go
set_option linter.unusedSimpArgs false
set_option linter.unusedVariables false
set_option maxHeartbeats 4000000
variable {E : Env}
attribute [-simp] List.getD_eq_getElem?_getD getElem?_pos
theorem quotes_snoc (s : List UInt8) (c : UInt8) : quotes (s ++ [c]) = quotes s ++ quoteC c := by simp [quotes]
theorem quoteC_len (c : UInt8) : (quoteC c).length ≤ 4 := by
  unfold quoteC
  split
  · simp
  split
  · simp
  split <;> simp
theorem quotes_len : ∀ s : List UInt8, (quotes s).length ≤ 4 * s.length
  | [] => by simp [quotes]
  | c :: s => by
    have e : quotes (c :: s) = quoteC c ++ quotes s := by simp [quotes]
    have := quoteC_len c
    have := quotes_len s
    rw [e, List.length_append, List.length_cons]
    omega
theorem take_snoc {s : List UInt8} {i : Nat} {c : UInt8} (h : s[i]? = some c) : s.take (i + 1) = s.take i ++ [c] := by
  rw [List.take_add_one, h]; rfl
def QInv (s : List UInt8) (i : Nat) (st : St) : Prop := ∃ m, i ≤ s.length ∧ BGrow (34 :: quotes (s.take i)) 0 m ∧ Live Fn.f_name_Quote_k0 (Fn.f_name_Quote_s0 (.p (.str s)) (.ty 0 (.ptr 0 0)) (.p (.int .i64 s.length)) (.p (.int .i64 i))) m st
theorem QInv.mk {s : List UInt8} {i : Nat} {st : St} (m : Mem) (h1 : i ≤ s.length) (h2 : BGrow (34 :: quotes (s.take i)) 0 m) (h3 : Live Fn.f_name_Quote_k0 (Fn.f_name_Quote_s0 (.p (.str s)) (.ty 0 (.ptr 0 0)) (.p (.int .i64 s.length)) (.p (.int .i64 i))) m st) : QInv s i st := ⟨m, h1, h2, h3⟩
theorem name_Quote (u : Q05 E) (s : List UInt8) (hs : (s.length : Int) ≤ 1000000000) (k : Nat) (hk : s.length + 10 ≤ k) (m : Mem) : denF E (k + 1) 214 [.p (.str s)] m = some (.ret (.p (.str (34 :: (quotes s ++ [34])))), m) := by
  refine denF_wp u.quote rfl (args' := [.p (.str s)]) rfl ?_
  obtain ⟨j, rfl⟩ : ∃ j, k = j + 2 := ⟨k - 2, by omega⟩
  have hB0 : BGrow [] 0 [Blk.cells [.p .nilp, .p .nils]] := ⟨_, _, rfl, .inl rfl, .inl ⟨rfl, rfl⟩⟩
  obtain ⟨m1, e1, b1, l1, _⟩ := bld_byte u j 0 [] 34 _ hB0 (by simp)
  have e34 : ((34 : UInt8).toNat : Int) = 34 := rfl
  rw [e34] at e1
  simp [Fn.f_name_Quote, e1]
  refine (loop_wp (α := Nat) (I := fun i st => QInv s i st) (meas := fun i => s.length - i)
    (Q := fun e st => e = .exit 0 ∧ st.ds = [] ∧ st.ts.length = 46 ∧ BGrow (34 :: quotes s) 0 st.m ∧ st.ts.getD 3 (.tup []) = .ty 0 (.ptr 0 0)) ?_ (j + 2) 0 _ (QInv.mk m1 (Nat.zero_le _) b1 ⟨rfl, rfl, rfl, rfl⟩) (by omega)).mono ?_
  · rintro i st ⟨m, hi0, hg, hlive⟩
    rw [loopF_live hlive]
    by_cases hi : i < s.length
    · have hi' : (i : Int) < s.length := by omega
      obtain ⟨c, hc⟩ : ∃ c, s[i]? = some c := ⟨_, List.getElem?_eq_getElem hi⟩
      have hw : IntKind.i64.wrap ((i : Int) + 1) = i + 1 := wrap_i64 (by omega) (by omega)
      have hP := fun m => name_plain u (j + 1) c m
      have hq := quotes_len (s.take i)
      have ht : (s.take i).length ≤ s.length := by rw [List.length_take]; omega
      have hqs : 34 :: quotes (s.take (i + 1)) = (34 :: quotes (s.take i)) ++ quoteC c := by rw [take_snoc hc, quotes_snoc]; rfl
      have hcl := UInt8.toNat_lt c
      have hfin : ∀ (m' : Mem) (st' : St), BGrow ((34 :: quotes (s.take i)) ++ quoteC c) 0 m' → Live Fn.f_name_Quote_k0 (Fn.f_name_Quote_s0 (.p (.str s)) (.ty 0 (.ptr 0 0)) (.p (.int .i64 s.length)) (.p (.int .i64 ((i + 1 : Nat) : Int)))) m' st' → QInv s (i + 1) st' := fun m' st' h1 h2 => QInv.mk m' hi (by rw [hqs]; exact h1) h2
      cases hp : plainC c with
      | true =>
        rw [hp] at hP
        have hqc : quoteC c = [c] := by
          have := step_quote c []
          unfold plainC at hp
          simp at hp
          unfold quoteC
          rw [if_neg (by omega), if_neg (by omega), if_neg (by omega)]
        rw [hqc] at hfin
        obtain ⟨m2, e2, b2, l2, _⟩ := bld_byte u j 0 _ c m hg (by simp; omega)
        simp [Fn.f_name_Quote_b0, Fn.f_name_Quote_s0, hi, hi', hc, hP, hw, e2]
        exact ⟨i + 1, by omega, hfin m2 _ b2 ⟨rfl, rfl, rfl, rfl⟩⟩
      | false =>
        rw [hp] at hP
        by_cases h10 : c = 10
        · subst h10
          have hqc : quoteC 10 = [92, 110] := by decide
          rw [hqc] at hfin
          have g : (((10 : UInt8).toNat : Int)) = 10 := rfl
          rw [g] at hP
          obtain ⟨m2, e2, b2, l2, _⟩ := bld_text u j 0 _ [92, 110] (by simp) (by simp) m hg (by simp; omega)
          simp [Fn.f_name_Quote_b0, Fn.f_name_Quote_s0, hi, hi', hc, hP, hw, e2]
          exact ⟨i + 1, by omega, hfin m2 _ b2 ⟨rfl, rfl, rfl, rfl⟩⟩
        have g10 : ((c.toNat : Int) == 10) = false := by
          have : (c == 10) = false := by simpa using h10
          rw [u8beq] at this; exact this
        obtain ⟨m2, e2, b2, l2, _⟩ := bld_byte u j 0 _ 92 m hg (by simp; omega)
        have g92 : ((92 : UInt8).toNat : Int) = 92 := rfl
        rw [g92] at e2
        obtain ⟨m3, e3, b3, l3, _⟩ := bld_byte u j 0 _ c m2 b2 (by simp; omega)
        by_cases h34 : c = 34
        · subst h34
          have hqc : quoteC 34 = [92, 34] := by decide
          rw [hqc] at hfin
          simp only [List.append_assoc, List.singleton_append] at b3
          have g : (((34 : UInt8).toNat : Int)) = 34 := rfl
          rw [g] at hP e3
          simp [Fn.f_name_Quote_b0, Fn.f_name_Quote_s0, hi, hi', hc, hP, hw, e2, e3]
          exact ⟨i + 1, by omega, hfin m3 _ b3 ⟨rfl, rfl, rfl, rfl⟩⟩
        by_cases h92 : c = 92
        · subst h92
          have hqc : quoteC 92 = [92, 92] := by decide
          rw [hqc] at hfin
          simp only [List.append_assoc, List.singleton_append] at b3
          rw [g92] at hP e3
          simp [Fn.f_name_Quote_b0, Fn.f_name_Quote_s0, hi, hi', hc, hP, hw, e2, e3]
          exact ⟨i + 1, by omega, hfin m3 _ b3 ⟨rfl, rfl, rfl, rfl⟩⟩
        have g34 : ((c.toNat : Int) == 34) = false := by
          have : (c == 34) = false := by simpa using h34
          rw [u8beq] at this; exact this
        have g92' : ((c.toNat : Int) == 92) = false := by
          have : (c == 92) = false := by simpa using h92
          rw [u8beq] at this; exact this
        have hqc : quoteC c = [92, 120, hexd (c.toNat / 16), hexd (c.toNat % 16)] := by
          have n34 : ¬ (c.toNat : Int) = 34 := by simpa using g34
          have n92 : ¬ (c.toNat : Int) = 92 := by simpa using g92'
          have n10 : ¬ (c.toNat : Int) = 10 := by simpa using g10
          have : ¬ ((32 : Int) ≤ c.toNat ∧ (c.toNat : Int) ≤ 126) := by
            rintro ⟨h1, h2⟩
            unfold plainC at hp
            simp [n34, n92, h1, h2] at hp
          unfold quoteC
          rw [if_neg (by omega), if_neg (by omega), if_pos (by omega)]
        rw [hqc] at hfin
        have x1 := hexS_at (n := c.toNat / 16) (by omega)
        have x2 := hexS_at (n := c.toNat % 16) (by omega)
        have d1 := fdiv16 c.toNat
        have d2 : bitsI .and .u8 (c.toNat : Int) 15 = some ((c.toNat % 16 : Nat) : Int) := by
          rw [and_u8_15 (by omega) (by omega)]
          rfl
        obtain ⟨q1, hq1⟩ : ∃ q, q = c.toNat / 16 := ⟨_, rfl⟩
        obtain ⟨q2, hq2⟩ : ∃ q, q = c.toNat % 16 := ⟨_, rfl⟩
        rw [← hq1] at x1 d1
        rw [← hq2] at x2 d2
        rw [← hq1, ← hq2] at hfin
        obtain ⟨m2, e2, b2, l2, _⟩ := bld_text u j 0 _ [92, 120] (by simp) (by simp) m hg (by simp; omega)
        obtain ⟨m3, e3, b3, l3, _⟩ := bld_byte u j 0 _ (hexd q1) m2 b2 (by simp; omega)
        obtain ⟨m4, e4, b4, l4, _⟩ := bld_byte u j 0 _ (hexd q2) m3 b3 (by simp; omega)
        simp only [List.append_assoc, List.singleton_append, List.cons_append, List.nil_append] at b4
        simp [Fn.f_name_Quote_b0, Fn.f_name_Quote_s0, hi, hi', hc, hP, hw, g10, g34, g92', d1, d2, x1, x2, e2, e3, e4]
        exact ⟨i + 1, by omega, hfin m4 _ b4 ⟨rfl, rfl, rfl, rfl⟩⟩
    · have hi' : ¬ (i : Int) < s.length := by omega
      rw [List.take_of_length_le (by omega)] at hg
      simp [Fn.f_name_Quote_b0, Fn.f_name_Quote_s0, hi, hi', hg]
  · rintro e st ⟨rfl, h1, h2, hg, h3⟩
    obtain ⟨ts, m', ds⟩ := st
    simp only at h1 h2 h3 hg
    subst h1
    have hq := quotes_len s
    obtain ⟨m2, e2, b2, l2, _⟩ := bld_byte u j 0 _ 34 m' hg (by simp; omega)
    rw [e34] at e2
    obtain ⟨m3, e3⟩ := bld_str u (j + 1) 0 _ (by simp) m2 b2 (by simp; omega)
    simp only [List.cons_append] at e3
    match ts, h2, h3 with
    | t0 :: t1 :: t2 :: t3 :: t4 :: t5 :: t6 :: t7 :: t8 :: t9 :: t10 :: t11 :: t12 :: t13 :: t14 :: t15 :: t16 :: t17 :: t18 :: t19 :: t20 :: t21 :: t22 :: t23 :: t24 :: t25 :: t26 :: t27 :: t28 :: t29 :: t30 :: t31 :: t32 :: t33 :: t34 :: t35 :: t36 :: t37 :: t38 :: t39 :: t40 :: t41 :: t42 :: t43 :: t44 :: t45 :: [], h2, h3 =>
      simp only [getD_zero', getD_succ'] at h3
      subst h3
      simp [e2, e3]
end Hx
