/-
  HxV05f: the library's growing text; texts between quotes, written.
-/
import Derived.Test.YtifcegbomagcpaaDoorHxFn05
import Derived.Test.YtifcegbomagcpaaDoorHxU03c
import Derived.Test.YtifcegbomagcpaaDoorHxM05
import Derived.Test.YtifcegbomagcpaaDoorHxU05c
namespace Hx
open Go
set_option linter.unusedSimpArgs false
set_option linter.unusedVariables false
set_option maxHeartbeats 4000000
variable {E : Env}
attribute [-simp] List.getD_eq_getElem?_getD getElem?_pos
structure Q05 (E : Env) : Prop where
  plain : E.fn 72 = some Fn.f_name_plain
  one : E.fn 68 = some Fn.f_haulageref04_one
  idx : E.fn 64 = some Fn.f_strings_IndexByte
  idx' : E.fn 76 = some Fn.f_internal_stringslite_IndexByte
  escaped : E.fn 75 = some Fn.f_name_escaped
  wbyte : E.fn 71 = some Fn.f_strings_Builder_WriteByte
  wstr : E.fn 73 = some Fn.f_strings_Builder_WriteString
  str : E.fn 74 = some Fn.f_strings_Builder_String
  copy : E.fn 77 = some Fn.f_strings_Builder_copyCheck
  quote : E.fn 214 = some Fn.f_name_Quote
  unquote : E.fn 62 = some Fn.f_name_Unquote
theorem hexS_at {n : Nat} (h : n < 16) : ([48, 49, 50, 51, 52, 53, 54, 55, 56, 57, 97, 98, 99, 100, 101, 102] : List UInt8)[n]? = some (hexd n) := by
  have : ∀ x : Fin 16, ([48, 49, 50, 51, 52, 53, 54, 55, 56, 57, 97, 98, 99, 100, 101, 102] : List UInt8)[x.val]? = some (hexd x.val) := by decide +kernel
  exact this ⟨n, h⟩
theorem fdiv16 (n : Nat) : (n : Int).fdiv 16 = ((n / 16 : Nat) : Int) := by
  rw [Int.fdiv_eq_ediv_of_nonneg _ (by decide)]; rfl
theorem u8beq {c d : UInt8} : (c == d) = ((c.toNat : Int) == d.toNat) := by
  rw [Bool.eq_iff_iff]
  simp only [beq_iff_eq]
  exact ⟨fun h => by rw [h], fun h => UInt8.toNat_inj.1 (by omega)⟩
theorem name_plain (u : Q05 E) (k : Nat) (c : UInt8) (m : Mem) : denF E (k + 1) 72 [.p (.int .u8 c.toNat)] m = some (.ret (.p (.bool (plainC c))), m) := by
  refine denF_wp u.plain rfl (args' := [.p (.int .u8 c.toNat)]) rfl ?_
  unfold plainC
  generalize (c.toNat : Int) = x
  by_cases h1 : (32 : Int) ≤ x
  · by_cases h2 : x ≤ 126
    · cases h3 : (x == 34) <;> simp [Fn.f_name_plain, h1, h2, h3, bne]
    · simp [Fn.f_name_plain, h1, h2]
  · simp [Fn.f_name_plain, h1]
theorem index_byte (u : Q05 E) (k : Nat) (s : List UInt8) (c : UInt8) (m : Mem) : denF E (k + 2) 64 [.p (.str s), .p (.int .u8 c.toNat)] m = some (.ret (.p (.int .i64 (idxByte s c))), m) := by
  have h : ∀ m, denF E (k + 1) 76 [.p (.str s), .p (.int .u8 c.toNat)] m = some (.ret (.p (.int .i64 (idxByte s c))), m) := by
    intro m
    refine denF_wp u.idx' rfl (args' := [.p (.str s), .p (.int .u8 c.toNat)]) rfl ?_
    simp [Fn.f_internal_stringslite_IndexByte]
  refine denF_wp u.idx rfl (args' := [.p (.str s), .p (.int .u8 c.toNat)]) rfl ?_
  simp [Fn.f_strings_IndexByte, h]
def hexi (c : UInt8) : Int := match hexv c with | some i => i | none => -1
theorem index_hex (u : Q05 E) (k : Nat) (c : UInt8) (m : Mem) : denF E (k + 2) 64 [.p (.str [48, 49, 50, 51, 52, 53, 54, 55, 56, 57, 97, 98, 99, 100, 101, 102]), .p (.int .u8 c.toNat)] m = some (.ret (.p (.int .i64 (hexi c))), m) := index_byte u k hexS c m
theorem or_i64_hex : ∀ x y : Fin 16, bitsI .or .i64 (16 * x.val : Int) (y.val : Int) = some ((16 * x.val + y.val : Nat) : Int) := by decide +kernel
theorem or_i64_any (x y : Int) : ∃ r, bitsI .or .i64 x y = some r := ⟨_, rfl⟩
theorem name_escaped (u : Q05 E) (k : Nat) (s : List UInt8) (m : Mem) : denF E (k + 3) 75 [.p (.str s)] m = some (.ret (.tup [.p (.int .u8 (esc s).1.toNat), .p (.int .i64 (esc s).2)]), m) := by
  refine denF_wp u.escaped rfl (args' := [.p (.str s)]) rfl ?_
  cases s with
  | nil => simp [Fn.f_name_escaped, esc]
  | cons a r =>
    rw [esc_cons]
    by_cases h1 : a = 110
    · subst h1
      simp [Fn.f_name_escaped]
    rw [if_neg h1]
    have b1 : ((a.toNat : Int) == 110) = false := by
      have : (a == 110) = false := by simpa using h1
      rw [u8beq] at this; exact this
    by_cases h2 : a = 34 ∨ a = 92
    · rw [if_pos h2]
      rcases h2 with rfl | rfl <;> simp [Fn.f_name_escaped]
    rw [if_neg h2]
    have b2 : ((a.toNat : Int) == 34) = false := by
      have : (a == 34) = false := by simp; exact fun e => h2 (.inl e)
      rw [u8beq] at this; exact this
    have b3 : ((a.toNat : Int) == 92) = false := by
      have : (a == 92) = false := by simp; exact fun e => h2 (.inr e)
      rw [u8beq] at this; exact this
    by_cases h3 : a = 120
    · rw [if_pos h3]
      subst h3
      match r with
      | [] => simp [Fn.f_name_escaped]
      | [_] => simp [Fn.f_name_escaped]
      | x :: y :: r =>
        have i1 := fun m => index_hex u k x m
        have i2 := fun m => index_hex u k y m
        have f1 := u.idx
        have p1 : Fn.f_strings_IndexByte.pure = true := rfl
        have hl : ¬ ((r.length : Int) + 1 + 1 + 1 < 3) := by omega
        cases hx : hexv x with
        | none =>
          have e : hexi x = -1 := by unfold hexi; rw [hx]
          rw [e] at i1
          have e16 : IntKind.i64.wrap (-16) = -16 := by decide
          obtain ⟨o, ho⟩ := or_i64_any (-16) (hexi y)
          simp [Fn.f_name_escaped, i1, i2, f1, p1, hl, e16, ho, hx]
        | some i =>
          have e : hexi x = i := by unfold hexi; rw [hx]
          have hi := hexv_lt hx
          rw [e] at i1
          have w16 : IntKind.i64.wrap ((i : Int) * 16) = 16 * i := by rw [wrap_i64 (by omega) (by omega)]; omega
          cases hy : hexv y with
          | none =>
            have e2 : hexi y = -1 := by unfold hexi; rw [hy]
            rw [e2] at i2
            have n0 : ¬ (i : Int) < 0 := by omega
            obtain ⟨o, ho⟩ := or_i64_any (16 * (i : Int)) (-1)
            simp [Fn.f_name_escaped, i1, i2, f1, p1, hl, w16, ho, n0, hx, hy]
          | some j =>
            have e2 : hexi y = j := by unfold hexi; rw [hy]
            have hj := hexv_lt hy
            rw [e2] at i2
            have n0 : ¬ (i : Int) < 0 := by omega
            have n1 : ¬ (j : Int) < 0 := by omega
            have ho := or_i64_hex ⟨i, hi⟩ ⟨j, hj⟩
            simp only at ho
            have w8 : IntKind.u8.wrap ((16 * i + j : Nat) : Int) = ((16 * i + j : Nat) : Int) := wrap_u8 (by omega) (by omega)
            have t8 : (UInt8.ofNat (16 * i + j)).toNat = 16 * i + j := by rw [UInt8.toNat_ofNat']; omega
            obtain ⟨z, hz⟩ : ∃ z, z = 16 * i + j := ⟨_, rfl⟩
            rw [← hz] at ho w8 t8
            simp only [hx, hy]
            simp only [← hz]
            have hZ : z < 256 := by omega
            by_cases g1 : 32 ≤ z ∧ z ≤ 126
            · have g1a : (32 : Int) ≤ z := by omega
              have g1b : (z : Int) ≤ 126 := by omega
              rw [if_pos (.inl g1)]
              simp [Fn.f_name_escaped, i1, i2, f1, p1, hl, w16, ho, n0, n1, w8, g1a, g1b]
            · by_cases g2 : z = 10
              · rw [if_pos (.inr g2)]
                subst g2
                have w10 : IntKind.u8.wrap 10 = 10 := by decide
                simp [Fn.f_name_escaped, i1, i2, f1, p1, hl, w16, ho, n0, n1, w8, w10]
              · have g2b : ((z : Int) == 10) = false := by simp; omega
                rw [if_neg (by omega)]
                by_cases g3 : (32 : Int) ≤ z
                · have g4 : ¬ (z : Int) ≤ 126 := by omega
                  simp [Fn.f_name_escaped, i1, i2, f1, p1, hl, w16, ho, n0, n1, w8, g2b, g3, g4, t8]
                · simp [Fn.f_name_escaped, i1, i2, f1, p1, hl, w16, ho, n0, n1, w8, g2b, g3, t8]
    · rw [if_neg h3]
      have b4 : ((a.toNat : Int) == 120) = false := by
        have : (a == 120) = false := by simpa using h3
        rw [u8beq] at this; exact this
      simp [Fn.f_name_escaped, b1, b2, b3, b4]

def BGrow (acc : List UInt8) (id : Nat) (m : Mem) : Prop := ∃ a b, m[id]? = some (.cells [a, b]) ∧ (a = .p .nilp ∨ a = .ty 0 (.ptr id 0)) ∧
  ((acc = [] ∧ b = .p .nils) ∨ (acc ≠ [] ∧ ∃ t, t ≠ id ∧ b = .ty 1 (.tv 1 (byteRows acc) t) ∧ m[t]? = some (.tok 1 acc.length)))
theorem get_ne {m : Mem} {i j : Nat} {x : Blk} (h : i ≠ j) : (m.set i x)[j]? = m[j]? := by
  rw [List.getElem?_set]
  rw [if_neg h]
theorem get_lt {m : Mem} {t : Nat} {b : Blk} (h : m[t]? = some b) : t < m.length := by
  rcases Nat.lt_or_ge t m.length with h' | h'
  · exact h'
  · rw [List.getElem?_eq_none h'] at h; cases h
theorem bld_copy (u : Q05 E) (k : Nat) (id : Nat) (a b : AV) (m : Mem) (h : m[id]? = some (.cells [a, b])) (ha : a = .p .nilp ∨ a = .ty 0 (.ptr id 0)) :
    denF E (k + 1) 77 [.ty 0 (.ptr id 0)] m = some (.ret (.tup []), m.set id (.cells [.ty 0 (.ptr id 0), b])) := by
  refine denF_wp_own u.copy rfl ?_
  rcases ha with rfl | rfl
  · simp [Fn.f_strings_Builder_copyCheck, h]
  · have e : m.set id (.cells [.ty 0 (.ptr id 0), b]) = m := by
      obtain ⟨h1, h2⟩ := List.getElem?_eq_some_iff.1 h
      rw [← h2, List.set_getElem_self]
    rw [e]
    simp [Fn.f_strings_Builder_copyCheck, h]
end Hx

namespace Hx
open Go
set_option linter.unusedSimpArgs false
set_option linter.unusedVariables false
set_option maxHeartbeats 4000000
variable {E : Env}
attribute [-simp] List.getD_eq_getElem?_getD getElem?_pos
theorem byteRows_len' (t : List UInt8) : (byteRows t).length = t.length := by simp [byteRows]
theorem byteRows_app (a b : List UInt8) : byteRows (a ++ b) = byteRows a ++ byteRows b := by simp [byteRows]
theorem byteRows_ne {a : List UInt8} (h : a ≠ []) : byteRows a ≠ [] := by
  intro e; exact h (by simpa [byteRows] using e)
theorem bld_byte (u : Q05 E) (k : Nat) (id : Nat) (acc : List UInt8) (c : UInt8) (m : Mem) (h : BGrow acc id m) (hl : acc.length < 1000000000000) :
    ∃ m', denF E (k + 2) 71 [.ty 0 (.ptr id 0), .p (.int .u8 c.toNat)] m = some (.ret (.p .nili), m') ∧ BGrow (acc ++ [c]) id m' ∧ m.length ≤ m'.length ∧
      (∀ j b, m[j]? = some b → j ≠ id → (∀ n z, b ≠ .tok n z) → m'[j]? = some b) := by
  obtain ⟨a, b, h1, ha, hb⟩ := h
  have hid := get_lt h1
  have hc := fun m => bld_copy u k id a b m
  have hset : ∀ x : Blk, (m.set id x)[id]? = some x := fun x => get_set h1 x
  rcases hb with ⟨rfl, rfl⟩ | ⟨hne, t, htid, rfl, ht⟩
  · refine ⟨((m.set id (.cells [.ty 0 (.ptr id 0), .p .nils]) ++ [Blk.tok 1 1] ++ [Blk.tok 1 1])).set id (.cells [.ty 0 (.ptr id 0), .ty 1 (.tv 1 (byteRows [c]) (m.length + 1))]), ?_, ?_, ?_, ?_⟩
    · refine denF_wp_own u.wbyte rfl ?_
      have hcc := hc m h1 ha
      have g1 : ∀ (x y z : Blk), (m.set id x ++ [y] ++ [z])[id]? = some x := fun x y z => get_app (get_app (hset x) _) _
      have g2 : ∀ (x y z : Blk), (m.set id x ++ [y, z])[id]? = some x := fun x y z => get_app (hset x) _
      simp [Fn.f_strings_Builder_WriteByte, hcc, hset, room, byteRows, byteRow, g1, g2]
    · refine ⟨.ty 0 (.ptr id 0), _, get_set (get_app (get_app (hset _) _) _) _, .inr rfl, .inr ⟨by simp, m.length + 1, by omega, by simp, ?_⟩⟩
      rw [get_ne (by omega), List.getElem?_append_right (by simp)]
      simp
    · simp
    · intro j b hj hne hb
      rw [get_ne (fun e => hne e.symm)]
      refine get_app (get_app ?_ _) _
      rw [get_ne (fun e => hne e.symm)]
      exact hj
  · refine ⟨(((m.set id (.cells [.ty 0 (.ptr id 0), .ty 1 (.tv 1 (byteRows acc) t)])) ++ [Blk.tok 1 1]).set t (Blk.tok 1 (acc.length + 1))).set id (.cells [.ty 0 (.ptr id 0), .ty 1 (.tv 1 (byteRows (acc ++ [c])) t)]), ?_, ?_, ?_, ?_⟩
    · refine denF_wp_own u.wbyte rfl ?_
      have hcc := hc m h1 ha
      have g1 : ∀ (x : Blk) (y z : Blk), ((m.set id x ++ [y]).set t z)[id]? = some x := fun x y z => by rw [get_ne htid]; exact get_app (hset x) _
      have g2 : ∀ (x y : Blk), (m.set id x ++ [y])[t]? = some (.tok 1 acc.length) := fun x y => get_app (by rw [get_ne (fun e => htid e.symm)]; exact ht) _
      have hbl := byteRows_len' acc
      have hb2 : acc.length + 1 ≤ room := by unfold room; omega
      have happ : byteRows acc ++ [[PV.int .u8 c.toNat]] = byteRows (acc ++ [c]) := by simp [byteRows, byteRow]
      simp [Fn.f_strings_Builder_WriteByte, hcc, hset, hbl, hb2, g1, g2, happ]
    · have g0 : ∀ (x : Blk) (y z : Blk), ((m.set id x ++ [y]).set t z)[id]? = some x := fun x y z => by rw [get_ne htid]; exact get_app (hset x) _
      refine ⟨.ty 0 (.ptr id 0), _, get_set (g0 _ _ _) _, .inr rfl, .inr ⟨by simp, t, htid, rfl, ?_⟩⟩
      rw [get_ne (fun e => htid e.symm), get_set (get_app (by rw [get_ne (fun e => htid e.symm)]; exact ht) _)]
      simp
    · simp
    · intro j b hj hne' hb
      rw [get_ne (fun e => hne' e.symm)]
      have : j ≠ t := by
        rintro rfl
        rw [ht] at hj
        exact hb _ _ (Option.some.inj hj).symm
      rw [get_ne (fun e => this e.symm)]
      refine get_app ?_ _
      rw [get_ne (fun e => hne' e.symm)]
      exact hj
theorem bld_text (u : Q05 E) (k : Nat) (id : Nat) (acc new : List UInt8) (hn : new ≠ []) (hnl : new.length < 1000000000000) (m : Mem) (h : BGrow acc id m) (hl : acc.length < 1000000000000) :
    ∃ m', denF E (k + 2) 73 [.ty 0 (.ptr id 0), .p (.str new)] m = some (.ret (.tup [.p (.int .i64 new.length), .p .nili]), m') ∧ BGrow (acc ++ new) id m' ∧ m.length ≤ m'.length ∧
      (∀ j b, m[j]? = some b → j ≠ id → (∀ n z, b ≠ .tok n z) → m'[j]? = some b) := by
  obtain ⟨a, b, h1, ha, hb⟩ := h
  have hid := get_lt h1
  have hc := fun m => bld_copy u k id a b m
  have hset : ∀ x : Blk, (m.set id x)[id]? = some x := fun x => get_set h1 x
  have hnl' := byteRows_len' new
  have hnn := byteRows_ne hn
  have hr1 : new.length ≤ room := by unfold room; omega
  rcases hb with ⟨rfl, rfl⟩ | ⟨hne, t, htid, rfl, ht⟩
  · refine ⟨((m.set id (.cells [.ty 0 (.ptr id 0), .p .nils]) ++ [Blk.tok 1 new.length])).set id (.cells [.ty 0 (.ptr id 0), .ty 1 (.tv 1 (byteRows new) m.length)]), ?_, ?_, ?_, ?_⟩
    · refine denF_wp_own u.wstr rfl ?_
      have hcc := hc m h1 ha
      have g1 : ∀ (x y : Blk), (m.set id x ++ [y])[id]? = some x := fun x y => get_app (hset x) _
      simp [Fn.f_strings_Builder_WriteString, hcc, hset, hnl', hnn, hr1, g1]
    · refine ⟨.ty 0 (.ptr id 0), _, get_set (get_app (hset _) _) _, .inr rfl, .inr ⟨by simpa using hn, m.length, by omega, by simp, ?_⟩⟩
      rw [get_ne (by omega), List.getElem?_append_right (by simp)]
      simp
    · simp
    · intro j b hj hne hb
      rw [get_ne (fun e => hne e.symm)]
      refine get_app ?_ _
      rw [get_ne (fun e => hne e.symm)]
      exact hj
  · refine ⟨((m.set id (.cells [.ty 0 (.ptr id 0), .ty 1 (.tv 1 (byteRows acc) t)])).set t (Blk.tok 1 (acc.length + new.length))).set id (.cells [.ty 0 (.ptr id 0), .ty 1 (.tv 1 (byteRows (acc ++ new)) t)]), ?_, ?_, ?_, ?_⟩
    · refine denF_wp_own u.wstr rfl ?_
      have hcc := hc m h1 ha
      have g1 : ∀ (x z : Blk), ((m.set id x).set t z)[id]? = some x := fun x z => by rw [get_ne htid]; exact hset x
      have g2 : ∀ (x : Blk), (m.set id x)[t]? = some (.tok 1 acc.length) := fun x => by rw [get_ne (fun e => htid e.symm)]; exact ht
      have hbl := byteRows_len' acc
      have hb2 : acc.length + new.length ≤ room := by unfold room; omega
      have happ := (byteRows_app acc new).symm
      simp [Fn.f_strings_Builder_WriteString, hcc, hset, hbl, hb2, hnl', g1, g2, happ]
    · have g0 : ∀ (x z : Blk), ((m.set id x).set t z)[id]? = some x := fun x z => by rw [get_ne htid]; exact hset x
      refine ⟨.ty 0 (.ptr id 0), _, get_set (g0 _ _) _, .inr rfl, .inr ⟨by simp [hn], t, htid, rfl, ?_⟩⟩
      rw [get_ne (fun e => htid e.symm), get_set (by rw [get_ne (fun e => htid e.symm)]; exact ht)]
      simp
    · simp
    · intro j b hj hne' hb
      rw [get_ne (fun e => hne' e.symm)]
      have : j ≠ t := by
        rintro rfl
        rw [ht] at hj
        exact hb _ _ (Option.some.inj hj).symm
      rw [get_ne (fun e => this e.symm), get_ne (fun e => hne' e.symm)]
      exact hj
theorem unBytes_rows' : ∀ t : List UInt8, unBytes (byteRows t) = some t
  | [] => rfl
  | c :: t => by
    have : byteRows (c :: t) = byteRow c :: byteRows t := rfl
    rw [this, unBytes, unBytes_rows' t]
    simp [byteRow, unByte]
theorem bld_str (u : Q05 E) (k : Nat) (id : Nat) (acc : List UInt8) (hne : acc ≠ []) (m : Mem) (h : BGrow acc id m) (hl : acc.length < 1000000000000) :
    ∃ m', denF E (k + 1) 74 [.ty 0 (.ptr id 0)] m = some (.ret (.p (.str acc)), m') := by
  obtain ⟨a, b, h1, ha, hb⟩ := h
  rcases hb with ⟨rfl, rfl⟩ | ⟨_, t, htid, rfl, ht⟩
  · exact absurd rfl hne
  · refine ⟨m.set t .dead, ?_⟩
    refine denF_wp_own u.str rfl ?_
    have hid := get_lt h1
    have hbl := byteRows_len' acc
    have hun := unBytes_rows' acc
    have hnn := byteRows_ne hne
    have hsl : acc.length ≤ strLim := by unfold strLim; omega
    simp [Fn.f_strings_Builder_String, h1, hid, hnn, hbl, ht, hun, hne, hsl]
end Hx
