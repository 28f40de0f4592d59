/-
  HxV05f: the library's growing text; texts between quotes, written.
-/
import Derived.Test.YtifcegbomagcpaaGreatDoorHxU06g
import Derived.Test.YtifcegbomagcpaaGreatDoorHxM05b
import Derived.Test.YtifcegbomagcpaaGreatDoorHxSimp
import Derived.Test.YtifcegbomagcpaaGreatDoorHxFn05
import Derived.Test.YtifcegbomagcpaaGreatDoorHxU06
namespace Hx
open Go
set_option maxHeartbeats 2000000
def rdTy (s : List UInt8) : Int × Int × Int × Int := match readT s with
  | .tup [.p (.agg [.int _ k, .int _ m]), .p (.int _ z), .p (.int _ e)] => (k, m, z, e)
  | _ => (0, 0, 0, 0)
def pKind (r : List UInt8) : PR (Int × Int) :=
  if (rdTy (skipB r)).2.2.2 = 0 then .ok ((rdTy (skipB r)).1, (rdTy (skipB r)).2.1) ((skipB r).drop (rdTy (skipB r)).2.2.1.toNat) else .bad (rdTy (skipB r)).2.2.2 (skipB r)
end Hx

namespace Hx
open Go
set_option linter.unusedSimpArgs false
set_option linter.unusedVariables false
set_option maxHeartbeats 8000000
set_option maxRecDepth 20000
variable {E : Env}
attribute [-simp] List.getD_eq_getElem?_getD getElem?_pos
def TyOk (E : Env) (f : Nat) : Prop := ∀ s : List UInt8, (s.length : Int) ≤ 1000000000 → ∀ k, s.length + 40 ≤ k → ∀ m, denF E (k + 1) f [.p (.str s)] m = some (.ret (readT s), m)
end Hx

namespace Hx
open Go
set_option linter.unusedSimpArgs false
set_option linter.unusedVariables false
set_option maxHeartbeats 4000000
variable {E : Env}
def hexS : List UInt8 := [48, 49, 50, 51, 52, 53, 54, 55, 56, 57, 97, 98, 99, 100, 101, 102]
def hexd (n : Nat) : UInt8 := hexS.getD n 0
def hexv (c : UInt8) : Option Nat := hexS.findIdx? (· == c)
def plainC (c : UInt8) : Bool := decide ((32 : Int) ≤ c.toNat) && decide ((c.toNat : Int) ≤ 126) && (!((c.toNat : Int) == 34) && !((c.toNat : Int) == 92))
def quoteC (c : UInt8) : List UInt8 :=
  if (c.toNat : Int) = 34 ∨ (c.toNat : Int) = 92 then [92, c] else if (c.toNat : Int) = 10 then [92, 110]
  else if (c.toNat : Int) < 32 ∨ 126 < (c.toNat : Int) then [92, 120, hexd (c.toNat / 16), hexd (c.toNat % 16)] else [c]
def quotes (s : List UInt8) : List UInt8 := s.flatMap quoteC
def esc : List UInt8 → UInt8 × Nat
  | [] => (0, 0)
  | a :: r => if a = 110 then (10, 1) else if a = 34 ∨ a = 92 then (a, 1) else if a = 120 then
      match r with
      | h :: l :: _ => match hexv h, hexv l with
        | some x, some y => if (32 ≤ 16 * x + y ∧ 16 * x + y ≤ 126) ∨ 16 * x + y = 10 then (0, 0) else (UInt8.ofNat (16 * x + y), 3)
        | _, _ => (0, 0)
      | _ => (0, 0)
    else (0, 0)
def stepQ : List UInt8 → Option (UInt8 × Nat)
  | [] => none
  | a :: r => if plainC a then some (a, 1) else if a = 92 then (if (esc r).2 = 0 then none else some ((esc r).1, (esc r).2 + 1)) else none
def starts (s t : List UInt8) : Bool := decide (t.length ≤ s.length) && (s.take t.length == t)
theorem hexv_hexd : ∀ x : Fin 16, hexv (hexd x.val) = some x.val := by decide +kernel
theorem hexv_d {n : Nat} (h : n < 16) : hexv (hexd n) = some n := hexv_hexd ⟨n, h⟩
theorem step_quote (c : UInt8) (t : List UInt8) : stepQ (quoteC c ++ t) = some (c, (quoteC c).length) := by
  unfold quoteC
  by_cases h1 : (c.toNat : Int) = 34 ∨ (c.toNat : Int) = 92
  · rw [if_pos h1]
    have hp : plainC 92 = false := by decide
    have : c = 34 ∨ c = 92 := by
      rcases h1 with h | h
      · exact .inl (UInt8.toNat_inj.1 (by simp; omega))
      · exact .inr (UInt8.toNat_inj.1 (by simp; omega))
    have h110 : ¬ c = 110 := by rcases this with rfl | rfl <;> decide
    simp only [List.cons_append, List.nil_append, stepQ, hp, esc, h110, this, if_true, if_false]
    simp
  rw [if_neg h1]
  by_cases h2 : (c.toNat : Int) = 10
  · rw [if_pos h2]
    have : c = 10 := UInt8.toNat_inj.1 (by simp; omega)
    subst this
    rfl
  rw [if_neg h2]
  by_cases h3 : (c.toNat : Int) < 32 ∨ 126 < (c.toNat : Int)
  · rw [if_pos h3]
    have hp : plainC 92 = false := by decide
    have hc := UInt8.toNat_lt c
    have e : 16 * (c.toNat / 16) + c.toNat % 16 = c.toNat := by omega
    have hn : ¬ ((32 ≤ c.toNat ∧ c.toNat ≤ 126) ∨ c.toNat = 10) := by omega
    simp only [List.cons_append, List.nil_append, stepQ, hp, esc, hexv_d (show c.toNat / 16 < 16 by omega), hexv_d (show c.toNat % 16 < 16 by omega), e, if_neg hn, UInt8.ofNat_toNat]
    simp
  · rw [if_neg h3]
    have hp : plainC c = true := by
      unfold plainC
      simp
      omega
    simp only [List.cons_append, List.nil_append, stepQ, hp, if_true]
    simp
def unqF : Nat → List UInt8 → Option (List UInt8 × Nat)
  | 0, _ => none
  | k + 1, s => if s.head? = some 34 then some ([], 1) else match stepQ s with
    | none => none
    | some p => match unqF k (s.drop p.2) with
      | none => none
      | some q => some (p.1 :: q.1, q.2 + p.2)
def unq (s : List UInt8) : Option (List UInt8 × Nat) := unqF (s.length + 1) s
def UInv (s : List UInt8) (i : Nat) (acc : List UInt8) : Prop := 1 ≤ i ∧ i ≤ s.length ∧ acc.length ≤ i ∧ unq s.tail = match unq (s.drop i) with | none => none | some q => some (acc ++ q.1, q.2 + (i - 1))
end Hx

namespace Hx
open Go
set_option linter.unusedSimpArgs false
set_option linter.unusedVariables false
set_option maxHeartbeats 4000000
variable {E : Env}
attribute [-simp] List.getD_eq_getElem?_getD getElem?_pos
structure Q05 (E : Env) : Prop where
  plain : E.fn 72 = some Fn.f_name_plain
  one : E.fn 68 = some Fn.f_haulageref04_one
  idx : E.fn 64 = some Fn.f_strings_IndexByte
  idx' : E.fn 76 = some Fn.f_internal_stringslite_IndexByte
  escaped : E.fn 75 = some Fn.f_name_escaped
  wbyte : E.fn 71 = some Fn.f_strings_Builder_WriteByte
  wstr : E.fn 73 = some Fn.f_strings_Builder_WriteString
  str : E.fn 74 = some Fn.f_strings_Builder_String
  copy : E.fn 77 = some Fn.f_strings_Builder_copyCheck
  quote : E.fn 214 = some Fn.f_name_Quote
  unquote : E.fn 62 = some Fn.f_name_Unquote
theorem hexS_at {n : Nat} (h : n < 16) : ([48, 49, 50, 51, 52, 53, 54, 55, 56, 57, 97, 98, 99, 100, 101, 102] : List UInt8)[n]? = some (hexd n) := by
  have : ∀ x : Fin 16, ([48, 49, 50, 51, 52, 53, 54, 55, 56, 57, 97, 98, 99, 100, 101, 102] : List UInt8)[x.val]? = some (hexd x.val) := by decide +kernel
  exact this ⟨n, h⟩
theorem hexS_cut {n : Nat} (h : n < 16) : (([48, 49, 50, 51, 52, 53, 54, 55, 56, 57, 97, 98, 99, 100, 101, 102] : List UInt8).take (n + 1)).drop n = [hexd n] := by
  have : ∀ x : Fin 16, (([48, 49, 50, 51, 52, 53, 54, 55, 56, 57, 97, 98, 99, 100, 101, 102] : List UInt8).take (x.val + 1)).drop x.val = [hexd x.val] := by decide +kernel
  exact this ⟨n, h⟩
theorem fdiv16 (n : Nat) : (n : Int).fdiv 16 = ((n / 16 : Nat) : Int) := by
  rw [Int.fdiv_eq_ediv_of_nonneg _ (by decide)]; rfl
theorem tdiv16 (n : Nat) : (n : Int).tdiv 16 = ((n / 16 : Nat) : Int) := by
  rw [Int.tdiv_eq_ediv_of_nonneg (by omega)]; rfl
theorem tmod16 (n : Nat) : (n : Int).tmod 16 = ((n % 16 : Nat) : Int) := by
  rw [Int.tmod_eq_emod_of_nonneg (by omega)]; rfl
theorem u8beq {c d : UInt8} : (c == d) = ((c.toNat : Int) == d.toNat) := by
  rw [Bool.eq_iff_iff]
  simp only [beq_iff_eq]
  exact ⟨fun h => by rw [h], fun h => UInt8.toNat_inj.1 (by omega)⟩
theorem name_plain (u : Q05 E) (k : Nat) (c : UInt8) (m : Mem) : denF E (k + 1) 72 [.p (.int .u8 c.toNat)] m = some (.ret (.p (.bool (plainC c))), m) := by
  refine denF_wp u.plain rfl (args' := [.p (.int .u8 c.toNat)]) rfl ?_
  unfold plainC
  generalize (c.toNat : Int) = x
  by_cases h1 : (32 : Int) ≤ x
  · by_cases h2 : x ≤ 126
    · cases h3 : (x == 34) <;> simp [Fn.f_name_plain, h1, h2, h3, bne]
    · simp [Fn.f_name_plain, h1, h2]
  · simp [Fn.f_name_plain, h1]
theorem ref_one4 (u : Q05 E) (k : Nat) (c : UInt8) (m : Mem) : denF E (k + 1) 68 [.p (.int .u8 c.toNat)] m = some (.ret (.p (.str (quoteC c))), m) := by
  refine denF_wp u.one rfl (args' := [.p (.int .u8 c.toNat)]) rfl ?_
  unfold quoteC
  have hc := UInt8.toNat_lt c
  by_cases h1 : (c.toNat : Int) = 34
  · have : c = 34 := UInt8.toNat_inj.1 (by simp; omega)
    subst this
    simp [Fn.f_haulageref04_one, unBytes, unByte]
  by_cases h2 : (c.toNat : Int) = 92
  · have : c = 92 := UInt8.toNat_inj.1 (by simp; omega)
    subst this
    simp [Fn.f_haulageref04_one, unBytes, unByte]
  have b1 : ((c.toNat : Int) == 34) = false := by simpa using h1
  have b2 : ((c.toNat : Int) == 92) = false := by simpa using h2
  rw [if_neg (by omega)]
  by_cases h3 : (c.toNat : Int) = 10
  · have b3 : ((c.toNat : Int) == 10) = true := by simpa using h3
    rw [if_pos h3]
    simp [Fn.f_haulageref04_one, b1, b2, b3]
  have b3 : ((c.toNat : Int) == 10) = false := by simpa using h3
  rw [if_neg h3]
  have w1 : IntKind.u8.wrap ((c.toNat / 16 : Nat) : Int) = ((c.toNat / 16 : Nat) : Int) := wrap_u8 (by omega) (by omega)
  have w2 : IntKind.u8.wrap (((c.toNat / 16 : Nat) : Int) + 1) = ((c.toNat / 16 + 1 : Nat) : Int) := by rw [wrap_u8 (by omega) (by omega)]; omega
  have w3 : IntKind.u8.wrap (((c.toNat % 16 : Nat) : Int) + 1) = ((c.toNat % 16 + 1 : Nat) : Int) := by rw [wrap_u8 (by omega) (by omega)]; omega
  have x1 := hexS_cut (n := c.toNat / 16) (by omega)
  have x2 := hexS_cut (n := c.toNat % 16) (by omega)
  have d1 := tdiv16 c.toNat
  have d2 := tmod16 c.toNat
  have l1 : c.toNat / 16 + 1 ≤ 16 := by omega
  have l2 : c.toNat % 16 + 1 ≤ 16 := by omega
  generalize hq1 : c.toNat / 16 = q1 at *
  generalize hq2 : c.toNat % 16 = q2 at *
  by_cases h4 : (c.toNat : Int) < 32
  · rw [if_pos (.inl h4)]
    simp [Fn.f_haulageref04_one, b1, b2, b3, h4, d1, d2, w1, w2, w3, l1, l2, x1, x2, strLim, -Int.natCast_add, -List.take_succ_cons]
  · by_cases h5 : 126 < (c.toNat : Int)
    · rw [if_pos (.inr h5)]
      simp [Fn.f_haulageref04_one, b1, b2, b3, h4, h5, d1, d2, w1, w2, w3, l1, l2, x1, x2, strLim, -Int.natCast_add, -List.take_succ_cons]
    · rw [if_neg (by omega)]
      simp [Fn.f_haulageref04_one, b1, b2, b3, h4, h5, unBytes, unByte]

def BGrow (acc : List UInt8) (id : Nat) (m : Mem) : Prop := ∃ a b, m[id]? = some (.cells [a, b]) ∧ (a = .p .nilp ∨ a = .ty 0 (.ptr id 0)) ∧
  ((acc = [] ∧ b = .p .nils) ∨ (acc ≠ [] ∧ ∃ t, t ≠ id ∧ b = .ty 1 (.tv 1 (byteRows acc) t) ∧ m[t]? = some (.tok 1 acc.length)))
theorem get_ne {m : Mem} {i j : Nat} {x : Blk} (h : i ≠ j) : (m.set i x)[j]? = m[j]? := by
  rw [List.getElem?_set]
  rw [if_neg h]
theorem get_lt {m : Mem} {t : Nat} {b : Blk} (h : m[t]? = some b) : t < m.length := by
  rcases Nat.lt_or_ge t m.length with h' | h'
  · exact h'
  · rw [List.getElem?_eq_none h'] at h; cases h
theorem bld_copy (u : Q05 E) (k : Nat) (id : Nat) (a b : AV) (m : Mem) (h : m[id]? = some (.cells [a, b])) (ha : a = .p .nilp ∨ a = .ty 0 (.ptr id 0)) :
    denF E (k + 1) 77 [.ty 0 (.ptr id 0)] m = some (.ret (.tup []), m.set id (.cells [.ty 0 (.ptr id 0), b])) := by
  refine denF_wp_own u.copy rfl ?_
  rcases ha with rfl | rfl
  · simp [Fn.f_strings_Builder_copyCheck, h]
  · have e : m.set id (.cells [.ty 0 (.ptr id 0), b]) = m := by
      obtain ⟨h1, h2⟩ := List.getElem?_eq_some_iff.1 h
      rw [← h2, List.set_getElem_self]
    rw [e]
    simp [Fn.f_strings_Builder_copyCheck, h]
end Hx

namespace Hx
open Go
set_option linter.unusedSimpArgs false
set_option linter.unusedVariables false
set_option maxHeartbeats 4000000
variable {E : Env}
attribute [-simp] List.getD_eq_getElem?_getD getElem?_pos
theorem byteRows_len' (t : List UInt8) : (byteRows t).length = t.length := by simp [byteRows]
theorem byteRows_app (a b : List UInt8) : byteRows (a ++ b) = byteRows a ++ byteRows b := by simp [byteRows]
theorem byteRows_ne {a : List UInt8} (h : a ≠ []) : byteRows a ≠ [] := by
  intro e; exact h (by simpa [byteRows] using e)
theorem bld_byte (u : Q05 E) (k : Nat) (id : Nat) (acc : List UInt8) (c : UInt8) (m : Mem) (h : BGrow acc id m) (hl : acc.length < 1000000000000) :
    ∃ m', denF E (k + 2) 71 [.ty 0 (.ptr id 0), .p (.int .u8 c.toNat)] m = some (.ret (.p .nili), m') ∧ BGrow (acc ++ [c]) id m' ∧ m.length ≤ m'.length ∧
      (∀ j b, m[j]? = some b → j ≠ id → (∀ n z, b ≠ .tok n z) → m'[j]? = some b) := by
  obtain ⟨a, b, h1, ha, hb⟩ := h
  have hid := get_lt h1
  have hc := fun m => bld_copy u k id a b m
  have hset : ∀ x : Blk, (m.set id x)[id]? = some x := fun x => get_set h1 x
  rcases hb with ⟨rfl, rfl⟩ | ⟨hne, t, htid, rfl, ht⟩
  · refine ⟨((m.set id (.cells [.ty 0 (.ptr id 0), .p .nils]) ++ [Blk.tok 1 1] ++ [Blk.tok 1 1])).set id (.cells [.ty 0 (.ptr id 0), .ty 1 (.tv 1 (byteRows [c]) (m.length + 1))]), ?_, ?_, ?_, ?_⟩
    · refine denF_wp_own u.wbyte rfl ?_
      have hcc := hc m h1 ha
      have g1 : ∀ (x y z : Blk), (m.set id x ++ [y] ++ [z])[id]? = some x := fun x y z => get_app (get_app (hset x) _) _
      have g2 : ∀ (x y z : Blk), (m.set id x ++ [y, z])[id]? = some x := fun x y z => get_app (hset x) _
      simp [Fn.f_strings_Builder_WriteByte, hcc, hset, room, byteRows, byteRow, g1, g2]
    · refine ⟨.ty 0 (.ptr id 0), _, get_set (get_app (get_app (hset _) _) _) _, .inr rfl, .inr ⟨by simp, m.length + 1, by omega, by simp, ?_⟩⟩
      rw [get_ne (by omega), List.getElem?_append_right (by simp)]
      simp
    · simp
    · intro j b hj hne hb
      rw [get_ne (fun e => hne e.symm)]
      refine get_app (get_app ?_ _) _
      rw [get_ne (fun e => hne e.symm)]
      exact hj
  · refine ⟨(((m.set id (.cells [.ty 0 (.ptr id 0), .ty 1 (.tv 1 (byteRows acc) t)])) ++ [Blk.tok 1 1]).set t (Blk.tok 1 (acc.length + 1))).set id (.cells [.ty 0 (.ptr id 0), .ty 1 (.tv 1 (byteRows (acc ++ [c])) t)]), ?_, ?_, ?_, ?_⟩
    · refine denF_wp_own u.wbyte rfl ?_
      have hcc := hc m h1 ha
      have g1 : ∀ (x : Blk) (y z : Blk), ((m.set id x ++ [y]).set t z)[id]? = some x := fun x y z => by rw [get_ne htid]; exact get_app (hset x) _
      have g2 : ∀ (x y : Blk), (m.set id x ++ [y])[t]? = some (.tok 1 acc.length) := fun x y => get_app (by rw [get_ne (fun e => htid e.symm)]; exact ht) _
      have hbl := byteRows_len' acc
      have hb2 : acc.length + 1 ≤ room := by unfold room; omega
      have happ : byteRows acc ++ [[PV.int .u8 c.toNat]] = byteRows (acc ++ [c]) := by simp [byteRows, byteRow]
      simp [Fn.f_strings_Builder_WriteByte, hcc, hset, hbl, hb2, g1, g2, happ]
    · have g0 : ∀ (x : Blk) (y z : Blk), ((m.set id x ++ [y]).set t z)[id]? = some x := fun x y z => by rw [get_ne htid]; exact get_app (hset x) _
      refine ⟨.ty 0 (.ptr id 0), _, get_set (g0 _ _ _) _, .inr rfl, .inr ⟨by simp, t, htid, rfl, ?_⟩⟩
      rw [get_ne (fun e => htid e.symm), get_set (get_app (by rw [get_ne (fun e => htid e.symm)]; exact ht) _)]
      simp
    · simp
    · intro j b hj hne' hb
      rw [get_ne (fun e => hne' e.symm)]
      have : j ≠ t := by
        rintro rfl
        rw [ht] at hj
        exact hb _ _ (Option.some.inj hj).symm
      rw [get_ne (fun e => this e.symm)]
      refine get_app ?_ _
      rw [get_ne (fun e => hne' e.symm)]
      exact hj
theorem bld_text (u : Q05 E) (k : Nat) (id : Nat) (acc new : List UInt8) (hn : new ≠ []) (hnl : new.length < 1000000000000) (m : Mem) (h : BGrow acc id m) (hl : acc.length < 1000000000000) :
    ∃ m', denF E (k + 2) 73 [.ty 0 (.ptr id 0), .p (.str new)] m = some (.ret (.tup [.p (.int .i64 new.length), .p .nili]), m') ∧ BGrow (acc ++ new) id m' ∧ m.length ≤ m'.length ∧
      (∀ j b, m[j]? = some b → j ≠ id → (∀ n z, b ≠ .tok n z) → m'[j]? = some b) := by
  obtain ⟨a, b, h1, ha, hb⟩ := h
  have hid := get_lt h1
  have hc := fun m => bld_copy u k id a b m
  have hset : ∀ x : Blk, (m.set id x)[id]? = some x := fun x => get_set h1 x
  have hnl' := byteRows_len' new
  have hnn := byteRows_ne hn
  have hr1 : new.length ≤ room := by unfold room; omega
  rcases hb with ⟨rfl, rfl⟩ | ⟨hne, t, htid, rfl, ht⟩
  · refine ⟨((m.set id (.cells [.ty 0 (.ptr id 0), .p .nils]) ++ [Blk.tok 1 new.length])).set id (.cells [.ty 0 (.ptr id 0), .ty 1 (.tv 1 (byteRows new) m.length)]), ?_, ?_, ?_, ?_⟩
    · refine denF_wp_own u.wstr rfl ?_
      have hcc := hc m h1 ha
      have g1 : ∀ (x y : Blk), (m.set id x ++ [y])[id]? = some x := fun x y => get_app (hset x) _
      simp [Fn.f_strings_Builder_WriteString, hcc, hset, hnl', hnn, hr1, g1]
    · refine ⟨.ty 0 (.ptr id 0), _, get_set (get_app (hset _) _) _, .inr rfl, .inr ⟨by simpa using hn, m.length, by omega, by simp, ?_⟩⟩
      rw [get_ne (by omega), List.getElem?_append_right (by simp)]
      simp
    · simp
    · intro j b hj hne hb
      rw [get_ne (fun e => hne e.symm)]
      refine get_app ?_ _
      rw [get_ne (fun e => hne e.symm)]
      exact hj
  · refine ⟨((m.set id (.cells [.ty 0 (.ptr id 0), .ty 1 (.tv 1 (byteRows acc) t)])).set t (Blk.tok 1 (acc.length + new.length))).set id (.cells [.ty 0 (.ptr id 0), .ty 1 (.tv 1 (byteRows (acc ++ new)) t)]), ?_, ?_, ?_, ?_⟩
    · refine denF_wp_own u.wstr rfl ?_
      have hcc := hc m h1 ha
      have g1 : ∀ (x z : Blk), ((m.set id x).set t z)[id]? = some x := fun x z => by rw [get_ne htid]; exact hset x
      have g2 : ∀ (x : Blk), (m.set id x)[t]? = some (.tok 1 acc.length) := fun x => by rw [get_ne (fun e => htid e.symm)]; exact ht
      have hbl := byteRows_len' acc
      have hb2 : acc.length + new.length ≤ room := by unfold room; omega
      have happ := (byteRows_app acc new).symm
      simp [Fn.f_strings_Builder_WriteString, hcc, hset, hbl, hb2, hnl', g1, g2, happ]
    · have g0 : ∀ (x z : Blk), ((m.set id x).set t z)[id]? = some x := fun x z => by rw [get_ne htid]; exact hset x
      refine ⟨.ty 0 (.ptr id 0), _, get_set (g0 _ _) _, .inr rfl, .inr ⟨by simp [hn], t, htid, rfl, ?_⟩⟩
      rw [get_ne (fun e => htid e.symm), get_set (by rw [get_ne (fun e => htid e.symm)]; exact ht)]
      simp
    · simp
    · intro j b hj hne' hb
      rw [get_ne (fun e => hne' e.symm)]
      have : j ≠ t := by
        rintro rfl
        rw [ht] at hj
        exact hb _ _ (Option.some.inj hj).symm
      rw [get_ne (fun e => this e.symm), get_ne (fun e => hne' e.symm)]
      exact hj
theorem unBytes_rows' : ∀ t : List UInt8, unBytes (byteRows t) = some t
  | [] => rfl
  | c :: t => by
    have : byteRows (c :: t) = byteRow c :: byteRows t := rfl
    rw [this, unBytes, unBytes_rows' t]
    simp [byteRow, unByte]
theorem bld_str (u : Q05 E) (k : Nat) (id : Nat) (acc : List UInt8) (hne : acc ≠ []) (m : Mem) (h : BGrow acc id m) (hl : acc.length < 1000000000000) :
    ∃ m', denF E (k + 1) 74 [.ty 0 (.ptr id 0)] m = some (.ret (.p (.str acc)), m') := by
  obtain ⟨a, b, h1, ha, hb⟩ := h
  rcases hb with ⟨rfl, rfl⟩ | ⟨_, t, htid, rfl, ht⟩
  · exact absurd rfl hne
  · refine ⟨m.set t .dead, ?_⟩
    refine denF_wp_own u.str rfl ?_
    have hid := get_lt h1
    have hbl := byteRows_len' acc
    have hun := unBytes_rows' acc
    have hnn := byteRows_ne hne
    have hsl : acc.length ≤ strLim := by unfold strLim; omega
    simp [Fn.f_strings_Builder_String, h1, hid, hnn, hbl, ht, hun, hne, hsl]
end Hx
