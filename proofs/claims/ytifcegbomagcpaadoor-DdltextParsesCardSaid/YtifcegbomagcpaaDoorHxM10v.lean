/-
  HxM10v: how far the plain reader of changes goes: plain laws.
-/
import Derived.Test.YtifcegbomagcpaaDoorHxU10n
import Derived.Test.YtifcegbomagcpaaDoorHxV05k
import Derived.Test.YtifcegbomagcpaaDoorHxFn05
import Derived.Test.YtifcegbomagcpaaDoorHxV05b
import Derived.Test.YtifcegbomagcpaaDoorHxV05m
import Derived.Test.YtifcegbomagcpaaDoorHxU10c
namespace Hx
open Go
set_option linter.unusedSimpArgs false
set_option linter.unusedVariables false
set_option maxHeartbeats 8000000
set_option maxRecDepth 20000
variable {E : Env}
attribute [-simp] List.getD_eq_getElem?_getD getElem?_pos
theorem P_kind (u : P10 E) (hn : E.fn 264 = some Fn.f_haulageref10_P_kind) (bl : BlanksOk E) (ty : TyOk E 90) (f90 : E.fn 90 = some Fn.f_haulageref06_Read) {s r : List UInt8} (hs : (s.length : Int) ≤ 1000000000) (hr : r <:+ s) (k : Nat) (hk : s.length + 45 ≤ k) (id : Nat) (m : Mem) (hm : m[id]? = some (pB s r 0)) :
    ∃ x y kd mx, denF E (k + 1) 264 [.ptr id 0] m = some (.ret (.p (.agg [.int .i64 kd, .int .i64 mx])), m.set id (pB s (pKind r).rest (pKind r).err) ++ [x, y])
      ∧ ∀ t q, pKind r = .ok t q → t = (kd, mx) := by
  have hid := own_id hm
  obtain ⟨j, rfl⟩ : ∃ j, k = j + 1 := ⟨k - 1, by omega⟩
  have hlen := suf_len (suf_skip hr)
  have hle := place_le (s := s) (r := skipB r)
  have hdr := drop_suf (suf_skip hr)
  obtain ⟨kd, mx, z, e, hT, hz, hz0⟩ := readT_far (skipB r)
  have hT' := rdTy_of hT
  have hpl := place_drop (suf_skip hr) hz
  have hR := fun m => ty (skipB r) (by omega) j (by omega) m
  rw [hT] at hR
  have hle2 : ((placeOf10 s (skipB r) : Nat) : Int) ≤ s.length := by omega
  have hap1 : ∀ (l : List Blk) (x : Blk), (m ++ l).set id x = m.set id x ++ l := fun l x => by rw [List.set_append_left _ _ hid]
  have hap2 : ∀ (l : List Blk) (x y : Blk), (m.set id x ++ l).set id y = m.set id y ++ l := fun l x y => by rw [List.set_append_left _ _ (by rw [List.length_set]; exact hid), List.set_set]
  have hap3 : ∀ (l : List Blk) (x : Blk), (m.set id x ++ l)[id]? = some x := fun l x => by rw [List.getElem?_append_left (by rw [List.length_set]; exact hid)]; exact List.getElem?_set_self hid
  have hget : (m ++ [Blk.cells [.p (.int .i64 0), .p (.int .i64 0)]])[id]? = some (pB s r 0) := by rw [List.getElem?_append_left hid]; exact hm
  have hB := bl hs hr j (by omega) id _ hget
  rw [hap1] at hB
  have hbad := fun (l : List Blk) => P_bad0 u (s := s) (r := skipB r) e j id (m.set id (pB s (skipB r) 0) ++ l) (hap3 _ _)
  simp only [hap2] at hbad
  have hw : IntKind.i64.wrap ((placeOf10 s (skipB r) : Int) + z) = ((placeOf10 s ((skipB r).drop z) : Nat) : Int) := by rw [wrap_i64 (by omega) (by omega), hpl]; omega
  have hq : ∀ x : Blk, (m.set id x).length = m.length := fun x => List.length_set
  have g0 := fun (x a : Blk) (l : Mem) => app_at0 (hq x) a l
  have g1 := fun (x a b : Blk) (l : Mem) => app_at1 (hq x) a b l
  have s0 := fun (x a c : Blk) (l : Mem) => app_set0 (hq x) a c l
  have s1 := fun (x a b c : Blk) (l : Mem) => app_set1 (hq x) a b c l
  have hid1 : id < m.length + 1 := by omega
  have hid2 : id < m.length + 2 := by omega
  have hid3 : id < m.length + 1 + 1 := by omega
  have p90 : Fn.f_haulageref06_Read.pure = true := rfl
  have hend : (pKind r).rest = (skipB r).drop z ∧ (pKind r).err = e ∧ ∀ t q, pKind r = .ok t q → t = (kd, mx) := by
    unfold pKind
    rw [hT']
    by_cases he : e = 0
    · subst he; refine ⟨by simp [PR.rest], by simp [PR.err], ?_⟩; intro t q h; simp at h; exact h.1.symm
    · have := hz0 he; subst this; simp [he, PR.rest, PR.err]
  refine ⟨.cells [.p (.int .i64 kd), .p (.int .i64 mx)], .cells [.p (.int .i64 kd), .p (.int .i64 mx)], kd, mx, ?_, hend.2.2⟩
  rw [hend.1, hend.2.1]
  refine denF_wp_own hn rfl ?_
  unfold rT tP at hR
  unfold pB at *
  simp (maxSteps := 4000000) [Fn.f_haulageref10_P_kind, hB, hR, hdr, hle, hle2, f90, p90, hbad, hap1, hap2, hap3, g0, g1, s0, s1, hid, hid1, hid2, hid3, hw, bne]
end Hx

namespace Hx
open Go
set_option linter.unusedSimpArgs false
set_option linter.unusedVariables false
set_option maxHeartbeats 8000000
set_option maxRecDepth 20000
variable {E : Env}
attribute [-simp] List.getD_eq_getElem?_getD getElem?_pos
theorem set_own {id : Nat} {m : Mem} {x : Blk} (hm : m[id]? = some x) : m.set id x = m := by
  obtain ⟨h1, h2⟩ := List.getElem?_eq_some_iff.1 hm
  rw [← h2, List.set_getElem_self]
theorem app_at0' (m : Mem) (a : Blk) (l : Mem) : (m ++ a :: l)[m.length]? = some a := by
  rw [List.getElem?_append_right (by omega), Nat.sub_self]; rfl
theorem P_blanks1 (u : P10 E) {s r : List UInt8} {e : Int} (he : e ≠ 0) (k : Nat) (hk : 2 ≤ k) (id : Nat) (m : Mem) (hm : m[id]? = some (pB s r e)) :
    denF E (k + 1) 242 [.ptr id 0] m = some (.ret (.tup []), m) := by
  refine denF_wp_own u.blanks rfl ?_
  have hid := own_id hm
  have hb : (e == 0) = false := by simpa using he
  simp [Fn.f_haulageref10_P_blanks]
  refine (loop_wp (α := Unit) (I := fun _ st => Live Fn.f_haulageref10_P_blanks_k0 (Fn.f_haulageref10_P_blanks_s0 (.ptr id 0)) m st) (meas := fun _ => 0)
    (Q := fun e st => e = .exit 0 ∧ st.ds = [] ∧ st.m = m) ?_ k () _ ⟨rfl, rfl, rfl, rfl⟩ (by omega)).mono ?_
  · rintro _ st hlive
    rw [loopF_live hlive]
    unfold pB at *
    simp (maxSteps := 4000000) [Fn.f_haulageref10_P_blanks_b0, Fn.f_haulageref10_P_blanks_s0, hid, hm, hb]
  · rintro e st ⟨he, hds, hm⟩
    subst he
    simp [hds, hm]
theorem P_name1 (u : P10 E) (hn : E.fn 260 = some Fn.f_haulageref10_P_name) {s r : List UInt8} {e : Int} (he : e ≠ 0) (hs : (s.length : Int) ≤ 1000000000) (hr : r <:+ s) (k : Nat) (hk : s.length + 9 ≤ k) (id : Nat) (m : Mem) (hm : m[id]? = some (pB s r e)) :
    denF E (k + 1) 260 [.ptr id 0] m = some (.ret (.p (.str [])), m) := by
  refine denF_wp_own hn rfl ?_
  obtain ⟨j, rfl⟩ : ∃ j, k = j + 1 := ⟨k - 1, by omega⟩
  obtain ⟨i, rfl⟩ : ∃ i, j = i + 1 := ⟨j - 1, by omega⟩
  have hid := own_id hm
  have hb : (e == 0) = false := by simpa using he
  have hB := P_blanks1 u he i (by omega) id m hm
  have hP := P_peek u hs hr (i + 1) (by omega) id m hid (e := e) (by rw [set_own hm]; exact hB)
  rw [set_own hm] at hP
  unfold pB at *
  simp [Fn.f_haulageref10_P_name, hP, hid, hm, hb, bne]
theorem P_want1 (u : P10 E) (hn : E.fn 262 = some Fn.f_haulageref10_P_want) {s r : List UInt8} {e : Int} (he : e ≠ 0) (w : List UInt8) (k : Nat) (hk : 4 ≤ k) (id : Nat) (m : Mem) (hm : m[id]? = some (pB s r e)) :
    denF E (k + 1) 262 [.ptr id 0, .p (.str w)] m = some (.ret (.tup []), m) := by
  refine denF_wp_own hn rfl ?_
  obtain ⟨j, rfl⟩ : ∃ j, k = j + 1 := ⟨k - 1, by omega⟩
  have hid := own_id hm
  have hb : (e == 0) = false := by simpa using he
  have hB := P_blanks1 u he j (by omega) id m hm
  unfold pB at *
  simp [Fn.f_haulageref10_P_want, hB, hid, hm, hb, bne]
theorem P_kind1 (u : P10 E) (hn : E.fn 264 = some Fn.f_haulageref10_P_kind) {s r : List UInt8} {e : Int} (he : e ≠ 0) (k : Nat) (hk : 4 ≤ k) (id : Nat) (m : Mem) (hm : m[id]? = some (pB s r e)) :
    denF E (k + 1) 264 [.ptr id 0] m = some (.ret (.p (.agg [.int .i64 0, .int .i64 0])), m ++ [.cells [.p (.int .i64 0), .p (.int .i64 0)]]) := by
  refine denF_wp_own hn rfl ?_
  obtain ⟨j, rfl⟩ : ∃ j, k = j + 1 := ⟨k - 1, by omega⟩
  have hid := own_id hm
  have hid1 : id < m.length + 1 := by omega
  have hb : (e == 0) = false := by simpa using he
  have hget : (m ++ [Blk.cells [.p (.int .i64 0), .p (.int .i64 0)]])[id]? = some (pB s r e) := by rw [List.getElem?_append_left hid]; exact hm
  have hB := P_blanks1 u he j (by omega) id _ hget
  have g0 := fun (a : Blk) (l : Mem) => app_at0' m a l
  unfold pB at *
  simp [Fn.f_haulageref10_P_kind, hB, hid, hid1, hget, hm, hb, g0, bne]
end Hx

namespace Hx
open Go
set_option linter.unusedSimpArgs false
set_option linter.unusedVariables false
set_option maxHeartbeats 8000000
set_option maxRecDepth 20000
variable {E : Env}
attribute [-simp] List.getD_eq_getElem?_getD getElem?_pos
def printS (a n : Int) (s : List UInt8) : List UInt8 :=
  if a = 1 then digits n else if a = 2 then digits n ++ [108] else if a = 3 then 34 :: (quotes s ++ [34]) else if a = 4 then 120 :: 34 :: (hexes s ++ [34]) else [110, 117, 108, 108]
def PbInv (a n : Int) (s : List UInt8) (i : Nat) (st : St) : Prop := ∃ (t : Nat) (m : Mem), i ≤ s.length ∧ t ≠ 0 ∧ m[t]? = some (.tok 1 (2 + 2 * i)) ∧ m[0]? = some (.cells [.p (.int .i64 a), .p (.int .i64 n), .p (.str s)]) ∧
  Live Fn.f_value_Print_k0 (Fn.f_value_Print_s0 (.ptr 0 0) (.tv 1 (byteRows (120 :: 34 :: hexes (s.take i))) t) (.p (.int .i64 s.length)) (.p (.int .i64 i))) m st
theorem PbInv.mk {a n : Int} {s : List UInt8} {i : Nat} {st : St} (t : Nat) (m : Mem) (h1 : i ≤ s.length) (h2 : t ≠ 0) (h3 : m[t]? = some (.tok 1 (2 + 2 * i))) (h4 : m[0]? = some (.cells [.p (.int .i64 a), .p (.int .i64 n), .p (.str s)]))
  (h5 : Live Fn.f_value_Print_k0 (Fn.f_value_Print_s0 (.ptr 0 0) (.tv 1 (byteRows (120 :: 34 :: hexes (s.take i))) t) (.p (.int .i64 s.length)) (.p (.int .i64 i))) m st) : PbInv a n s i st := ⟨t, m, h1, h2, h3, h4, h5⟩
end Hx

namespace Hx
open Go
set_option linter.unusedSimpArgs false
set_option linter.unusedVariables false
set_option maxHeartbeats 4000000
set_option maxRecDepth 20000
variable {E : Env}
attribute [-simp] List.getD_eq_getElem?_getD getElem?_pos
structure D05 (E : Env) : Prop where
  m : M05 E
  vdig : E.fn 39 = some Fn.f_value_Digits
  rdig : E.fn 40 = some Fn.f_haulageref05_Digits
end Hx

namespace Hx
open Go
set_option linter.unusedSimpArgs false
set_option linter.unusedVariables false
set_option maxHeartbeats 8000000
set_option maxRecDepth 20000
variable {E : Env}
attribute [-simp] List.getD_eq_getElem?_getD getElem?_pos
theorem numS_back {s : List UInt8} {v : Int} {z : Nat} (h : numS s = numT v z 0) : s.take z = digits v ∧ z ≤ s.length := by
  unfold numS at h
  generalize hb : (s.head? == some 45) = neg at h
  have hall := run_digs neg s
  have hpre : (s.drop (ahead neg)).take (runD neg s).length = runD neg s := by
    unfold runD
    exact List.prefix_iff_eq_take.1 (List.takeWhile_prefix isDig) |>.symm
  have hlen : (runD neg s).length ≤ (s.drop (ahead neg)).length := by
    unfold runD
    exact (List.takeWhile_prefix isDig).length_le
  rw [List.length_drop] at hlen
  generalize runD neg s = D at *
  unfold numO at h
  cases hbad : bad0 neg D with
  | true => rw [hbad] at h; simp [numT] at h
  | false =>
    rw [hbad] at h
    simp only [Bool.false_eq_true, if_false] at h
    by_cases hm : numVal 0 D ≤ mostOf neg
    · rw [if_pos hm] at h
      unfold numT at h
      simp only [AV.tup.injEq, List.cons.injEq, AV.p.injEq, PV.int.injEq, true_and, and_true] at h
      obtain ⟨h1, h2⟩ := h
      have hz : z = ahead neg + D.length := by omega
      unfold bad0 at hbad
      simp only [Bool.or_eq_false_iff, Bool.and_eq_false_iff] at hbad
      obtain ⟨hb1, hb2⟩ := hbad
      have hne : D ≠ [] := by intro e; subst e; cases hb1
      have h48 : D.head? = some 48 → D = [48] := by
        intro e
        rcases hb2 with hb2 | hb2
        · rw [e] at hb2; cases hb2
        · simp only [Bool.or_eq_false_iff, decide_eq_false_iff_not] at hb2
          match D, hne, e with
          | [c], _, e => simp at e; rw [e]
          | c :: d :: r, _, e => simp at hb2
      have hdg := digs_of_run hall hne h48
      cases neg with
      | true =>
        simp only [if_true] at h1
        have hN : numVal 0 D ≠ 0 := by
          intro e0
          rw [e0, digs_small (by omega)] at hdg
          have e48 : dgt 0 = 48 := by decide
          rw [e48] at hdg
          rcases hb2 with hb2 | hb2
          · rw [← hdg] at hb2; cases hb2
          · simp at hb2
        have hv : digits v = 45 :: D := by
          unfold digits
          rw [if_pos (by omega)]
          have : v.natAbs = numVal 0 D := by omega
          rw [this, hdg]
        rw [hv, hz]
        cases s with
        | nil => simp at hb
        | cons c r =>
          have : c = 45 := by simpa using hb
          subst this
          have ea : ahead true = 1 := rfl
          rw [ea] at hpre hlen ⊢
          simp only [List.drop_succ_cons, List.drop_zero] at hpre
          rw [Nat.add_comm, List.take_succ_cons, hpre]
          refine ⟨rfl, ?_⟩
          simp at hlen ⊢
          omega
      | false =>
        simp only [Bool.false_eq_true, if_false] at h1
        have hv : digits v = D := by
          unfold digits
          rw [if_neg (by omega)]
          have : v.natAbs = numVal 0 D := by omega
          rw [this, hdg]
        have ea : ahead false = 0 := rfl
        rw [ea] at hpre hlen hz
        rw [hv, hz, Nat.zero_add]
        simp only [List.drop_zero] at hpre
        exact ⟨hpre, by omega⟩
    · rw [if_neg hm] at h
      simp [numT] at h
theorem take_app_at {s : List UInt8} {z : Nat} {c : UInt8} {x : List UInt8} (h : s.take z = x) (hc : s[z]? = some c) : s.take (z + 1) = x ++ [c] := by
  rw [List.take_add_one, h, hc]; rfl
theorem clean_ok {r : Rd} {a n : Int} {t : List UInt8} {z : Int} (h : cleanR r = (a, n, t, z, 0)) : r = (a, n, t, z, 0) := by
  unfold cleanR at h
  split at h
  · exact h
  · rename_i h1
    unfold badR at h
    simp only [Prod.mk.injEq] at h
    exact absurd h.2.2.2.2 h1
theorem clean_bad (r : Rd) : cleanR r = r ∧ r.2.2.2.2 = 0 ∨ cleanR r = badR r.2.2.2.2 ∧ r.2.2.2.2 ≠ 0 := by
  unfold cleanR
  split
  · exact .inl ⟨rfl, by assumption⟩
  · exact .inr ⟨rfl, by assumption⟩
theorem readR_bad (s : List UInt8) : (readR s).2.2.2.2 = 0 ∨ readR s = badR (readR s).2.2.2.2 := by
  have hb : ∀ r : Rd, (cleanR r).2.2.2.2 = 0 ∨ cleanR r = badR (cleanR r).2.2.2.2 := by
    intro r
    rcases clean_bad r with ⟨h1, h2⟩ | ⟨h1, h2⟩
    · rw [h1]; exact .inl h2
    · rw [h1]; exact .inr rfl
  cases s with
  | nil => exact .inr rfl
  | cons c r =>
    rw [readR_cons]
    split
    · exact hb _
    split
    · exact hb _
    split
    · exact hb _
    split
    · exact .inl rfl
    · exact .inr rfl
theorem read_back {s : List UInt8} {a n : Int} {t : List UInt8} {z : Int} (h : readR s = (a, n, t, z, 0)) : rightV a n t = true ∧ isI64 n ∧ ∃ k : Nat, z = k ∧ k ≤ s.length ∧ s.take k = printS a n t := by
  cases s with
  | nil => cases h
  | cons c r =>
    rw [readR_cons] at h
    generalize hS : (c :: r : List UInt8) = s at *
    have i0 : isI64 0 := ⟨by decide, by decide⟩
    by_cases h1 : c = 45 ∨ isDig c = true
    · rw [if_pos h1] at h
      have h := clean_ok h
      obtain ⟨v, e, k, hN, hk, hv⟩ := numS_info s
      rw [numN_of hN] at h
      by_cases he : e = 0
      · subst he
        obtain ⟨hb1, hb2⟩ := numS_back hN
        rw [if_neg (by simp)] at h
        by_cases h108 : s[k]? = some 108
        · rw [if_pos h108] at h
          simp only [Prod.mk.injEq, and_true] at h
          obtain ⟨rfl, rfl, rfl, rfl⟩ := h
          have hlt : k < s.length := (List.getElem?_eq_some_iff.1 h108).1
          refine ⟨by simp [rightV], hv, k + 1, by omega, hlt, ?_⟩
          rw [take_app_at hb1 h108]
          simp [printS]
        · rw [if_neg h108] at h
          cases hf : fits32 v with
          | true =>
            rw [hf] at h
            simp only [if_true, Prod.mk.injEq, and_true] at h
            obtain ⟨rfl, rfl, rfl, rfl⟩ := h
            refine ⟨by simp [rightV, hf], hv, k, rfl, hb2, ?_⟩
            rw [hb1]
            simp [printS]
          | false =>
            rw [hf] at h
            simp at h
      · rw [if_pos he] at h
        unfold badR at h
        simp only [Prod.mk.injEq] at h
        exact absurd h.2.2.2.2 he
    rw [if_neg h1] at h
    by_cases h2 : c = 34
    · rw [if_pos h2] at h
      have h := clean_ok h
      unfold textN at h
      rw [if_pos (by rw [← hS, h2]; rfl)] at h
      cases hq : unq s.tail with
      | none => rw [hq] at h; cases h
      | some q =>
        obtain ⟨w, k⟩ := q
        rw [hq] at h
        simp only at h
        obtain ⟨g1, g2, g3⟩ := unq_some _ _ _ _ (Nat.le_refl _) hq
        unfold textW at h
        by_cases hl : 120 < w.length
        · rw [if_pos hl] at h; simp at h
        rw [if_neg hl] at h
        cases hsg : (signs w).isSome with
        | false => rw [hsg] at h; simp at h
        | true =>
          rw [hsg] at h
          simp only [if_true, Prod.mk.injEq, and_true] at h
          obtain ⟨rfl, rfl, rfl, rfl⟩ := h
          refine ⟨by simp [rightV, hsg]; omega, i0, k + 1, by omega, ?_, ?_⟩
          · rw [← hS] at g3 ⊢
            simp at g3 ⊢
            omega
          · rw [← hS] at g1 ⊢
            simp only [List.tail_cons] at g1
            rw [List.take_succ_cons, g1, h2]
            simp [printS]
    rw [if_neg h2] at h
    by_cases h3 : starts s [120, 34] = true
    · rw [if_pos h3] at h
      have h := clean_ok h
      unfold hexN at h
      rcases hX : unh [] 0 (s.drop 2) with ⟨w, k, b⟩
      rw [hX] at h
      simp only at h
      cases b with
      | false => simp [badR] at h
      | true =>
        rw [if_pos rfl] at h
        unfold hexW at h
        by_cases hl : 120 < w.length
        · rw [if_pos hl] at h; simp at h
        rw [if_neg hl] at h
        simp only [Prod.mk.injEq, and_true] at h
        obtain ⟨rfl, rfl, rfl, rfl⟩ := h
        obtain ⟨w', w1, w2, w3, w4⟩ := unh_some _ _ _ _ _ _ (Nat.le_refl _) hX
        simp only [List.nil_append] at w1
        subst w1
        unfold starts at h3
        simp only [Bool.and_eq_true, decide_eq_true_eq, List.length_cons, List.length_nil, Nat.zero_add, Nat.reduceAdd, beq_iff_eq] at h3
        rw [List.length_drop] at w4
        refine ⟨by simp [rightV]; omega, i0, k + 3, by omega, by omega, ?_⟩
        have e : k + 3 = 2 + (2 * w.length + 1) := by omega
        rw [e, List.take_add, h3.2, w3]
        simp [printS]
    rw [if_neg h3] at h
    by_cases h4 : s.take (nameLen s) = wNull
    · rw [if_pos h4] at h
      simp only [Prod.mk.injEq, and_true] at h
      obtain ⟨rfl, rfl, rfl, rfl⟩ := h
      have hl := nameLen_le s
      have hn4 : nameLen s = 4 := by
        have := congrArg List.length h4
        rw [List.length_take] at this
        have e : wNull.length = 4 := rfl
        omega
      refine ⟨by simp [rightV], i0, 4, rfl, by omega, ?_⟩
      rw [hn4] at h4
      rw [h4]
      rfl
    · rw [if_neg h4] at h
      simp [badR] at h
end Hx

namespace Hx
open Go
def opWords : List (List UInt8) := [[99, 114, 101, 97, 116, 101], [100, 114, 111, 112], [114, 101, 110, 97, 109, 101], [97, 100, 100], [99, 117, 116], [99, 97, 108, 108], [119, 105, 100, 101, 110], [112, 114, 101, 115, 101, 116]]
def opF (w : List UInt8) : Nat → List (List UInt8) → Nat
  | _, [] => 0
  | i, x :: l => if x = w then i + 1 else opF w (i + 1) l
def opOf (w : List UInt8) : Nat := opF w 0 opWords
end Hx

namespace Hx
open Go
def pValue (null : Bool) (r : List UInt8) : PR (Int × Int × List UInt8) :=
  if (readR (skipB r)).2.2.2.2 ≠ 0 then .bad (readR (skipB r)).2.2.2.2 (skipB r)
  else if (readR (skipB r)).1 = 0 ∧ null = false then .bad 11 (skipB r)
  else .ok ((readR (skipB r)).1, (readR (skipB r)).2.1, (readR (skipB r)).2.2.1) ((skipB r).drop (readR (skipB r)).2.2.2.1.toNat)
structure Col where
  name : List UInt8
  kind : Int
  max : Int
  null : Bool
  dk : Int
  dn : Int
  ds : List UInt8
def wNul : List UInt8 := [110, 117, 108, 108]
def wDef : List UInt8 := [100, 101, 102, 97, 117, 108, 116]
def pColTail (n : List UInt8) (t : Int × Int) (null : Bool) (r : List UInt8) : PR Col :=
  if (pTake wDef r).1 then (pValue false (pTake wDef r).2).bind fun v r => .ok ⟨n, t.1, t.2, null, v.1, v.2.1, v.2.2⟩ r else .ok ⟨n, t.1, t.2, null, 0, 0, []⟩ (pTake wDef r).2
def pCol (r : List UInt8) : PR Col := (pName r).bind fun n r => (pKind r).bind fun t r => pColTail n t (pTake wNul r).1 (pTake wNul r).2
def pColsF : Nat → List Col → List UInt8 → PR (List Col)
  | 0, _, r => .bad 3 (skipB r)
  | k + 1, l, r => (pCol (skipB r)).bind fun c r => if (pSign 44 r).1 then pColsF k (l ++ [c]) (pSign 44 r).2 else (pWantS 41 (pSign 44 r).2).bind fun _ r => .ok (l ++ [c]) r
def pCols (r : List UInt8) : PR (List Col) := (pWantS 40 r).bind fun _ r => pColsF 10 [] r
structure Ddl where
  op : Int
  table : List UInt8 := []
  column : List UInt8 := []
  to : List UInt8 := []
  key : List UInt8 := []
  kind : Int := 0
  max : Int := 0
  null : Bool := false
  dk : Int := 0
  dn : Int := 0
  ds : List UInt8 := []
  cols : List Col := []
def wKey : List UInt8 := [107, 101, 121]
def wTo : List UInt8 := [116, 111]
def pRest (op : Nat) (t : List UInt8) (r : List UInt8) : PR Ddl :=
  if op = 1 then (pCols r).bind fun l r => (pWant wKey r).bind fun _ r => (pName r).bind fun k r => .ok { op := 1, table := t, key := k, cols := l } r
  else if op = 2 then .ok { op := 2, table := t } r
  else if op = 3 then (pWant wTo r).bind fun _ r => (pName r).bind fun n r => .ok { op := 3, table := t, to := n } r
  else if op = 4 then (pCol r).bind fun c r => .ok { op := 4, table := t, column := c.name, kind := c.kind, max := c.max, null := c.null, dk := c.dk, dn := c.dn, ds := c.ds } r
  else if op = 5 then (pName r).bind fun c r => .ok { op := 5, table := t, column := c } r
  else if op = 6 then (pName r).bind fun c r => (pWant wTo r).bind fun _ r => (pName r).bind fun n r => .ok { op := 6, table := t, column := c, to := n } r
  else if op = 7 then (pName r).bind fun c r => (pKind r).bind fun k r => .ok { op := 7, table := t, column := c, kind := k.1, max := k.2 } r
  else (pName r).bind fun c r => (pValue true r).bind fun v r => .ok { op := 8, table := t, column := c, dk := v.1, dn := v.2.1, ds := v.2.2 } r
def pChange (r : List UInt8) : PR Ddl :=
  if opOf (wordOf (skipB r)) = 0 then .bad 5 (skipB r) else (pName ((skipB r).drop (wordOf (skipB r)).length)).bind fun t r' => pRest (opOf (wordOf (skipB r))) t r'
def pAll (s : List UInt8) : PR Ddl := (pChange s).bind fun d r => if skipB r = [] then .ok d [] else .bad 6 (skipB r)
end Hx

namespace Hx
open Go
set_option maxHeartbeats 2000000
theorem readR_far (s : List UInt8) : ∃ (a n : Int) (t : List UInt8) (z : Nat) (e : Int), readR s = (a, n, t, (z : Int), e) ∧ z ≤ s.length ∧ (e ≠ 0 → a = 0 ∧ n = 0 ∧ t = [] ∧ z = 0) := by
  rcases h : readR s with ⟨a, n, t, z, e⟩
  by_cases he : e = 0
  · subst he
    obtain ⟨_, _, k, hk, hl, _⟩ := read_back h
    exact ⟨a, n, t, k, 0, by rw [hk], hl, fun h => absurd rfl h⟩
  · rcases readR_bad s with h1 | h1
    · rw [h] at h1; exact absurd h1 he
    · rw [h] at h1
      unfold badR at h1
      simp only [Prod.mk.injEq] at h1
      exact ⟨a, n, t, 0, e, by rw [h1.2.2.2.1]; rfl, Nat.zero_le _, fun _ => ⟨h1.1, h1.2.1, h1.2.2.1, rfl⟩⟩
end Hx
