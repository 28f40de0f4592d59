/-
  HxU10j: the document's reader of changes: words and names, by what her 'blanks' leave.
-/
import Derived.Test.YtifcegbomagcpaaDoorHxV05s
import Derived.Test.YtifcegbomagcpaaDoorHxV05c
import Derived.Test.YtifcegbomagcpaaDoorHxU10a
import Derived.Test.YtifcegbomagcpaaDoorHxU10n
namespace Hx
open Go
set_option linter.unusedSimpArgs false
set_option linter.unusedVariables false
set_option maxHeartbeats 8000000
set_option maxRecDepth 20000
variable {E : Env}
attribute [-simp] List.getD_eq_getElem?_getD getElem?_pos
def stopT (T : List UInt8) : Prop := ∀ c, T.head? = some c → partC c = false
theorem dig_part {c : UInt8} (h : isDig c = true) : partC c = true := by
  unfold isDig at h
  simp only [Bool.and_eq_true, decide_eq_true_eq] at h
  unfold partC
  have h1 : (48 : Int) ≤ c.toNat := by omega
  have h2 : (c.toNat : Int) ≤ 57 := by omega
  simp [h1, h2]
theorem stop_noDig {T : List UInt8} (h : stopT T) : noDig T := by
  intro c hc
  cases hd : isDig c with
  | false => rfl
  | true => have := dig_part hd; rw [h c hc] at this; cases this
theorem append_at {x T : List UInt8} : (x ++ T)[x.length]? = T.head? := by
  rw [List.getElem?_append_right (Nat.le_refl _), Nat.sub_self]
  cases T <;> rfl
theorem digits_head {n : Int} {c : UInt8} {r : List UInt8} (h : digits n = c :: r) : c = 45 ∨ isDig c = true := by
  unfold digits at h
  split at h
  · exact .inl (List.head_eq_of_cons_eq h).symm
  · right
    have := digs_mem (c := c) n.natAbs n.natAbs (Nat.le_refl _) (by rw [h]; simp)
    unfold isDig
    simp
    exact this
theorem numN_digits {n : Int} (hn : isI64 n) {T : List UInt8} (ht : noDig T) : numN (digits n ++ T) = if T.head? = some 108 then (2, n, [], ((digits n).length : Int) + 1, 0) else if fits32 n then (1, n, [], ((digits n).length : Int), 0) else (0, 0, [], ((digits n).length : Int), 10) := by
  rw [numN_of (numS_digits5 hn.1 hn.2 ht), if_neg (by simp), append_at]
theorem readR_num {s : List UInt8} {c : UInt8} {r : List UInt8} (h : s = c :: r) (hc : c = 45 ∨ isDig c = true) : readR s = cleanR (numN s) := by
  subst h
  rw [readR_cons, if_pos hc]
theorem readR_digits (n : Int) (T : List UInt8) : readR (digits n ++ T) = cleanR (numN (digits n ++ T)) := by
  cases hd : digits n with
  | nil => exact absurd hd (digits_ne n)
  | cons c r => exact readR_num (List.cons_append) (digits_head hd)
theorem read_printed {a n : Int} {s : List UInt8} (hr : rightV a n s = true) (hn : isI64 n) {T : List UInt8} (ht : stopT T) : readR (printS a n s ++ T) = (a, n, s, ((printS a n s).length : Int), 0) := by
  have hnd := stop_noDig ht
  have h108 : T.head? ≠ some 108 := by
    intro h
    have := ht 108 h
    revert this
    decide
  unfold rightV at hr
  unfold printS
  by_cases a0 : a = 0
  · subst a0
    simp at hr
    obtain ⟨rfl, rfl⟩ := hr
    simp only [if_true, show ¬ (0 : Int) = 1 by decide, show ¬ (0 : Int) = 2 by decide, show ¬ (0 : Int) = 3 by decide, show ¬ (0 : Int) = 4 by decide, if_false]
    have hname : nameLen ([110, 117, 108, 108] ++ T) = 4 := by
      have hl : letter 110 = true := by decide
      have e : nameLen (110 :: 117 :: 108 :: 108 :: T) = if letter 110 then 1 + ((117 :: 108 :: 108 :: T).takeWhile partC).length else 0 := rfl
      show nameLen (110 :: 117 :: 108 :: 108 :: T) = 4
      rw [e, if_pos hl]
      have p1 : partC 117 = true := by decide
      have p2 : partC 108 = true := by decide
      rw [List.takeWhile_cons, if_pos p1, List.takeWhile_cons, if_pos p2, List.takeWhile_cons, if_pos p2]
      have : T.takeWhile partC = [] := by
        cases T with
        | nil => rfl
        | cons c r => rw [List.takeWhile_cons, ht c rfl]; rfl
      rw [this]
      rfl
    have e : ([110, 117, 108, 108] ++ T : List UInt8) = 110 :: (117 :: 108 :: 108 :: T) := rfl
    have n1 : ¬ ((110 : UInt8) = 45 ∨ isDig 110 = true) := by decide
    have n2 : ¬ (110 : UInt8) = 34 := by decide
    have n3 : ¬ starts (110 :: 117 :: 108 :: 108 :: T) [120, 34] = true := by
      unfold starts
      simp
    rw [e, readR_cons, if_neg n1, if_neg n2, if_neg n3]
    rw [e] at hname
    rw [hname, if_pos (show List.take 4 (110 :: 117 :: 108 :: 108 :: T) = wNull from rfl)]
    rfl
  rw [if_neg a0] at hr
  by_cases a1 : a = 1
  · subst a1
    simp at hr
    obtain ⟨hf, rfl⟩ := hr
    simp only [if_true]
    rw [readR_digits, numN_digits hn hnd, if_neg h108, if_pos hf]
    rfl
  rw [if_neg a1] at hr
  by_cases a2 : a = 2
  · subst a2
    simp at hr
    subst hr
    simp only [if_true, show ¬ (2 : Int) = 1 by decide, if_false]
    have hnd2 : noDig (108 :: T) := by
      intro c hc
      simp at hc
      subst hc
      decide
    rw [List.append_assoc, List.singleton_append, readR_digits, numN_digits hn hnd2, if_pos (show (108 :: T).head? = some 108 from rfl)]
    unfold cleanR
    simp
  rw [if_neg a2] at hr
  by_cases a3 : a = 3
  · subst a3
    simp at hr
    obtain ⟨⟨rfl, hl⟩, hs⟩ := hr
    simp only [if_true, show ¬ (3 : Int) = 1 by decide, show ¬ (3 : Int) = 2 by decide, if_false]
    have e : (34 :: (quotes s ++ [34]) ++ T : List UInt8) = 34 :: (quotes s ++ 34 :: T) := by simp
    have n1 : ¬ ((34 : UInt8) = 45 ∨ isDig 34 = true) := by decide
    rw [e, readR_cons, if_neg n1, if_pos rfl]
    have hq := unq_quotes T s
    unfold textN textW
    rw [if_pos (show (34 :: (quotes s ++ 34 :: T)).head? = some 34 from rfl), List.tail_cons, hq]
    simp only
    rw [if_neg (by omega), if_pos hs]
    unfold cleanR
    simp
  rw [if_neg a3] at hr
  by_cases a4 : a = 4
  · subst a4
    simp at hr
    obtain ⟨rfl, hl⟩ := hr
    simp only [if_true, show ¬ (4 : Int) = 1 by decide, show ¬ (4 : Int) = 2 by decide, show ¬ (4 : Int) = 3 by decide, if_false]
    have e : (120 :: 34 :: (hexes s ++ [34]) ++ T : List UInt8) = 120 :: 34 :: (hexes s ++ 34 :: T) := by simp
    have n1 : ¬ ((120 : UInt8) = 45 ∨ isDig 120 = true) := by decide
    have n2 : ¬ (120 : UInt8) = 34 := by decide
    have n3 : starts (120 :: 34 :: (hexes s ++ 34 :: T)) [120, 34] = true := by
      unfold starts
      simp
    rw [e, readR_cons, if_neg n1, if_neg n2, if_pos n3]
    have hq := unh_hexes T s [] 0
    unfold hexN hexW
    have e2 : (120 :: 34 :: (hexes s ++ 34 :: T)).drop 2 = hexes s ++ 34 :: T := rfl
    rw [e2, hq]
    simp only [List.nil_append, if_true]
    rw [if_neg (by omega)]
    have hx := hexes_len s
    unfold cleanR
    simp
    omega
  rw [if_neg a4] at hr
  cases hr
theorem numS_back {s : List UInt8} {v : Int} {z : Nat} (h : numS s = numT v z 0) : s.take z = digits v ∧ z ≤ s.length := by
  unfold numS at h
  generalize hb : (s.head? == some 45) = neg at h
  have hall := run_digs neg s
  have hpre : (s.drop (ahead neg)).take (runD neg s).length = runD neg s := by
    unfold runD
    exact List.prefix_iff_eq_take.1 (List.takeWhile_prefix isDig) |>.symm
  have hlen : (runD neg s).length ≤ (s.drop (ahead neg)).length := by
    unfold runD
    exact (List.takeWhile_prefix isDig).length_le
  rw [List.length_drop] at hlen
  generalize runD neg s = D at *
  unfold numO at h
  cases hbad : bad0 neg D with
  | true => rw [hbad] at h; simp [numT] at h
  | false =>
    rw [hbad] at h
    simp only [Bool.false_eq_true, if_false] at h
    by_cases hm : numVal 0 D ≤ mostOf neg
    · rw [if_pos hm] at h
      unfold numT at h
      simp only [AV.tup.injEq, List.cons.injEq, AV.p.injEq, PV.int.injEq, true_and, and_true] at h
      obtain ⟨h1, h2⟩ := h
      have hz : z = ahead neg + D.length := by omega
      unfold bad0 at hbad
      simp only [Bool.or_eq_false_iff, Bool.and_eq_false_iff] at hbad
      obtain ⟨hb1, hb2⟩ := hbad
      have hne : D ≠ [] := by intro e; subst e; cases hb1
      have h48 : D.head? = some 48 → D = [48] := by
        intro e
        rcases hb2 with hb2 | hb2
        · rw [e] at hb2; cases hb2
        · simp only [Bool.or_eq_false_iff, decide_eq_false_iff_not] at hb2
          match D, hne, e with
          | [c], _, e => simp at e; rw [e]
          | c :: d :: r, _, e => simp at hb2
      have hdg := digs_of_run hall hne h48
      cases neg with
      | true =>
        simp only [if_true] at h1
        have hN : numVal 0 D ≠ 0 := by
          intro e0
          rw [e0, digs_small (by omega)] at hdg
          have e48 : dgt 0 = 48 := by decide
          rw [e48] at hdg
          rcases hb2 with hb2 | hb2
          · rw [← hdg] at hb2; cases hb2
          · simp at hb2
        have hv : digits v = 45 :: D := by
          unfold digits
          rw [if_pos (by omega)]
          have : v.natAbs = numVal 0 D := by omega
          rw [this, hdg]
        rw [hv, hz]
        cases s with
        | nil => simp at hb
        | cons c r =>
          have : c = 45 := by simpa using hb
          subst this
          have ea : ahead true = 1 := rfl
          rw [ea] at hpre hlen ⊢
          simp only [List.drop_succ_cons, List.drop_zero] at hpre
          rw [Nat.add_comm, List.take_succ_cons, hpre]
          refine ⟨rfl, ?_⟩
          simp at hlen ⊢
          omega
      | false =>
        simp only [Bool.false_eq_true, if_false] at h1
        have hv : digits v = D := by
          unfold digits
          rw [if_neg (by omega)]
          have : v.natAbs = numVal 0 D := by omega
          rw [this, hdg]
        have ea : ahead false = 0 := rfl
        rw [ea] at hpre hlen hz
        rw [hv, hz, Nat.zero_add]
        simp only [List.drop_zero] at hpre
        exact ⟨hpre, by omega⟩
    · rw [if_neg hm] at h
      simp [numT] at h
theorem take_app_at {s : List UInt8} {z : Nat} {c : UInt8} {x : List UInt8} (h : s.take z = x) (hc : s[z]? = some c) : s.take (z + 1) = x ++ [c] := by
  rw [List.take_add_one, h, hc]; rfl
theorem clean_ok {r : Rd} {a n : Int} {t : List UInt8} {z : Int} (h : cleanR r = (a, n, t, z, 0)) : r = (a, n, t, z, 0) := by
  unfold cleanR at h
  split at h
  · exact h
  · rename_i h1
    unfold badR at h
    simp only [Prod.mk.injEq] at h
    exact absurd h.2.2.2.2 h1
theorem clean_bad (r : Rd) : cleanR r = r ∧ r.2.2.2.2 = 0 ∨ cleanR r = badR r.2.2.2.2 ∧ r.2.2.2.2 ≠ 0 := by
  unfold cleanR
  split
  · exact .inl ⟨rfl, by assumption⟩
  · exact .inr ⟨rfl, by assumption⟩
theorem readR_bad (s : List UInt8) : (readR s).2.2.2.2 = 0 ∨ readR s = badR (readR s).2.2.2.2 := by
  have hb : ∀ r : Rd, (cleanR r).2.2.2.2 = 0 ∨ cleanR r = badR (cleanR r).2.2.2.2 := by
    intro r
    rcases clean_bad r with ⟨h1, h2⟩ | ⟨h1, h2⟩
    · rw [h1]; exact .inl h2
    · rw [h1]; exact .inr rfl
  cases s with
  | nil => exact .inr rfl
  | cons c r =>
    rw [readR_cons]
    split
    · exact hb _
    split
    · exact hb _
    split
    · exact hb _
    split
    · exact .inl rfl
    · exact .inr rfl
theorem read_back {s : List UInt8} {a n : Int} {t : List UInt8} {z : Int} (h : readR s = (a, n, t, z, 0)) : rightV a n t = true ∧ isI64 n ∧ ∃ k : Nat, z = k ∧ k ≤ s.length ∧ s.take k = printS a n t := by
  cases s with
  | nil => cases h
  | cons c r =>
    rw [readR_cons] at h
    generalize hS : (c :: r : List UInt8) = s at *
    have i0 : isI64 0 := ⟨by decide, by decide⟩
    by_cases h1 : c = 45 ∨ isDig c = true
    · rw [if_pos h1] at h
      have h := clean_ok h
      obtain ⟨v, e, k, hN, hk, hv⟩ := numS_info s
      rw [numN_of hN] at h
      by_cases he : e = 0
      · subst he
        obtain ⟨hb1, hb2⟩ := numS_back hN
        rw [if_neg (by simp)] at h
        by_cases h108 : s[k]? = some 108
        · rw [if_pos h108] at h
          simp only [Prod.mk.injEq, and_true] at h
          obtain ⟨rfl, rfl, rfl, rfl⟩ := h
          have hlt : k < s.length := (List.getElem?_eq_some_iff.1 h108).1
          refine ⟨by simp [rightV], hv, k + 1, by omega, hlt, ?_⟩
          rw [take_app_at hb1 h108]
          simp [printS]
        · rw [if_neg h108] at h
          cases hf : fits32 v with
          | true =>
            rw [hf] at h
            simp only [if_true, Prod.mk.injEq, and_true] at h
            obtain ⟨rfl, rfl, rfl, rfl⟩ := h
            refine ⟨by simp [rightV, hf], hv, k, rfl, hb2, ?_⟩
            rw [hb1]
            simp [printS]
          | false =>
            rw [hf] at h
            simp at h
      · rw [if_pos he] at h
        unfold badR at h
        simp only [Prod.mk.injEq] at h
        exact absurd h.2.2.2.2 he
    rw [if_neg h1] at h
    by_cases h2 : c = 34
    · rw [if_pos h2] at h
      have h := clean_ok h
      unfold textN at h
      rw [if_pos (by rw [← hS, h2]; rfl)] at h
      cases hq : unq s.tail with
      | none => rw [hq] at h; cases h
      | some q =>
        obtain ⟨w, k⟩ := q
        rw [hq] at h
        simp only at h
        obtain ⟨g1, g2, g3⟩ := unq_some _ _ _ _ (Nat.le_refl _) hq
        unfold textW at h
        by_cases hl : 120 < w.length
        · rw [if_pos hl] at h; simp at h
        rw [if_neg hl] at h
        cases hsg : (signs w).isSome with
        | false => rw [hsg] at h; simp at h
        | true =>
          rw [hsg] at h
          simp only [if_true, Prod.mk.injEq, and_true] at h
          obtain ⟨rfl, rfl, rfl, rfl⟩ := h
          refine ⟨by simp [rightV, hsg]; omega, i0, k + 1, by omega, ?_, ?_⟩
          · rw [← hS] at g3 ⊢
            simp at g3 ⊢
            omega
          · rw [← hS] at g1 ⊢
            simp only [List.tail_cons] at g1
            rw [List.take_succ_cons, g1, h2]
            simp [printS]
    rw [if_neg h2] at h
    by_cases h3 : starts s [120, 34] = true
    · rw [if_pos h3] at h
      have h := clean_ok h
      unfold hexN at h
      rcases hX : unh [] 0 (s.drop 2) with ⟨w, k, b⟩
      rw [hX] at h
      simp only at h
      cases b with
      | false => simp [badR] at h
      | true =>
        rw [if_pos rfl] at h
        unfold hexW at h
        by_cases hl : 120 < w.length
        · rw [if_pos hl] at h; simp at h
        rw [if_neg hl] at h
        simp only [Prod.mk.injEq, and_true] at h
        obtain ⟨rfl, rfl, rfl, rfl⟩ := h
        obtain ⟨w', w1, w2, w3, w4⟩ := unh_some _ _ _ _ _ _ (Nat.le_refl _) hX
        simp only [List.nil_append] at w1
        subst w1
        unfold starts at h3
        simp only [Bool.and_eq_true, decide_eq_true_eq, List.length_cons, List.length_nil, Nat.zero_add, Nat.reduceAdd, beq_iff_eq] at h3
        rw [List.length_drop] at w4
        refine ⟨by simp [rightV]; omega, i0, k + 3, by omega, by omega, ?_⟩
        have e : k + 3 = 2 + (2 * w.length + 1) := by omega
        rw [e, List.take_add, h3.2, w3]
        simp [printS]
    rw [if_neg h3] at h
    by_cases h4 : s.take (nameLen s) = wNull
    · rw [if_pos h4] at h
      simp only [Prod.mk.injEq, and_true] at h
      obtain ⟨rfl, rfl, rfl, rfl⟩ := h
      have hl := nameLen_le s
      have hn4 : nameLen s = 4 := by
        have := congrArg List.length h4
        rw [List.length_take] at this
        have e : wNull.length = 4 := rfl
        omega
      refine ⟨by simp [rightV], i0, 4, rfl, by omega, ?_⟩
      rw [hn4] at h4
      rw [h4]
      rfl
    · rw [if_neg h4] at h
      simp [badR] at h
theorem printS_len {a n : Int} {s : List UInt8} (hn : isI64 n) : (printS a n s).length ≤ 4 * s.length + 25 := by
  have h1 := digits_64 hn.1 hn.2
  have h2 := quotes_len s
  have h3 := hexes_len s
  unfold printS
  split
  · omega
  split
  · rw [List.length_append]; simp; omega
  split
  · simp; omega
  split
  · simp; omega
  · simp
end Hx

namespace Hx
open Go
def opWords : List (List UInt8) := [[99, 114, 101, 97, 116, 101], [100, 114, 111, 112], [114, 101, 110, 97, 109, 101], [97, 100, 100], [99, 117, 116], [99, 97, 108, 108], [119, 105, 100, 101, 110], [112, 114, 101, 115, 101, 116]]
def opF (w : List UInt8) : Nat → List (List UInt8) → Nat
  | _, [] => 0
  | i, x :: l => if x = w then i + 1 else opF w (i + 1) l
def opOf (w : List UInt8) : Nat := opF w 0 opWords
end Hx

namespace Hx
open Go
def pValue (null : Bool) (r : List UInt8) : PR (Int × Int × List UInt8) :=
  if (readR (skipB r)).2.2.2.2 ≠ 0 then .bad (readR (skipB r)).2.2.2.2 (skipB r)
  else if (readR (skipB r)).1 = 0 ∧ null = false then .bad 11 (skipB r)
  else .ok ((readR (skipB r)).1, (readR (skipB r)).2.1, (readR (skipB r)).2.2.1) ((skipB r).drop (readR (skipB r)).2.2.2.1.toNat)
structure Col where
  name : List UInt8
  kind : Int
  max : Int
  null : Bool
  dk : Int
  dn : Int
  ds : List UInt8
def wNul : List UInt8 := [110, 117, 108, 108]
def wDef : List UInt8 := [100, 101, 102, 97, 117, 108, 116]
def pColTail (n : List UInt8) (t : Int × Int) (null : Bool) (r : List UInt8) : PR Col :=
  if (pTake wDef r).1 then (pValue false (pTake wDef r).2).bind fun v r => .ok ⟨n, t.1, t.2, null, v.1, v.2.1, v.2.2⟩ r else .ok ⟨n, t.1, t.2, null, 0, 0, []⟩ (pTake wDef r).2
def pCol (r : List UInt8) : PR Col := (pName r).bind fun n r => (pKind r).bind fun t r => pColTail n t (pTake wNul r).1 (pTake wNul r).2
def pColsF : Nat → List Col → List UInt8 → PR (List Col)
  | 0, _, r => .bad 3 (skipB r)
  | k + 1, l, r => (pCol (skipB r)).bind fun c r => if (pSign 44 r).1 then pColsF k (l ++ [c]) (pSign 44 r).2 else (pWantS 41 (pSign 44 r).2).bind fun _ r => .ok (l ++ [c]) r
def pCols (r : List UInt8) : PR (List Col) := (pWantS 40 r).bind fun _ r => pColsF 10 [] r
structure Ddl where
  op : Int
  table : List UInt8 := []
  column : List UInt8 := []
  to : List UInt8 := []
  key : List UInt8 := []
  kind : Int := 0
  max : Int := 0
  null : Bool := false
  dk : Int := 0
  dn : Int := 0
  ds : List UInt8 := []
  cols : List Col := []
def wKey : List UInt8 := [107, 101, 121]
def wTo : List UInt8 := [116, 111]
def pRest (op : Nat) (t : List UInt8) (r : List UInt8) : PR Ddl :=
  if op = 1 then (pCols r).bind fun l r => (pWant wKey r).bind fun _ r => (pName r).bind fun k r => .ok { op := 1, table := t, key := k, cols := l } r
  else if op = 2 then .ok { op := 2, table := t } r
  else if op = 3 then (pWant wTo r).bind fun _ r => (pName r).bind fun n r => .ok { op := 3, table := t, to := n } r
  else if op = 4 then (pCol r).bind fun c r => .ok { op := 4, table := t, column := c.name, kind := c.kind, max := c.max, null := c.null, dk := c.dk, dn := c.dn, ds := c.ds } r
  else if op = 5 then (pName r).bind fun c r => .ok { op := 5, table := t, column := c } r
  else if op = 6 then (pName r).bind fun c r => (pWant wTo r).bind fun _ r => (pName r).bind fun n r => .ok { op := 6, table := t, column := c, to := n } r
  else if op = 7 then (pName r).bind fun c r => (pKind r).bind fun k r => .ok { op := 7, table := t, column := c, kind := k.1, max := k.2 } r
  else (pName r).bind fun c r => (pValue true r).bind fun v r => .ok { op := 8, table := t, column := c, dk := v.1, dn := v.2.1, ds := v.2.2 } r
def pChange (r : List UInt8) : PR Ddl :=
  if opOf (wordOf (skipB r)) = 0 then .bad 5 (skipB r) else (pName ((skipB r).drop (wordOf (skipB r)).length)).bind fun t r' => pRest (opOf (wordOf (skipB r))) t r'
def pAll (s : List UInt8) : PR Ddl := (pChange s).bind fun d r => if skipB r = [] then .ok d [] else .bad 6 (skipB r)
end Hx

namespace Hx
open Go
set_option maxHeartbeats 2000000
theorem readR_far (s : List UInt8) : ∃ (a n : Int) (t : List UInt8) (z : Nat) (e : Int), readR s = (a, n, t, (z : Int), e) ∧ z ≤ s.length ∧ (e ≠ 0 → a = 0 ∧ n = 0 ∧ t = [] ∧ z = 0) := by
  rcases h : readR s with ⟨a, n, t, z, e⟩
  by_cases he : e = 0
  · subst he
    obtain ⟨_, _, k, hk, hl, _⟩ := read_back h
    exact ⟨a, n, t, k, 0, by rw [hk], hl, fun h => absurd rfl h⟩
  · rcases readR_bad s with h1 | h1
    · rw [h] at h1; exact absurd h1 he
    · rw [h] at h1
      unfold badR at h1
      simp only [Prod.mk.injEq] at h1
      exact ⟨a, n, t, 0, e, by rw [h1.2.2.2.1]; rfl, Nat.zero_le _, fun _ => ⟨h1.1, h1.2.1, h1.2.2.1, rfl⟩⟩
end Hx

namespace Hx
open Go
set_option linter.unusedSimpArgs false
set_option linter.unusedVariables false
set_option maxHeartbeats 8000000
set_option maxRecDepth 20000
variable {E : Env}
attribute [-simp] List.getD_eq_getElem?_getD getElem?_pos
def ValOk (E : Env) (f : Nat) : Prop := ∀ s : List UInt8, (s.length : Int) ≤ 1000000000 → ∀ k, s.length + 300 ≤ k → ∀ m, denF E (k + 1) f [.p (.str s)] m = some (.ret (rdV (readR s)), m)
def vOut (v : Int × Int × List UInt8) : AV := .p (.agg [.int .i64 v.1, .int .i64 v.2.1, .str v.2.2])
theorem rd_value (u : R10 E) (hn : E.fn 257 = some Fn.f_ddltext_reader_value) (va : ValOk E 26) {s r : List UInt8} (hs : (s.length : Int) ≤ 1000000000) (hr : r <:+ s) (null : Bool) (k : Nat) (hk : s.length + 310 ≤ k) (id : Nat) (m : Mem) (hm : m[id]? = some (rdB s r)) :
    ∃ x y, denF E (k + 1) 257 [.ptr id 0, .p (.bool null)] m = some ((pValue null r).out vOut, m.set id (rdB s (pValue null r).rest) ++ [x, y]) := by
  have hid := own_id hm
  obtain ⟨j, rfl⟩ : ∃ j, k = j + 1 := ⟨k - 1, by omega⟩
  have hlen := suf_len (suf_skip hr)
  have hle := place_le (s := s) (r := skipB r)
  obtain ⟨a, n, t, z, e, hT, hz, hz0⟩ := readR_far (skipB r)
  have hpl := place_drop (suf_skip hr) hz
  have hR := fun m => va (skipB r) (by omega) j (by omega) m
  rw [hT] at hR
  have hL := fun m' hm' => rd_left' u hs hr j (by omega) id m' hm'
  have hget : (m ++ [Blk.cells [.p (.int .i64 0), .p (.int .i64 0), .p (.str [])]])[id]? = some (rdB s r) := by rw [List.getElem?_append_left hid]; exact hm
  have hL1 := hL _ hget
  have hap1 : ∀ (l : List Blk) (x : Blk), (m ++ l).set id x = m.set id x ++ l := fun l x => by rw [List.set_append_left _ _ hid]
  have hap2 : ∀ (l : List Blk) (x y : Blk), (m.set id x ++ l).set id y = m.set id y ++ l := fun l x y => by rw [List.set_append_left _ _ (by rw [List.length_set]; exact hid), List.set_set]
  have hap3 : ∀ (l : List Blk) (x : Blk), (m.set id x ++ l)[id]? = some x := fun l x => by rw [List.getElem?_append_left (by rw [List.length_set]; exact hid)]; exact List.getElem?_set_self hid
  rw [hap1] at hL1
  have hB := fun e m => rd_bad u j e m
  have hw : IntKind.i64.wrap ((placeOf10 s (skipB r) : Int) + z) = ((placeOf10 s ((skipB r).drop z) : Nat) : Int) := by rw [wrap_i64 (by omega) (by omega), hpl]; omega
  have hq : ∀ x : Blk, (m.set id x).length = m.length := fun x => List.length_set
  have g0 := fun (x a : Blk) (l : Mem) => app_at0 (hq x) a l
  have g1 := fun (x a b : Blk) (l : Mem) => app_at1 (hq x) a b l
  have s0 := fun (x a c : Blk) (l : Mem) => app_set0 (hq x) a c l
  have s1 := fun (x a b c : Blk) (l : Mem) => app_set1 (hq x) a b c l
  have hid1 : id < m.length + 1 := by omega
  unfold rdV rT5 at hR
  unfold pValue
  rw [hT]
  simp only
  by_cases he : e = 0
  · subst he
    rw [if_neg (by simp)]
    by_cases ha : a = 0 ∧ null = false
    · obtain ⟨rfl, rfl⟩ := ha
      rw [if_pos ⟨rfl, rfl⟩]
      refine ⟨.cells [.p (.int .i64 0), .p (.int .i64 0), .p (.str [])], .cells [.p (.int .i64 0), .p (.int .i64 n), .p (.str t)], denF_wp_own hn rfl ?_⟩
      unfold rdB rdCells at *
      simp (maxSteps := 4000000) [Fn.f_ddltext_reader_value, hL1, hR, hB, hap1, hap2, hap3, g0, g1, s0, s1, hid, hid1, hw, PR.out, PR.rest, bne]
    · rw [if_neg ha]
      refine ⟨.cells [.p (.int .i64 a), .p (.int .i64 n), .p (.str t)], .cells [.p (.int .i64 a), .p (.int .i64 n), .p (.str t)], denF_wp_own hn rfl ?_⟩
      unfold rdB rdCells at *
      by_cases h0 : a = 0
      · subst h0
        have : null = true := by cases null with | true => rfl | false => exact absurd ⟨rfl, rfl⟩ ha
        subst this
        simp (maxSteps := 4000000) [Fn.f_ddltext_reader_value, hL1, hR, hB, hap1, hap2, hap3, g0, g1, s0, s1, hid, hid1, hw, PR.out, PR.rest, vOut, bne]
      · have hb : (a == 0) = false := by simpa using h0
        simp (maxSteps := 4000000) [Fn.f_ddltext_reader_value, hL1, hR, hB, hap1, hap2, hap3, g0, g1, s0, s1, hid, hid1, hw, hb, PR.out, PR.rest, vOut, bne]
  · rw [if_pos he]
    have hb : (e == 0) = false := by simpa using he
    refine ⟨.cells [.p (.int .i64 0), .p (.int .i64 0), .p (.str [])], .cells [.p (.int .i64 a), .p (.int .i64 n), .p (.str t)], denF_wp_own hn rfl ?_⟩
    unfold rdB rdCells at *
    simp (maxSteps := 4000000) [Fn.f_ddltext_reader_value, hL1, hR, hB, hap1, hap2, hap3, g0, g1, s0, s1, hid, hid1, hw, hb, he, PR.out, PR.rest, bne]
end Hx

namespace Hx
open Go
set_option linter.unusedSimpArgs false
set_option linter.unusedVariables false
set_option maxHeartbeats 4000000
set_option maxRecDepth 20000
variable {E : Env}
attribute [-simp] List.getD_eq_getElem?_getD getElem?_pos
end Hx

namespace Hx
open Go
set_option linter.unusedSimpArgs false
set_option linter.unusedVariables false
set_option maxHeartbeats 8000000
set_option maxRecDepth 20000
variable {E : Env}
attribute [-simp] List.getD_eq_getElem?_getD getElem?_pos
end Hx
