/-
  HxQ10a: words, names, types and values are read as they were written, whatever blanks stand ahead: plain laws.
-/
import Derived.Test.YtifcegbomagcpaaDoorHxU06j
import Derived.Test.YtifcegbomagcpaaDoorHxM10o
namespace Hx
open Go
set_option maxHeartbeats 2000000
def keepOf (d : Ddl) : Ddl :=
  if d.op = 1 then { op := 1, table := d.table, key := d.key } else if d.op = 2 then { op := 2, table := d.table } else if d.op = 3 then { op := 3, table := d.table, to := d.to }
  else if d.op = 4 then { op := 4, table := d.table, column := d.column, kind := d.kind, max := d.max, null := d.null, dk := d.dk, dn := d.dn, ds := d.ds }
  else if d.op = 5 then { op := 5, table := d.table, column := d.column } else if d.op = 6 then { op := 6, table := d.table, column := d.column, to := d.to }
  else if d.op = 7 then { op := 7, table := d.table, column := d.column, kind := d.kind, max := d.max } else { op := 8, table := d.table, column := d.column, dk := d.dk, dn := d.dn, ds := d.ds }
def plainQ (d : Ddl) (rows : List (Int × Col)) : Bool := decide (1 ≤ d.op ∧ d.op ≤ 8) && ((if d.op = 1 then rows.all fun c => c.1 == 0 else rows.isEmpty) && sameH d (keepOf d))
def colCan (c : Col) : Bool := rightN c.name && (rightT c.kind c.max && rightV c.dk c.dn c.ds)
def canTail (d : Ddl) (rows : List (Int × Col)) : Bool :=
  if d.op = 1 then (rows.all fun c => colCan c.2) && (rightN d.key && (decide (1 ≤ rows.length) && decide (rows.length ≤ 10))) else if d.op = 2 then true else if d.op = 3 then rightN d.to
  else if d.op = 4 then rightN d.column && (rightT d.kind d.max && rightV d.dk d.dn d.ds) else if d.op = 5 then rightN d.column else if d.op = 6 then rightN d.column && rightN d.to
  else if d.op = 7 then rightN d.column && rightT d.kind d.max else rightN d.column && rightV d.dk d.dn d.ds
def canQ (d : Ddl) (rows : List (Int × Col)) : Bool := plainQ d rows && (rightN d.table && canTail d rows)
theorem canQ_bare (op : Int) (table column to key : List UInt8) (kind max : Int) (null : Bool) (dk dn : Int) (ds : List UInt8) (cols : List Col) (rows : List (Int × Col)) : canQ ⟨op, table, column, to, key, kind, max, null, dk, dn, ds, cols⟩ rows = canQ ⟨op, table, column, to, key, kind, max, null, dk, dn, ds, []⟩ rows := by
  unfold canQ plainQ canTail
  simp only [sameH, keepOf]
  repeat (first | rfl | split)
theorem rightV_len {a n : Int} {s : List UInt8} (h : rightV a n s = true) : s.length ≤ 120 := by
  unfold rightV at h
  split at h
  · simp only [Bool.and_eq_true, List.isEmpty_iff] at h; rw [h.2]; simp
  split at h
  · simp only [Bool.and_eq_true, List.isEmpty_iff] at h; rw [h.2]; simp
  split at h
  · simp only [List.isEmpty_iff] at h; rw [h]; simp
  split at h
  · simp only [Bool.and_eq_true, decide_eq_true_eq] at h; exact h.1.2
  split at h
  · simp only [Bool.and_eq_true, decide_eq_true_eq] at h; exact h.2
  · cases h
def restText (c : Col) : List UInt8 := 32 :: (printT c.kind c.max ++ ((if c.null then 32 :: wNul else []) ++ (if c.dk = 0 then [] else 32 :: (wDef ++ (32 :: printS c.dk c.dn c.ds)))))
def colText (c : Col) : List UInt8 := c.name ++ restText c
def colsMore : List Col → List UInt8
  | [] => []
  | c :: l => 44 :: 32 :: (colText c ++ colsMore l)
def colsText : List Col → List UInt8
  | [] => []
  | c :: l => colText c ++ colsMore l
def Ddl.added (d : Ddl) : Col := ⟨d.column, d.kind, d.max, d.null, d.dk, d.dn, d.ds⟩
def tailText (d : Ddl) (cols : List Col) : List UInt8 :=
  if d.op = 1 then 32 :: 40 :: (colsText cols ++ (41 :: 32 :: (wKey ++ (32 :: d.key)))) else if d.op = 2 then [] else if d.op = 3 then 32 :: (wTo ++ (32 :: d.to))
  else if d.op = 4 then 32 :: colText d.added else if d.op = 5 then 32 :: d.column else if d.op = 6 then 32 :: (d.column ++ (32 :: (wTo ++ (32 :: d.to))))
  else if d.op = 7 then 32 :: (d.column ++ (32 :: printT d.kind d.max)) else 32 :: (d.column ++ (32 :: printS d.dk d.dn d.ds))
def printQ (d : Ddl) (cols : List Col) : List UInt8 := opWords.getD (d.op.toNat - 1) [] ++ (32 :: (d.table ++ tailText d cols))
end Hx

namespace Hx
open Go
set_option linter.unusedSimpArgs false
set_option maxHeartbeats 2000000
def blanksL (g : List UInt8) : Prop := ∀ c ∈ g, isBl c = true
def nb (r : List UInt8) : Prop := ∀ c, r.head? = some c → isBl c = false
theorem skipB_app {g : List UInt8} (hg : blanksL g) (r : List UInt8) : skipB (g ++ r) = skipB r := by
  induction g with
  | nil => rfl
  | cons c g ih =>
    rw [List.cons_append, skipB_cons, if_pos (hg c (by simp))]
    exact ih (fun x hx => hg x (by simp [hx]))
theorem skipB_nb {r : List UInt8} (h : nb r) : skipB r = r := by
  cases r with
  | nil => rfl
  | cons c r => rw [skipB_cons, h c rfl]; rfl
theorem skipB_all {g : List UInt8} (hg : blanksL g) : skipB g = [] := by
  have := skipB_app hg []
  rw [List.append_nil] at this
  exact this
def wordy (w : List UInt8) : Prop := w ≠ [] ∧ nameLen w = w.length
theorem wordy_of {w : List UInt8} (h : rightN w = true) : wordy w := by
  unfold rightN at h
  simp only [Bool.and_eq_true, decide_eq_true_eq] at h
  refine ⟨?_, h.2.2⟩
  rintro rfl
  simp at h
theorem takeWhile_all {p : UInt8 → Bool} : ∀ {l : List UInt8}, (l.takeWhile p).length = l.length → ∀ c ∈ l, p c = true
  | [], _, c, hc => by simp at hc
  | a :: l, h, c, hc => by
    cases ha : p a with
    | false => rw [List.takeWhile_cons, ha] at h; simp at h
    | true =>
      rw [List.takeWhile_cons, ha] at h
      simp only [if_true, List.length_cons, Nat.add_right_cancel_iff] at h
      rcases List.mem_cons.1 hc with rfl | hc
      · exact ha
      · exact takeWhile_all h c hc
theorem takeWhile_stop {p : UInt8 → Bool} {T : List UInt8} (hT : ∀ c, T.head? = some c → p c = false) : ∀ {l : List UInt8}, (∀ c ∈ l, p c = true) → (l ++ T).takeWhile p = l
  | [], _ => by
    cases T with
    | nil => rfl
    | cons c T => rw [List.nil_append, List.takeWhile_cons, hT c rfl]; rfl
  | a :: l, h => by
    rw [List.cons_append, List.takeWhile_cons, h a (by simp)]
    simp only [if_true]
    rw [takeWhile_stop hT (fun c hc => h c (by simp [hc]))]
theorem nameLen_cons (c : UInt8) (r : List UInt8) : nameLen (c :: r) = if letter c then 1 + (r.takeWhile partC).length else 0 := rfl
theorem wordy_app {w T : List UInt8} (hw : wordy w) (hT : stopT T) : wordOf (w ++ T) = w := by
  obtain ⟨hne, hl⟩ := hw
  cases w with
  | nil => exact absurd rfl hne
  | cons c r =>
    rw [nameLen_cons] at hl
    cases hc : letter c with
    | false => rw [hc] at hl; simp at hl
    | true =>
      rw [hc] at hl
      simp only [if_true, List.length_cons] at hl
      have hall := takeWhile_all (p := partC) (l := r) (by omega)
      have hn : nameLen ((c :: r) ++ T) = (c :: r).length := by
        rw [List.cons_append]
        rw [nameLen_cons, hc, takeWhile_stop hT hall]
        simp only [if_true, List.length_cons]
        omega
      unfold wordOf
      rw [hn, List.take_left]
theorem letter_nb {c : UInt8} (h : letter c = true) : isBl c = false := by
  unfold letter at h
  unfold isBl
  simp only [Bool.or_eq_true, Bool.and_eq_true, decide_eq_true_eq] at h
  have h1 : ¬ (c.toNat : Int) = 32 := by omega
  have h2 : ¬ (c.toNat : Int) = 9 := by omega
  have h3 : ¬ (c.toNat : Int) = 10 := by omega
  simp [h1, h2, h3]
theorem wordy_nb {w : List UInt8} (hw : wordy w) (T : List UInt8) : nb (w ++ T) := by
  obtain ⟨hne, hl⟩ := hw
  cases w with
  | nil => exact absurd rfl hne
  | cons c r =>
    intro x hx
    simp only [List.cons_append, List.head?_cons, Option.some.injEq] at hx
    subst hx
    rw [nameLen_cons] at hl
    cases hc : letter c with
    | false => rw [hc] at hl; simp at hl
    | true => exact letter_nb hc
theorem skip_word {g w T : List UInt8} (hg : blanksL g) (hw : wordy w) : skipB (g ++ (w ++ T)) = w ++ T := by
  rw [skipB_app hg, skipB_nb (wordy_nb hw T)]
theorem pWant_L {g w T : List UInt8} (hg : blanksL g) (hw : wordy w) (hT : stopT T) : pWant w (g ++ (w ++ T)) = .ok () T := by
  unfold pWant
  rw [skip_word hg hw, wordy_app hw hT, if_pos rfl, List.drop_left]
theorem pTake_L {g w T : List UInt8} (hg : blanksL g) (hw : wordy w) (hT : stopT T) : pTake w (g ++ (w ++ T)) = (true, T) := by
  unfold pTake
  rw [skip_word hg hw, wordy_app hw hT, if_pos rfl, List.drop_left]
theorem pTake_no {w r : List UInt8} (h : wordOf (skipB r) ≠ w) : pTake w r = (false, skipB r) := if_neg h
theorem pName_L {g n T : List UInt8} (hg : blanksL g) (hn : rightN n = true) (hT : stopT T) : pName (g ++ (n ++ T)) = .ok n T := by
  have hw := wordy_of hn
  unfold pName
  rw [skip_word hg hw, wordy_app hw hT, if_neg hw.1, if_pos hn, List.drop_left]
theorem pWantS_L {g T : List UInt8} (hg : blanksL g) {c : UInt8} (hc : isBl c = false) : pWantS c (g ++ (c :: T)) = .ok () T := by
  unfold pWantS
  rw [skipB_app hg, skipB_nb (by intro x hx; cases hx; exact hc)]
  simp
theorem readT_app {a b : Int} (h : rightT a b = true) {T : List UInt8} (hT : stopT T) : readT (printT a b ++ T) = rT a b (printT a b).length 0 := by
  have hT' : ∀ w : List UInt8, wordy w → nameLen (w ++ T) = w.length := by
    intro w hw
    have h1 := wordy_app hw hT
    unfold wordOf at h1
    have h2 := congrArg List.length h1
    rw [List.length_take] at h2
    have := nameLen_le (w ++ T)
    omega
  rcases right_cases h with ⟨rfl, rfl⟩ | ⟨rfl, rfl⟩ | ⟨rfl, hb⟩ | ⟨rfl, hb⟩
  · have e : printT 1 0 = [105, 110, 116] := rfl
    rw [e]
    have h1 := hT' [105, 110, 116] ⟨by simp, by decide⟩
    have h2 : kindW (([105, 110, 116] ++ T : List UInt8).take 3) = 1 := by
      have : ([105, 110, 116] ++ T : List UInt8).take 3 = [105, 110, 116] := rfl
      rw [this]; decide
    simp only [List.length_cons, List.length_nil, Nat.zero_add, Nat.reduceAdd] at h1
    unfold readT
    rw [h1, h2, if_pos (.inl rfl)]
    rfl
  · have e : printT 2 0 = [108, 111, 110, 103] := rfl
    rw [e]
    have h1 := hT' [108, 111, 110, 103] ⟨by simp, by decide⟩
    have h2 : kindW (([108, 111, 110, 103] ++ T : List UInt8).take 4) = 2 := by
      have : ([108, 111, 110, 103] ++ T : List UInt8).take 4 = [108, 111, 110, 103] := rfl
      rw [this]; decide
    simp only [List.length_cons, List.length_nil, Nat.zero_add, Nat.reduceAdd] at h1
    unfold readT
    rw [h1, h2, if_pos (.inr rfl)]
    rfl
  · rw [printT_3]
    have hN := numS_digits5 (n := b) (by omega) (by omega) (t := 41 :: T) (by intro c hc; cases hc; decide)
    have e0 : (116 :: 101 :: 120 :: 116 :: 40 :: (digits b ++ [41])) ++ T = 116 :: 101 :: 120 :: 116 :: 40 :: (digits b ++ 41 :: T) := by simp
    have e1 : ((116 :: 101 :: 120 :: 116 :: 40 :: (digits b ++ [41]) : List UInt8)).length = 5 + (digits b).length + 1 := by simp; omega
    rw [e0, e1]
    generalize digits b = D at *
    have h1 : nameLen (116 :: 101 :: 120 :: 116 :: 40 :: (D ++ 41 :: T)) = 4 := rfl
    have h2 : kindW ((116 :: 101 :: 120 :: 116 :: 40 :: (D ++ 41 :: T)).take 4) = 3 := by
      have : (116 :: 101 :: 120 :: 116 :: 40 :: (D ++ 41 :: T)).take 4 = [116, 101, 120, 116] := rfl
      rw [this]; decide
    have h3 : (116 :: 101 :: 120 :: 116 :: 40 :: (D ++ 41 :: T))[4]? = some (40 : UInt8) := rfl
    have h4 : (116 :: 101 :: 120 :: 116 :: 40 :: (D ++ 41 :: T)).drop (4 + 1) = D ++ 41 :: T := rfl
    have h5 : (116 :: 101 :: 120 :: 116 :: 40 :: (D ++ 41 :: T))[4 + 1 + D.length]? = some (41 : UInt8) := by
      have : 4 + 1 + D.length = D.length + 5 := by omega
      rw [this]
      show (D ++ 41 :: T)[D.length]? = _
      rw [List.getElem?_append_right (Nat.le_refl _), Nat.sub_self]
      rfl
    refine readT_cases _ _ h1 h2 (by rw [h4]; exact hN) ?_ ?_ ?_ ?_ ?_ ?_ ?_
    · intro q; omega
    · intro _ q; omega
    · intro _ _ q; exact absurd h3 q
    · intro _ _ _ q; exact absurd rfl q
    · intro _ _ _ _ q; exact absurd h5 q
    · intro _ _ _ _ _ q; omega
    · intro _ _ _ _ _ _ hr
      rw [hr]
      congr 1
  · rw [printT_4]
    have hN := numS_digits5 (n := b) (by omega) (by omega) (t := 41 :: T) (by intro c hc; cases hc; decide)
    have e0 : (98 :: 121 :: 116 :: 101 :: 115 :: 40 :: (digits b ++ [41])) ++ T = 98 :: 121 :: 116 :: 101 :: 115 :: 40 :: (digits b ++ 41 :: T) := by simp
    have e1 : ((98 :: 121 :: 116 :: 101 :: 115 :: 40 :: (digits b ++ [41]) : List UInt8)).length = 6 + (digits b).length + 1 := by simp; omega
    rw [e0, e1]
    generalize digits b = D at *
    have h1 : nameLen (98 :: 121 :: 116 :: 101 :: 115 :: 40 :: (D ++ 41 :: T)) = 5 := rfl
    have h2 : kindW ((98 :: 121 :: 116 :: 101 :: 115 :: 40 :: (D ++ 41 :: T)).take 5) = 4 := by
      have : (98 :: 121 :: 116 :: 101 :: 115 :: 40 :: (D ++ 41 :: T)).take 5 = [98, 121, 116, 101, 115] := rfl
      rw [this]; decide
    have h3 : (98 :: 121 :: 116 :: 101 :: 115 :: 40 :: (D ++ 41 :: T))[5]? = some (40 : UInt8) := rfl
    have h4 : (98 :: 121 :: 116 :: 101 :: 115 :: 40 :: (D ++ 41 :: T)).drop (5 + 1) = D ++ 41 :: T := rfl
    have h5 : (98 :: 121 :: 116 :: 101 :: 115 :: 40 :: (D ++ 41 :: T))[5 + 1 + D.length]? = some (41 : UInt8) := by
      have : 5 + 1 + D.length = D.length + 6 := by omega
      rw [this]
      show (D ++ 41 :: T)[D.length]? = _
      rw [List.getElem?_append_right (Nat.le_refl _), Nat.sub_self]
      rfl
    refine readT_cases _ _ h1 h2 (by rw [h4]; exact hN) ?_ ?_ ?_ ?_ ?_ ?_ ?_
    · intro q; omega
    · intro _ q; omega
    · intro _ _ q; exact absurd h3 q
    · intro _ _ _ q; exact absurd rfl q
    · intro _ _ _ _ q; exact absurd h5 q
    · intro _ _ _ _ _ q; omega
    · intro _ _ _ _ _ _ hr
      rw [hr]
      congr 1
theorem printT_nb {a b : Int} (h : rightT a b = true) (T : List UInt8) : nb (printT a b ++ T) := by
  rcases right_cases h with ⟨rfl, rfl⟩ | ⟨rfl, rfl⟩ | ⟨rfl, hb⟩ | ⟨rfl, hb⟩ <;> (intro c hc; cases hc; decide)
theorem pKind_L {g T : List UInt8} (hg : blanksL g) {a b : Int} (h : rightT a b = true) (hT : stopT T) : pKind (g ++ (printT a b ++ T)) = .ok (a, b) T := by
  have h1 := rdTy_of (readT_app h hT)
  unfold pKind
  rw [skipB_app hg, skipB_nb (printT_nb h T), h1]
  simp only [if_true, Int.toNat_natCast, List.drop_left]
theorem printS_nb {a n : Int} {s : List UInt8} (T : List UInt8) : nb (printS a n s ++ T) := by
  have hd : ∀ T', nb (digits n ++ T') := by
    intro T' c hc
    cases h : digits n with
    | nil => exact absurd h (digits_ne n)
    | cons x r =>
      rw [h] at hc
      simp only [List.cons_append, List.head?_cons, Option.some.injEq] at hc
      subst hc
      rcases digits_head h with rfl | h
      · decide
      · unfold isDig at h
        simp only [Bool.and_eq_true, decide_eq_true_eq] at h
        unfold isBl
        have h1 : ¬ (x.toNat : Int) = 32 := by omega
        have h2 : ¬ (x.toNat : Int) = 9 := by omega
        have h3 : ¬ (x.toNat : Int) = 10 := by omega
        simp [h1, h2, h3]
  unfold printS
  split
  · exact hd T
  split
  · rw [List.append_assoc]; exact hd _
  split
  · intro c hc; cases hc; decide
  split
  · intro c hc; cases hc; decide
  · intro c hc; cases hc; decide
theorem pValue_L {g T : List UInt8} (hg : blanksL g) {a n : Int} {s : List UInt8} (h : rightV a n s = true) (hn : isI64 n) (hT : stopT T) {null : Bool} (h0 : a ≠ 0 ∨ null = true) : pValue null (g ++ (printS a n s ++ T)) = .ok (a, n, s) T := by
  have h1 := read_printed h hn hT
  unfold pValue
  rw [skipB_app hg, skipB_nb (printS_nb T), h1]
  simp only [ne_eq, not_true, if_false]
  rw [if_neg (by rintro ⟨h2, h3⟩; rcases h0 with h0 | h0; exact h0 h2; rw [h3] at h0; cases h0)]
  simp only [Int.toNat_natCast, List.drop_left]
end Hx
