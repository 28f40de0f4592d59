/-
  HxU10d: the document's reader of changes, with and without an error behind her: words, signs, names, types, values.
-/
import Derived.Test.YtifcegbomagcpaaDoorHxQ10a
import Derived.Test.YtifcegbomagcpaaDoorHxU06j
import Derived.Test.YtifcegbomagcpaaDoorHxU10n
namespace Hx
open Go
set_option maxHeartbeats 4000000
theorem skipB_idem (r : List UInt8) : skipB (skipB r) = skipB r := by
  induction r with
  | nil => rfl
  | cons c r ih => rw [skipB_cons]; cases h : isBl c <;> simp [h, ih, skipB_cons]

def bl (g : List UInt8) : List UInt8 := 32 :: g
def restTextL (g : List UInt8) (c : Col) : List UInt8 := bl g ++ (printT c.kind c.max ++ ((if c.null then bl g ++ wNul else []) ++ (if c.dk = 0 then [] else bl g ++ (wDef ++ (bl g ++ printS c.dk c.dn c.ds)))))
def colTextL (g : List UInt8) (c : Col) : List UInt8 := c.name ++ restTextL g c
def colsMoreL (g : List UInt8) : List Col → List UInt8
  | [] => []
  | c :: l => 44 :: (bl g ++ (colTextL g c ++ colsMoreL g l))
def colsTextL (g : List UInt8) : List Col → List UInt8
  | [] => []
  | c :: l => colTextL g c ++ colsMoreL g l
def tailTextL (g : List UInt8) (d : Ddl) (cols : List Col) : List UInt8 :=
  if d.op = 1 then bl g ++ (40 :: (colsTextL g cols ++ (41 :: (bl g ++ (wKey ++ (bl g ++ d.key)))))) else if d.op = 2 then [] else if d.op = 3 then bl g ++ (wTo ++ (bl g ++ d.to))
  else if d.op = 4 then bl g ++ colTextL g d.added else if d.op = 5 then bl g ++ d.column else if d.op = 6 then bl g ++ (d.column ++ (bl g ++ (wTo ++ (bl g ++ d.to))))
  else if d.op = 7 then bl g ++ (d.column ++ (bl g ++ printT d.kind d.max)) else bl g ++ (d.column ++ (bl g ++ printS d.dk d.dn d.ds))
def printL (g : List UInt8) (d : Ddl) (cols : List Col) : List UInt8 := opWords.getD (d.op.toNat - 1) [] ++ (bl g ++ (d.table ++ tailTextL g d cols))
theorem colTextL_nil (c : Col) : colTextL [] c = colText c := rfl
theorem colsMoreL_nil : ∀ l : List Col, colsMoreL [] l = colsMore l
  | [] => rfl
  | c :: l => by simp only [colsMoreL, colsMore, colTextL_nil, colsMoreL_nil l]; rfl
theorem colsTextL_nil (l : List Col) : colsTextL [] l = colsText l := by
  cases l with
  | nil => rfl
  | cons c l => simp only [colsTextL, colsText, colTextL_nil, colsMoreL_nil]
theorem printL_nil (d : Ddl) (cols : List Col) : printL [] d cols = printQ d cols := by
  unfold printL printQ tailTextL tailText
  rw [colsTextL_nil, colTextL_nil]
  rfl
theorem bl_blanks {g : List UInt8} (hg : blanksL g) : blanksL (bl g) := by
  intro c hc
  rcases List.mem_cons.1 hc with rfl | hc
  · decide
  · exact hg c hc
theorem stop_bl (g T : List UInt8) : stopT (bl g ++ T) := by intro c hc; cases hc; decide
def behind (T : List UInt8) : Prop := stopT T ∧ wordOf (skipB T) = []
theorem wNul_wordy : wordy wNul := ⟨by simp [wNul], by decide⟩
theorem wDef_wordy : wordy wDef := ⟨by simp [wDef], by decide⟩
theorem wKey_wordy : wordy wKey := ⟨by simp [wKey], by decide⟩
theorem wTo_wordy : wordy wTo := ⟨by simp [wTo], by decide⟩
theorem pColTail_L {g : List UInt8} (hg : blanksL g) (c : Col) (hv : rightV c.dk c.dn c.ds = true) (hn : isI64 c.dn) {T : List UInt8} (hT : behind T) :
    ∃ T', pColTail c.name (c.kind, c.max) (pTake wNul (((if c.null then bl g ++ wNul else []) ++ (if c.dk = 0 then [] else bl g ++ (wDef ++ (bl g ++ printS c.dk c.dn c.ds)))) ++ T)).1 (pTake wNul (((if c.null then bl g ++ wNul else []) ++ (if c.dk = 0 then [] else bl g ++ (wDef ++ (bl g ++ printS c.dk c.dn c.ds)))) ++ T)).2 = .ok c T' ∧ skipB T' = skipB T := by
  obtain ⟨hs, hw⟩ := hT
  have hb := bl_blanks hg
  obtain ⟨name, kind, max, null, dk, dn, ds⟩ := c
  simp only at hv hn ⊢
  have key : ∀ R : List UInt8, (skipB R = skipB ((if dk = 0 then [] else bl g ++ (wDef ++ (bl g ++ printS dk dn ds))) ++ T)) → ∃ T', pColTail name (kind, max) null R = .ok ⟨name, kind, max, null, dk, dn, ds⟩ T' ∧ skipB T' = skipB T := by
    intro R hR
    unfold pColTail
    by_cases h0 : dk = 0
    · subst h0
      simp only [if_true, List.nil_append] at hR
      have hno : wordOf (skipB R) ≠ wDef := by rw [hR, hw]; simp [wDef]
      rw [pTake_no hno]
      have hz : dn = 0 ∧ ds = [] := by
        unfold rightV at hv
        simp only [if_true, Bool.and_eq_true, beq_iff_eq, List.isEmpty_iff] at hv
        exact hv
      obtain ⟨rfl, rfl⟩ := hz
      refine ⟨skipB R, rfl, ?_⟩
      rw [skipB_idem, hR]
    · rw [if_neg h0] at hR
      have h1 : pTake wDef R = (true, bl g ++ (printS dk dn ds ++ T)) := by
        have h2 : skipB R = wDef ++ (bl g ++ (printS dk dn ds ++ T)) := by
          rw [hR]
          simp only [List.append_assoc]
          exact skip_word hb wDef_wordy
        unfold pTake
        rw [h2, wordy_app wDef_wordy (stop_bl g _), if_pos rfl, List.drop_left]
      rw [h1]
      simp only [if_true]
      rw [pValue_L hb hv hn hs (.inl h0)]
      exact ⟨T, rfl, rfl⟩
  cases null with
  | true =>
    have h1 : pTake wNul (((if true = true then bl g ++ wNul else []) ++ (if dk = 0 then [] else bl g ++ (wDef ++ (bl g ++ printS dk dn ds)))) ++ T) = (true, (if dk = 0 then [] else bl g ++ (wDef ++ (bl g ++ printS dk dn ds))) ++ T) := by
      simp only [if_true, List.append_assoc]
      refine pTake_L hb wNul_wordy ?_
      split
      · exact hs
      · simp only [List.append_assoc]; exact stop_bl g _
    rw [h1]
    exact key _ rfl
  | false =>
    have h1 : wordOf (skipB (((if false = true then bl g ++ wNul else []) ++ (if dk = 0 then [] else bl g ++ (wDef ++ (bl g ++ printS dk dn ds)))) ++ T)) ≠ wNul := by
      simp only [Bool.false_eq_true, if_false, List.nil_append]
      split
      · rw [List.nil_append, hw]; simp [wNul]
      · simp only [List.append_assoc]
        rw [skip_word hb wDef_wordy, wordy_app wDef_wordy (stop_bl g _)]
        simp [wDef, wNul]
    rw [pTake_no h1]
    refine key _ ?_
    rw [skipB_idem]
    simp only [Bool.false_eq_true, if_false, List.nil_append]
theorem pCol_L {g B : List UInt8} (hg : blanksL g) (hB : blanksL B) (c : Col) (hc : colCan c = true) (hn : isI64 c.dn) {T : List UInt8} (hT : behind T) : ∃ T', pCol (B ++ (colTextL g c ++ T)) = .ok c T' ∧ skipB T' = skipB T := by
  unfold colCan at hc
  simp only [Bool.and_eq_true] at hc
  obtain ⟨h1, h2, h3⟩ := hc
  obtain ⟨T', h4, h5⟩ := pColTail_L hg c h3 hn hT
  refine ⟨T', ?_, h5⟩
  unfold pCol colTextL restTextL
  simp only [List.append_assoc]
  rw [pName_L hB h1 (stop_bl g _)]
  simp only [PR.bind]
  have hst : stopT ((if c.null = true then bl g ++ wNul else []) ++ ((if c.dk = 0 then [] else bl g ++ (wDef ++ (bl g ++ printS c.dk c.dn c.ds))) ++ T)) := by
    split
    · rw [List.append_assoc]; exact stop_bl g _
    · rw [List.nil_append]
      split
      · exact hT.1
      · simp only [List.append_assoc]; exact stop_bl g _
  rw [pKind_L (bl_blanks hg) h2 hst]
  simp only
  rw [List.append_assoc] at h4
  exact h4
theorem pColsF_L {g : List UInt8} (hg : blanksL g) : ∀ (cs : List Col) (c : Col) (k : Nat) (l : List Col) (B U : List UInt8), blanksL B → (∀ x ∈ c :: cs, colCan x = true ∧ isI64 x.dn) → cs.length + 1 ≤ k → pColsF k l (B ++ (colTextL g c ++ (colsMoreL g cs ++ (41 :: U)))) = .ok (l ++ c :: cs) U
  | cs, c, 0, l, B, U, _, _, hk => by omega
  | [], c, k + 1, l, B, U, hB, hc, hk => by
    have hT : behind (41 :: U) := ⟨by intro x hx; cases hx; decide, by rw [skipB_nb (by intro x hx; cases hx; decide)]; rfl⟩
    obtain ⟨T', h1, h2⟩ := pCol_L (B := []) hg (by intro x hx; cases hx) c (hc c (by simp)).1 (hc c (by simp)).2 hT
    have hsk : skipB (B ++ (colTextL g c ++ (41 :: U))) = colTextL g c ++ (41 :: U) := by
      rw [skipB_app hB, skipB_nb]
      have := (hc c (by simp)).1
      unfold colCan at this
      simp only [Bool.and_eq_true] at this
      unfold colTextL
      rw [List.append_assoc]
      exact wordy_nb (wordy_of this.1) _
    rw [List.nil_append] at h1
    rw [pColsF_succ]
    simp only [colsMoreL, List.nil_append]
    rw [hsk, h1]
    have h3 : skipB (41 :: U) = 41 :: U := skipB_nb (by intro x hx; cases hx; decide)
    have h4 : pSign 44 T' = (false, 41 :: U) := by unfold pSign; rw [h2, h3]; rfl
    simp only [PR.bind, h4, Bool.false_eq_true, if_false]
    have h5 : pWantS 41 (41 :: U) = .ok () U := pWantS_L (g := []) (by intro x hx; cases hx) (by decide)
    rw [h5]
  | c2 :: cs, c, k + 1, l, B, U, hB, hc, hk => by
    have hT : behind (44 :: (bl g ++ (colTextL g c2 ++ (colsMoreL g cs ++ (41 :: U))))) := ⟨by intro x hx; cases hx; decide, by rw [skipB_nb (by intro x hx; cases hx; decide)]; rfl⟩
    obtain ⟨T', h1, h2⟩ := pCol_L (B := []) hg (by intro x hx; cases hx) c (hc c (by simp)).1 (hc c (by simp)).2 hT
    have hsk : skipB (B ++ (colTextL g c ++ (44 :: (bl g ++ (colTextL g c2 ++ (colsMoreL g cs ++ (41 :: U))))))) = colTextL g c ++ (44 :: (bl g ++ (colTextL g c2 ++ (colsMoreL g cs ++ (41 :: U))))) := by
      rw [skipB_app hB, skipB_nb]
      have := (hc c (by simp)).1
      unfold colCan at this
      simp only [Bool.and_eq_true] at this
      unfold colTextL
      rw [List.append_assoc]
      exact wordy_nb (wordy_of this.1) _
    rw [List.nil_append] at h1
    rw [pColsF_succ]
    have he : colsMoreL g (c2 :: cs) ++ (41 :: U) = 44 :: (bl g ++ (colTextL g c2 ++ (colsMoreL g cs ++ (41 :: U)))) := by simp [colsMoreL]
    rw [he, hsk, h1]
    have h3 : skipB (44 :: (bl g ++ (colTextL g c2 ++ (colsMoreL g cs ++ (41 :: U))))) = 44 :: (bl g ++ (colTextL g c2 ++ (colsMoreL g cs ++ (41 :: U)))) := skipB_nb (by intro x hx; cases hx; decide)
    have h4 : pSign 44 T' = (true, bl g ++ (colTextL g c2 ++ (colsMoreL g cs ++ (41 :: U)))) := by unfold pSign; rw [h2, h3]; rfl
    simp only [PR.bind, h4, if_true]
    have := pColsF_L hg cs c2 k (l ++ [c]) (bl g) U (bl_blanks hg) (fun x hx => hc x (by simp [hx])) (by simp at hk; omega)
    rw [this]
    simp
def readBack (d : Ddl) (cols : List Col) : Ddl := { keepOf d with cols := if d.op = 1 then cols else [] }
theorem pAll_L {g B Z : List UInt8} (hg : blanksL g) (hB : blanksL B) (hZ : blanksL Z) (hZs : stopT Z) (d : Ddl) (rows : List (Int × Col)) (hcan : canQ d rows = true) (hn : isI64 d.dn) (hi : ∀ c ∈ rows, isI64 c.2.dn) :
    pAll (B ++ (printL g d (rows.map (·.2)) ++ Z)) = .ok (readBack d (rows.map (·.2))) [] := by
  have hZb : behind Z := ⟨hZs, by rw [skipB_all hZ]; rfl⟩
  have hbl := bl_blanks hg
  unfold canQ at hcan
  simp only [Bool.and_eq_true] at hcan
  obtain ⟨hp, ht, htail⟩ := hcan
  unfold plainQ at hp
  simp only [Bool.and_eq_true, decide_eq_true_eq] at hp
  obtain ⟨hop, _, _⟩ := hp
  obtain ⟨op, table, column, to, key, kind, max, null, dk, dn, ds, cols⟩ := d
  simp only at hop ht hn
  have key1 : ∀ (n : Nat) (w R : List UInt8) (d' : Ddl) (q : List UInt8), wordy w → opOf w = n → n ≠ 0 → stopT R → pRest n table R = .ok d' q → skipB q = [] → pAll (B ++ (w ++ (bl g ++ (table ++ R)))) = .ok d' [] := by
    intro n w R d' q hw ho hn0 hR hrest hq
    unfold pAll pChange
    rw [skip_word hB hw, wordy_app hw (stop_bl g _), ho, if_neg hn0, List.drop_left, pName_L hbl ht hR]
    simp only [PR.bind]
    rw [hrest]
    simp only
    rw [if_pos hq]
  have hZn : ∀ w : List UInt8, rightN w = true → ∀ b, blanksL b → pName (b ++ (w ++ Z)) = .ok w Z := fun w hw b hb => pName_L hb hw hZs
  have hZe : skipB Z = [] := skipB_all hZ
  rcases (by omega : op = 1 ∨ op = 2 ∨ op = 3 ∨ op = 4 ∨ op = 5 ∨ op = 6 ∨ op = 7 ∨ op = 8) with rfl | rfl | rfl | rfl | rfl | rfl | rfl | rfl
  · simp only [canTail, if_true, Bool.and_eq_true, decide_eq_true_eq] at htail
    obtain ⟨hcc, hk, h1, h10⟩ := htail
    cases rows with
    | nil => simp at h1
    | cons r rows =>
      have hcols : ∀ x ∈ r.2 :: rows.map (·.2), colCan x = true ∧ isI64 x.dn := by
        intro x hx
        have : x ∈ (r :: rows).map (·.2) := by simpa using hx
        obtain ⟨y, hy, rfl⟩ := List.mem_map.1 this
        exact ⟨List.all_eq_true.1 hcc y hy, hi y hy⟩
      have hP : printL g ⟨1, table, column, to, key, kind, max, null, dk, dn, ds, cols⟩ ((r :: rows).map (·.2)) ++ Z = [99, 114, 101, 97, 116, 101] ++ (bl g ++ (table ++ (bl g ++ (40 :: ([] ++ (colTextL g r.2 ++ (colsMoreL g (rows.map (·.2)) ++ (41 :: (bl g ++ (wKey ++ (bl g ++ (key ++ Z)))))))))))) := by
        simp [printL, tailTextL, opWords, colsTextL]
      rw [hP]
      refine key1 1 _ _ _ Z ⟨by simp, by decide⟩ (by decide) (by decide) (stop_bl g _) ?_ hZe
      show (pCols _).bind _ = _
      have h2 : pCols (bl g ++ (40 :: ([] ++ (colTextL g r.2 ++ (colsMoreL g (rows.map (·.2)) ++ (41 :: (bl g ++ (wKey ++ (bl g ++ (key ++ Z)))))))))) = .ok (r.2 :: rows.map (·.2)) (bl g ++ (wKey ++ (bl g ++ (key ++ Z)))) := by
        unfold pCols
        rw [pWantS_L hbl (by decide)]
        simp only [PR.bind]
        have := pColsF_L hg (rows.map (·.2)) r.2 10 [] [] (bl g ++ (wKey ++ (bl g ++ (key ++ Z)))) (by intro x hx; cases hx) hcols (by simp at h10 ⊢; omega)
        rw [this]
        simp
      rw [h2]
      simp only [PR.bind]
      rw [pWant_L hbl wKey_wordy (stop_bl g _)]
      simp only
      rw [hZn key hk _ hbl]
      simp [readBack, keepOf]
  · have hP : printL g ⟨2, table, column, to, key, kind, max, null, dk, dn, ds, cols⟩ (rows.map (·.2)) ++ Z = [100, 114, 111, 112] ++ (bl g ++ (table ++ Z)) := by
      simp [printL, tailTextL, opWords]
    rw [hP]
    exact key1 2 _ _ _ Z ⟨by simp, by decide⟩ (by decide) (by decide) hZs rfl hZe
  · have htail : rightN to = true := by simpa [canTail] using htail
    have hP : printL g ⟨3, table, column, to, key, kind, max, null, dk, dn, ds, cols⟩ (rows.map (·.2)) ++ Z = [114, 101, 110, 97, 109, 101] ++ (bl g ++ (table ++ (bl g ++ (wTo ++ (bl g ++ (to ++ Z)))))) := by
      simp [printL, tailTextL, opWords]
    rw [hP]
    refine key1 3 _ _ _ Z ⟨by simp, by decide⟩ (by decide) (by decide) (stop_bl g _) ?_ hZe
    show (pWant wTo _).bind _ = _
    rw [pWant_L hbl wTo_wordy (stop_bl g _)]
    simp only [PR.bind]
    rw [hZn to htail _ hbl]
    rfl
  · have htail : rightN column = true ∧ rightT kind max = true ∧ rightV dk dn ds = true := by simpa [canTail] using htail
    have hP : printL g ⟨4, table, column, to, key, kind, max, null, dk, dn, ds, cols⟩ (rows.map (·.2)) ++ Z = [97, 100, 100] ++ (bl g ++ (table ++ (bl g ++ (colTextL g ⟨column, kind, max, null, dk, dn, ds⟩ ++ Z)))) := by
      simp [printL, tailTextL, opWords, Ddl.added]
    rw [hP]
    obtain ⟨T', h1, h2⟩ := pCol_L hg hbl ⟨column, kind, max, null, dk, dn, ds⟩ (by unfold colCan; simp [htail]) hn hZb
    refine key1 4 _ _ _ T' ⟨by simp, by decide⟩ (by decide) (by decide) (stop_bl g _) ?_ (by rw [h2, hZe])
    show (pCol _).bind _ = _
    rw [h1]
    rfl
  · have htail : rightN column = true := by simpa [canTail] using htail
    have hP : printL g ⟨5, table, column, to, key, kind, max, null, dk, dn, ds, cols⟩ (rows.map (·.2)) ++ Z = [99, 117, 116] ++ (bl g ++ (table ++ (bl g ++ (column ++ Z)))) := by
      simp [printL, tailTextL, opWords]
    rw [hP]
    refine key1 5 _ _ _ Z ⟨by simp, by decide⟩ (by decide) (by decide) (stop_bl g _) ?_ hZe
    show (pName _).bind _ = _
    rw [hZn column htail _ hbl]
    rfl
  · have htail : rightN column = true ∧ rightN to = true := by simpa [canTail] using htail
    have hP : printL g ⟨6, table, column, to, key, kind, max, null, dk, dn, ds, cols⟩ (rows.map (·.2)) ++ Z = [99, 97, 108, 108] ++ (bl g ++ (table ++ (bl g ++ (column ++ (bl g ++ (wTo ++ (bl g ++ (to ++ Z)))))))) := by
      simp [printL, tailTextL, opWords]
    rw [hP]
    refine key1 6 _ _ _ Z ⟨by simp, by decide⟩ (by decide) (by decide) (stop_bl g _) ?_ hZe
    show (pName _).bind _ = _
    rw [pName_L hbl htail.1 (stop_bl g _)]
    simp only [PR.bind]
    rw [pWant_L hbl wTo_wordy (stop_bl g _)]
    simp only
    rw [hZn to htail.2 _ hbl]
    rfl
  · have htail : rightN column = true ∧ rightT kind max = true := by simpa [canTail] using htail
    have hP : printL g ⟨7, table, column, to, key, kind, max, null, dk, dn, ds, cols⟩ (rows.map (·.2)) ++ Z = [119, 105, 100, 101, 110] ++ (bl g ++ (table ++ (bl g ++ (column ++ (bl g ++ (printT kind max ++ Z)))))) := by
      simp [printL, tailTextL, opWords]
    rw [hP]
    refine key1 7 _ _ _ Z ⟨by simp, by decide⟩ (by decide) (by decide) (stop_bl g _) ?_ hZe
    show (pName _).bind _ = _
    rw [pName_L hbl htail.1 (stop_bl g _)]
    simp only [PR.bind]
    rw [pKind_L hbl htail.2 hZs]
    rfl
  · have htail : rightN column = true ∧ rightV dk dn ds = true := by simpa [canTail] using htail
    have hP : printL g ⟨8, table, column, to, key, kind, max, null, dk, dn, ds, cols⟩ (rows.map (·.2)) ++ Z = [112, 114, 101, 115, 101, 116] ++ (bl g ++ (table ++ (bl g ++ (column ++ (bl g ++ (printS dk dn ds ++ Z)))))) := by
      simp [printL, tailTextL, opWords]
    rw [hP]
    refine key1 8 _ _ _ Z ⟨by simp, by decide⟩ (by decide) (by decide) (stop_bl g _) ?_ hZe
    show (pName _).bind _ = _
    rw [pName_L hbl htail.1 (stop_bl g _)]
    simp only [PR.bind]
    rw [pValue_L hbl htail.2 hn hZs (.inr rfl)]
    rfl
end Hx

namespace Hx
open Go
set_option linter.unusedSimpArgs false
set_option linter.unusedVariables false
set_option maxHeartbeats 8000000
set_option maxRecDepth 20000
variable {E : Env}
attribute [-simp] List.getD_eq_getElem?_getD getElem?_pos
end Hx

namespace Hx
open Go
set_option linter.unusedSimpArgs false
set_option linter.unusedVariables false
set_option maxHeartbeats 8000000
set_option maxRecDepth 20000
variable {E : Env}
attribute [-simp] List.getD_eq_getElem?_getD getElem?_pos
end Hx

namespace Hx
open Go
set_option linter.unusedSimpArgs false
set_option linter.unusedVariables false
set_option maxHeartbeats 8000000
set_option maxRecDepth 20000
variable {E : Env}
attribute [-simp] List.getD_eq_getElem?_getD getElem?_pos
end Hx

namespace Hx
open Go
variable {E : Env}
end Hx

namespace Hx
open Go
set_option linter.unusedSimpArgs false
set_option linter.unusedVariables false
set_option maxHeartbeats 8000000
set_option maxRecDepth 20000
variable {E : Env}
attribute [-simp] List.getD_eq_getElem?_getD getElem?_pos
end Hx

namespace Hx
open Go
set_option linter.unusedSimpArgs false
set_option linter.unusedVariables false
set_option maxHeartbeats 8000000
set_option maxRecDepth 20000
variable {E : Env}
attribute [-simp] List.getD_eq_getElem?_getD getElem?_pos
end Hx

namespace Hx
open Go
set_option linter.unusedSimpArgs false
set_option linter.unusedVariables false
set_option maxHeartbeats 16000000
set_option maxRecDepth 20000
variable {E : Env}
attribute [-simp] List.getD_eq_getElem?_getD getElem?_pos
end Hx
