/-
  HxQ10f: what is read of a text can be written: plain laws.
-/
import Derived.Test.YtifcegbomagcpaaDoorHxQ10d
import Derived.Test.YtifcegbomagcpaaDoorHxU10y
import Derived.Test.YtifcegbomagcpaaDoorHxU10z
import Derived.Test.YtifcegbomagcpaaDoorHxQ10c
namespace Hx
open Go
set_option maxHeartbeats 4000000
theorem plainB_mem {s : List UInt8} (h : plainB s = true) : ∀ c ∈ s, c ≠ 92 := by
  intro c hc e
  subst e
  have := List.all_eq_true.1 h 92 hc
  exact absurd this (by decide)
def noQB (w : List UInt8) : Prop := ∀ c ∈ w, c ≠ 32 ∧ c ≠ 34
theorem loose_word (g : List UInt8) : ∀ {w : List UInt8}, noQB w → ∀ r, looseF g false (w ++ r) = w ++ looseF g false r
  | [], _, r => rfl
  | c :: w, h, r => by
    obtain ⟨h1, h2⟩ := h c (by simp)
    have hf : flipQ false c = false := by unfold flipQ; rw [if_neg h2]
    rw [List.cons_append, looseF_cons, hf, if_neg (by rintro ⟨h, _⟩; exact h1 h), List.nil_append, loose_word g (fun x hx => h x (by simp [hx])) r, List.cons_append]
theorem loose_bl (g r : List UInt8) : looseF g false (32 :: r) = bl g ++ looseF g false r := by
  rw [looseF_cons]
  have hf : flipQ false 32 = false := by decide
  rw [hf, if_pos ⟨rfl, rfl⟩]
  rfl
theorem loose_in1 (g : List UInt8) : ∀ {w : List UInt8}, (∀ c ∈ w, c ≠ 34) → ∀ r, looseF g true (w ++ 34 :: r) = w ++ 34 :: looseF g false r
  | [], _, r => by
    rw [List.nil_append, looseF_cons]
    have hf : flipQ true 34 = false := by decide
    rw [hf, if_neg (by rintro ⟨h, _⟩; exact absurd h (by decide))]
    rfl
  | c :: w, h, r => by
    have hc := h c (by simp)
    have hf : flipQ true c = true := by unfold flipQ; rw [if_neg hc]
    rw [List.cons_append, looseF_cons, hf, if_neg (by rintro ⟨_, h⟩; cases h), List.nil_append, loose_in1 g (fun x hx => h x (by simp [hx])) r, List.cons_append]
theorem loose_quoted (g : List UInt8) {w : List UInt8} (h : ∀ c ∈ w, c ≠ 34) (r : List UInt8) : looseF g false (34 :: (w ++ 34 :: r)) = 34 :: (w ++ 34 :: looseF g false r) := by
  rw [looseF_cons]
  have hf : flipQ false 34 = true := by decide
  rw [hf, if_neg (by rintro ⟨h, _⟩; exact absurd h (by decide)), List.nil_append, loose_in1 g h r]
theorem part_noQB {c : UInt8} (h : partC c = true) : c ≠ 32 ∧ c ≠ 34 := by
  constructor
  · rintro rfl; exact absurd h (by decide)
  · rintro rfl; exact absurd h (by decide)
theorem name_noQB {w : List UInt8} (h : rightN w = true) : noQB w := by
  obtain ⟨hne, hl⟩ := wordy_of h
  cases w with
  | nil => exact absurd rfl hne
  | cons c r =>
    rw [nameLen_cons] at hl
    cases hc : letter c with
    | false => rw [hc] at hl; simp at hl
    | true =>
      rw [hc] at hl
      simp only [if_true, List.length_cons] at hl
      have hall := takeWhile_all (p := partC) (l := r) (by omega)
      intro x hx
      rcases List.mem_cons.1 hx with rfl | hx
      · exact part_noQB (by unfold partC; rw [hc]; rfl)
      · exact part_noQB (hall x hx)
theorem digs_noQB (n : Int) : noQB (digits n) := by
  intro c hc
  have : c = 45 ∨ isDig c = true := by
    unfold digits at hc
    split at hc
    · rcases List.mem_cons.1 hc with rfl | hc
      · exact .inl rfl
      · right
        have := digs_mem n.natAbs n.natAbs (Nat.le_refl _) hc
        unfold isDig; simp; exact this
    · right
      have := digs_mem n.natAbs n.natAbs (Nat.le_refl _) hc
      unfold isDig; simp; exact this
  rcases this with rfl | h
  · decide
  · exact part_noQB (dig_part h)
theorem printT_noQB (a b : Int) : noQB (printT a b) := by
  have hd := digs_noQB b
  unfold printT
  intro c hc
  have hlit : ∀ l : List UInt8, (∀ x ∈ l, x ≠ 32 ∧ x ≠ 34) → c ∈ l → c ≠ 32 ∧ c ≠ 34 := fun l h hc => h c hc
  split at hc
  · exact hlit [105, 110, 116] (by decide) hc
  split at hc
  · exact hlit [108, 111, 110, 103] (by decide) hc
  split at hc
  · have : c ∈ ([116, 101, 120, 116, 40, 41] : List UInt8) ∨ c ∈ digits b := by
      simp only [List.mem_cons, List.mem_append, List.not_mem_nil, or_false] at hc ⊢
      rcases hc with h | h | h | h | h | h | h <;> simp [h]
    rcases this with h | h
    · exact hlit _ (by decide) h
    · exact hd c h
  · have : c ∈ ([98, 121, 116, 101, 115, 40, 41] : List UInt8) ∨ c ∈ digits b := by
      simp only [List.mem_cons, List.mem_append, List.not_mem_nil, or_false] at hc ⊢
      rcases hc with h | h | h | h | h | h | h | h <;> simp [h]
    rcases this with h | h
    · exact hlit _ (by decide) h
    · exact hd c h
theorem quotes_no34 : ∀ {s : List UInt8}, (∀ c ∈ quotes s, c ≠ 92) → ∀ c ∈ quotes s, c ≠ 34
  | [], _, c, hc => by simp [quotes] at hc
  | a :: s, h, c, hc => by
    have he : quotes (a :: s) = quoteC a ++ quotes s := rfl
    rw [he] at h hc
    rcases List.mem_append.1 hc with hc | hc
    · have h92 : ∀ x ∈ quoteC a, x ≠ 92 := fun x hx => h x (List.mem_append_left _ hx)
      unfold quoteC at h92 hc
      split at hc
      · rename_i h1; rw [if_pos h1] at h92; exact absurd rfl (h92 92 (by simp))
      split at hc
      · rename_i h1 h2; rw [if_neg h1, if_pos h2] at h92; exact absurd rfl (h92 92 (by simp))
      split at hc
      · rename_i h1 h2 h3; rw [if_neg h1, if_neg h2, if_pos h3] at h92; exact absurd rfl (h92 92 (by simp))
      · rename_i h1 h2 h3
        simp only [List.mem_cons, List.not_mem_nil, or_false] at hc
        subst hc
        rintro rfl
        exact h1 (.inl rfl)
    · exact quotes_no34 (fun x hx => h x (List.mem_append_right _ hx)) c hc
theorem hexes_no34 : ∀ {s : List UInt8}, ∀ c ∈ hexes s, c ≠ 34
  | [], c, hc => by simp [hexes] at hc
  | a :: s, c, hc => by
    have he : hexes (a :: s) = hexC a ++ hexes s := rfl
    rw [he] at hc
    rcases List.mem_append.1 hc with hc | hc
    · unfold hexC at hc
      simp only [List.mem_cons, List.not_mem_nil, or_false] at hc
      have h1 : a.toNat / 16 < 16 := by have := UInt8.toNat_lt a; omega
      have h2 : a.toNat % 16 < 16 := Nat.mod_lt _ (by decide)
      rcases hc with rfl | rfl
      · exact hexd_ne34 ⟨_, h1⟩
      · exact hexd_ne34 ⟨_, h2⟩
    · exact hexes_no34 c hc
theorem loose_value (g : List UInt8) (a n : Int) (s : List UInt8) (h92 : ∀ c ∈ printS a n s, c ≠ 92) (r : List UInt8) : looseF g false (printS a n s ++ r) = printS a n s ++ looseF g false r := by
  unfold printS at h92 ⊢
  split
  · exact loose_word g (digs_noQB n) r
  split
  · refine loose_word g (w := digits n ++ [108]) ?_ r
    intro c hc
    rcases List.mem_append.1 hc with hc | hc
    · exact digs_noQB n c hc
    · simp only [List.mem_cons, List.not_mem_nil, or_false] at hc; subst hc; decide
  split
  · rename_i h1 h2 h3
    rw [if_neg h1, if_neg h2, if_pos h3] at h92
    have := loose_quoted g (w := quotes s) (quotes_no34 (fun c hc => h92 c (by simp [hc]))) r
    simpa using this
  split
  · rename_i h1 h2 h3 h4
    have h5 := loose_quoted g (w := hexes s) (hexes_no34) r
    have h6 : looseF g false (120 :: (34 :: (hexes s ++ 34 :: r))) = 120 :: looseF g false (34 :: (hexes s ++ 34 :: r)) := loose_word g (w := [120]) (by intro c hc; simp only [List.mem_cons, List.not_mem_nil, or_false] at hc; subst hc; decide) _
    rw [h5] at h6
    simpa using h6
  · exact loose_word g (w := [110, 117, 108, 108]) (by intro c hc; simp only [List.mem_cons, List.not_mem_nil, or_false] at hc; rcases hc with rfl | rfl | rfl | rfl <;> decide) r
theorem lit_noQB {w : List UInt8} (h : w.all (fun c => !(c == 32) && !(c == 34)) = true) : noQB w := by
  intro c hc
  have := List.all_eq_true.1 h c hc
  simp only [Bool.and_eq_true, Bool.not_eq_true', beq_eq_false_iff_ne] at this
  exact this
theorem loose_rest (g : List UInt8) (c : Col) (h92 : ∀ x ∈ restText c, x ≠ 92) (r : List UInt8) : looseF g false (restText c ++ r) = restTextL g c ++ looseF g false r := by
  obtain ⟨name, kind, max, null, dk, dn, ds⟩ := c
  unfold restText restTextL at *
  simp only at *
  have hn : noQB wNul := lit_noQB (by decide)
  have hd : noQB wDef := lit_noQB (by decide)
  simp only [List.cons_append, List.append_assoc]
  rw [loose_bl, loose_word g (printT_noQB kind max)]
  by_cases h0 : dk = 0
  · simp only [if_pos h0, List.nil_append]
    cases null with
    | false => simp only [Bool.false_eq_true, if_false, List.nil_append]
    | true => simp only [if_true, List.cons_append, List.append_assoc]; rw [loose_bl, loose_word g hn]
  · have hv : ∀ x ∈ printS dk dn ds, x ≠ 92 := fun x hx => h92 x (by simp [h0, hx])
    simp only [if_neg h0, List.cons_append, List.append_assoc]
    cases null with
    | false => simp only [Bool.false_eq_true, if_false, List.nil_append]; rw [loose_bl, loose_word g hd, loose_bl, loose_value g _ _ _ hv]
    | true => simp only [if_true, List.cons_append, List.append_assoc]; rw [loose_bl, loose_word g hn, loose_bl, loose_word g hd, loose_bl, loose_value g _ _ _ hv]
theorem loose_col (g : List UInt8) (c : Col) (hc : rightN c.name = true) (h92 : ∀ x ∈ colText c, x ≠ 92) (r : List UInt8) : looseF g false (colText c ++ r) = colTextL g c ++ looseF g false r := by
  unfold colText colTextL at *
  rw [List.append_assoc, List.append_assoc, loose_word g (name_noQB hc), loose_rest g c (fun x hx => h92 x (List.mem_append_right _ hx))]
theorem loose_more (g : List UInt8) : ∀ (l : List Col), (∀ c ∈ l, rightN c.name = true) → (∀ x ∈ colsMore l, x ≠ 92) → ∀ r, looseF g false (colsMore l ++ r) = colsMoreL g l ++ looseF g false r
  | [], _, _, r => rfl
  | c :: l, h, h92, r => by
    unfold colsMore at h92 ⊢
    unfold colsMoreL
    simp only [List.cons_append, List.append_assoc]
    have h1 := loose_word g (w := [44]) (lit_noQB (by decide)) (32 :: (colText c ++ (colsMore l ++ r)))
    simp only [List.cons_append, List.nil_append] at h1
    rw [h1, loose_bl, loose_col g c (h c (by simp)) (fun x hx => h92 x (by simp [hx])), loose_more g l (fun x hx => h x (by simp [hx])) (fun x hx => h92 x (by simp [hx]))]
theorem loose_cols (g : List UInt8) (l : List Col) (h : ∀ c ∈ l, rightN c.name = true) (h92 : ∀ x ∈ colsText l, x ≠ 92) (r : List UInt8) : looseF g false (colsText l ++ r) = colsTextL g l ++ looseF g false r := by
  cases l with
  | nil => rfl
  | cons c l =>
    unfold colsText at h92 ⊢
    unfold colsTextL
    rw [List.append_assoc, List.append_assoc, loose_col g c (h c (by simp)) (fun x hx => h92 x (by simp [hx])), loose_more g l (fun x hx => h x (by simp [hx])) (fun x hx => h92 x (by simp [hx]))]
theorem loose_print (g : List UInt8) (d : Ddl) (rows : List (Int × Col)) (hcan : canQ d rows = true) (hp : plainB (printQ d (rows.map (·.2))) = true) : looseF g false (printQ d (rows.map (·.2))) = printL g d (rows.map (·.2)) := by
  have h92 := plainB_mem hp
  unfold canQ at hcan
  simp only [Bool.and_eq_true] at hcan
  obtain ⟨hpl, ht, htail⟩ := hcan
  unfold plainQ at hpl
  simp only [Bool.and_eq_true, decide_eq_true_eq] at hpl
  obtain ⟨hop, _, _⟩ := hpl
  have hw : noQB (opWords.getD (d.op.toNat - 1) []) := by
    rcases (by omega : d.op = 1 ∨ d.op = 2 ∨ d.op = 3 ∨ d.op = 4 ∨ d.op = 5 ∨ d.op = 6 ∨ d.op = 7 ∨ d.op = 8) with h | h | h | h | h | h | h | h <;> (rw [h]; exact lit_noQB (by decide))
  have hto : noQB wTo := lit_noQB (by decide)
  have hkey : noQB wKey := lit_noQB (by decide)
  have hsub : ∀ x ∈ tailText d (rows.map (·.2)), x ≠ 92 := fun x hx => h92 x (by unfold printQ; simp [hx])
  unfold printQ printL
  rw [loose_word g hw, loose_bl, loose_word g (name_noQB ht)]
  congr 3
  have e0 : looseF g false [] = [] := rfl
  have hnil : ∀ p p' : List UInt8, (∀ r, looseF g false (p ++ r) = p' ++ looseF g false r) → looseF g false p = p' := by
    intro p p' h
    have := h []
    rw [e0, List.append_nil, List.append_nil] at this
    exact this
  unfold tailText at hsub ⊢
  unfold tailTextL
  unfold canTail at htail
  by_cases o1 : d.op = 1
  · simp only [if_pos o1, Bool.and_eq_true, decide_eq_true_eq] at htail hsub ⊢
    obtain ⟨hcc, hk, _, _⟩ := htail
    have hcols : ∀ c ∈ rows.map (·.2), rightN c.name = true := by
      intro c hc
      obtain ⟨y, hy, rfl⟩ := List.mem_map.1 hc
      have := List.all_eq_true.1 hcc y hy
      unfold colCan at this
      simp only [Bool.and_eq_true] at this
      exact this.1
    have h1 : ∀ r, looseF g false (40 :: r) = 40 :: looseF g false r := fun r => loose_word g (w := [40]) (lit_noQB (by decide)) r
    have h2 : ∀ r, looseF g false (41 :: r) = 41 :: looseF g false r := fun r => loose_word g (w := [41]) (lit_noQB (by decide)) r
    rw [loose_bl, h1, loose_cols g _ hcols (fun x hx => hsub x (by simp [hx])), h2, loose_bl, loose_word g hkey, loose_bl, hnil _ _ (loose_word g (name_noQB hk))]
  by_cases o2 : d.op = 2
  · simp only [if_neg o1, if_pos o2]; rfl
  by_cases o3 : d.op = 3
  · simp only [if_neg o1, if_neg o2, if_pos o3] at htail ⊢
    rw [loose_bl, loose_word g hto, loose_bl, hnil _ _ (loose_word g (name_noQB htail))]
  by_cases o4 : d.op = 4
  · simp only [if_neg o1, if_neg o2, if_neg o3, if_pos o4, Bool.and_eq_true] at htail hsub ⊢
    rw [loose_bl, hnil _ _ (loose_col g d.added htail.1 (fun x hx => hsub x (by simp [hx])))]
  by_cases o5 : d.op = 5
  · simp only [if_neg o1, if_neg o2, if_neg o3, if_neg o4, if_pos o5] at htail ⊢
    rw [loose_bl, hnil _ _ (loose_word g (name_noQB htail))]
  by_cases o6 : d.op = 6
  · simp only [if_neg o1, if_neg o2, if_neg o3, if_neg o4, if_neg o5, if_pos o6, Bool.and_eq_true] at htail ⊢
    rw [loose_bl, loose_word g (name_noQB htail.1), loose_bl, loose_word g hto, loose_bl, hnil _ _ (loose_word g (name_noQB htail.2))]
  by_cases o7 : d.op = 7
  · simp only [if_neg o1, if_neg o2, if_neg o3, if_neg o4, if_neg o5, if_neg o6, if_pos o7, Bool.and_eq_true] at htail ⊢
    rw [loose_bl, loose_word g (name_noQB htail.1), loose_bl, hnil _ _ (loose_word g (printT_noQB _ _))]
  · simp only [if_neg o1, if_neg o2, if_neg o3, if_neg o4, if_neg o5, if_neg o6, if_neg o7, Bool.and_eq_true] at htail hsub ⊢
    rw [loose_bl, loose_word g (name_noQB htail.1), loose_bl, hnil _ _ (loose_value g _ _ _ (fun x hx => hsub x (by simp [hx])))]
end Hx

namespace Hx
open Go
set_option linter.unusedSimpArgs false
set_option maxHeartbeats 4000000
theorem pName_inv {r n q : List UInt8} (h : pName r = .ok n q) : rightN n = true := by
  unfold pName at h
  split at h
  · cases h
  split at h
  · rename_i h1; cases h; exact h1
  · cases h
theorem kindW_le (s : List UInt8) : kindW s = 0 ∨ kindW s = 1 ∨ kindW s = 2 ∨ kindW s = 3 ∨ kindW s = 4 := by
  unfold kindW
  split
  · simp
  split
  · simp
  split
  · simp
  split <;> simp
theorem readT_inv {s : List UInt8} {a b z : Int} (h : readT s = rT a b z 0) : rightT a b = true := by
  have hinj : ∀ {a b c d a' b' c' d' : Int}, rT a b c d = rT a' b' c' d' → a = a' ∧ b = b' ∧ d = d' := by
    intro a b c d a' b' c' d' h
    simp only [rT, tP, AV.tup.injEq, List.cons.injEq, AV.p.injEq, PV.agg.injEq, PV.int.injEq, true_and, and_true] at h
    exact ⟨h.1.1, h.1.2, h.2.2⟩
  unfold readT at h
  split at h
  · rename_i h1
    obtain ⟨rfl, rfl, _⟩ := hinj h
    unfold rightT
    rw [if_pos h1]
    simp
  split at h
  · obtain ⟨_, _, h3⟩ := hinj h; cases h3
  split at h
  · rename_i h3; obtain ⟨_, _, h4⟩ := hinj h; exact absurd h4 h3
  split at h
  · obtain ⟨_, _, h3⟩ := hinj h; cases h3
  split at h
  · obtain ⟨_, _, h3⟩ := hinj h; cases h3
  · rename_i h1 h2 _ _ h5
    obtain ⟨rfl, rfl, _⟩ := hinj h
    have hk := kindW_le (s.take (nameLen s))
    unfold rightT
    rw [if_neg h1, if_pos (by
      rcases hk with h | h | h | h | h
      · exact absurd (.inl h) h2
      · exact absurd (.inl h) h1
      · exact absurd (.inr h) h1
      · exact .inl h
      · exact .inr h)]
    simp only [decide_eq_true_eq]
    omega
theorem pKind_inv {r q : List UInt8} {t : Int × Int} (h : pKind r = .ok t q) : rightT t.1 t.2 = true := by
  obtain ⟨k, m, z, e, hT, _, _⟩ := readT_far (skipB r)
  have hT' := rdTy_of hT
  unfold pKind at h
  rw [hT'] at h
  simp only at h
  split at h
  · rename_i he
    subst he
    cases h
    exact readT_inv hT
  · cases h
theorem pValue_inv {null : Bool} {r q : List UInt8} {v : Int × Int × List UInt8} (h : pValue null r = .ok v q) : rightV v.1 v.2.1 v.2.2 = true ∧ isI64 v.2.1 := by
  rcases hR : readR (skipB r) with ⟨a, n, t, z, e⟩
  unfold pValue at h
  rw [hR] at h
  simp only at h
  split at h
  · cases h
  rename_i he
  have he0 : e = 0 := Decidable.not_not.1 he
  subst he0
  obtain ⟨h1, h2, _⟩ := read_back hR
  split at h
  · cases h
  · cases h; exact ⟨h1, h2⟩
def goodC (c : Col) : Prop := colCan c = true ∧ isI64 c.dn
theorem pCol_inv {r q : List UInt8} {c : Col} (h : pCol r = .ok c q) : goodC c := by
  unfold pCol at h
  obtain ⟨n, r1, h1, h⟩ := bind_ok h
  obtain ⟨t, r2, h2, h⟩ := bind_ok h
  have hn := pName_inv h1
  have ht := pKind_inv h2
  unfold pColTail at h
  split at h
  · obtain ⟨v, r3, h3, h⟩ := bind_ok h
    obtain ⟨hv, hi⟩ := pValue_inv h3
    cases h
    exact ⟨by unfold colCan; simp [hn, ht, hv], hi⟩
  · cases h
    exact ⟨by unfold colCan; simp [hn, ht, rightV], show isI64 0 from ⟨by decide, by decide⟩⟩
theorem pColsF_inv : ∀ (k : Nat) (l : List Col) {r q : List UInt8} {cs : List Col}, (∀ c ∈ l, goodC c) → pColsF k l r = .ok cs q → (∀ c ∈ cs, goodC c) ∧ cs ≠ []
  | 0, _, _, _, _, _, h => by cases h
  | k + 1, l, r, q, cs, hl, h => by
    rw [pColsF_succ] at h
    obtain ⟨c, r1, h1, h⟩ := bind_ok h
    have hc := pCol_inv h1
    have hl' : ∀ x ∈ l ++ [c], goodC x := by
      intro x hx
      rcases List.mem_append.1 hx with hx | hx
      · exact hl x hx
      · simp only [List.mem_cons, List.not_mem_nil, or_false] at hx; subst hx; exact hc
    split at h
    · exact pColsF_inv k _ hl' h
    · obtain ⟨_, r2, _, h⟩ := bind_ok h
      cases h
      exact ⟨hl', by simp⟩
def withZ (l : List Col) : List (Int × Col) := l.map fun c => (0, c)
theorem withZ_map (l : List Col) : (withZ l).map (·.2) = l := by
  unfold withZ
  rw [List.map_map]
  exact List.map_id' l
theorem pChange_inv {r q : List UInt8} {d : Ddl} (h : pChange r = .ok d q) : canQ d (withZ d.cols) = true ∧ isI64 d.dn ∧ ∀ c ∈ d.cols, isI64 c.dn := by
  have hlen := pChange_len h
  unfold pChange at h
  split at h
  · cases h
  rename_i hop
  have hle := opOf_le (wordOf (skipB r))
  obtain ⟨t, r1, h1, h⟩ := bind_ok h
  have ht := pName_inv h1
  generalize opOf (wordOf (skipB r)) = op at *
  have z64 : isI64 0 := ⟨by decide, by decide⟩
  rcases (by omega : op = 1 ∨ op = 2 ∨ op = 3 ∨ op = 4 ∨ op = 5 ∨ op = 6 ∨ op = 7 ∨ op = 8) with rfl | rfl | rfl | rfl | rfl | rfl | rfl | rfl
  · rw [pRest_1] at h
    obtain ⟨cs, r2, h2, h⟩ := bind_ok h
    obtain ⟨_, r3, _, h⟩ := bind_ok h
    obtain ⟨k, r4, h4, h⟩ := bind_ok h
    have hk := pName_inv h4
    cases h
    unfold pCols at h2
    obtain ⟨_, r5, _, h2⟩ := bind_ok h2
    obtain ⟨hg, hne⟩ := pColsF_inv _ _ (by simp) h2
    simp only at hlen
    refine ⟨?_, z64, fun c hc => (hg c hc).2⟩
    have ha : (withZ cs).all (fun c => colCan c.2) = true := by
      rw [List.all_eq_true]
      intro x hx
      unfold withZ at hx
      obtain ⟨c, hc, rfl⟩ := List.mem_map.1 hx
      exact (hg c hc).1
    have hz : (withZ cs).all (fun c => c.1 == 0) = true := by
      rw [List.all_eq_true]
      intro x hx
      unfold withZ at hx
      obtain ⟨c, hc, rfl⟩ := List.mem_map.1 hx
      rfl
    have hl1 : (withZ cs).length = cs.length := by unfold withZ; rw [List.length_map]
    have hl2 : 1 ≤ cs.length := List.length_pos_iff.2 hne
    unfold canQ plainQ canTail
    simp only [if_true, ha, hz, hl1, ht, hk, keepOf, sameH]
    simp [hl2, hlen]
  · rw [pRest_2] at h
    cases h
    exact ⟨by simp [canQ, plainQ, canTail, keepOf, sameH, withZ, ht], z64, by simp⟩
  · rw [pRest_3] at h
    obtain ⟨_, r2, _, h⟩ := bind_ok h
    obtain ⟨n, r3, h3, h⟩ := bind_ok h
    have hn := pName_inv h3
    cases h
    exact ⟨by simp [canQ, plainQ, canTail, keepOf, sameH, withZ, ht, hn], z64, by simp⟩
  · rw [pRest_4] at h
    obtain ⟨c, r2, h2, h⟩ := bind_ok h
    obtain ⟨hc, hi⟩ := pCol_inv h2
    cases h
    unfold colCan at hc
    simp only [Bool.and_eq_true] at hc
    exact ⟨by simp [canQ, plainQ, canTail, keepOf, sameH, withZ, ht, hc], hi, by simp⟩
  · rw [pRest_5] at h
    obtain ⟨n, r2, h2, h⟩ := bind_ok h
    have hn := pName_inv h2
    cases h
    exact ⟨by simp [canQ, plainQ, canTail, keepOf, sameH, withZ, ht, hn], z64, by simp⟩
  · rw [pRest_6] at h
    obtain ⟨n, r2, h2, h⟩ := bind_ok h
    obtain ⟨_, r3, _, h⟩ := bind_ok h
    obtain ⟨n', r4, h4, h⟩ := bind_ok h
    have hn := pName_inv h2
    have hn' := pName_inv h4
    cases h
    exact ⟨by simp [canQ, plainQ, canTail, keepOf, sameH, withZ, ht, hn, hn'], z64, by simp⟩
  · rw [pRest_7] at h
    obtain ⟨n, r2, h2, h⟩ := bind_ok h
    obtain ⟨t', r3, h3, h⟩ := bind_ok h
    have hn := pName_inv h2
    have ht' := pKind_inv h3
    cases h
    exact ⟨by simp [canQ, plainQ, canTail, keepOf, sameH, withZ, ht, hn, ht'], z64, by simp⟩
  · rw [pRest_8] at h
    obtain ⟨n, r2, h2, h⟩ := bind_ok h
    obtain ⟨v, r3, h3, h⟩ := bind_ok h
    have hn := pName_inv h2
    obtain ⟨hv, hi⟩ := pValue_inv h3
    cases h
    exact ⟨by simp [canQ, plainQ, canTail, keepOf, sameH, withZ, ht, hn, hv], hi, by simp⟩
theorem pAll_inv {s : List UInt8} {d : Ddl} {q : List UInt8} (h : pAll s = .ok d q) : canQ d (withZ d.cols) = true ∧ isI64 d.dn ∧ (∀ c ∈ d.cols, isI64 c.dn) ∧ d.cols.length ≤ 10 := by
  unfold pAll at h
  obtain ⟨d', r1, h1, h2⟩ := bind_ok h
  split at h2
  · cases h2
    obtain ⟨a, b, c⟩ := pChange_inv h1
    exact ⟨a, b, c, pChange_len h1⟩
  · cases h2
theorem printQ_len {d : Ddl} {rows : List (Int × Col)} (hcan : canQ d rows = true) (hn : isI64 d.dn) (hs : ∀ c ∈ rows, smallC c.2) : (printQ d (rows.map (·.2))).length ≤ 150000 := by
  have hcan' := hcan
  unfold canQ at hcan
  simp only [Bool.and_eq_true] at hcan
  obtain ⟨hp, ht, htail⟩ := hcan
  have htl := rightN_len ht
  have hw : (opWords.getD (d.op.toNat - 1) []).length ≤ 6 := by
    unfold plainQ at hp
    simp only [Bool.and_eq_true, decide_eq_true_eq] at hp
    rcases (by omega : d.op = 1 ∨ d.op = 2 ∨ d.op = 3 ∨ d.op = 4 ∨ d.op = 5 ∨ d.op = 6 ∨ d.op = 7 ∨ d.op = 8) with h | h | h | h | h | h | h | h <;> (rw [h]; decide)
  have hT : (tailText d (rows.map (·.2))).length ≤ 140000 := by
    unfold tailText
    unfold canTail at htail
    by_cases o1 : d.op = 1
    · simp only [if_pos o1, Bool.and_eq_true, decide_eq_true_eq] at htail ⊢
      obtain ⟨hcc, hk, _, h10⟩ := htail
      have hkl := rightN_len hk
      have hc := colsLeft_len (rows.map (·.2)) (by
        intro c hc
        obtain ⟨x, hx, rfl⟩ := List.mem_map.1 hc
        exact colText_len (List.all_eq_true.1 hcc x hx) (hs x hx))
      simp only [colsLeft, if_true, List.length_cons, List.length_map] at hc
      simp only [List.length_cons, List.length_append, wKey, List.length_nil]
      omega
    by_cases o2 : d.op = 2
    · simp only [if_neg o1, if_pos o2]; simp
    by_cases o3 : d.op = 3
    · simp only [if_neg o1, if_neg o2, if_pos o3] at htail ⊢
      have := rightN_len htail
      simp only [List.length_cons, List.length_append, wTo, List.length_nil]; omega
    by_cases o4 : d.op = 4
    · simp only [if_neg o1, if_neg o2, if_neg o3, if_pos o4, Bool.and_eq_true] at htail ⊢
      have h1 := rightN_len htail.1
      have h2 := rightV_len htail.2.2
      have := colText_len (c := d.added) (by unfold colCan Ddl.added; simp [htail]) ⟨by unfold Ddl.added; simp only; omega, by unfold Ddl.added; simp only; omega, hn⟩
      simp only [List.length_cons]; omega
    by_cases o5 : d.op = 5
    · simp only [if_neg o1, if_neg o2, if_neg o3, if_neg o4, if_pos o5] at htail ⊢
      have := rightN_len htail
      simp only [List.length_cons]; omega
    by_cases o6 : d.op = 6
    · simp only [if_neg o1, if_neg o2, if_neg o3, if_neg o4, if_neg o5, if_pos o6, Bool.and_eq_true] at htail ⊢
      have h1 := rightN_len htail.1
      have h2 := rightN_len htail.2
      simp only [List.length_cons, List.length_append, wTo, List.length_nil]; omega
    by_cases o7 : d.op = 7
    · simp only [if_neg o1, if_neg o2, if_neg o3, if_neg o4, if_neg o5, if_neg o6, if_pos o7, Bool.and_eq_true] at htail ⊢
      have h1 := rightN_len htail.1
      have h2 := printT_len htail.2
      simp only [List.length_cons, List.length_append]; omega
    · simp only [if_neg o1, if_neg o2, if_neg o3, if_neg o4, if_neg o5, if_neg o6, if_neg o7, Bool.and_eq_true] at htail ⊢
      have h1 := rightN_len htail.1
      have h2 := rightV_len htail.2
      have h3 := printS_len (a := d.dk) (s := d.ds) hn
      simp only [List.length_cons, List.length_append]; omega
  unfold printQ
  simp only [List.length_cons, List.length_append]
  omega
end Hx
