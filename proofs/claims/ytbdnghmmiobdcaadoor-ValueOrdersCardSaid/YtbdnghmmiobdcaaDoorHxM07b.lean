/-
  HxM07b: texts in their order; the least text behind all that begin with one: plain laws.
-/
namespace Hx
def ordL : List UInt8 → List UInt8 → Int
  | [], [] => 0
  | [], _ :: _ => -1
  | _ :: _, [] => 1
  | a :: x, b :: y => if a < b then -1 else if b < a then 1 else ordL x y
theorem ordL_self : ∀ x : List UInt8, ordL x x = 0
  | [] => rfl
  | a :: x => by
    rw [ordL, if_neg (UInt8.lt_irrefl a), if_neg (UInt8.lt_irrefl a), ordL_self x]
theorem ordL_app : ∀ (p x y : List UInt8), ordL (p ++ x) (p ++ y) = ordL x y
  | [], _, _ => rfl
  | a :: p, x, y => by
    rw [List.cons_append, List.cons_append, ordL, if_neg (UInt8.lt_irrefl a), if_neg (UInt8.lt_irrefl a), ordL_app p]
theorem ordL_vals : ∀ x y : List UInt8, ordL x y = -1 ∨ ordL x y = 0 ∨ ordL x y = 1
  | [], [] => .inr (.inl rfl)
  | [], _ :: _ => .inl rfl
  | _ :: _, [] => .inr (.inr rfl)
  | a :: x, b :: y => by
    rw [ordL]
    split
    · exact .inl rfl
    split
    · exact .inr (.inr rfl)
    · exact ordL_vals x y
theorem ordL_nil (x : List UInt8) : 0 ≤ ordL x [] := by
  cases x with
  | nil => exact Int.le_refl 0
  | cons => show (0 : Int) ≤ 1; decide
theorem ordL_eq : ∀ {x y : List UInt8}, ordL x y = 0 → x = y
  | [], [], _ => rfl
  | [], _ :: _, h => by cases h
  | _ :: _, [], h => by cases h
  | a :: x, b :: y, h => by
    rw [ordL] at h
    split at h
    · cases h
    split at h
    · cases h
    · have : a = b := by
        apply UInt8.toNat_inj.1
        have h1 : ¬ a.toNat < b.toNat := fun q => by rename_i g _; exact g (UInt8.lt_iff_toNat_lt.2 q)
        have h2 : ¬ b.toNat < a.toNat := fun q => by rename_i g; exact g (UInt8.lt_iff_toNat_lt.2 q)
        omega
      rw [this, ordL_eq h]
theorem ordL_neg : ∀ x y : List UInt8, ordL y x = - ordL x y
  | [], [] => rfl
  | [], _ :: _ => rfl
  | _ :: _, [] => rfl
  | a :: x, b :: y => by
    rw [ordL, ordL, ordL_neg x y]
    by_cases h1 : a < b
    · have : ¬ b < a := fun h => UInt8.lt_irrefl a (UInt8.lt_trans h1 h)
      rw [if_pos h1, if_neg this, if_pos h1]; rfl
    · by_cases h2 : b < a
      · rw [if_pos h2, if_neg h1, if_pos h2]
      · rw [if_neg h1, if_neg h2, if_neg h1, if_neg h2]
def nxt : List UInt8 → Option (List UInt8)
  | [] => none
  | c :: r => if c = 255 then nxt r else some ((c + 1) :: r)
/-- The least text behind all that begin with s. -/
def nextS (s : List UInt8) : Option (List UInt8) := (nxt s.reverse).map List.reverse
theorem nextS_nil : nextS [] = none := rfl
theorem nextS_last (s : List UInt8) (c : UInt8) : nextS (s ++ [c]) = if c = 255 then nextS s else some (s ++ [c + 1]) := by
  unfold nextS
  rw [List.reverse_append]
  simp only [List.reverse_cons, List.reverse_nil, List.nil_append, List.singleton_append, nxt]
  split
  · rfl
  · simp
theorem nextS_form : ∀ (n : Nat) {s t : List UInt8}, s.length ≤ n → nextS s = some t → ∃ (p : List UInt8) (c : UInt8) (j : Nat), c ≠ 255 ∧ s = p ++ c :: List.replicate j 255 ∧ t = p ++ [c + 1]
  | 0, s, t, hn, h => by
    have : s = [] := List.length_eq_zero_iff.1 (by omega)
    subst this
    cases h
  | n + 1, s, t, hn, h => by
    by_cases hs : s = []
    · subst hs; cases h
    · obtain ⟨q, c, rfl⟩ : ∃ q c, s = q ++ [c] := ⟨s.dropLast, s.getLast hs, (List.dropLast_concat_getLast hs).symm⟩
      rw [nextS_last] at h
      split at h
      · rename_i hc
        subst hc
        obtain ⟨p, c, j, h1, rfl, rfl⟩ := nextS_form n (by simpa using hn) h
        refine ⟨p, c, j + 1, h1, ?_, rfl⟩
        rw [List.append_assoc, List.cons_append, ← List.replicate_succ']
      · rename_i hc
        cases h
        exact ⟨q, c, 0, hc, rfl, rfl⟩
theorem lt_succ {c : UInt8} (h : c ≠ 255) : c < c + 1 := by
  rw [UInt8.lt_iff_toNat_lt, UInt8.toNat_add]
  have : c.toNat < 256 := UInt8.toNat_lt c
  have : c.toNat ≠ 255 := fun q => h (UInt8.toNat_inj.1 q)
  simp
  omega
theorem next_above {s t : List UInt8} (h : nextS s = some t) (more : List UInt8) : ordL (s ++ more) t = -1 := by
  obtain ⟨p, c, j, h1, rfl, rfl⟩ := nextS_form s.length (Nat.le_refl _) h
  rw [List.append_assoc, ordL_app, List.cons_append, ordL, if_pos (lt_succ h1)]
theorem rep_begins : ∀ (j : Nat) (o : List UInt8), 0 ≤ ordL o (List.replicate j 255) → o.take j = List.replicate j 255
  | 0, _, _ => rfl
  | j + 1, [], h => by rw [List.replicate_succ, ordL] at h; omega
  | j + 1, c :: o, h => by
    rw [List.replicate_succ, ordL] at h
    split at h
    · omega
    · rename_i hc
      have hce : c = 255 := by
        apply UInt8.toNat_inj.1
        have h1 : ¬ c.toNat < 255 := fun q => hc (UInt8.lt_iff_toNat_lt.2 q)
        have : c.toNat < 256 := UInt8.toNat_lt c
        show c.toNat = 255
        omega
      subst hce
      rw [if_neg (UInt8.lt_irrefl _)] at h
      rw [List.take_succ_cons, List.replicate_succ, rep_begins j o h]
theorem next_least {s t : List UInt8} (h : nextS s = some t) (o : List UInt8) (h1 : ordL o t < 0) (h2 : 0 ≤ ordL o s) : o.take s.length = s := by
  obtain ⟨p, c, j, hc, rfl, rfl⟩ := nextS_form s.length (Nat.le_refl _) h
  clear h
  induction p generalizing o with
  | nil =>
    cases o with
    | nil => simp [ordL] at h2
    | cons d o =>
      simp only [List.nil_append, ordL] at h1 h2
      split at h2
      · omega
      · rename_i g1
        have hd : d = c := by
          split at h1
          · rename_i g2
            apply UInt8.toNat_inj.1
            have e1 : ¬ d.toNat < c.toNat := fun q => g1 (UInt8.lt_iff_toNat_lt.2 q)
            have e2 := UInt8.lt_iff_toNat_lt.1 g2
            rw [UInt8.toNat_add] at e2
            have : c.toNat < 256 := UInt8.toNat_lt c
            have : (1 : UInt8).toNat = 1 := rfl
            omega
          · split at h1
            · omega
            · have := ordL_nil o
              omega
        subst hd
        rw [if_neg (UInt8.lt_irrefl _)] at h2
        simp only [List.nil_append, List.length_cons, List.take_succ_cons, List.length_replicate]
        rw [rep_begins j o h2]
  | cons a p ih =>
    cases o with
    | nil => simp [ordL] at h2
    | cons d o =>
      simp only [List.cons_append, ordL] at h1 h2
      split at h2
      · omega
      · rename_i g1
        split at h1
        · exact absurd (by assumption) g1
        · split at h1
          · omega
          · rename_i g2
            rw [if_neg g2] at h2
            have hd : d = a := by
              apply UInt8.toNat_inj.1
              have e1 : ¬ d.toNat < a.toNat := fun q => g1 (UInt8.lt_iff_toNat_lt.2 q)
              have e2 : ¬ a.toNat < d.toNat := fun q => g2 (UInt8.lt_iff_toNat_lt.2 q)
              omega
            subst hd
            simp only [List.cons_append, List.length_cons, List.take_succ_cons]
            rw [ih o h2 h1]
end Hx
