/-
  HxM06: types of columns, and which of two is as wide: plain laws.
-/
namespace Hx
def rightT (k m : Int) : Bool := if k = 1 ∨ k = 2 then decide (m = 0) else if k = 3 ∨ k = 4 then decide (1 ≤ m ∧ m ≤ 120) else false
def needT (k m : Int) : Int := if k = 3 ∨ k = 4 then m else if k = 1 then 11 else 20
def wideT (k m k' m' : Int) : Bool := rightT k m && rightT k' m' && decide (k' ≤ k) && (if k = 3 ∨ k = 4 then decide (needT k' m' ≤ m) else true)
def joinM (k m k' m' : Int) : Int := if max k k' = 3 ∨ max k k' = 4 then max (needT k m) (needT k' m') else 0
theorem right_cases {k m : Int} (h : rightT k m = true) : (k = 1 ∧ m = 0) ∨ (k = 2 ∧ m = 0) ∨ (k = 3 ∧ 1 ≤ m ∧ m ≤ 120) ∨ (k = 4 ∧ 1 ≤ m ∧ m ≤ 120) := by
  unfold rightT at h
  split at h
  · have := of_decide_eq_true h
    omega
  · split at h
    · have := of_decide_eq_true h
      omega
    · cases h
theorem wide_iff {k m k' m' : Int} : wideT k m k' m' = true ↔ rightT k m = true ∧ rightT k' m' = true ∧ k' ≤ k ∧ (k = 3 ∨ k = 4 → needT k' m' ≤ m) := by
  unfold wideT
  by_cases h : k = 3 ∨ k = 4
  · simp only [if_pos h, Bool.and_eq_true, decide_eq_true_eq]
    constructor
    · rintro ⟨⟨⟨a, b⟩, c⟩, d⟩; exact ⟨a, b, c, fun _ => d⟩
    · rintro ⟨a, b, c, d⟩; exact ⟨⟨⟨a, b⟩, c⟩, d h⟩
  · simp only [if_neg h, Bool.and_eq_true, decide_eq_true_eq]
    constructor
    · rintro ⟨⟨⟨a, b⟩, c⟩, d⟩; exact ⟨a, b, c, fun q => absurd q h⟩
    · rintro ⟨a, b, c, d⟩; exact ⟨⟨⟨a, b⟩, c⟩, trivial⟩
theorem need_1 (m : Int) : needT 1 m = 11 := by simp [needT]
theorem need_2 (m : Int) : needT 2 m = 20 := by simp [needT]
theorem need_3 (m : Int) : needT 3 m = m := by simp [needT]
theorem need_4 (m : Int) : needT 4 m = m := by simp [needT]
theorem wide_refl {k m : Int} : wideT k m k m = rightT k m := by
  rw [Bool.eq_iff_iff, wide_iff]
  constructor
  · exact fun h => h.1
  · intro h
    refine ⟨h, h, Int.le_refl _, fun q => ?_⟩
    rcases right_cases h with ⟨rfl, _⟩ | ⟨rfl, _⟩ | ⟨rfl, _⟩ | ⟨rfl, _⟩ <;> simp only [need_1, need_2, need_3, need_4] <;> omega
theorem wide_anti {k m k' m' : Int} (h : wideT k m k' m' = true) (g : wideT k' m' k m = true) : k = k' ∧ m = m' := by
  rw [wide_iff] at h g
  obtain ⟨h1, h2, h3, h4⟩ := h
  obtain ⟨_, _, g3, g4⟩ := g
  have : k = k' := by omega
  subst this
  refine ⟨rfl, ?_⟩
  rcases right_cases h1 with ⟨rfl, _⟩ | ⟨rfl, _⟩ | ⟨rfl, _⟩ | ⟨rfl, _⟩ <;> rcases right_cases h2 with ⟨q, _⟩ | ⟨q, _⟩ | ⟨q, _⟩ | ⟨q, _⟩ <;> simp [need_1, need_2, need_3, need_4] at h4 g4 <;> omega
theorem wide_trans {k m k' m' k'' m'' : Int} (h : wideT k m k' m' = true) (g : wideT k' m' k'' m'' = true) : wideT k m k'' m'' = true := by
  rw [wide_iff] at h g ⊢
  obtain ⟨h1, h2, h3, h4⟩ := h
  obtain ⟨_, g2, g3, g4⟩ := g
  refine ⟨h1, g2, by omega, fun q => ?_⟩
  have h4 := h4 q
  rcases right_cases h2 with ⟨rfl, _⟩ | ⟨rfl, _⟩ | ⟨rfl, _⟩ | ⟨rfl, _⟩ <;> rcases right_cases g2 with ⟨rfl, _⟩ | ⟨rfl, _⟩ | ⟨rfl, _⟩ | ⟨rfl, _⟩ <;> simp [need_1, need_2, need_3, need_4] at h4 g4 ⊢ <;> omega
theorem right_of {k m : Int} (h : (k = 1 ∧ m = 0) ∨ (k = 2 ∧ m = 0) ∨ (k = 3 ∧ 1 ≤ m ∧ m ≤ 120) ∨ (k = 4 ∧ 1 ≤ m ∧ m ≤ 120)) : rightT k m = true := by
  unfold rightT
  rcases h with ⟨rfl, rfl⟩ | ⟨rfl, rfl⟩ | ⟨rfl, h⟩ | ⟨rfl, h⟩ <;> simp_all
theorem join_right {k m k' m' : Int} (h : rightT k m = true) (g : rightT k' m' = true) : rightT (max k k') (joinM k m k' m') = true := by
  apply right_of
  unfold joinM
  rcases right_cases h with ⟨rfl, rfl⟩ | ⟨rfl, rfl⟩ | ⟨rfl, _⟩ | ⟨rfl, _⟩ <;> rcases right_cases g with ⟨rfl, rfl⟩ | ⟨rfl, rfl⟩ | ⟨rfl, _⟩ | ⟨rfl, _⟩ <;> simp only [need_1, need_2, need_3, need_4] <;> split <;> omega
theorem join_above {k m k' m' : Int} (h : rightT k m = true) (g : rightT k' m' = true) : wideT (max k k') (joinM k m k' m') k m = true ∧ wideT (max k k') (joinM k m k' m') k' m' = true := by
  have hr := join_right h g
  rw [wide_iff, wide_iff]
  refine ⟨⟨hr, h, by omega, fun q => ?_⟩, ⟨hr, g, by omega, fun q => ?_⟩⟩ <;> rw [joinM, if_pos q] <;> omega
theorem join_least {k m k' m' k'' m'' : Int} (h : wideT k'' m'' k m = true) (g : wideT k'' m'' k' m' = true) : wideT k'' m'' (max k k') (joinM k m k' m') = true := by
  rw [wide_iff] at h g ⊢
  obtain ⟨h1, h2, h3, h4⟩ := h
  obtain ⟨_, g2, g3, g4⟩ := g
  refine ⟨h1, join_right h2 g2, by omega, fun q => ?_⟩
  have h4 := h4 q
  have g4 := g4 q
  unfold joinM
  rcases right_cases h2 with ⟨rfl, rfl⟩ | ⟨rfl, rfl⟩ | ⟨rfl, _⟩ | ⟨rfl, _⟩ <;> rcases right_cases g2 with ⟨rfl, rfl⟩ | ⟨rfl, rfl⟩ | ⟨rfl, _⟩ | ⟨rfl, _⟩ <;> simp [need_1, need_2, need_3, need_4, needT] at h4 g4 ⊢ <;> omega
end Hx
