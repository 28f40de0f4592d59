/-
  HxU06e: what widening does to a value.
-/
import Derived.Test.YtompbjamfhkgfaaDoorHxU06d
namespace Hx
open Go
set_option linter.unusedSimpArgs false
set_option linter.unusedVariables false
set_option maxHeartbeats 8000000
variable {E : Env}
attribute [-simp] List.getD_eq_getElem?_getD getElem?_pos
theorem ascii_signs : ∀ (k : Nat) (t : List UInt8), t.length ≤ k → (∀ c ∈ t, c.toNat < 128) → (signs t).isSome = true
  | 0, t, hk, h => by
    have : t = [] := List.length_eq_zero_iff.1 (by omega)
    subst this
    rfl
  | k + 1, [], hk, h => rfl
  | k + 1, c :: r, hk, h => by
    have hc : c.toNat < 128 := h c (by simp)
    have hu : utf8 (c.toNat : Int) = [c] := by
      rw [utf8_1 (by omega), byte_self]
    have hr := readU_utf8 (n := (c.toNat : Int)) (by rw [isSign_iff]; omega) r
    rw [hu] at hr
    have hr' : readU (c :: r) = some ((c.toNat : Int), 1) := hr
    rw [signs_step (by simp), hr']
    have := ascii_signs k r (by simpa using hk) (fun x hx => h x (List.mem_cons_of_mem _ hx))
    have hd : (c :: r).drop (1 : Int).toNat = r := rfl
    simp only [hd]
    cases hq : signs r with
    | none => rw [hq] at this; cases this
    | some l => rfl
def castN (b n : Int) : Int := if b < 3 then n else 0
def castT (a n : Int) (s : List UInt8) (b : Int) : List UInt8 := if b < 3 then [] else castS a n s
theorem castS_len {a ma n : Int} {s : List UInt8} {bk bm : Int} (hn : isI64 n) (hw : wideT bk bm a ma = true) (hf : fitsT a ma a n s = true) (hb : ¬ bk < 3) : ((castS a n s).length : Int) ≤ bm := by
  rw [wide_iff] at hw
  obtain ⟨w1, w2, w3, w4⟩ := hw
  unfold fitsT at hf
  simp only [Bool.and_eq_true] at hf
  obtain ⟨⟨⟨f1, f2⟩, _⟩, f4⟩ := hf
  have hb' : bk = 3 ∨ bk = 4 := by rcases right_cases w1 with ⟨rfl, _⟩ | ⟨rfl, _⟩ | ⟨rfl, _⟩ | ⟨rfl, _⟩ <;> omega
  have w4 := w4 hb'
  unfold castS
  rcases right_cases w2 with ⟨rfl, rfl⟩ | ⟨rfl, rfl⟩ | ⟨rfl, _⟩ | ⟨rfl, _⟩
  · rw [need_1] at w4
    rw [if_neg (by omega)]
    rcases rightV_cases f2 with h | ⟨_, _, h⟩ | h | h | h <;> try omega
    unfold fits32 at h
    have h := of_decide_eq_true h
    have := digits_32 h.1 h.2
    omega
  · rw [need_2] at w4
    rw [if_neg (by omega)]
    have := digits_64 hn.1 hn.2
    omega
  · rw [need_3] at w4
    rw [if_pos (by omega)]
    simp [longT] at f4
    omega
  · rw [need_4] at w4
    rw [if_pos (by omega)]
    simp [longT] at f4
    omega
theorem rightV_of {k n : Int} {s : List UInt8} (h : (k = 0 ∧ n = 0 ∧ s = []) ∨ (k = 1 ∧ s = [] ∧ fits32 n = true) ∨ (k = 2 ∧ s = []) ∨ (k = 3 ∧ n = 0 ∧ s.length ≤ 120 ∧ (signs s).isSome = true) ∨ (k = 4 ∧ n = 0 ∧ s.length ≤ 120)) : rightV k n s = true := by
  rcases h with ⟨rfl, rfl, rfl⟩ | ⟨rfl, rfl, h⟩ | ⟨rfl, rfl⟩ | ⟨rfl, rfl, h1, h2⟩ | ⟨rfl, rfl, h1⟩ <;> simp_all [rightV]
theorem cast_fits {a ma n : Int} {s : List UInt8} {bk bm : Int} (hn : isI64 n) (hw : wideT bk bm a ma = true) (hf : fitsT a ma a n s = true) : rightV bk (castN bk n) (castT a n s bk) = true ∧ fitsT bk bm bk (castN bk n) (castT a n s bk) = true := by
  have hlen := castS_len hn hw hf
  have hw0 := hw
  rw [wide_iff] at hw
  obtain ⟨w1, w2, w3, w4⟩ := hw
  unfold fitsT at hf
  simp only [Bool.and_eq_true] at hf
  obtain ⟨⟨⟨f1, f2⟩, _⟩, f4⟩ := hf
  have hr : rightV bk (castN bk n) (castT a n s bk) = true := by
    apply rightV_of
    by_cases hb : bk < 3
    · unfold castN castT
      rw [if_pos hb, if_pos hb]
      rcases right_cases w1 with ⟨rfl, rfl⟩ | ⟨rfl, rfl⟩ | ⟨rfl, _⟩ | ⟨rfl, _⟩ <;> try omega
      · have : a = 1 := by rcases right_cases w2 with ⟨rfl, _⟩ | ⟨rfl, _⟩ | ⟨rfl, _⟩ | ⟨rfl, _⟩ <;> omega
        subst this
        rcases rightV_cases f2 with h | ⟨_, _, h⟩ | h | h | h <;> try omega
        exact .inr (.inl ⟨rfl, rfl, h⟩)
      · exact .inr (.inr (.inl ⟨rfl, rfl⟩))
    · have hl := hlen hb
      unfold castN castT
      rw [if_neg hb, if_neg hb]
      rcases right_cases w1 with ⟨rfl, rfl⟩ | ⟨rfl, rfl⟩ | ⟨rfl, _⟩ | ⟨rfl, _⟩ <;> try omega
      · refine .inr (.inr (.inr (.inl ⟨rfl, rfl, by omega, ?_⟩)))
        unfold castS
        split
        · rcases rightV_cases f2 with h | h | h | h | h <;> try omega
          exact h.2.2.2
        · exact ascii_signs _ _ (Nat.le_refl _) fun c hc => digits_mem hc
  refine ⟨hr, ?_⟩
  unfold fitsT
  rw [w1, hr]
  simp only [Bool.true_and, decide_true, Bool.and_true]
  by_cases hb : bk < 3
  · have : longT bk = false := by unfold longT; simp; omega
    rw [this]
    try rfl
  · have hl := hlen hb
    have : castT a n s bk = castS a n s := by unfold castT; rw [if_neg hb]
    rw [this, decide_eq_true hl, Bool.or_true]
theorem cast_ok {a ma n : Int} {s : List UInt8} {bk bm : Int} (hn : isI64 n) (hw : wideT bk bm a ma = true) (hf : fitsT a ma a n s = true) : castV a n s bk bm = castR bk (castN bk n) (castT a n s bk) 0 := by
  have hlen := castS_len hn hw hf
  rw [wide_iff] at hw
  obtain ⟨w1, w2, w3, w4⟩ := hw
  unfold fitsT at hf
  simp only [Bool.and_eq_true] at hf
  obtain ⟨⟨⟨f1, f2⟩, _⟩, f4⟩ := hf
  have ha : a ≠ 0 := by rcases right_cases w2 with ⟨rfl, _⟩ | ⟨rfl, _⟩ | ⟨rfl, _⟩ | ⟨rfl, _⟩ <;> omega
  unfold castV castN castT
  rw [f2, w1, Bool.and_self, if_pos rfl, if_neg ha, if_neg (by omega)]
  by_cases hb : bk < 3
  · rw [if_pos hb, if_pos hb, if_pos hb]
  · have := hlen hb
    rw [if_neg hb, if_neg hb, if_neg hb, if_neg (by omega)]
theorem cast_one {a ma n n' : Int} {s s' : List UInt8} {bk bm : Int} (hw : wideT bk bm a ma = true) (hf : fitsT a ma a n s = true) (hf' : fitsT a ma a n' s' = true) :
    (castN bk n == castN bk n' && castT a n s bk == castT a n' s' bk) = (n == n' && s == s') := by
  rw [wide_iff] at hw
  obtain ⟨w1, w2, w3, w4⟩ := hw
  unfold fitsT at hf hf'
  simp only [Bool.and_eq_true] at hf hf'
  have f2 := hf.1.1.2
  have f2' := hf'.1.1.2
  rw [Bool.eq_iff_iff]
  simp only [Bool.and_eq_true, beq_iff_eq]
  unfold castN castT castS
  rcases right_cases w2 with ⟨rfl, rfl⟩ | ⟨rfl, rfl⟩ | ⟨rfl, _⟩ | ⟨rfl, _⟩
  · rcases rightV_cases f2 with h | ⟨_, rfl, h⟩ | h | h | h <;> try omega
    rcases rightV_cases f2' with h | ⟨_, rfl, h⟩ | h | h | h <;> try omega
    by_cases hb : bk < 3
    · simp [hb]
    · simp only [if_neg hb, true_and, and_true]
      rw [if_neg (by omega), if_neg (by omega)]
      exact ⟨digits_inj, fun h => by rw [h]⟩
  · rcases rightV_cases f2 with h | h | ⟨_, rfl⟩ | h | h <;> try omega
    rcases rightV_cases f2' with h | h | ⟨_, rfl⟩ | h | h <;> try omega
    by_cases hb : bk < 3
    · simp [hb]
    · simp only [if_neg hb, true_and, and_true]
      rw [if_neg (by omega), if_neg (by omega)]
      exact ⟨digits_inj, fun h => by rw [h]⟩
  · rcases rightV_cases f2 with h | h | h | ⟨_, rfl, _⟩ | h <;> try omega
    rcases rightV_cases f2' with h | h | h | ⟨_, rfl, _⟩ | h <;> try omega
    have hb : ¬ bk < 3 := by omega
    simp [hb]
  · rcases rightV_cases f2 with h | h | h | h | ⟨_, rfl, _⟩ <;> try omega
    rcases rightV_cases f2' with h | h | h | h | ⟨_, rfl, _⟩ <;> try omega
    have hb : ¬ bk < 3 := by omega
    simp [hb]
theorem cast_on {a ma n : Int} {s : List UInt8} {bk bm ck cm : Int} (hw : wideT bk bm a ma = true) (hc : wideT ck cm bk bm = true) :
    castN ck (castN bk n) = castN ck n ∧ castT bk (castN bk n) (castT a n s bk) ck = castT a n s ck := by
  rw [wide_iff] at hw hc
  obtain ⟨w1, w2, w3, w4⟩ := hw
  obtain ⟨c1, _, c3, c4⟩ := hc
  unfold castN castT castS
  by_cases hck : ck < 3
  · have hb : bk < 3 := by omega
    simp [hck, hb]
  · by_cases hb : bk < 3
    · have h1 : ¬ (bk = 3 ∨ bk = 4) := by omega
      have h2 : ¬ (a = 3 ∨ a = 4) := by omega
      simp [hck, hb, h1, h2]
    · have h1 : bk = 3 ∨ bk = 4 := by rcases right_cases w1 with ⟨rfl, _⟩ | ⟨rfl, _⟩ | ⟨rfl, _⟩ | ⟨rfl, _⟩ <;> omega
      simp [hck, hb, h1]
end Hx
