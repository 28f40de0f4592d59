/-
  HxU03n: 'Cut' of chapter 03, the program's and the document's.
-/
import Derived.Test.YtoebkifmgeeogaaDoorHxU03m
namespace Hx
open Go
set_option linter.unusedSimpArgs false
set_option maxHeartbeats 1000000
variable {E : Env}
attribute [-simp] List.getD_eq_getElem?_getD getElem?_pos
def IsCut (s : List UInt8) (most : Int) (t : List UInt8) : Prop := (signs s = none ∧ t = []) ∨ ((signs s).isSome = true ∧ ∃ e, Best s most e ∧ t = s.take e)
theorem isCut_one {s : List UInt8} {most : Int} {t t' : List UInt8} (h : IsCut s most t) (h' : IsCut s most t') : t = t' := by
  rcases h with ⟨h1, rfl⟩ | ⟨h1, e, h2, rfl⟩ <;> rcases h' with ⟨g1, rfl⟩ | ⟨g1, e', g2, rfl⟩
  · rfl
  · rw [h1] at g1; cases g1
  · rw [g1] at h1; cases h1
  · rw [best_one h2 g2]
theorem cutFar_next {s : List UInt8} {most : Int} {i e : Nat} {n size : Int} (h : CutFar s most i e) (hi : i < s.length) (hr : readU (s.drop i) = some (n, size)) :
    CutFar s most (i + size.toNat) (if (i : Int) ≤ most ∧ e < i then i else e) := by
  obtain ⟨h1, h2, h3, h4⟩ := h
  obtain ⟨g1, g2⟩ := mark_step h2 hr
  obtain ⟨z1, z2, _⟩ := readU_size hr
  rw [List.length_drop] at z2
  refine ⟨by omega, g1, fun hm => ?_, fun hm => ?_⟩
  · have := h3 hm
    rw [if_neg (by omega), this]
  · obtain ⟨p1, p2, p3⟩ := h4 hm
    by_cases c : (i : Int) ≤ most ∧ e < i
    · rw [if_pos c]
      refine ⟨by omega, .inr ⟨h2, c.1⟩, fun j hj hjm hjl => ?_⟩
      rcases Nat.lt_or_ge i j with q | q
      · exact absurd hjm (g2 j q hj)
      · exact q
    · rw [if_neg c]
      refine ⟨by omega, p2, fun j hj hjm hjl => ?_⟩
      rcases Nat.lt_trichotomy j i with q | q | q
      · exact p3 j q hjm hjl
      · subst q
        rcases Nat.lt_or_ge e j with w | w
        · exact absurd ⟨hjl, w⟩ c
        · exact w
      · exact absurd hjm (g2 j q hj)
theorem cutFar_end {s : List UInt8} {most : Int} {e : Nat} (h : CutFar s most s.length e) : Best s most e := by
  obtain ⟨h1, h2, h3, h4⟩ := h
  by_cases hm : (s.length : Int) ≤ most
  · have := h3 hm
    subst this
    exact ⟨Nat.le_refl _, .inr ⟨h2, hm⟩, fun j hj _ _ => hj⟩
  · obtain ⟨p1, p2, p3⟩ := h4 (by omega)
    refine ⟨p1, p2, fun j hj hjm hjl => p3 j (by omega) hjm hjl⟩
theorem utf_Cut (u : W03 E) (s : List UInt8) (hs : (s.length : Int) ≤ 1000000000000) (most : Int) (k : Nat) (hk : s.length + 9 ≤ k) (m : Mem) :
    ∃ t, denF E (k + 1) 6 [.p (.str s), .p (.int .i64 most)] m = some (.ret (.p (.str t)), m) ∧ IsCut s most t := by
  obtain ⟨k, rfl⟩ : ∃ j, k = j + 1 := ⟨k - 1, by omega⟩
  have h0 : CutFar s most 0 (if (s.length : Int) ≤ most then s.length else 0) := by
    refine ⟨Nat.zero_le _, mark_0 s, fun h => by rw [if_pos h], fun h => ?_⟩
    rw [if_neg (by omega)]
    exact ⟨Nat.le_refl _, .inl rfl, fun j hj => absurd hj (Nat.not_lt_zero _)⟩
  obtain ⟨b, m', hw, hb⟩ := utf_walk u s (by omega) 20 [.ptr 0 0, .ptr 1 0] k (by omega) (fun i m => ∃ acc e, SoFar s i acc ∧ CutFar s most i e ∧ m = [.cells [.p (.int .i64 most)], .cells [.p (.int .i64 (e : Nat))]])
    (by
      rintro i n size m hi ⟨acc, e, hf, hc, rfl⟩ hr
      obtain ⟨k, rfl⟩ : ∃ j, k = j + 1 := ⟨k - 1, by omega⟩
      refine ⟨_, utf_Cut1 u k i most e _, acc ++ [n], _, soFar_next hf hi hr, cutFar_next hc hi hr, ?_⟩
      by_cases c : (i : Int) ≤ most ∧ e < i
      · rw [if_pos c, if_pos (by omega)]
      · rw [if_neg c, if_neg (by omega)])
    [.cells [.p (.int .i64 most)], .cells [.p (.int .i64 ((if (s.length : Int) ≤ most then s.length else 0 : Nat) : Int))]] ⟨[], _, soFar_0 s, h0, rfl⟩
  have fin : ∃ t, IsCut s most t ∧ ∃ e, b = true ∧ t = s.take e ∧ e ≤ s.length ∧ m' = [.cells [.p (.int .i64 most)], .cells [.p (.int .i64 (e : Nat))]] ∨ IsCut s most t ∧ b = false ∧ t = [] := by
    rcases hb with ⟨rfl, acc, e, hf, hc, rfl⟩ | ⟨rfl, i, hi, hr, acc, e, hf, hc, rfl⟩
    · have hc' := cutFar_end hc
      refine ⟨s.take e, ?_⟩
      exact ⟨.inr ⟨by rw [soFar_end hf]; rfl, e, hc', rfl⟩, e, .inl ⟨rfl, rfl, hc'.1, rfl⟩⟩
    · exact ⟨[], .inl ⟨soFar_bad hf hi hr, rfl⟩, 0, .inr ⟨.inl ⟨soFar_bad hf hi hr, rfl⟩, rfl, rfl⟩⟩
  obtain ⟨t, ht, e, hq⟩ := fin
  refine ⟨t, denF_wp u.cut rfl (args' := [.p (.str s), .p (.int .i64 most)]) rfl ?_, ht⟩
  by_cases hm : (s.length : Int) ≤ most
  · rw [if_pos hm] at hw
    rcases hq with ⟨rfl, rfl, he, rfl⟩ | ⟨_, rfl, rfl⟩
    · simp [Fn.f_utf_Cut, hm, hw, he]
    · simp [Fn.f_utf_Cut, hm, hw]
  · rw [if_neg hm, show ((0 : Nat) : Int) = 0 from rfl] at hw
    rcases hq with ⟨rfl, rfl, he, rfl⟩ | ⟨_, rfl, rfl⟩
    · simp [Fn.f_utf_Cut, hm, hw, he]
    · simp [Fn.f_utf_Cut, hm, hw]
theorem ref_Cut (u : W03 E) (s : List UInt8) (hs : (s.length : Int) ≤ 1000000000000) (most : Int) (k : Nat) (hk : s.length + 11 ≤ k) (m : Mem) :
    ∃ t, denF E (k + 1) 7 [.p (.str s), .p (.int .i64 most)] m = some (.ret (.p (.str t)), m) ∧ IsCut s most t := by
  have hR := fun m => ref_Right u s hs (k - 1) (by omega) m
  rw [show k - 1 + 1 = k by omega] at hR
  cases h : signs s with
  | none =>
    rw [h] at hR
    refine ⟨[], denF_wp u.rCut rfl (args' := [.p (.str s), .p (.int .i64 most)]) rfl ?_, .inl ⟨h, rfl⟩⟩
    simp [Fn.f_haulageref03_Cut, hR]
  | some l =>
  rw [h] at hR
  have hsome : (signs s).isSome = true := by rw [h]; rfl
  suffices hq : Wp (iter (loopF E (denF E k) k Fn.f_haulageref03_Cut_k0 Fn.f_haulageref03_Cut_b0) k ⟨[.p (.str s), .p (.int .i64 most), .tup [], .tup [], .p (.str []), .p (.int .i64 s.length), .p (.str s), .p (.bool true), .p (.bool false), .p (.str s), .p (.int .i64 s.length)] ++ List.replicate 16 (.tup []), [], []⟩)
      (fun e st => ∃ t, Best s most t ∧ st.ds = [] ∧ ((e = .exit 0 ∧ t = 0 ∧ 5 ≤ st.ts.length) ∨ (e = .ret ∧ st.ts.getD 4 (.tup []) = .p (.str (s.take t))))) by
    obtain ⟨e, st, h1, t, ht, hd, h2⟩ := hq
    refine ⟨s.take t, denF_wp u.rCut rfl (args' := [.p (.str s), .p (.int .i64 most)]) rfl ?_, .inr ⟨hsome, t, ht, rfl⟩⟩
    simp only [List.replicate, List.cons_append, List.nil_append] at h1
    simp [Fn.f_haulageref03_Cut, hR, h1]
    rcases h2 with ⟨rfl, rfl, h2⟩ | ⟨rfl, h2⟩
    · obtain ⟨ts, m', ds⟩ := st
      simp only at hd h2
      match ts, h2 with
      | t0 :: t1 :: t2 :: t3 :: t4 :: r, _ => simp [hd]
    · simp [hd, h2]
  refine loop_wp (α := Nat) (I := fun i st => i ≤ s.length ∧ (∀ j, i < j → j ≤ s.length → mark s j → ¬ (j : Int) ≤ most) ∧ Live Fn.f_haulageref03_Cut_k0 (Fn.f_haulageref03_Cut_s0 (.p (.str s)) (.p (.int .i64 most)) (.p (.int .i64 i))) [] st) (meas := fun i => i) ?_ k s.length _ ⟨Nat.le_refl _, fun j h1 h2 => absurd h1 (by omega), rfl, rfl, rfl, rfl⟩ (by omega)
  rintro i st ⟨hi, hj, hlive⟩
  rw [loopF_live hlive]
  by_cases h0 : (0 : Int) < i
  · have h0n : 0 < i := by omega
    have hw : IntKind.i64.wrap ((i : Int) - 1) = ((i - 1 : Nat) : Int) := by rw [wrap_i64 (by omega) (by omega)]; omega
    by_cases h1 : (i : Int) ≤ most
    · have hR2 := fun m => ref_Right u (s.take i) (by rw [List.length_take]; omega) (k - 1) (by rw [List.length_take]; omega) m
      rw [show k - 1 + 1 = k by omega] at hR2
      cases hm : (signs (s.take i)).isSome with
      | true =>
        rw [hm] at hR2
        simp [Fn.f_haulageref03_Cut_b0, Fn.f_haulageref03_Cut_s0, h0, h0n, h1, hi, hR2]
        exact ⟨i, ⟨hi, .inr ⟨hm, h1⟩, fun j q1 q2 q3 => by
          rcases Nat.lt_or_ge i j with w | w
          · exact absurd q3 (hj j w q1 q2)
          · exact w⟩, by omega⟩
      | false =>
        rw [hm] at hR2
        simp [Fn.f_haulageref03_Cut_b0, Fn.f_haulageref03_Cut_s0, h0, h0n, h1, hi, hR2, hw]
        refine ⟨i - 1, by omega, by omega, fun j q1 q2 q3 => ?_, rfl, rfl, rfl, rfl⟩
        rcases Nat.lt_or_ge i j with w | w
        · have := hj j w q2 q3; omega
        · have : j = i := by omega
          subst this
          unfold mark at q3
          rw [hm] at q3; cases q3
    · simp [Fn.f_haulageref03_Cut_b0, Fn.f_haulageref03_Cut_s0, h0, h0n, h1, hw]
      refine ⟨i - 1, by omega, by omega, fun j q1 q2 q3 => ?_, rfl, rfl, rfl, rfl⟩
      rcases Nat.lt_or_ge i j with w | w
      · have := hj j w q2 q3; omega
      · have : j = i := by omega
        subst this
        omega
  · have : i = 0 := by omega
    subst this
    simp [Fn.f_haulageref03_Cut_b0, Fn.f_haulageref03_Cut_s0]
    exact ⟨Nat.zero_le _, .inl rfl, fun j q1 q2 q3 => by
      rcases Nat.lt_or_ge 0 j with w | w
      · exact absurd q3 (hj j w q1 q2)
      · exact w⟩
end Hx
