/-
  HxW03d: the law UtfTexts on the evaluator.
-/
import Derived.Test.YtoebkifmgeeogaaDoorHxW03c
namespace Hx
open Go
set_option linter.unusedSimpArgs false
set_option maxHeartbeats 8000000
variable {E : Env}
attribute [-simp] List.getD_eq_getElem?_getD getElem?_pos
theorem ref_Same (u : W03 E) (v : PV) (l : List Int) (hv : IsInts v l) (hl : l.length ≤ 1000000000) (k : Nat) (hk : l.length + 8 ≤ k) (m : Mem) : denF E (k + 1) 14 [.p v, .p v] m = some (.ret (.p (.bool true)), m) := by
  refine denF_wp u.rSame rfl (args' := [.p v, .p v]) rfl ?_
  have hlen := ints_len hv
  simp [Fn.f_haulageref03_Same, -lenV, hlen]
  refine (loop_wp (α := Nat) (I := fun i st => i ≤ l.length ∧ Live Fn.f_haulageref03_Same_k0 (Fn.f_haulageref03_Same_s0 (.p v) (.p v) (.p (.int .i64 i))) [] st) (meas := fun i => l.length - i)
    (Q := fun e st => e = .exit 0 ∧ st.ds = [] ∧ st.ts.length = 26) ?_ k 0 _ ⟨Nat.zero_le _, rfl, rfl, rfl, rfl⟩ (by omega)).mono ?_
  · rintro i st ⟨hi0, hlive⟩
    rw [loopF_live hlive]
    by_cases hi : i < l.length
    · have hi' : (i : Int) < l.length := by omega
      obtain ⟨n, hn⟩ : ∃ n, l[i]? = some n := ⟨l[i], List.getElem?_eq_getElem hi⟩
      obtain ⟨rfl, hrow⟩ := ints_at hv hn
      have hw : IntKind.i64.wrap ((i : Int) + 1) = i + 1 := wrap_i64 (by omega) (by omega)
      simp [Fn.f_haulageref03_Same_b0, Fn.f_haulageref03_Same_s0, hi, hi', hrow, hw, bne]
      exact ⟨i + 1, by omega, by omega, rfl, rfl, rfl, rfl⟩
    · have hi' : ¬ (i : Int) < l.length := by omega
      simp [Fn.f_haulageref03_Same_b0, Fn.f_haulageref03_Same_s0, -lenV, hlen, hi, hi']
  · rintro e st ⟨rfl, h1, h2⟩
    obtain ⟨ts, m', ds⟩ := st
    simp only at h1 h2
    match ts, h2 with
    | t0 :: t1 :: t2 :: t3 :: t4 :: r, _ => simp [h1]
theorem textV_cases (l : List Int) : ∃ (t : List UInt8) (b : Bool), textV l = .tup [.p (.str t), .p (.bool b)] := by
  unfold textV
  cases textOf l with
  | none => exact ⟨_, _, rfl⟩
  | some t => exact ⟨_, _, rfl⟩
theorem law_UtfTexts (u : W03 E) (h : E.fn 206 = some Fn.f_haulagelaw03_UtfTexts) (k : Nat) (hlv : ∀ m, denF E (k + 119) 0 [] m = some (yes, m)) (s : List UInt8) (hn : s.length ≤ 9223372036854775807) (lv : PV) (l : List Int) (hl : IsInts lv l) (m : Mem) :
    denF E (k + 120) 206 [.p (.str s), .p lv] m = some (yes, m) := by
  rw [denF_pure h rfl]
  have hlen := ints_len hl
  by_cases hs : (100 : Int) < s.length
  · simp (maxSteps := 1000000) [Fn.f_haulagelaw03_UtfTexts, hlv, yes, hs]
  by_cases hls : (60 : Int) < l.length
  · simp (maxSteps := 1000000) [Fn.f_haulagelaw03_UtfTexts, -lenV, hlv, yes, hs, hlen, hls]
  have hRt := fun m => utf_Right u s (by omega) (k + 118) (by omega) m
  have hC := fun m => utf_Count u s (by omega) (k + 118) (by omega) m
  have hS := fun m => utf_Signs u s (by omega) (k + 118) (by omega) m
  have hR := fun m => ref_Signs u s (by omega) (k + 118) (by omega) m
  have hT := fun m => utf_Text u lv l hl (by omega) (k + 118) (by omega) m
  have hU := fun m => ref_Text u lv l hl (by omega) (k + 118) (by omega) m
  obtain ⟨t, b, ht⟩ := textV_cases l
  rw [ht] at hT hU
  cases hsg : signs s with
  | none =>
    have hsame := fun m => ref_Same u .nils [] (.inl ⟨rfl, rfl⟩) (by simp) (k + 118) (by simp) m
    simp only [countOf, signsV, hsg] at hRt hC hS hR
    simp (maxSteps := 1000000) [Fn.f_haulagelaw03_UtfTexts, -lenV, hlv, yes, hs, hlen, hls, hRt, hC, hS, hR, hT, hU, hsame]
  | some q =>
    have hq := isInts_signs hsg
    have hql := signs_len _ (Nat.le_refl _) hsg
    have hqv := ints_len hq
    have hsame := fun m => ref_Same u _ q hq (by omega) (k + 118) (by omega) m
    simp only [countOf, hsg] at hRt hC hR
    generalize signsV s = sv at *
    simp (maxSteps := 1000000) [Fn.f_haulagelaw03_UtfTexts, -lenV, hlv, yes, hs, hlen, hls, hRt, hC, hS, hR, hT, hU, hsame, hqv]
end Hx
