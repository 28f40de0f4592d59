/-
  HxP10w: whether names, texts and values of any length are right.
-/
import Derived.Test.YtifcegbomagcpaaDoorHxRow
import Derived.Test.YtifcegbomagcpaaDoorHxU06j
namespace Hx
open Go
set_option linter.unusedSimpArgs false
set_option linter.unusedVariables false
set_option maxHeartbeats 8000000
set_option maxRecDepth 20000
variable {E : Env}
attribute [-simp] List.getD_eq_getElem?_getD getElem?_pos
theorem utf_walkL (u : R03 E) (s : List UInt8) (hs : (s.length : Int) ≤ 9223372036854775807) (g : Nat) (caps : List AV) (k : Nat) (hk : s.length + 7 ≤ k) (J : Nat → Mem → Prop)
    (hJ : ∀ (at' : Nat) (n size : Int) (m : Mem), at' < s.length → J at' m → readU (s.drop at') = some (n, size) → ∃ m', denF E k g ([.p (.int .i64 at'), .p (.int .i64 n)] ++ caps) m = some (.ret (.tup []), m') ∧ J (at' + size.toNat) m')
    (m : Mem) (h0 : J 0 m) : ∃ b m', denF E (k + 1) 21 [.p (.str s), .fn g caps] m = some (.ret (.p (.bool b)), m') ∧
      ((b = true ∧ J s.length m') ∨ (b = false ∧ ∃ at', at' < s.length ∧ readU (s.drop at') = none ∧ J at' m')) := by
  suffices h : Wp (den E (denF E k) k Fn.f_utf_walk.body ⟨[.p (.str s), .fn g caps] ++ List.replicate 28 (.tup []), m, []⟩) fun e st => ∃ b, leave Fn.f_utf_walk (some (e, st)) = some (.ret (.p (.bool b)), st.m) ∧
      ((b = true ∧ J s.length st.m) ∨ (b = false ∧ ∃ at', at' < s.length ∧ readU (s.drop at') = none ∧ J at' st.m)) by
    obtain ⟨e, st, h1, b, h2, h3⟩ := h
    refine ⟨b, st.m, ?_, h3⟩
    rw [denF_own u.walk rfl]
    exact (congrArg (leave Fn.f_utf_walk) h1).trans h2
  simp [Fn.f_utf_walk]
  refine (loop_wp (α := Nat) (I := fun a st => a ≤ s.length ∧ ∃ m, J a m ∧ Live Fn.f_utf_walk_k0 (Fn.f_utf_walk_s0 (.p (.str s)) (.fn g caps) (.p (.int .i64 a))) m st) (meas := fun a => s.length - a)
    (Q := fun e st => (e = .exit 0 ∧ st.ds = [] ∧ J s.length st.m ∧ st.ts.length = 30) ∨ (e = .ret ∧ st.ds = [] ∧ st.ts.getD 4 (.tup []) = .p (.bool false) ∧ ∃ at', at' < s.length ∧ readU (s.drop at') = none ∧ J at' st.m)) ?_ k 0 _ ⟨Nat.zero_le _, m, h0, rfl, rfl, rfl, rfl⟩ (by omega)).mono ?_
  · rintro a st ⟨ha, m, hj, hl⟩
    rw [loopF_live hl]
    by_cases h1 : a < s.length
    · have h2 : (a : Int) < s.length := by omega
      have hR := fun m => utf_Read u.toV03 (k - 6) (s.drop a) m
      rw [show k - 6 + 6 = k by omega] at hR
      cases r : readU (s.drop a) with
      | none =>
        rw [r] at hR
        simp [Fn.f_utf_walk_b0, Fn.f_utf_walk_s0, h1, h2, hR, readV, ha]
        exact ⟨a, h1, r, hj⟩
      | some p =>
        obtain ⟨n, size⟩ := p
        rw [r] at hR
        obtain ⟨m', hc, hj'⟩ := hJ a n size m h1 hj r
        obtain ⟨z1, z2, z3⟩ := readU_size r
        rw [List.length_drop] at z2
        have hw : IntKind.i64.wrap ((a : Int) + size) = a + size := wrap_i64 (by omega) (by omega)
        simp only [List.cons_append, List.nil_append] at hc
        simp [Fn.f_utf_walk_b0, Fn.f_utf_walk_s0, h1, h2, hR, readV, ha, hc, hw]
        refine ⟨a + size.toNat, by omega, by omega, m', hj', rfl, ?_, rfl, rfl⟩
        simp [keep, Fn.f_utf_walk_k0]
        omega
    · have h2 : ¬ (a : Int) < s.length := by omega
      have : a = s.length := by omega
      subst this
      simp [Fn.f_utf_walk_b0, Fn.f_utf_walk_s0]
      exact hj
  · rintro e st (⟨rfl, h1, h2, h3⟩ | ⟨rfl, h1, h2, at', h3, h4, h5⟩)
    · obtain ⟨ts, m', ds⟩ := st
      simp only at h1 h2 h3
      match ts, h3 with
      | _ :: _ :: _ :: _ :: _ :: _, _ =>
        simp [h1]
        exact h2
    · simp [h1, h2]
      exact ⟨at', h3, h4, h5⟩
theorem utf_Count1L (u : R03 E) (k : Nat) (a n : AV) (c : Int) (h0 : 0 ≤ c) (h1 : c ≤ 9223372036854775806) : denF E (k + 1) 23 [a, n, .ptr 0 0] [.cells [.p (.int .i64 c)]] = some (.ret (.tup []), [.cells [.p (.int .i64 (c + 1))]]) := by
  refine denF_wp_own u.count1 rfl ?_
  have w : IntKind.i64.wrap (c + 1) = c + 1 := wrap_i64 (by omega) (by omega)
  simp [Fn.f_utf_Count_1, w]
theorem utf_CountL (u : R03 E) (s : List UInt8) (hs : (s.length : Int) ≤ 9223372036854775807) (k : Nat) (hk : s.length + 8 ≤ k) (m : Mem) : denF E (k + 1) 12 [.p (.str s)] m = some (.ret (.p (.int .i64 (countOf s))), m) := by
  obtain ⟨k, rfl⟩ : ∃ j, k = j + 1 := ⟨k - 1, by omega⟩
  refine denF_wp u.count rfl (args' := [.p (.str s)]) rfl ?_
  obtain ⟨b, m', hw, hb⟩ := utf_walkL u s (by omega) 23 [.ptr 0 0] k (by omega) (fun at' m => ∃ acc, SoFar s at' acc ∧ m = [.cells [.p (.int .i64 acc.length)]])
    (by
      rintro at' n size m ha ⟨acc, hf, rfl⟩ hr
      have := hf.1
      have := hf.2.1
      obtain ⟨k, rfl⟩ : ∃ j, k = j + 1 := ⟨k - 1, by omega⟩
      refine ⟨_, utf_Count1L u k _ _ _ (by omega) (by omega), acc ++ [n], soFar_next hf ha hr, by simp⟩)
    [.cells [.p (.int .i64 0)]] ⟨[], soFar_0 s, rfl⟩
  rcases hb with ⟨rfl, acc, hf, rfl⟩ | ⟨rfl, at', ha, hr, acc, hf, rfl⟩
  · simp [Fn.f_utf_Count, hw, countOf, soFar_end hf]
  · simp [Fn.f_utf_Count, hw, countOf, soFar_bad hf ha hr]
theorem utf_RightL (u : R03 E) (s : List UInt8) (hs : (s.length : Int) ≤ 9223372036854775807) (k : Nat) (hk : s.length + 9 ≤ k) (m : Mem) : denF E (k + 1) 11 [.p (.str s)] m = some (.ret (.p (.bool (signs s).isSome)), m) := by
  obtain ⟨k, rfl⟩ : ∃ j, k = j + 1 := ⟨k - 1, by omega⟩
  refine denF_wp u.right rfl (args' := [.p (.str s)]) rfl ?_
  have hC := fun m => utf_CountL u s hs k (by omega) m
  cases h : signs s with
  | none => simp [Fn.f_utf_Right, hC, countOf, h]
  | some l => simp [Fn.f_utf_Right, hC, countOf, h]
theorem value_RightL (u : V06 E) (a n : Int) (s : List UInt8) (hn : isI64 n) (hs : (s.length : Int) ≤ 9223372036854775807) (k : Nat) (hk : s.length + 41 ≤ k) (m : Mem) :
    denF E (k + 1) 33 [.p (vP a n s)] m = some (.ret (.p (.bool (rightV a n s))), m) := by
  refine denF_wp u.vRight rfl (args' := [.p (vP a n s)]) rfl ?_
  obtain ⟨j, rfl⟩ : ∃ j, k = j + 2 := ⟨k - 2, by omega⟩
  have hF := fun m => word_Fits u.f j n hn.1 hn.2 m
  have hU := fun m => utf_RightL u.r s hs (j + 1) (by omega) m
  have hl : ∃ b : Bool, decide ((s.length : Int) ≤ 120) = b ∧ decide ((120 : Int) < s.length) = !b ∧ decide (s.length ≤ 120) = b := by
    by_cases h : s.length ≤ 120
    · exact ⟨true, by simp; omega, by simp; omega, by simp; omega⟩
    · exact ⟨false, by simp; omega, by simp; omega, by simp; omega⟩
  obtain ⟨b, hb1, hb2, hb3⟩ := hl
  have he : (s == []) = s.isEmpty := by cases s <;> rfl
  obtain ⟨z, hz⟩ : ∃ z, (n == 0) = z := ⟨_, rfl⟩
  obtain ⟨g, hg⟩ : ∃ g, (signs s).isSome = g := ⟨_, rfl⟩
  obtain ⟨f, hf⟩ : ∃ f, fits32 n = f := ⟨_, rfl⟩
  obtain ⟨e, hee⟩ : ∃ e, s.isEmpty = e := ⟨_, rfl⟩
  rw [hee] at he
  rw [hg] at hU
  rw [hf] at hF
  have hzf : z = true → f = true := by
    intro h
    rw [h] at hz
    have := beq_iff_eq.1 hz
    subst this
    rw [← hf]
    rfl
  have hsb : e = true → b = true ∧ g = true := by
    intro h
    have : s = [] := by cases s with
      | nil => rfl
      | cons => rw [← hee] at h; cases h
    subst this
    rw [← hb3, ← hg, signs_nil]
    exact ⟨rfl, rfl⟩
  unfold rightV vP
  by_cases h0 : a = 0
  · subst h0
    cases z <;> cases e <;> cases b <;> first | exact absurd (hsb rfl).1 Bool.false_ne_true | exact absurd (hsb rfl).2 Bool.false_ne_true | exact absurd (hzf rfl) Bool.false_ne_true | simp (maxSteps := 400000) [Fn.f_value_Right, hF, hU, bne, he, hb1, hb2, hb3, hz, hg, hf, hee]
  by_cases h1 : a = 1
  · subst h1
    cases z <;> cases f <;> cases e <;> cases b <;> first | exact absurd (hsb rfl).1 Bool.false_ne_true | exact absurd (hsb rfl).2 Bool.false_ne_true | exact absurd (hzf rfl) Bool.false_ne_true | simp (maxSteps := 400000) [Fn.f_value_Right, hF, hU, bne, he, hb1, hb2, hb3, hz, hg, hf, hee]
  by_cases h2 : a = 2
  · subst h2
    cases z <;> cases e <;> cases b <;> first | exact absurd (hsb rfl).1 Bool.false_ne_true | exact absurd (hsb rfl).2 Bool.false_ne_true | exact absurd (hzf rfl) Bool.false_ne_true | simp (maxSteps := 400000) [Fn.f_value_Right, hF, hU, bne, he, hb1, hb2, hb3, hz, hg, hf, hee]
  by_cases h3 : a = 3
  · subst h3
    cases z <;> cases g <;> cases e <;> cases b <;> first | exact absurd (hsb rfl).1 Bool.false_ne_true | exact absurd (hsb rfl).2 Bool.false_ne_true | exact absurd (hzf rfl) Bool.false_ne_true | simp (maxSteps := 400000) [Fn.f_value_Right, hF, hU, bne, he, hb1, hb2, hb3, hz, hg, hf, hee]
  by_cases h4 : a = 4
  · subst h4
    cases z <;> cases e <;> cases b <;> first | exact absurd (hsb rfl).1 Bool.false_ne_true | exact absurd (hsb rfl).2 Bool.false_ne_true | exact absurd (hzf rfl) Bool.false_ne_true | simp (maxSteps := 400000) [Fn.f_value_Right, hF, hU, bne, he, hb1, hb2, hb3, hz, hg, hf, hee]
  have e0 : (a == 0) = false := by simpa using h0
  have e1 : (a == 1) = false := by simpa using h1
  have e2 : (a == 2) = false := by simpa using h2
  have e3 : (a == 3) = false := by simpa using h3
  have e4 : (a == 4) = false := by simpa using h4
  simp (maxSteps := 1000000) [Fn.f_value_Right, h0, h1, h2, h3, h4, e0, e1, e2, e3, e4]
theorem name_RightL (u : R10 E) (w : List UInt8) (k : Nat) (hk : 40 ≤ k) (m : Mem) :
    denF E (k + 1) 270 [.p (.str w)] m = some (.ret (.p (.bool (rightN w))), m) := by
  by_cases h : w.length ≤ 16
  · exact name_Right u w (by omega) k (by omega) m
  · have hr : rightN w = false := by unfold rightN; simp [h]
    rw [hr]
    refine denF_wp u.nright rfl (args' := [.p (.str w)]) rfl ?_
    have h1 : ¬ ((w.length : Int) ≤ 16) := by omega
    have hb : (w == []) = false := by cases w with
      | nil => simp at h
      | cons a l => rfl
    simp [Fn.f_name_Right, hb, h, h1, bne]
end Hx
