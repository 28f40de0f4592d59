/-
  HxU03l: the signs of a text, the document's.
-/
import Derived.Test.YtbdnghmmiobdcaaDoorHxU03k
namespace Hx
open Go
set_option linter.unusedSimpArgs false
set_option maxHeartbeats 1000000
variable {E : Env}
attribute [-simp] List.getD_eq_getElem?_getD getElem?_pos
theorem ref_Signs (u : R03 E) (s : List UInt8) (hs : (s.length : Int) ≤ 1000000000000) (k : Nat) (hk : s.length + 8 ≤ k) (m : Mem) :
    denF E (k + 1) 8 [.p (.str s)] m = some (.ret (.tup [.p (signsV s), .p (.bool (signs s).isSome)]), m) := by
  refine denF_wp u.rSigns rfl (args' := [.p (.str s)]) rfl ?_
  simp [Fn.f_haulageref03_Signs]
  refine (loop_wp (α := Nat) (I := fun i st => ∃ acc ov m, SoFar s i acc ∧ Grow 1 (acc.map rowI) ov m ∧ Live Fn.f_haulageref03_Signs_k0 (Fn.f_haulageref03_Signs_s0 (.p (.str (s.drop i))) ov) m st) (meas := fun i => s.length - i)
    (Q := fun e st => (∃ acc ov, e = .exit 0 ∧ st.ds = [] ∧ signs s = some acc ∧ Grow 1 (acc.map rowI) ov st.m ∧ st.ts.length = 26 ∧ st.ts.getD 4 (.tup []) = ov) ∨ (e = .ret ∧ st.ds = [] ∧ signs s = none ∧ st.ts.getD 2 (.tup []) = .p .nils ∧ st.ts.getD 3 (.tup []) = .p (.bool false))) ?_ k 0 _ ⟨[], _, [], soFar_0 s, .inl ⟨rfl, rfl⟩, rfl, rfl, rfl, rfl⟩ (by omega)).mono ?_
  · rintro i st ⟨acc, ov, m, hf, hg, hlive⟩
    rw [loopF_live hlive]
    have h0 := hf.1
    have h1 := hf.2.1
    by_cases hi : i < s.length
    · have hne : (s.drop i == []) = false := by
        simp only [beq_eq_false_iff_ne, ne_eq]
        intro e; have := congrArg List.length e; simp at this; omega
      have hR := fun m => ref_Read u.toV03 (k - 6) (s.drop i) m
      rw [show k - 6 + 6 = k by omega, refR_eq] at hR
      cases r : readU (s.drop i) with
      | none =>
        rw [r] at hR
        simp [Fn.f_haulageref03_Signs_b0, Fn.f_haulageref03_Signs_s0, hne, hR, readV, soFar_bad hf hi r]
      | some p =>
        obtain ⟨n, size⟩ := p
        rw [r] at hR
        obtain ⟨z1, z2, z3⟩ := readU_size r
        have z4 : size.toNat ≤ (s.drop i).length := by omega
        have z5 : 0 ≤ size := by omega
        rw [List.length_drop] at z2 z4
        rcases hg with ⟨hr, rfl⟩ | ⟨hr, t, rfl, ht⟩
        · have hacc : acc = [] := by simpa using hr
          subst hacc
          simp [Fn.f_haulageref03_Signs_b0, Fn.f_haulageref03_Signs_s0, hne, hR, readV, z4, z5, room]
          refine ⟨i + size.toNat, by omega, [n], soFar_next hf hi r, _, _, .inr ⟨by simp, m.length + 1, rfl, ?_⟩, rfl, ?_, rfl, rfl⟩
          · have := get_new (m := m ++ [Blk.tok 1 1]) (x := .tok 1 1)
            simpa using this
          · simp [Fn.f_haulageref03_Signs_k0, rowI]
            rw [List.take_of_length_le (by rw [List.length_drop]; exact Nat.le_refl _), List.drop_drop]
        · rw [List.length_map] at ht
          have ht2 : ∀ y, (m ++ [y])[t]? = some (.tok 1 acc.length) := fun y => get_app ht _
          have hb : (acc.length + 1) * 8 ≤ room ∧ acc.length + 1 ≤ room := by unfold room; omega
          simp [Fn.f_haulageref03_Signs_b0, Fn.f_haulageref03_Signs_s0, hne, hR, readV, z4, z5, ht2, hb]
          refine ⟨i + size.toNat, by omega, acc ++ [n], soFar_next hf hi r, .tv 1 (acc.map rowI ++ [rowI n]) t, _, .inr ⟨by simp, t, by simp, ?_⟩, rfl, ?_, rfl, rfl⟩
          · rw [get_set (ht2 _)]; simp
          · simp [Fn.f_haulageref03_Signs_k0, rowI]
            rw [List.take_of_length_le (by rw [List.length_drop]; exact Nat.le_refl _), List.drop_drop]
    · have : i = s.length := by omega
      subst this
      simp [Fn.f_haulageref03_Signs_b0, Fn.f_haulageref03_Signs_s0]
      exact ⟨acc, soFar_end hf, hg⟩
  · rintro e st (⟨acc, ov, rfl, h1, h2, h3, h4, h5⟩ | ⟨rfl, h1, h2, h3, h4⟩)
    · obtain ⟨ts, m', ds⟩ := st
      simp only at h1 h3 h4 h5
      match ts, h4 with
      | [t0, t1, t2, t3, t4, t5, t6, t7, t8, t9, t10, t11, t12, t13, t14, t15, t16, t17, t18, t19, t20, t21, t22, t23, t24, t25], _ =>
        simp only [getD_succ', getD_zero'] at h5
        subst h5
        have hq := grow_strip h3
        rcases h3 with ⟨h3, rfl⟩ | ⟨h3, t, rfl, ht⟩
        · have : acc = [] := by simpa using h3
          subst this
          simp [h1, signsV, h2, slP]
        · simp only [stripV, Option.some.injEq, AV.p.injEq] at hq
          simp [h1, signsV, h2, ← hq]
    · simp [h1, h3, h4, signsV, h2]
theorem ref_Right (u : R03 E) (s : List UInt8) (hs : (s.length : Int) ≤ 1000000000000) (k : Nat) (hk : s.length + 9 ≤ k) (m : Mem) : denF E (k + 1) 22 [.p (.str s)] m = some (.ret (.p (.bool (signs s).isSome)), m) := by
  obtain ⟨k, rfl⟩ : ∃ j, k = j + 1 := ⟨k - 1, by omega⟩
  refine denF_wp u.rRight rfl (args' := [.p (.str s)]) rfl ?_
  have hC := fun m => ref_Signs u s hs k (by omega) m
  simp [Fn.f_haulageref03_Right, hC]
end Hx
