/-
  HxU03k: the text of numbers, the program's and the document's.
-/
import Derived.Test.YtbdnghmmiobdcaaDoorHxU03j
namespace Hx
open Go
set_option linter.unusedSimpArgs false
set_option maxHeartbeats 1000000
variable {E : Env}
attribute [-simp] List.getD_eq_getElem?_getD getElem?_pos
theorem ints_len {lv : PV} {l : List Int} (h : IsInts lv l) : lenV (.p lv) = some l.length := by
  rcases h with ⟨rfl, rfl⟩ | rfl <;> simp
theorem ints_at {lv : PV} {l : List Int} (h : IsInts lv l) {i : Nat} {n : Int} (hi : l[i]? = some n) : lv = .vals 1 (l.map rowI) ∧ (l.map rowI)[i]? = some [.int .i64 n] := by
  rcases h with ⟨rfl, rfl⟩ | rfl
  · simp at hi
  · exact ⟨rfl, by simp [hi, rowI]⟩
def textV (l : List Int) : AV := match textOf l with | none => .tup [.p (.str []), .p (.bool false)] | some t => .tup [.p (.str t), .p (.bool true)]
theorem grow_rows {rows : List (List PV)} {ov : AV} {m m' : Mem} (h : Grow 1 rows ov m) : rowsOf 1 m' ov = some rows := by
  rcases h with ⟨rfl, rfl⟩ | ⟨hr, t, rfl, h⟩ <;> simp
/-- One more lot of rows. -/
theorem grow_append {ev : X → AV} {m : Mem} {n bytes : Nat} {x y : X} {rows new : List (List PV)} (hx : Grow n rows (ev x) m) (hy : rowsOf n m (ev y) = some new) (hn : new ≠ []) (hb : (rows.length + new.length) * bytes ≤ room) (hb' : rows.length + new.length ≤ room) :
    ∃ ov m', denOp ev m (.append false n bytes x y) = some (ov, m') ∧ Grow n (rows ++ new) ov m' ∧ m'.length ≥ m.length := by
  simp only [denOp, denStill, denMove, hy]
  rcases hx with ⟨rfl, h⟩ | ⟨hr, t, h, ht⟩
  · rw [h]
    simp only [List.length_nil, Nat.zero_add] at hb hb'
    refine ⟨.tv n new m.length, m ++ [.tok n new.length], by simp only [hb, hb', and_self, if_true, newTok], .inr ⟨by simpa using hn, m.length, rfl, by simpa using get_new (m := m) (x := .tok n new.length)⟩, by simp⟩
  · rw [h]
    refine ⟨.tv n (rows ++ new) t, m.set t (.tok n (rows.length + new.length)), by simp only [ht, hb, hb', and_self, if_true], .inr ⟨by simp [hr], t, rfl, by rw [get_set ht]; simp⟩, by simp⟩
theorem utf8_ne (n : Int) : utf8 n ≠ [] := by
  intro h; have := utf8_len_pos n; rw [h] at this; simp at this
theorem utf_Text (u : W03 E) (lv : PV) (l : List Int) (hlv : IsInts lv l) (hl : (l.length : Int) ≤ 1000000000000) (k : Nat) (hk : l.length + 8 ≤ k) (m : Mem) : denF E (k + 1) 9 [.p lv] m = some (.ret (textV l), m) := by
  refine denF_wp u.text rfl (args' := [.p lv]) rfl ?_
  have hlen := ints_len hlv
  simp [Fn.f_utf_Text, -lenV, hlen]
  refine (loop_wp (α := Nat) (I := fun i st => ∃ acc ov m, TextFar l i acc ∧ Grow 1 (byteRows acc) ov m ∧ Live Fn.f_utf_Text_k0 (Fn.f_utf_Text_s0 ov (.p lv) (.p (.int .i64 l.length)) (.p (.int .i64 i))) m st) (meas := fun i => l.length - i)
    (Q := fun e st => (∃ acc ov, e = .exit 0 ∧ st.ds = [] ∧ textOf l = some acc ∧ Grow 1 (byteRows acc) ov st.m ∧ st.ts.length = 25 ∧ st.ts.getD 4 (.tup []) = ov) ∨ (e = .ret ∧ st.ds = [] ∧ textOf l = none ∧ st.ts.getD 2 (.tup []) = .p (.str []) ∧ st.ts.getD 3 (.tup []) = .p (.bool false))) ?_ k 0 _ ⟨[], _, [], textFar_0 l, .inl ⟨rfl, rfl⟩, rfl, rfl, rfl, rfl⟩ (by omega)).mono ?_
  · rintro i st ⟨acc, ov, m, hf, hg, hlive⟩
    rw [loopF_live hlive]
    have h0 := hf.1
    have h1 := hf.2.1
    by_cases hi : i < l.length
    · have hi' : (i : Int) < l.length := by omega
      obtain ⟨n, hn⟩ : ∃ n, l[i]? = some n := ⟨l[i], List.getElem?_eq_getElem hi⟩
      obtain ⟨rfl, hrow⟩ := ints_at hlv hn
      have hI := fun m => utf_is u.is (k - 1) n m
      rw [show k - 1 + 1 = k by omega] at hI
      cases hs : isSign n with
      | false =>
        rw [hs] at hI
        simp [Fn.f_utf_Text_b0, Fn.f_utf_Text_s0, hi', hrow, hI, textFar_bad hf hn hs]
      | true =>
        rw [hs] at hI
        obtain ⟨z0, z1, _⟩ := isSign_iff.1 hs
        have hF := utf_fill u.toU03 (k - 6) n z0 z1 (m ++ [.cells [.p (.int .u8 0), .p (.int .u8 0), .p (.int .u8 0), .p (.int .u8 0)]]) m.length _ _ _ _ get_new
        rw [show k - 6 + 6 = k by omega] at hF
        have hrows := fill_rows z0 z1 (get_new (m := m) (x := .cells (filled n (.p (.int .u8 0)) (.p (.int .u8 0)) (.p (.int .u8 0)) (.p (.int .u8 0))))) rfl
        have hnew := get_new (m := m) (x := .cells [.p (.int .u8 0), .p (.int .u8 0), .p (.int .u8 0), .p (.int .u8 0)])
        have hw : IntKind.i64.wrap ((i : Int) + 1) = i + 1 := wrap_i64 (by omega) (by omega)
        have hl4 : (byteRows (utf8 n)).length = (utf8 n).length := by simp [byteRows]
        have hla : (byteRows acc).length = acc.length := by simp [byteRows]
        have h4 := utf8_len4 n
        have hb1 : (utf8 n).length ≤ room := by unfold room; omega
        have hb2 : acc.length + (utf8 n).length ≤ room := by unfold room; omega
        have happ : byteRows (acc ++ utf8 n) = byteRows acc ++ byteRows (utf8 n) := by simp [byteRows]
        rcases hg with ⟨hr, rfl⟩ | ⟨hr, t, rfl, ht⟩
        · have hacc : acc = [] := by simpa [byteRows] using hr
          subst hacc
          simp [Fn.f_utf_Text_b0, Fn.f_utf_Text_s0, hi', hrow, hI, hF, hnew, hrows, hl4, hb1, hw]
          refine ⟨i + 1, by omega, utf8 n, textFar_next hf hn hs, _, _, .inr ⟨by simpa [byteRows] using utf8_ne n, m.length + 1, rfl, ?_⟩, rfl, ?_, rfl, rfl⟩
          · rw [List.getElem?_append_right (by simp)]; simp [hl4]
          · simp [Fn.f_utf_Text_k0]
        · have htl : t < m.length := by
            rcases Nat.lt_or_ge t m.length with h' | h'
            · exact h'
            · rw [List.getElem?_eq_none h'] at ht; cases ht
          have ht2 : ∀ y, (m ++ [y])[t]? = some (.tok 1 acc.length) := by
            intro y
            rw [get_app ht, hla]
          simp [Fn.f_utf_Text_b0, Fn.f_utf_Text_s0, hi', hrow, hI, hF, hnew, hrows, hl4, hla, hb2, hw, ht2]
          refine ⟨i + 1, by omega, acc ++ utf8 n, textFar_next hf hn hs, _, _, .inr ⟨by rw [happ]; simp [hr], t, by rw [happ], ?_⟩, rfl, ?_, rfl, rfl⟩
          · rw [get_set (ht2 _)]; simp [happ, hl4, hla]
          · simp [Fn.f_utf_Text_k0, happ]
    · have hi' : ¬ (i : Int) < l.length := by omega
      have : i = l.length := by omega
      subst this
      simp [Fn.f_utf_Text_b0, Fn.f_utf_Text_s0]
      exact ⟨acc, textFar_end hf, hg⟩
  · rintro e st (⟨acc, ov, rfl, h1, h2, h3, h4, h5⟩ | ⟨rfl, h1, h2, h3, h4⟩)
    · obtain ⟨ts, m', ds⟩ := st
      simp only at h1 h3 h4 h5
      match ts, h4 with
      | [t0, t1, t2, t3, t4, t5, t6, t7, t8, t9, t10, t11, t12, t13, t14, t15, t16, t17, t18, t19, t20, t21, t22, t23, t24], _ =>
        simp only [getD_succ', getD_zero'] at h5
        subst h5
        have hrow := grow_rows (m' := m') h3
        have hub := unBytes_rows acc
        rcases h3 with ⟨h3, rfl⟩ | ⟨h3, t, rfl, ht⟩
        · have : acc = [] := by simpa [byteRows] using h3
          subst this
          simp [h1, unBytes, textV, h2]
        · simp [h1, hub, textV, h2]
    · simp [h1, h3, h4, textV, h2]
/-- The document's. -/
theorem ref_Text (u : W03 E) (lv : PV) (l : List Int) (hlv : IsInts lv l) (hl : (l.length : Int) ≤ 1000000000000) (k : Nat) (hk : l.length + 8 ≤ k) (m : Mem) : denF E (k + 1) 10 [.p lv] m = some (.ret (textV l), m) := by
  refine denF_wp u.rText rfl (args' := [.p lv]) rfl ?_
  have hlen := ints_len hlv
  simp [Fn.f_haulageref03_Text]
  refine (loop_wp (α := Nat) (I := fun i st => ∃ acc m, TextFar l i acc ∧ Live Fn.f_haulageref03_Text_k0 (Fn.f_haulageref03_Text_s0 (.p lv) (.p (.str acc)) (.p (.int .i64 i))) m st) (meas := fun i => l.length - i)
    (Q := fun e st => (∃ acc, e = .exit 0 ∧ st.ds = [] ∧ textOf l = some acc ∧ st.ts.length = 26 ∧ st.ts.getD 4 (.tup []) = .p (.str acc)) ∨ (e = .ret ∧ st.ds = [] ∧ textOf l = none ∧ st.ts.getD 2 (.tup []) = .p (.str []) ∧ st.ts.getD 3 (.tup []) = .p (.bool false))) ?_ k 0 _ ⟨[], [], textFar_0 l, rfl, rfl, rfl, rfl⟩ (by omega)).mono ?_
  · rintro i st ⟨acc, m, hf, hlive⟩
    rw [loopF_live hlive]
    have h0 := hf.1
    have h1 := hf.2.1
    by_cases hi : i < l.length
    · have hi' : (i : Int) < l.length := by omega
      obtain ⟨n, hn⟩ : ∃ n, l[i]? = some n := ⟨l[i], List.getElem?_eq_getElem hi⟩
      obtain ⟨rfl, hrow⟩ := ints_at hlv hn
      have hI := fun m => ref_Is u.rIs (k - 1) n m
      rw [show k - 1 + 1 = k by omega] at hI
      cases hs : isSign n with
      | false =>
        rw [hs] at hI
        simp [Fn.f_haulageref03_Text_b0, Fn.f_haulageref03_Text_s0, hi', hrow, hI, textFar_bad hf hn hs]
      | true =>
        rw [hs] at hI
        obtain ⟨z0, z1, _⟩ := isSign_iff.1 hs
        have hP := fun m => ref_Put u.rPut u.rOne (k - 2) n z0 z1 m
        rw [show k - 2 + 2 = k by omega] at hP
        have hw : IntKind.i64.wrap ((i : Int) + 1) = i + 1 := wrap_i64 (by omega) (by omega)
        have h4 := utf8_len4 n
        have hb : acc.length + (utf8 n).length ≤ strLim := by unfold strLim; omega
        simp [Fn.f_haulageref03_Text_b0, Fn.f_haulageref03_Text_s0, hi', hrow, hI, hP, hb, hw]
        exact ⟨i + 1, by omega, acc ++ utf8 n, textFar_next hf hn hs, m, rfl, by simp [Fn.f_haulageref03_Text_k0], rfl, rfl⟩
    · have hi' : ¬ (i : Int) < l.length := by omega
      have : i = l.length := by omega
      subst this
      simp [Fn.f_haulageref03_Text_b0, Fn.f_haulageref03_Text_s0, -lenV, hlen]
      exact textFar_end hf
  · rintro e st (⟨acc, rfl, h1, h2, h4, h5⟩ | ⟨rfl, h1, h2, h3, h4⟩)
    · obtain ⟨ts, m', ds⟩ := st
      simp only at h1 h4 h5
      match ts, h4 with
      | [t0, t1, t2, t3, t4, t5, t6, t7, t8, t9, t10, t11, t12, t13, t14, t15, t16, t17, t18, t19, t20, t21, t22, t23, t24, t25], _ =>
        simp only [getD_succ', getD_zero'] at h5
        subst h5
        simp [h1, textV, h2]
    · simp [h1, h3, h4, textV, h2]
end Hx
