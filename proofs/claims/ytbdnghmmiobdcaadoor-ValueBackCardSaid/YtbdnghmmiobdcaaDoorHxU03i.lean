/-
  HxU03i: the signs of a text as a list.
-/
import Derived.Test.YtbdnghmmiobdcaaDoorHxU03h
namespace Hx
open Go
set_option linter.unusedSimpArgs false
set_option maxHeartbeats 1000000
variable {E : Env}
attribute [-simp] List.getD_eq_getElem?_getD getElem?_pos
theorem set_other {m : Mem} {t i : Nat} (h : t ≠ i) (x : Blk) : (m.set t x)[i]? = m[i]? := List.getElem?_set_ne h
theorem utf_Signs1 (u : W03 E) (k : Nat) (a : AV) (n : Int) (m : Mem) (ov : AV) (acc : List Int) (hl : acc.length ≤ 1000000000000) (h0 : m[0]? = some (.cells [ov])) (hg : Grow 1 (acc.map rowI) ov m) :
    ∃ m' ov', denF E (k + 1) 24 [a, .p (.int .i64 n), .ptr 0 0] m = some (.ret (.tup []), m') ∧ m'[0]? = some (.cells [ov']) ∧ Grow 1 ((acc ++ [n]).map rowI) ov' m' := by
  have e1 : ∀ l, (m ++ l)[0]? = some (.cells [ov]) := fun l => get_app h0 l
  rcases hg with ⟨hr, rfl⟩ | ⟨hr, t, rfl, ht⟩
  · obtain rfl : acc = [] := by simpa using hr
    refine ⟨((m ++ [Blk.tok 1 1]) ++ [Blk.tok 1 1]).set 0 (.cells [.tv 1 [rowI n] (m.length + 1)]), .tv 1 [rowI n] (m.length + 1), denF_wp_own u.signs1 rfl ?_, ?_, ?_⟩
    · simp [Fn.f_utf_Signs_1, h0, e1, rowI, room]
    · exact get_set (get_app (e1 _) _) _
    · refine .inr ⟨by simp, m.length + 1, rfl, ?_⟩
      rw [set_other (by omega)]
      have := get_new (m := m ++ [Blk.tok 1 1]) (x := .tok 1 1)
      simpa using this
  · have t0 : t ≠ 0 := by
      intro e; subst e; rw [h0] at ht; cases ht
    have ht' : ∀ l, (m ++ l)[t]? = some (.tok 1 (acc.map rowI).length) := fun l => get_app ht l
    have hb : ((acc.map rowI).length + 1) * 8 ≤ room ∧ (acc.map rowI).length + 1 ≤ room := by rw [List.length_map]; unfold room; omega
    refine ⟨((m ++ [Blk.tok 1 1]).set t (.tok 1 (acc.length + 1))).set 0 (.cells [.tv 1 (acc.map rowI ++ [rowI n]) t]), .tv 1 (acc.map rowI ++ [rowI n]) t, denF_wp_own u.signs1 rfl ?_, ?_, ?_⟩
    · have e2 : ∀ x, ((m ++ [Blk.tok 1 1]).set t x)[0]? = some (.cells [.tv 1 (acc.map rowI) t]) := fun x => by rw [set_other t0, e1]
      rw [List.length_map] at hb ht'
      simp [Fn.f_utf_Signs_1, h0, e1, e2, ht', hb, rowI]
    · exact get_set (by rw [set_other t0]; exact e1 _) _
    · refine .inr ⟨by simp, t, by simp, ?_⟩
      rw [set_other (by omega), get_set (ht' _)]
      simp
def signsV (s : List UInt8) : PV := match signs s with | none => .nils | some l => slP 1 (l.map rowI)
theorem grow_strip {n : Nat} {rows : List (List PV)} {ov : AV} {m : Mem} (h : Grow n rows ov m) : stripV ov = some (.p (slP n rows)) := by
  rcases h with ⟨rfl, rfl⟩ | ⟨hr, t, rfl, h⟩
  · rfl
  · cases rows with
    | nil => exact absurd rfl hr
    | cons a l => rfl
theorem grow_stripR {n : Nat} {rows : List (List PV)} {ov : AV} {m : Mem} (h : Grow n rows ov m) : stripR ov = some (.p (slP n rows)) := by
  have := grow_strip h
  rcases h with ⟨rfl, rfl⟩ | ⟨hr, t, rfl, h⟩ <;> exact this
theorem utf_Signs (u : W03 E) (s : List UInt8) (hs : (s.length : Int) ≤ 1000000000000) (k : Nat) (hk : s.length + 8 ≤ k) (m : Mem) : denF E (k + 1) 13 [.p (.str s)] m = some (.ret (.p (signsV s)), m) := by
  obtain ⟨k, rfl⟩ : ∃ j, k = j + 1 := ⟨k - 1, by omega⟩
  refine denF_wp u.signs rfl (args' := [.p (.str s)]) rfl ?_
  obtain ⟨b, m', hw, hb⟩ := utf_walk u.toR03 s (by omega) 24 [.ptr 0 0] k (by omega) (fun at' m => ∃ acc ov, SoFar s at' acc ∧ m[0]? = some (.cells [ov]) ∧ Grow 1 (acc.map rowI) ov m)
    (by
      rintro at' n size m ha ⟨acc, ov, hf, h0, hg⟩ hr
      have := hf.1
      have := hf.2.1
      obtain ⟨k, rfl⟩ : ∃ j, k = j + 1 := ⟨k - 1, by omega⟩
      obtain ⟨m', ov', h1, h2, h3⟩ := utf_Signs1 u k (.p (.int .i64 at')) n m ov acc (by omega) h0 hg
      exact ⟨m', h1, acc ++ [n], ov', soFar_next hf ha hr, h2, h3⟩)
    [.cells [.p .nils]] ⟨[], .p .nils, soFar_0 s, rfl, .inl ⟨rfl, rfl⟩⟩
  rcases hb with ⟨rfl, acc, ov, hf, h0, hg⟩ | ⟨rfl, at', ha, hr, acc, ov, hf, h0, hg⟩
  · have := grow_stripR hg
    simp [Fn.f_utf_Signs, hw, h0]
    show (match stripR ov with | some v' => some (Out.ret v') | none => none) = _
    rw [this, signsV, soFar_end hf]
  · simp [Fn.f_utf_Signs, hw, signsV, soFar_bad hf ha hr]
end Hx
