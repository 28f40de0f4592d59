/-
  HxU10u: the program's reader of changes: the word of a change.
-/
import Derived.Test.YtifcegbomagcpaaDoorHxU10t
import Derived.Test.YtifcegbomagcpaaDoorHxU10j
import Derived.Test.YtifcegbomagcpaaDoorHxV05s
namespace Hx
open Go
set_option linter.unusedSimpArgs false
set_option linter.unusedVariables false
set_option maxHeartbeats 16000000
set_option maxRecDepth 20000
variable {E : Env}
attribute [-simp] List.getD_eq_getElem?_getD getElem?_pos
def glWords : List PV := [.str [], .str [99, 114, 101, 97, 116, 101], .str [100, 114, 111, 112], .str [114, 101, 110, 97, 109, 101], .str [97, 100, 100], .str [99, 117, 116], .str [99, 97, 108, 108], .str [119, 105, 100, 101, 110], .str [112, 114, 101, 115, 101, 116]]
theorem opOf_iff (w : List UInt8) (i : Nat) (h1 : 1 ≤ i) (h8 : i ≤ 8) : opOf w = i ↔ opWords.getD (i - 1) [] = w := by
  constructor
  · intro h
    unfold opOf opWords at h
    simp only [opF] at h
    unfold opWords
    repeat (first | (split at h; (rename_i he; subst h; exact he)) | (omega))
  · intro h
    subst h
    rcases (by omega : i = 1 ∨ i = 2 ∨ i = 3 ∨ i = 4 ∨ i = 5 ∨ i = 6 ∨ i = 7 ∨ i = 8) with rfl | rfl | rfl | rfl | rfl | rfl | rfl | rfl <;> rfl
theorem opOf_le (w : List UInt8) : opOf w ≤ 8 := by
  unfold opOf opWords
  simp only [opF]
  repeat (first | split | omega)
def zDdl (op : Int) : List AV := [.p (.int .i64 op), .p (.str []), .p (.str []), .p (.str []), .p (.str []), .p (.int .i64 0), .p (.int .i64 0), .p (.bool false), .p (.int .i64 0), .p (.int .i64 0), .p (.str []), .p .nils]
def opLow (w : List UInt8) (i : Nat) : Int := if opOf w < i then opOf w else 0
theorem change_loop (hg : E.gl 3 = glWords) (w : List UInt8) (k : Nat) (hk : 20 ≤ k) (id n : Nat) (m q : Mem) (hn : n = q.length) (st : St)
    (h0 : Live Fn.f_ddltext_reader_change_k0 (Fn.f_ddltext_reader_change_s0 (.ptr id 0) (.ptr n 0) (.ptr (n + 1) 0) (.p (.str w)) (.p (.int .i64 1))) (q ++ [.cells (zDdl 0), .cells (zDdl 0)]) st) :
    Wp (iter (loopF E (denF E k) k Fn.f_ddltext_reader_change_k0 Fn.f_ddltext_reader_change_b0) k st) (fun e st => e = .exit 0 ∧ st.ds = [] ∧ st.ts.length = 94 ∧ st.ts.getD 0 (.tup []) = .ptr id 0 ∧ st.ts.getD 2 (.tup []) = .ptr n 0 ∧ st.ts.getD 3 (.tup []) = .ptr (n + 1) 0 ∧ st.ts.getD 4 (.tup []) = .p (.str w) ∧ st.m = q ++ [.cells (zDdl 0), .cells (zDdl (opOf w))]) := by
  obtain ⟨j, rfl⟩ : ∃ j, k = j + 1 := ⟨k - 1, by omega⟩
  have h01 : opLow w 1 = 0 := by unfold opLow; split <;> omega
  refine loop_wp (α := Nat) (I := fun i st => 1 ≤ i ∧ i ≤ 9 ∧ Live Fn.f_ddltext_reader_change_k0 (Fn.f_ddltext_reader_change_s0 (.ptr id 0) (.ptr n 0) (.ptr (n + 1) 0) (.p (.str w)) (.p (.int .i64 i))) (q ++ [.cells (zDdl 0), .cells (zDdl (opLow w i))]) st) (meas := fun i => 10 - i) ?_ (j + 1) 1 st ⟨Nat.le_refl _, by omega, by rw [h01]; exact h0⟩ (by omega)
  rintro i st ⟨h1, h9, hlive⟩
  rw [loopF_live hlive]
  have hle := opOf_le w
  have hget : ∀ b : Blk, ∀ l : Mem, (q ++ b :: l)[n]? = some b := fun b l => by rw [hn, List.getElem?_append_right (by omega), Nat.sub_self]; rfl
  have hget1 : ∀ a b : Blk, (q ++ [a, b])[n + 1]? = some b := fun a b => by rw [hn, List.getElem?_append_right (by omega), Nat.add_sub_cancel_left]; rfl
  have hset1 : ∀ a b c : Blk, (q ++ [a, b]).set (n + 1) c = q ++ [a, c] := fun a b c => by rw [hn, List.set_append_right _ _ (by omega), Nat.add_sub_cancel_left]; rfl
  by_cases h8 : i ≤ 8
  · have hi8 : ((i : Int) ≤ 8) := by omega
    have hw : IntKind.i64.wrap ((i : Int) + 1) = ((i + 1 : Nat) : Int) := by rw [wrap_i64 (by omega) (by omega)]; omega
    have hiff := opOf_iff w i h1 h8
    have hgo : ∀ (z : Int) st', opLow w (i + 1) = z → Live Fn.f_ddltext_reader_change_k0 (Fn.f_ddltext_reader_change_s0 (.ptr id 0) (.ptr n 0) (.ptr (n + 1) 0) (.p (.str w)) (.p (.int .i64 ((i + 1 : Nat) : Int)))) (q ++ [.cells (zDdl 0), .cells (zDdl z)]) st' →
        ∃ a', 10 - a' < 10 - i ∧ 1 ≤ a' ∧ a' ≤ 9 ∧ Live Fn.f_ddltext_reader_change_k0 (Fn.f_ddltext_reader_change_s0 (.ptr id 0) (.ptr n 0) (.ptr (n + 1) 0) (.p (.str w)) (.p (.int .i64 ((a' : Nat) : Int)))) (q ++ [.cells (zDdl 0), .cells (zDdl (opLow w a'))]) st' :=
      fun z st' hz h => ⟨i + 1, by omega, by omega, by omega, by rw [hz]; exact h⟩
    by_cases h : opOf w = i
    · have hlow : opLow w (i + 1) = i := by unfold opLow; rw [if_pos (by omega), h]
      have hgo' := fun st' => hgo _ st' hlow
      have hword := hiff.1 h
      unfold zDdl at *
      rcases (by omega : i = 1 ∨ i = 2 ∨ i = 3 ∨ i = 4 ∨ i = 5 ∨ i = 6 ∨ i = 7 ∨ i = 8) with rfl | rfl | rfl | rfl | rfl | rfl | rfl | rfl <;>
        (simp only [opWords, List.getD_cons_zero, List.getD_cons_succ, Nat.add_one_sub_one, Nat.sub_self, Nat.reduceSub] at hword
         subst hword
         simp (maxSteps := 4000000) [Fn.f_ddltext_reader_change_b0, Fn.f_ddltext_reader_change_s0, hg, glWords, hget, hget1, hset1]
         exact hgo' _ ⟨rfl, rfl, rfl, rfl⟩)
    · have hlow : opLow w (i + 1) = opLow w i := by
        unfold opLow
        by_cases h2 : opOf w < i
        · rw [if_pos h2, if_pos (by omega)]
        · rw [if_neg h2, if_neg (by omega)]
      have hb : (opWords.getD (i - 1) [] == w) = false := by
        have := fun e => h (hiff.2 e)
        simpa using this
      have hgo' := fun st' => hgo _ st' hlow
      generalize opLow w i = z at *
      unfold zDdl at *
      rcases (by omega : i = 1 ∨ i = 2 ∨ i = 3 ∨ i = 4 ∨ i = 5 ∨ i = 6 ∨ i = 7 ∨ i = 8) with rfl | rfl | rfl | rfl | rfl | rfl | rfl | rfl <;>
        (simp only [opWords, List.getD_cons_zero, List.getD_cons_succ, Nat.add_one_sub_one, Nat.sub_self, Nat.reduceSub] at hb
         simp (maxSteps := 4000000) [Fn.f_ddltext_reader_change_b0, Fn.f_ddltext_reader_change_s0, hg, glWords, hb]
         exact hgo' _ ⟨rfl, rfl, rfl, rfl⟩)
  · have : i = 9 := by omega
    subst this
    have hlow : opLow w 9 = opOf w := by unfold opLow; rw [if_pos (by omega)]
    rw [hlow]
    simp (maxSteps := 4000000) [Fn.f_ddltext_reader_change_b0, Fn.f_ddltext_reader_change_s0]
end Hx
