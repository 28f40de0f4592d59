/-
  HxU25m: how many rows; how many of each kind; which changes are tried.
-/
import Derived.Test.YtoedcjhheihhiaaHxU25h
import Derived.Test.YtoedcjhheihhiaaHxU25j
namespace Hx
open Go
set_option linter.unusedSimpArgs false
set_option linter.unusedVariables false
set_option maxHeartbeats 64000000
set_option maxRecDepth 20000
variable {E : Env}
attribute [-simp] List.getD_eq_getElem?_getD getElem?_pos
theorem many_four {l : List Ch} {i : Nat} {c : Ch} (h : l[i]? = some c) (kd : Int) : many kd (l.take (i + 1)) = many kd (l.take i) + (if c.kind == kd then 1 else 0) := many_take h
theorem many_tl (kd : Int) (l : List Ch) (i : Nat) : many kd (l.take i) ≤ l.length := by
  have h1 := many_le kd (l.take i)
  have h2 : (l.take i).length ≤ l.length := by rw [List.length_take]; omega
  omega
theorem net_Count (h : E.fn 132 = some Fn.f_net_Count) {sl : PV} {l : List Ch} (hl : LQ sl l) (hf : ∀ c ∈ l, ChF c) (hn : (l.length : Int) ≤ 1000000) (k : Nat) (hk : l.length + 3 ≤ k) (m : Mem) :
    denF E (k + 1) 132 [.p sl] m = some (.ret (.tup [.p (.int .i64 (many 1 l : Nat)), .p (.int .i64 (many 2 l : Nat)), .p (.int .i64 (many 3 l : Nat)), .p (.int .i64 (many 4 l : Nat))]), m) := by
  refine denF_wp h rfl (args' := [.p sl]) rfl ?_
  have hmain : Wp (iter (loopF E (denF E k) k Fn.f_net_Count_k0 Fn.f_net_Count_b0) k ⟨[.p sl, .tup [], .p (.int .i64 0), .p (.int .i64 0), .p (.int .i64 0), .p (.int .i64 0), .tup [], .tup [], .p sl, .p (.int .i64 l.length), .p (.int .i64 0)] ++ List.replicate 26 (.tup []), [], []⟩)
      (fun e st => e = .exit 0 ∧ st.ds = [] ∧ st.ts.length = 37 ∧ st.ts.getD 2 (.tup []) = .p (.int .i64 (many 1 l : Nat)) ∧ st.ts.getD 3 (.tup []) = .p (.int .i64 (many 2 l : Nat)) ∧ st.ts.getD 4 (.tup []) = .p (.int .i64 (many 3 l : Nat)) ∧ st.ts.getD 5 (.tup []) = .p (.int .i64 (many 4 l : Nat))) := by
    refine loop_wp (α := Nat × Mem) (I := fun a st => a.1 ≤ l.length ∧ Live Fn.f_net_Count_k0 (Fn.f_net_Count_s0 (.p (.int .i64 (many 1 (l.take a.1) : Nat))) (.p (.int .i64 (many 2 (l.take a.1) : Nat))) (.p (.int .i64 (many 3 (l.take a.1) : Nat))) (.p (.int .i64 (many 4 (l.take a.1) : Nat))) (.p sl) (.p (.int .i64 l.length)) (.p (.int .i64 a.1))) a.2 st) (meas := fun a => l.length - a.1) ?_ k (0, []) _ ⟨Nat.zero_le _, rfl, rfl, rfl, rfl⟩ (by simp only [Nat.sub_zero]; omega)
    rintro ⟨i, m⟩ st ⟨hi, hlive⟩
    simp only at hi hlive
    rw [loopF_live hlive]
    by_cases hlt : i < l.length
    · have hlt' : (i : Int) < l.length := by omega
      obtain ⟨c, hc⟩ : ∃ c, l[i]? = some c := ⟨_, List.getElem?_eq_getElem hlt⟩
      obtain ⟨c1, c2⟩ := hf c (List.mem_of_getElem? hc)
      unfold PV.flat at c1 c2
      have hw : ∀ n : Nat, n ≤ l.length → IntKind.i64.wrap ((n : Int) + 1) = ((n + 1 : Nat) : Int) := fun n h => by rw [wrap_i64 (by omega) (by omega)]; omega
      have hwi := hw i (by omega)
      have m1 := many_four hc 1
      have m2 := many_four hc 2
      have m3 := many_four hc 3
      have m4 := many_four hc 4
      have w1 := hw _ (many_tl 1 l i)
      have w2 := hw _ (many_tl 2 l i)
      have w3 := hw _ (many_tl 3 l i)
      have w4 := hw _ (many_tl 4 l i)
      rcases hl with ⟨rfl, rfl⟩ | rfl
      · simp at hlt
      by_cases k1 : c.kind = 1
      · simp only [k1, beq_self_eq_true, if_true, show ((1 : Int) == 2) = false from rfl, show ((1 : Int) == 3) = false from rfl, show ((1 : Int) == 4) = false from rfl, Bool.false_eq_true, if_false, Nat.add_zero] at m1 m2 m3 m4
        simp (maxSteps := 8000000) [Fn.f_net_Count_b0, Fn.f_net_Count_s0, hlt, hlt', hc, chV, c1, c2, k1, hwi, w1, ln_at0, ln_set0, -Int.natCast_add]
        exact ⟨i + 1, by omega, hlt, _, by rw [m1, m2, m3, m4]; exact ⟨rfl, rfl, rfl, rfl⟩⟩
      by_cases k2 : c.kind = 2
      · simp only [k2, beq_self_eq_true, if_true, show ((2 : Int) == 1) = false from rfl, show ((2 : Int) == 3) = false from rfl, show ((2 : Int) == 4) = false from rfl, Bool.false_eq_true, if_false, Nat.add_zero] at m1 m2 m3 m4
        simp (maxSteps := 8000000) [Fn.f_net_Count_b0, Fn.f_net_Count_s0, hlt, hlt', hc, chV, c1, c2, k2, hwi, w2, ln_at0, ln_set0, -Int.natCast_add]
        exact ⟨i + 1, by omega, hlt, _, by rw [m1, m2, m3, m4]; exact ⟨rfl, rfl, rfl, rfl⟩⟩
      by_cases k3 : c.kind = 3
      · simp only [k3, beq_self_eq_true, if_true, show ((3 : Int) == 1) = false from rfl, show ((3 : Int) == 2) = false from rfl, show ((3 : Int) == 4) = false from rfl, Bool.false_eq_true, if_false, Nat.add_zero] at m1 m2 m3 m4
        simp (maxSteps := 8000000) [Fn.f_net_Count_b0, Fn.f_net_Count_s0, hlt, hlt', hc, chV, c1, c2, k3, hwi, w3, ln_at0, ln_set0, -Int.natCast_add]
        exact ⟨i + 1, by omega, hlt, _, by rw [m1, m2, m3, m4]; exact ⟨rfl, rfl, rfl, rfl⟩⟩
      by_cases k4 : c.kind = 4
      · simp only [k4, beq_self_eq_true, if_true, show ((4 : Int) == 1) = false from rfl, show ((4 : Int) == 2) = false from rfl, show ((4 : Int) == 3) = false from rfl, Bool.false_eq_true, if_false, Nat.add_zero] at m1 m2 m3 m4
        simp (maxSteps := 8000000) [Fn.f_net_Count_b0, Fn.f_net_Count_s0, hlt, hlt', hc, chV, c1, c2, k4, hwi, w4, ln_at0, ln_set0, -Int.natCast_add]
        exact ⟨i + 1, by omega, hlt, _, by rw [m1, m2, m3, m4]; exact ⟨rfl, rfl, rfl, rfl⟩⟩
      have b1 : (c.kind == 1) = false := by simpa using k1
      have b2 : (c.kind == 2) = false := by simpa using k2
      have b3 : (c.kind == 3) = false := by simpa using k3
      have b4 : (c.kind == 4) = false := by simpa using k4
      rw [b1] at m1
      rw [b2] at m2
      rw [b3] at m3
      rw [b4] at m4
      simp only [Bool.false_eq_true, if_false, Nat.add_zero] at m1 m2 m3 m4
      simp (maxSteps := 8000000) [Fn.f_net_Count_b0, Fn.f_net_Count_s0, hlt, hlt', hc, chV, c1, c2, b1, b2, b3, b4, k1, k2, k3, k4, hwi, ln_at0, ln_set0, -Int.natCast_add]
      exact ⟨i + 1, by omega, hlt, _, by rw [m1, m2, m3, m4]; exact ⟨rfl, rfl, rfl, rfl⟩⟩
    · have hlt' : ¬ (i : Int) < l.length := by omega
      obtain rfl : i = l.length := by omega
      simp [Fn.f_net_Count_b0, Fn.f_net_Count_s0]
  obtain ⟨e, st, hrun, rfl, hds, hlen, g2, g3, g4, g5⟩ := hmain
  obtain ⟨ts, m', ds⟩ := st
  simp only at hds hlen g2 g3 g4 g5
  subst hds
  simp only [List.replicate, List.cons_append, List.nil_append] at hrun
  have hx := expand_ts 37 ts hlen
  simp only [List.range, List.range.loop, List.map_cons, List.map_nil] at hx
  rcases hl with ⟨rfl, rfl⟩ | rfl
  all_goals
    try simp only [List.length_nil, Int.natCast_zero] at hrun
    simp [Fn.f_net_Count, hrun]
    rw [hx]
    simp [g2, g3, g4, g5]
end Hx
