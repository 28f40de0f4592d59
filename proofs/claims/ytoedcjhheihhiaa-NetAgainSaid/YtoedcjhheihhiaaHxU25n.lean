/-
  HxU25n: how many rows there are.
-/
import Derived.Test.YtoedcjhheihhiaaHxU25m
namespace Hx
open Go
set_option linter.unusedSimpArgs false
set_option linter.unusedVariables false
set_option maxHeartbeats 64000000
set_option maxRecDepth 20000
variable {E : Env}
attribute [-simp] List.getD_eq_getElem?_getD getElem?_pos
def seenE (s : List Key25) : List (Key25 × Unit) := s.map fun k => (k, ())
def vT (_ : Unit) : AV := .p (.bool true)
theorem findK_seen (k : Key25) (s : List Key25) : findK k (seenE s) = if s.contains k then some () else none := by
  induction s with
  | nil => rfl
  | cons x s ih =>
    unfold seenE at ih ⊢
    simp only [List.map_cons, findK]
    by_cases h : x = k
    · subst h; simp
    · have h' : ¬ k = x := fun e => h e.symm
      rw [if_neg h, ih]
      simp [List.contains_cons, h']
theorem rowsP_step {l : List Ch} {i : Nat} {c : Ch} (h : l[i]? = some c) (seen : List Key25) (n : Int) : rowsP (l.drop i) seen n = (if c.kind = 4 then rowsP (l.drop (i + 1)) [] n else if c.kind = 1 ∨ c.kind = 2 ∨ c.kind = 3 then (if seen.contains c.key then rowsP (l.drop (i + 1)) seen n else rowsP (l.drop (i + 1)) (seen ++ [c.key]) (n + 1)) else rowsP (l.drop (i + 1)) seen n) := by
  obtain ⟨h1, h2⟩ := List.getElem?_eq_some_iff.1 h
  rw [List.drop_eq_getElem_cons h1, h2]; rfl
def RowInv (l : List Ch) (i : Nat) (m : Mem) (n : Int) : Prop := ∃ seen, m[0]? = some (.map (entsP vT (seenE seen))) ∧ rowsP (l.drop i) seen n = rowsP l [] 0 ∧ 0 ≤ n ∧ n ≤ i
theorem net_Rows (u : N25 E) (h : E.fn 134 = some Fn.f_net_Rows) {sl : PV} {l : List Ch} (hl : LQ sl l) (hf : ∀ c ∈ l, ChF c) (hn : (l.length : Int) ≤ 1000000) (k : Nat) (hk : l.length + 5 ≤ k) (m : Mem) :
    denF E (k + 1) 134 [.p sl] m = some (.ret (.p (.int .i64 (rowsP l [] 0))), m) := by
  obtain ⟨j, rfl⟩ : ∃ j, k = j + 1 := ⟨k - 1, by omega⟩
  refine denF_wp h rfl (args' := [.p sl]) rfl ?_
  have hmain : Wp (iter (loopF E (denF E (j + 1)) (j + 1) Fn.f_net_Rows_k0 Fn.f_net_Rows_b0) (j + 1) ⟨[.p sl, .tup [], .p (.int .i64 0), .p (.int .i64 0), .map 0, .tup [], .tup [], .map 0, .p sl, .p (.int .i64 l.length), .p (.int .i64 0)] ++ List.replicate 24 (.tup []), [.map []], []⟩)
      (fun e st => e = .exit 0 ∧ st.ds = [] ∧ st.ts.length = 35 ∧ st.ts.getD 3 (.tup []) = .p (.int .i64 (rowsP l [] 0))) := by
    refine loop_wp (α := Nat × Mem × Int) (I := fun a st => a.1 ≤ l.length ∧ RowInv l a.1 a.2.1 a.2.2 ∧ Live Fn.f_net_Rows_k0 (Fn.f_net_Rows_s0 (.p (.int .i64 a.2.2)) (.map 0) (.p sl) (.p (.int .i64 l.length)) (.p (.int .i64 a.1))) a.2.1 st) (meas := fun a => l.length - a.1) ?_ (j + 1) (0, [.map []], 0) _ ⟨Nat.zero_le _, ⟨[], rfl, rfl, Int.le_refl _, by simp⟩, rfl, rfl, rfl, rfl⟩ (by simp only [Nat.sub_zero]; omega)
    rintro ⟨i, m, n⟩ st ⟨hi, ⟨seen, hm, hsq, hn0, hn1⟩, hlive⟩
    simp only at hi hm hsq hn0 hn1 hlive
    rw [loopF_live hlive]
    by_cases hlt : i < l.length
    · have hlt' : (i : Int) < l.length := by omega
      obtain ⟨c, hc⟩ : ∃ c, l[i]? = some c := ⟨_, List.getElem?_eq_getElem hlt⟩
      have hcf := hf c (List.mem_of_getElem? hc)
      have hrow := fun m => net_rowOf u hcf j m
      obtain ⟨c1, c2⟩ := hcf
      unfold PV.flat at c1 c2
      have hw : IntKind.i64.wrap ((i : Int) + 1) = ((i + 1 : Nat) : Int) := by rw [wrap_i64 (by omega) (by omega)]; omega
      have hwn : IntKind.i64.wrap (n + 1) = n + 1 := wrap_i64 (by omega) (by omega)
      rw [rowsP_step hc] at hsq
      have hml := idx_lt hm
      have g0 : ∀ l : Mem, (m ++ l)[0]? = some (.map (entsP vT (seenE seen))) := fun l => by rw [get_appl hml]; exact hm
      have s0 : ∀ (l : Mem) (x : Blk), (m ++ l).set 0 x = m.set 0 x ++ l := fun l x => set_app hml x
      have g1 : ∀ (x a : Blk) (l : Mem), (m.set 0 x ++ a :: l)[m.length]? = some a := fun x a l => lq_at0 (by simp) a l
      have hkk := eq_key c.key c.key
      simp only [decide_true] at hkk
      simp only [keyE, keyP, Ch.key] at hkk
      simp only [chV, keyC, Ch.key] at hrow
      rcases hl with ⟨rfl, rfl⟩ | rfl
      · simp at hlt
      by_cases k4 : c.kind = 4
      · rw [if_pos k4] at hsq
        simp (maxSteps := 8000000) [Fn.f_net_Rows_b0, Fn.f_net_Rows_s0, hlt, hlt', hc, chV, c1, c2, k4, hw, ln_at0, ln_set0, g0, s0, -Int.natCast_add]
        refine ⟨i + 1, by omega, hlt, _, _, ⟨[], ?_, hsq, hn0, by omega⟩, rfl, rfl, rfl, rfl⟩
        rw [get_appl (by simpa using hml), List.getElem?_set_self hml]; rfl
      have b4 : (c.kind == 4) = false := by simpa using k4
      rw [if_neg k4] at hsq
      by_cases k3 : c.kind = 1 ∨ c.kind = 2 ∨ c.kind = 3
      · rw [if_pos k3] at hsq
        have hk := findK_seen c.key seen
        have hcs : (c.kind == 1 || (c.kind == 2 || c.kind == 3)) = true := by simp [k3]
        cases hs : seen.contains c.key with
        | true =>
          rw [hs] at hk hsq
          simp only [if_true] at hk hsq
          obtain ⟨q, hfm, _⟩ := findM_some vT (k := c.key) (E := seenE seen) (x := ()) 0 hk
          rw [Nat.zero_add] at hfm
          simp only [keyE, keyP, Ch.key, vT] at hfm
          rcases k3 with k3 | k3 | k3
          all_goals
            rw [k3] at hrow
            simp (maxSteps := 8000000) [Fn.f_net_Rows_b0, Fn.f_net_Rows_s0, hlt, hlt', hc, chV, c1, c2, k3, hw, ln_at0, ln_set0, g0, s0, hrow, hfm, hkk, vT, -Int.natCast_add]
            exact ⟨i + 1, by omega, hlt, _, _, ⟨seen, g0 _, hsq, hn0, by omega⟩, rfl, rfl, rfl, rfl⟩
        | false =>
          rw [hs] at hk hsq
          simp only [Bool.false_eq_true, if_false] at hk hsq
          have hfm := findM_none vT (k := c.key) (E := seenE seen) 0 hk
          simp only [keyE, keyP, Ch.key, vT] at hfm
          rcases k3 with k3 | k3 | k3
          all_goals
            rw [k3] at hrow
            simp (maxSteps := 8000000) [Fn.f_net_Rows_b0, Fn.f_net_Rows_s0, hlt, hlt', hc, chV, c1, c2, k3, hw, hwn, ln_at0, ln_set0, g0, s0, g1, hrow, hfm, hkk, vT, -Int.natCast_add]
            refine ⟨i + 1, by omega, hlt, _, _, ⟨seen ++ [c.key], ?_, hsq, by omega, by omega⟩, rfl, rfl, rfl, rfl⟩
            rw [get_appl (by simpa using hml), List.getElem?_set_self hml]
            simp [entsP, seenE, keyP, Ch.key, vT]
      · rw [if_neg k3] at hsq
        have k1 : ¬ c.kind = 1 := fun h => k3 (.inl h)
        have k2 : ¬ c.kind = 2 := fun h => k3 (.inr (.inl h))
        have k5 : ¬ c.kind = 3 := fun h => k3 (.inr (.inr h))
        have b1 : (c.kind == 1) = false := by simpa using k1
        have b2 : (c.kind == 2) = false := by simpa using k2
        have b3 : (c.kind == 3) = false := by simpa using k5
        simp (maxSteps := 8000000) [Fn.f_net_Rows_b0, Fn.f_net_Rows_s0, hlt, hlt', hc, chV, c1, c2, b1, b2, b3, b4, k1, k2, k4, k5, hw, ln_at0, ln_set0, g0, s0, -Int.natCast_add]
        exact ⟨i + 1, by omega, hlt, _, _, ⟨seen, g0 _, hsq, hn0, by omega⟩, rfl, rfl, rfl, rfl⟩
    · have hlt' : ¬ (i : Int) < l.length := by omega
      obtain rfl : i = l.length := by omega
      rw [List.drop_eq_nil_of_le (Nat.le_refl _)] at hsq
      have hsq : n = rowsP l [] 0 := hsq
      simp [Fn.f_net_Rows_b0, Fn.f_net_Rows_s0, hsq]
  obtain ⟨e, st, hrun, rfl, hds, hlen, g3⟩ := hmain
  obtain ⟨ts, m', ds⟩ := st
  simp only at hds hlen g3
  subst hds
  simp only [List.replicate, List.cons_append, List.nil_append] at hrun
  have hx := expand_ts 35 ts hlen
  simp only [List.range, List.range.loop, List.map_cons, List.map_nil] at hx
  rcases hl with ⟨rfl, rfl⟩ | rfl
  all_goals
    try simp only [List.length_nil, Int.natCast_zero] at hrun
    simp [Fn.f_net_Rows, hrun]
    rw [hx]
    simp [g3]
end Hx
