/-
  HxU25h: which changes are tried; how many of a kind; alike ones.
-/
import Derived.Test.YtoedcjhheihhiaaHxU25f
namespace Hx
open Go
set_option linter.unusedSimpArgs false
set_option linter.unusedVariables false
set_option maxHeartbeats 64000000
set_option maxRecDepth 20000
variable {E : Env}
attribute [-simp] List.getD_eq_getElem?_getD getElem?_pos
theorem many_le (kd : Int) (l : List Ch) : many kd l ≤ l.length := List.length_filter_le ..
theorem many_take {kd : Int} {l : List Ch} {i : Nat} {c : Ch} (h : l[i]? = some c) : many kd (l.take (i + 1)) = many kd (l.take i) + (if c.kind == kd then 1 else 0) := by
  obtain ⟨h1, h2⟩ := List.getElem?_eq_some_iff.1 h
  unfold many
  rw [List.take_succ_eq_append_getElem h1, List.filter_append, List.length_append, h2]
  cases hq : (c.kind == kd) with
  | true => simp only [List.filter_cons, hq, if_true, List.filter_nil, List.length_cons, List.length_nil]
  | false => simp only [List.filter_cons, hq, Bool.false_eq_true, if_false, List.filter_nil, List.length_nil]

theorem eq_cel (a : Cel) : eqTree (.struct [(0, 1, .str), (1, 2, (.struct [(0, 1, .int), (1, 1, .int)])), (3, 3, (.struct [(0, 1, .int), (1, 1, .int), (2, 1, .str)]))]) (.agg (celP a)) (.agg (celP a)) = some true := by
  simp [eqTree, eqFs, partP, EqT.agg, celP]
structure A25 (E : Env) : Prop where
  l09 : L09 E
  cells : E.fn 186 = some Fn.f_haulageref08_SameCells
  change : E.fn 167 = some Fn.f_haulageref15_SameChange
  same : E.fn 133 = some Fn.f_haulageref25_Same
theorem ref_SameCells (u : A25 E) {cs : PV} {l : List Cel} (hl : CelQ cs l) (hn : (l.length : Int) ≤ 1000000) (k : Nat) (hk : l.length + 3 ≤ k) (m : Mem) :
    denF E (k + 1) 186 [.p cs, .p cs] m = some (.ret (.p (.bool true)), m) := by
  refine denF_wp u.cells rfl (args' := [.p cs, .p cs]) rfl ?_
  have hmain : Wp (iter (loopF E (denF E k) k Fn.f_haulageref08_SameCells_k0 Fn.f_haulageref08_SameCells_b0) k ⟨[.p cs, .p cs, .tup [], .tup [], .p (.bool false), .p (.int .i64 0), .p cs, .p (.int .i64 l.length), .p cs, .p (.int .i64 l.length), .p (.bool false)] ++ List.replicate 15 (.tup []), [], []⟩)
      (fun e st => e = .exit 0 ∧ st.ds = [] ∧ st.ts.length = 26) := by
    refine loop_wp (α := Nat) (I := fun i st => i ≤ l.length ∧ Live Fn.f_haulageref08_SameCells_k0 (Fn.f_haulageref08_SameCells_s0 (.p cs) (.p cs) (.p (.int .i64 i))) [] st) (meas := fun i => l.length - i) ?_ k 0 _ ⟨Nat.zero_le _, rfl, rfl, rfl, rfl⟩ (by omega)
    rintro i st ⟨hi, hlive⟩
    rw [loopF_live hlive]
    by_cases hlt : i < l.length
    · have hlt' : (i : Int) < l.length := by omega
      obtain ⟨c, hc⟩ : ∃ c, l[i]? = some c := ⟨_, List.getElem?_eq_getElem hlt⟩
      have hw : IntKind.i64.wrap ((i : Int) + 1) = ((i + 1 : Nat) : Int) := by rw [wrap_i64 (by omega) (by omega)]; omega
      have hE := eq_cel c
      have h1 : (celP c).length = 6 := rfl
      have h2 : (celP c).take 6 = celP c := rfl
      rcases hl with ⟨rfl, rfl⟩ | rfl
      · simp at hlt
      simp [Fn.f_haulageref08_SameCells_b0, Fn.f_haulageref08_SameCells_s0, hlt, hlt', hc, hE, h1, h2, hw, -Int.natCast_add]
      exact ⟨i + 1, by omega, hlt, rfl, rfl, rfl, rfl⟩
    · have hlt' : ¬ (i : Int) < l.length := by omega
      obtain rfl : i = l.length := by omega
      rcases hl with ⟨rfl, rfl⟩ | rfl
      · simp [Fn.f_haulageref08_SameCells_b0, Fn.f_haulageref08_SameCells_s0]
      · simp [Fn.f_haulageref08_SameCells_b0, Fn.f_haulageref08_SameCells_s0]
  obtain ⟨e, st, hrun, rfl, hds, hlen⟩ := hmain
  obtain ⟨ts, m', ds⟩ := st
  simp only at hds hlen
  subst hds
  simp only [List.replicate, List.cons_append, List.nil_append] at hrun
  have hx := expand_ts 26 ts hlen
  simp only [List.range, List.range.loop, List.map_cons, List.map_nil] at hx
  rcases hl with ⟨rfl, rfl⟩ | rfl
  · simp only [List.length_nil, Int.natCast_zero] at hrun
    simp [Fn.f_haulageref08_SameCells, bne, hrun]
    rw [hx]
    simp
  · simp [Fn.f_haulageref08_SameCells, bne, hrun]
    rw [hx]
    simp
theorem ref_SameChange (u : A25 E) {c : Ch} (h : ChOk c) (hn : (rowsN c.cs : Int) ≤ 1000) (hn2 : (rowsN c.sl : Int) ≤ 1000) (k : Nat) (hk : 1100 ≤ k) (m : Mem) :
    denF E (k + 1) 167 [.p (.agg (chV c)), .p (.agg (chV c))] m = some (.ret (.p (.bool true)), m) := by
  obtain ⟨j, rfl⟩ : ∃ j, k = j + 1 := ⟨k - 1, by omega⟩
  obtain ⟨c1, c2⟩ := h.f
  obtain ⟨⟨cells, hc⟩, ⟨cols, hd⟩⟩ := h
  rw [rowsN_cel hc] at hn
  rw [rowsN_sl hd] at hn2
  have hC := fun m => ref_SameCells u hc (by omega) j (by omega) m
  have hD := fun m => ref_Same u.l09 c.d c.d hd hd (by omega) j (by omega) m
  simp only [sameH_self, sameQs_self, Bool.and_self, dV] at hD
  have hV := fun (a b c d : Int) (s t : List UInt8) => @eq_vP a b c d s t
  unfold PV.flat at c1 c2
  refine denF_wp u.change rfl (args' := [.p (.agg (chV c)), .p (.agg (chV c))]) rfl ?_
  simp (maxSteps := 8000000) [Fn.f_haulageref15_SameChange, chV, c1, c2, hC, hD, hV]
theorem p167 : Fn.f_haulageref15_SameChange.pure = true := rfl
theorem ref_SameL (u : A25 E) {sa sb : PV} {l : List Ch} (ha : LQ sa l) (hb : LQ sb l) (hl : ∀ c ∈ l, ChOk c ∧ (rowsN c.cs : Int) ≤ 1000 ∧ (rowsN c.sl : Int) ≤ 1000) (hn : (l.length : Int) ≤ 1000000) (k : Nat) (hk : l.length + 1200 ≤ k) (m : Mem) :
    denF E (k + 1) 133 [.p sa, .p sb] m = some (.ret (.p (.bool true)), m) := by
  obtain ⟨j, rfl⟩ : ∃ j, k = j + 1 := ⟨k - 1, by omega⟩
  refine denF_wp u.same rfl (args' := [.p sa, .p sb]) rfl ?_
  have hmain : Wp (iter (loopF E (denF E (j + 1)) (j + 1) Fn.f_haulageref25_Same_k0 Fn.f_haulageref25_Same_b0) (j + 1) ⟨[.p sa, .p sb, .tup [], .tup [], .p (.bool false), .p (.int .i64 0), .p sa, .p (.int .i64 l.length), .p sb, .p (.int .i64 l.length), .p (.bool false)] ++ List.replicate 16 (.tup []), [], []⟩)
      (fun e st => e = .exit 0 ∧ st.ds = [] ∧ st.ts.length = 27) := by
    refine loop_wp (α := Nat) (I := fun i st => i ≤ l.length ∧ Live Fn.f_haulageref25_Same_k0 (Fn.f_haulageref25_Same_s0 (.p sa) (.p sb) (.p (.int .i64 i))) [] st) (meas := fun i => l.length - i) ?_ (j + 1) 0 _ ⟨Nat.zero_le _, rfl, rfl, rfl, rfl⟩ (by omega)
    rintro i st ⟨hi, hlive⟩
    rw [loopF_live hlive]
    by_cases hlt : i < l.length
    · have hlt' : (i : Int) < l.length := by omega
      obtain ⟨c, hc⟩ : ∃ c, l[i]? = some c := ⟨_, List.getElem?_eq_getElem hlt⟩
      have hw : IntKind.i64.wrap ((i : Int) + 1) = ((i + 1 : Nat) : Int) := by rw [wrap_i64 (by omega) (by omega)]; omega
      obtain ⟨q1, q2, q3⟩ := hl c (List.mem_of_getElem? hc)
      have hS := fun m => ref_SameChange u q1 q2 q3 j (by omega) m
      simp only [chV] at hS
      rcases ha with ⟨rfl, rfl⟩ | rfl
      · simp at hlt
      rcases hb with ⟨rfl, rfl⟩ | rfl
      · simp at hlt
      simp [Fn.f_haulageref25_Same_b0, Fn.f_haulageref25_Same_s0, hlt, hlt', hc, chV, hS, u.change, p167, hw, -Int.natCast_add]
      exact ⟨i + 1, by omega, hlt, rfl, rfl, rfl, rfl⟩
    · have hlt' : ¬ (i : Int) < l.length := by omega
      obtain rfl : i = l.length := by omega
      rcases ha with ⟨rfl, rfl⟩ | rfl
      · simp [Fn.f_haulageref25_Same_b0, Fn.f_haulageref25_Same_s0]
      · simp [Fn.f_haulageref25_Same_b0, Fn.f_haulageref25_Same_s0]
  obtain ⟨e, st, hrun, rfl, hds, hlen⟩ := hmain
  obtain ⟨ts, m', ds⟩ := st
  simp only at hds hlen
  subst hds
  simp only [List.replicate, List.cons_append, List.nil_append] at hrun
  have hx := expand_ts 27 ts hlen
  simp only [List.range, List.range.loop, List.map_cons, List.map_nil] at hx
  rcases ha with ⟨rfl, rfl⟩ | rfl
  · rcases hb with ⟨_, rfl⟩ | rfl
    · simp only [List.length_nil, Int.natCast_zero] at hrun
      simp [Fn.f_haulageref25_Same, bne, hrun]
      rw [hx]
      simp
    · simp only [List.length_nil, Int.natCast_zero] at hrun
      simp only [List.map_nil] at hrun
      simp [Fn.f_haulageref25_Same, bne, hrun]
      rw [hx]
      simp
  · rcases hb with ⟨rfl, rfl⟩ | rfl
    · simp only [List.length_nil, Int.natCast_zero, List.map_nil] at hrun
      simp [Fn.f_haulageref25_Same, bne, hrun]
      rw [hx]
      simp
    · simp [Fn.f_haulageref25_Same, bne, hrun]
      rw [hx]
      simp
end Hx
