/-
  HxU25c: the document's functions of a run: the first one, what comes of a row, what is wrong.
-/
import Derived.Test.YtoedcjhheihhiaaHxU25b
namespace Hx
open Go
set_option linter.unusedSimpArgs false
set_option linter.unusedVariables false
set_option maxHeartbeats 32000000
set_option maxRecDepth 20000
variable {E : Env}
attribute [-simp] List.getD_eq_getElem?_getD getElem?_pos
theorem lastI_spec (c : Ch) : ∀ (l : List Ch) (i : Nat) (at_ : Int), (l.any (sm c) = false ∧ lastI c l i at_ = at_) ∨ (l.any (sm c) = true ∧ ∃ j : Nat, lastI c l i at_ = ((i + j : Nat) : Int) ∧ l[j]? = some (lastOf l c))
  | [], i, at_ => .inl ⟨rfl, rfl⟩
  | x :: r, i, at_ => by
    simp only [lastI, List.any_cons, sm_comm x c]
    rcases lastI_spec c r (i + 1) (if sm c x then (i : Int) else at_) with ⟨h1, h2⟩ | ⟨h1, j, h2, h3⟩
    · cases hs : sm c x with
      | true =>
        refine .inr ⟨rfl, 0, ?_, ?_⟩
        · rw [hs] at h2; simpa using h2
        · have hf : r.filter (sm c) = [] := by
            rw [List.filter_eq_nil_iff]
            intro y hy
            simpa using List.any_eq_false.1 h1 y hy
          simp [lastOf, hs, hf]
      | false =>
        rw [hs] at h2
        exact .inl ⟨by simpa using h1, by simpa using h2⟩
    · refine .inr ⟨by rw [h1, Bool.or_true], j + 1, by rw [h2]; congr 1; omega, ?_⟩
      rw [List.getElem?_cons_succ, h3]
      obtain ⟨y, hy, hs⟩ := List.any_eq_true.1 h1
      have hne : r.filter (sm c) ≠ [] := by
        intro h0
        have : y ∈ r.filter (sm c) := List.mem_filter.2 ⟨hy, hs⟩
        rw [h0] at this; cases this
      unfold lastOf
      cases hx : sm c x with
      | true =>
        rw [List.filter_cons_of_pos hx, List.getLast?_cons_of_ne_nil hne]
      | false => rw [List.filter_cons_of_neg (by simp [hx])]
structure R25 (E : Env) : Prop where
  same : E.fn 187 = some Fn.f_haulageref25_same
  last : E.fn 168 = some Fn.f_haulageref25_last
  first : E.fn 184 = some Fn.f_haulageref25_first
  comes : E.fn 185 = some Fn.f_haulageref25_comes
  run : E.fn 165 = some Fn.f_haulageref25_run
  wrong : E.fn 166 = some Fn.f_haulageref25_wrong
theorem any_take {l : List Ch} {i : Nat} {x y : Ch} (h : l[i]? = some x) : (l.take (i + 1)).any (sm y) = ((l.take i).any (sm y) || sm y x) := by
  obtain ⟨h1, h2⟩ := List.getElem?_eq_some_iff.1 h
  rw [List.take_succ_eq_append_getElem h1, List.any_append, h2]; simp
theorem ref_first (u : R25 E) {sl : PV} {l : List Ch} (hl : LQ sl l) (hf : ∀ c ∈ l, ChF c) {n : Nat} {c : Ch} (hc : l[n]? = some c) (hn : (l.length : Int) ≤ 1000000) (k : Nat) (hk : l.length + 3 ≤ k) (m : Mem) :
    denF E (k + 1) 184 [.p sl, .p (.int .i64 n)] m = some (.ret (.p (.bool (!(l.take n).any (sm c)))), m) := by
  obtain ⟨j, rfl⟩ : ∃ j, k = j + 1 := ⟨k - 1, by omega⟩
  have hnl : n < l.length := (List.getElem?_eq_some_iff.1 hc).1
  have hcf := hf c (List.mem_of_getElem? hc)
  refine denF_wp u.first rfl (args' := [.p sl, .p (.int .i64 n)]) rfl ?_
  rcases hl with ⟨rfl, rfl⟩ | rfl
  · simp at hnl
  have hmain : Wp (iter (loopF E (denF E (j + 1)) (j + 1) Fn.f_haulageref25_first_k0 Fn.f_haulageref25_first_b0) (j + 1) ⟨[.p (.vals 19 (l.map chV)), .p (.int .i64 n), .tup [], .tup [], .p (.bool false), .p (.int .i64 0)] ++ List.replicate 14 (.tup []), [], []⟩)
      (fun e st => st.ds = [] ∧ st.ts.length = 20 ∧ ((e = .exit 0 ∧ (l.take n).any (sm c) = false) ∨ (e = .ret ∧ (l.take n).any (sm c) = true ∧ st.ts.getD 4 (.tup []) = .p (.bool false)))) := by
    refine loop_wp (α := Nat) (I := fun i st => i ≤ n ∧ (l.take i).any (sm c) = false ∧ Live Fn.f_haulageref25_first_k0 (Fn.f_haulageref25_first_s0 (.p (.vals 19 (l.map chV))) (.p (.int .i64 n)) (.p (.int .i64 i))) [] st) (meas := fun i => n - i) ?_ (j + 1) 0 _ ⟨Nat.zero_le _, rfl, rfl, rfl, rfl, rfl⟩ (by omega)
    rintro i st ⟨hi, hsq, hlive⟩
    rw [loopF_live hlive]
    by_cases hlt : i < n
    · have hlt' : (i : Int) < n := by omega
      have hil : i < l.length := by omega
      obtain ⟨x, hx⟩ : ∃ x, l[i]? = some x := ⟨_, List.getElem?_eq_getElem hil⟩
      have hw : IntKind.i64.wrap ((i : Int) + 1) = ((i + 1 : Nat) : Int) := by rw [wrap_i64 (by omega) (by omega)]; omega
      have hxf := hf x (List.mem_of_getElem? hx)
      have hS := fun m => ref_same u.same hxf hcf j m
      rw [sm_comm] at hS
      have ht := any_take (y := c) hx
      rw [hsq, Bool.false_or] at ht
      cases q : sm c x with
      | true =>
        rw [q] at hS ht
        unfold chV at hS
        have hT : (l.take n).any (sm c) = true := by
          obtain ⟨y, hy, hys⟩ := List.any_eq_true.1 ht
          refine List.any_eq_true.2 ⟨y, ?_, hys⟩
          have : l.take (i + 1) = (l.take n).take (i + 1) := by rw [List.take_take, Nat.min_eq_left hlt]
          rw [this] at hy
          exact List.mem_of_mem_take hy
        simp [Fn.f_haulageref25_first_b0, Fn.f_haulageref25_first_s0, hlt, hlt', hx, hc, chV, hS, u.same, p187, -List.any_eq_true]
        exact hT
      | false =>
        rw [q] at hS ht
        unfold chV at hS
        simp [Fn.f_haulageref25_first_b0, Fn.f_haulageref25_first_s0, hlt, hlt', hx, hc, chV, hS, u.same, p187, hw, -Int.natCast_add, -List.any_eq_false]
        exact ⟨i + 1, by omega, hlt, ht, rfl, rfl, rfl, rfl⟩
    · have hlt' : ¬ (i : Int) < n := by omega
      obtain rfl : i = n := by omega
      simp [Fn.f_haulageref25_first_b0, Fn.f_haulageref25_first_s0, -List.any_eq_false]
      exact hsq
  obtain ⟨e, st, hrun, hds, hlen, hq⟩ := hmain
  simp only [List.replicate, List.cons_append, List.nil_append] at hrun
  simp [Fn.f_haulageref25_first, hrun, -List.any_eq_false, -List.any_eq_true]
  obtain ⟨ts, m', ds⟩ := st
  simp only at hds hlen hq
  subst hds
  rcases hq with ⟨rfl, hz⟩ | ⟨rfl, hz, h2⟩
  · have hx := expand_ts 20 ts hlen
    simp only [List.range, List.range.loop, List.map_cons, List.map_nil] at hx
    rw [hx, hz]
    simp
  · rw [hz]
    simp [h2]
def comesR (f z : Ch) : Ch × Bool := if f.kind = 1 then (if z.kind = 3 then (z, false) else ({ z with kind := 1 }, true)) else if z.kind = 3 then (z, true) else ({ z with kind := 2 }, true)
theorem comesR_B (f z : Ch) : comesB f z = if (comesR f z).2 then some (comesR f z).1 else none := by
  unfold comesB comesR
  split <;> split <;> rfl
theorem lastOf_mem {l : List Ch} {c : Ch} (hc : c ∈ l) : lastOf l c ∈ l := by
  rcases lastI_spec c l 0 (-1) with ⟨h, _⟩ | ⟨_, j, _, h⟩
  · have := List.any_eq_false.1 h c hc
    rw [sm_self] at this; simp at this
  · exact List.mem_of_getElem? h
theorem ref_comes (u : R25 E) {sl : PV} {l : List Ch} (hl : LQ sl l) (hf : ∀ c ∈ l, ChF c) {n : Nat} {c : Ch} (hc : l[n]? = some c) (hn : (l.length : Int) ≤ 1000000) (k : Nat) (hk : l.length + 5 ≤ k) (m : Mem) :
    denF E (k + 1) 185 [.p sl, .p (.int .i64 n)] m = some (.ret (.tup [.p (.agg (chV (comesR c (lastOf l c)).1)), .p (.bool (comesR c (lastOf l c)).2)]), m) := by
  obtain ⟨j, rfl⟩ : ∃ j, k = j + 1 := ⟨k - 1, by omega⟩
  have hnl : n < l.length := (List.getElem?_eq_some_iff.1 hc).1
  have hcm := List.mem_of_getElem? hc
  have hcf := hf c hcm
  have hL := fun m => ref_last u.same u.last hl hf hcf hn j (by omega) m
  rcases lastI_spec c l 0 (-1) with ⟨h, _⟩ | ⟨_, q, h1, h2⟩
  · have := List.any_eq_false.1 h c hcm
    rw [sm_self] at this; simp at this
  rw [h1, Nat.zero_add] at hL
  have hql : q < l.length := (List.getElem?_eq_some_iff.1 h2).1
  have hzf := hf _ (List.mem_of_getElem? h2)
  generalize lastOf l c = z at *
  obtain ⟨z1, z2⟩ := hzf
  unfold PV.flat at z1 z2
  refine denF_wp u.comes rfl (args' := [.p sl, .p (.int .i64 n)]) rfl ?_
  rcases hl with ⟨rfl, rfl⟩ | rfl
  · simp at hnl
  simp only [chV] at hL
  unfold comesR
  cases q1 : (c.kind == 1) with
  | true =>
    have e1 : c.kind = 1 := by simpa using q1
    rw [e1] at hL
    cases q2 : (z.kind == 3) with
    | true =>
      have e2 : z.kind = 3 := by simpa using q2
      simp (maxSteps := 8000000) [Fn.f_haulageref25_comes, hc, h2, chV, hL, z1, z2, e1, e2]
    | false =>
      have e2 : ¬ z.kind = 3 := by simpa using q2
      simp (maxSteps := 8000000) [Fn.f_haulageref25_comes, hc, h2, chV, hL, z1, z2, e1, e2, q2]
  | false =>
    have e1 : ¬ c.kind = 1 := by simpa using q1
    cases q2 : (z.kind == 3) with
    | true =>
      have e2 : z.kind = 3 := by simpa using q2
      simp (maxSteps := 8000000) [Fn.f_haulageref25_comes, hc, h2, chV, hL, z1, z2, e1, e2, q1, bne]
    | false =>
      have e2 : ¬ z.kind = 3 := by simpa using q2
      simp (maxSteps := 8000000) [Fn.f_haulageref25_comes, hc, h2, chV, hL, z1, z2, e1, e2, q1, q2, bne]
theorem ref_wrong (u : R25 E) {sl : PV} {l : List Ch} (hl : LQ sl l) (hf : ∀ c ∈ l, ChF c) {c : Ch} (hcf : ChF c) (hn : (l.length : Int) ≤ 1000000) (k : Nat) (hk : l.length + 5 ≤ k) (m : Mem) :
    denF E (k + 1) 166 [.p sl, .p (.agg (chV c))] m = some (.ret (.p (.int .i64 (wrongD l c))), m) := by
  obtain ⟨j, rfl⟩ : ∃ j, k = j + 1 := ⟨k - 1, by omega⟩
  have hL := fun m => ref_last u.same u.last hl hf hcf hn j (by omega) m
  obtain ⟨c1, c2⟩ := id hcf
  unfold PV.flat at c1 c2
  unfold wrongD
  have hlen : lenV (.p sl) = some l.length := by rcases hl with ⟨rfl, rfl⟩ | rfl <;> simp
  refine denF_wp u.wrong rfl (args' := [.p sl, .p (.agg (chV c))]) rfl ?_
  rcases lastI_spec c l 0 (-1) with ⟨h, h1⟩ | ⟨h, q, h1, h2⟩
  · rw [h1] at hL
    simp only [chV] at hL
    rw [h]
    rcases hl with ⟨rfl, rfl⟩ | rfl
    · simp at hL
      simp (maxSteps := 8000000) [Fn.f_haulageref25_wrong, chV, c1, c2, hL]
    · simp (maxSteps := 8000000) [Fn.f_haulageref25_wrong, chV, c1, c2, hL]
  · rw [h1, Nat.zero_add] at hL
    have hql : q < l.length := (List.getElem?_eq_some_iff.1 h2).1
    have hq0 : ¬ (q : Int) < 0 := by omega
    rw [h]
    generalize lastOf l c = z at *
    rcases hl with ⟨rfl, rfl⟩ | rfl
    · simp at hql
    simp only [chV] at hL
    cases q1 : (c.kind == 1) with
    | true =>
      have e1 : c.kind = 1 := by simpa using q1
      rw [e1] at hL
      cases q2 : (z.kind == 3) with
      | true =>
        have e2 : z.kind = 3 := by simpa using q2
        simp (maxSteps := 8000000) [Fn.f_haulageref25_wrong, h2, hq0, chV, c1, c2, hL, e1, e2, bne]
      | false =>
        have e2 : ¬ z.kind = 3 := by simpa using q2
        simp (maxSteps := 8000000) [Fn.f_haulageref25_wrong, h2, hq0, chV, c1, c2, hL, e1, e2, q2, bne]
    | false =>
      have e1 : ¬ c.kind = 1 := by simpa using q1
      cases q2 : (z.kind == 3) with
      | true =>
        have e2 : z.kind = 3 := by simpa using q2
        simp (maxSteps := 8000000) [Fn.f_haulageref25_wrong, h2, hq0, chV, c1, c2, hL, e1, e2, q1, bne]
      | false =>
        have e2 : ¬ z.kind = 3 := by simpa using q2
        simp (maxSteps := 8000000) [Fn.f_haulageref25_wrong, h2, hq0, chV, c1, c2, hL, e1, e2, q1, q2, bne]
end Hx
