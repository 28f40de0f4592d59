/-
  HxU25d: what a run comes to, as the document says.
-/
import Derived.Test.YtoedcjhheihhiaaHxU25c
namespace Hx
open Go
set_option linter.unusedSimpArgs false
set_option linter.unusedVariables false
set_option maxHeartbeats 32000000
set_option maxRecDepth 20000
variable {E : Env}
attribute [-simp] List.getD_eq_getElem?_getD getElem?_pos
def OutAt (m : Mem) (out : List Ch) (av : AV) : Prop := (out = [] ∧ av = .p .nils) ∨ ∃ tok, av = .tv 19 (out.map chV) tok ∧ m[tok]? = some (.tok 19 out.length)
theorem OutAt.keep {m m' : Mem} {out : List Ch} {av : AV} (h : OutAt m out av) (hk : ∀ (t n : Nat), m[t]? = some (Blk.tok 19 n) → m'[t]? = some (Blk.tok 19 n)) : OutAt m' out av := by
  rcases h with h | ⟨tok, h1, h2⟩
  · exact .inl h
  · exact .inr ⟨tok, h1, hk _ _ h2⟩
theorem get_app {m l : Mem} {i : Nat} {b : Blk} (h : m[i]? = some b) : (m ++ l)[i]? = some b := by
  rw [List.getElem?_append_left]
  · exact h
  · exact (List.getElem?_eq_some_iff.1 h).1
theorem firsts_len : ∀ (l pre : List Ch), (firsts pre l).length ≤ l.length
  | [], _ => Nat.le_refl _
  | c :: r, pre => by
    have := firsts_len r (pre ++ [c])
    unfold firsts
    split <;> simp <;> omega
theorem firsts_take {l : List Ch} {i : Nat} {c : Ch} (h : l[i]? = some c) : firsts [] (l.take (i + 1)) = firsts [] (l.take i) ++ (if (l.take i).any (sm c) then [] else [c]) := by
  obtain ⟨h1, h2⟩ := List.getElem?_eq_some_iff.1 h
  rw [List.take_succ_eq_append_getElem h1, firsts_snoc, h2, List.nil_append]
def gK (kd : Int) (l : List Ch) (c : Ch) : Option Ch := (comesB c (lastOf l c)).filter fun c => c.kind == kd
theorem runK_eq (kd : Int) (l : List Ch) : runK kd l = (firsts [] l).filterMap (gK kd l) := rfl
def preK (kd : Int) (l : List Ch) (i : Nat) : List Ch := (firsts [] (l.take i)).filterMap (gK kd l)
theorem preK_len (kd : Int) (l : List Ch) (i : Nat) : (preK kd l i).length ≤ l.length := by
  unfold preK
  have h1 := List.length_filterMap_le (gK kd l) (firsts [] (l.take i))
  have h2 := firsts_len (l.take i) []
  have h3 : (l.take i).length ≤ l.length := by rw [List.length_take]; omega
  omega
theorem preK_step {kd : Int} {l : List Ch} {i : Nat} {c : Ch} (h : l[i]? = some c) : preK kd l (i + 1) = preK kd l i ++ (if (l.take i).any (sm c) then [] else (gK kd l c).toList) := by
  unfold preK
  rw [firsts_take h, List.filterMap_append]
  congr 1
  split
  · rfl
  · cases hg : gK kd l c <;> simp [hg]
theorem gK_R (kd : Int) (l : List Ch) (c : Ch) : (gK kd l c).toList = if (comesR c (lastOf l c)).2 = true ∧ (comesR c (lastOf l c)).1.kind = kd then [(comesR c (lastOf l c)).1] else [] := by
  unfold gK
  rw [comesR_B]
  cases h : (comesR c (lastOf l c)).2 with
  | false => simp
  | true =>
    by_cases hk : (comesR c (lastOf l c)).1.kind = kd
    · simp [hk]
    · simp [hk]
theorem comesR_F {f z : Ch} (h : ChF z) : ChF (comesR f z).1 := by
  unfold comesR
  split <;> split <;> exact ⟨h.cs, h.sl⟩
def ordV : AV := .tv 1 [[.int .i64 3], [.int .i64 2], [.int .i64 1]] 0
theorem run_inner (u : R25 E) {sl : PV} {l : List Ch} (hl : LQ sl l) (hf : ∀ c ∈ l, ChF c) (hn : (l.length : Int) ≤ 1000000) (k : Nat) (hk : l.length + 8 ≤ k) {kd : Int} {q : Nat} (hq : ([[.int .i64 3], [.int .i64 2], [.int .i64 1]] : List (List PV))[q]? = some [.int .i64 kd])
    {base : List Ch} (hbase : base.length ≤ 3000000) {m : Mem} {av : AV} (ho : OutAt m base av) {st : St} (hst : Live Fn.f_haulageref25_run_k1 (Fn.f_haulageref25_run_s1 (.p sl) av ordV (.p (.int .i64 q)) (.p (.int .i64 0))) m st) :
    Wp (iter (loopF E (denF E k) k Fn.f_haulageref25_run_k1 Fn.f_haulageref25_run_b1) k st)
      (fun e st => e = .exit 2 ∧ st.ds = [] ∧ st.ts.length = 45 ∧ st.ts.getD 0 (.tup []) = .p sl ∧ st.ts.getD 4 (.tup []) = ordV ∧ st.ts.getD 5 (.tup []) = .p (.int .i64 q) ∧ OutAt st.m (base ++ runK kd l) (st.ts.getD 3 (.tup []))) := by
  obtain ⟨j, rfl⟩ : ∃ j, k = j + 1 := ⟨k - 1, by omega⟩
  refine loop_wp (α := Nat × Mem × AV) (I := fun a st => a.1 ≤ l.length ∧ OutAt a.2.1 (base ++ preK kd l a.1) a.2.2 ∧ Live Fn.f_haulageref25_run_k1 (Fn.f_haulageref25_run_s1 (.p sl) a.2.2 ordV (.p (.int .i64 q)) (.p (.int .i64 a.1))) a.2.1 st) (meas := fun a => l.length - a.1) ?_ (j + 1) (0, m, av) st ⟨Nat.zero_le _, by simpa [preK, firsts] using ho, hst⟩ (by simp only [Nat.sub_zero]; omega)
  rintro ⟨i, m, av⟩ st ⟨hi, ho, hlive⟩
  simp only at hi ho hlive
  rw [loopF_live hlive]
  by_cases hlt : i < l.length
  · have hlt' : (i : Int) < l.length := by omega
    obtain ⟨c, hc⟩ : ∃ c, l[i]? = some c := ⟨_, List.getElem?_eq_getElem hlt⟩
    have hw : IntKind.i64.wrap ((i : Int) + 1) = ((i + 1 : Nat) : Int) := by rw [wrap_i64 (by omega) (by omega)]; omega
    have hcm := List.mem_of_getElem? hc
    have hF := fun m => ref_first u hl hf hc hn j (by omega) m
    have hC := fun m => ref_comes u hl hf hc hn j (by omega) m
    have hpk : base ++ preK kd l (i + 1) = (base ++ preK kd l i) ++ (if (l.take i).any (sm c) then [] else (gK kd l c).toList) := by rw [preK_step hc, List.append_assoc]
    rw [gK_R] at hpk
    have hlen : (base ++ preK kd l i).length ≤ 4000000 := by have := preK_len kd l i; rw [List.length_append]; omega
    obtain ⟨z1, z2⟩ := comesR_F (f := c) (hf _ (lastOf_mem hcm))
    unfold PV.flat at z1 z2
    generalize base ++ preK kd l i = out at ho hlen hpk
    generalize comesR c (lastOf l c) = zb at hC hpk z1 z2
    obtain ⟨z, b⟩ := zb
    simp only at hC hpk z1 z2
    simp only [chV] at hC
    have hq' := hq
    have hql : q < 3 := by have := (List.getElem?_eq_some_iff.1 hq).1; simpa using this
    rcases hl with ⟨rfl, rfl⟩ | rfl
    · simp at hlt
    cases h1 : (l.take i).any (sm c) with
    | true =>
      rw [h1] at hF hpk
      simp only [if_true, List.append_nil] at hpk
      simp [Fn.f_haulageref25_run_b1, Fn.f_haulageref25_run_s1, hlt, hlt', hc, hF, hw, -Int.natCast_add]
      exact ⟨i + 1, by omega, hlt, m, av, by rw [hpk]; exact ho, rfl, rfl, rfl, rfl⟩
    | false =>
      rw [h1] at hF hpk
      simp only [Bool.false_eq_true, if_false] at hpk
      have hset : ∀ (x y : Blk), (m ++ [x]).set m.length y = m ++ [y] := fun x y => by rw [List.set_append_right _ _ (Nat.le_refl _), Nat.sub_self]; rfl
      have hget : ∀ (x : Blk), (m ++ [x])[m.length]? = some x := fun x => by rw [List.getElem?_append_right (Nat.le_refl _), Nat.sub_self]; rfl
      cases b with
      | false =>
        simp only [Bool.false_eq_true, false_and, if_false, List.append_nil] at hpk
        simp (maxSteps := 8000000) [Fn.f_haulageref25_run_b1, Fn.f_haulageref25_run_s1, hlt, hlt', hc, hF, hC, hset, hget, z1, z2, chV, hw, -Int.natCast_add]
        exact ⟨i + 1, by omega, hlt, _, av, by rw [hpk]; exact ho.keep fun t n h => get_app h, rfl, rfl, rfl, rfl⟩
      | true =>
        cases hk2 : (z.kind == kd) with
        | false =>
          have hk3 : ¬ z.kind = kd := by simpa using hk2
          simp only [hk3, and_false, if_false, List.append_nil] at hpk
          simp (maxSteps := 8000000) [Fn.f_haulageref25_run_b1, Fn.f_haulageref25_run_s1, hlt, hlt', hc, hF, hC, hset, hget, z1, z2, chV, hw, ordV, hq, hk2, -Int.natCast_add]
          exact ⟨i + 1, by omega, hlt, _, av, by rw [hpk]; exact ho.keep fun t n h => get_app h, rfl, rfl, rfl, rfl⟩
        | true =>
          have hk3 : z.kind = kd := by simpa using hk2
          simp only [hk3, and_self, if_true] at hpk
          rcases ho with ⟨rfl, rfl⟩ | ⟨tok, rfl, ht⟩
          · simp (maxSteps := 8000000) [Fn.f_haulageref25_run_b1, Fn.f_haulageref25_run_s1, hlt, hlt', hc, hF, hC, hset, hget, z1, z2, chV, hw, ordV, hq, hk2, room, -Int.natCast_add]
            refine ⟨i + 1, by omega, hlt, _, _, ?_, rfl, rfl, rfl, rfl⟩
            rw [hpk]
            refine .inr ⟨m.length + 1, by simp [chV], ?_⟩
            rw [List.getElem?_append_right (by simp)]
            simp
          · have ht1 : ∀ (x : Blk), (m ++ [x])[tok]? = some (Blk.tok 19 out.length) := fun x => get_app ht
            have hr1 : (out.length + 1) * 240 ≤ 70368744177664 := by omega
            have hr2 : out.length + 1 ≤ 70368744177664 := by omega
            simp (maxSteps := 8000000) [Fn.f_haulageref25_run_b1, Fn.f_haulageref25_run_s1, hlt, hlt', hc, hF, hC, hset, hget, ht1, hr1, hr2, z1, z2, chV, hw, ordV, hq, hk2, room, -Int.natCast_add]
            refine ⟨i + 1, by omega, hlt, _, _, ?_, rfl, rfl, rfl, rfl⟩
            rw [hpk]
            refine .inr ⟨tok, by simp [chV], ?_⟩
            rw [List.getElem?_set_self (by have := (List.getElem?_eq_some_iff.1 (ht1 (.cells []))).1; simpa using this)]
            simp
  · have hlt' : ¬ (i : Int) < l.length := by omega
    have e1 : preK kd l i = runK kd l := by unfold preK; rw [List.take_of_length_le (by omega)]; rfl
    rw [e1] at ho
    rcases hl with ⟨rfl, rfl⟩ | rfl
    · obtain rfl : i = 0 := by simpa using hi
      simp [Fn.f_haulageref25_run_b1, Fn.f_haulageref25_run_s1, hlt, hlt', ho]
    · simp [Fn.f_haulageref25_run_b1, Fn.f_haulageref25_run_s1, hlt, hlt', ho]
theorem OutAt.strip {m : Mem} {out : List Ch} {av : AV} (h : OutAt m out av) : ∃ sl, stripV av = some (.p sl) ∧ LQ sl out := by
  rcases h with ⟨rfl, rfl⟩ | ⟨tok, rfl, _⟩
  · exact ⟨.nils, by simp, .inl ⟨rfl, rfl⟩⟩
  · exact ⟨.vals 19 (out.map chV), by simp, .inr rfl⟩
def runN (l : List Ch) : Nat → List Ch
  | 0 => []
  | 1 => runK 3 l
  | 2 => runK 3 l ++ runK 2 l
  | _ => run25 l
theorem runK_len (kd : Int) (l : List Ch) : (runK kd l).length ≤ l.length := by
  have := preK_len kd l l.length
  unfold preK at this
  rwa [List.take_length, ← runK_eq] at this
theorem ref_run (u : R25 E) {sl : PV} {l : List Ch} (hl : LQ sl l) (hf : ∀ c ∈ l, ChF c) (hn : (l.length : Int) ≤ 1000000) (k : Nat) (hk : l.length + 20 ≤ k) :
    ∃ o, LQ o (run25 l) ∧ ∀ m, denF E (k + 1) 165 [.p sl] m = some (.ret (.p o), m) := by
  have hmain : Wp (iter (loopF E (denF E k) k Fn.f_haulageref25_run_k0 Fn.f_haulageref25_run_b0) k ⟨[.p sl, .tup [], .p .nils, .p .nils, ordV, .p (.int .i64 0), .tup [], .tup [], .tup [], ordV] ++ List.replicate 35 (.tup []), [.tok 1 3], []⟩)
      (fun e st => e = .exit 0 ∧ st.ds = [] ∧ st.ts.length = 45 ∧ OutAt st.m (run25 l) (st.ts.getD 3 (.tup []))) := by
    refine loop_wp (α := Nat × Mem × AV) (I := fun a st => a.1 ≤ 3 ∧ OutAt a.2.1 (runN l a.1) a.2.2 ∧ Live Fn.f_haulageref25_run_k0 (Fn.f_haulageref25_run_s0 (.p sl) a.2.2 ordV (.p (.int .i64 a.1))) a.2.1 st) (meas := fun a => 3 - a.1) ?_ k (0, [.tok 1 3], .p .nils) _ ⟨Nat.zero_le _, .inl ⟨rfl, rfl⟩, rfl, rfl, rfl, rfl⟩ (by show 3 - 0 < k; omega)
    rintro ⟨q, m, av⟩ st ⟨hi, ho, hlive⟩
    simp only at hi ho hlive
    rw [loopF_live hlive]
    have hb : (runN l q).length ≤ 3000000 := by
      have h1 := runK_len 3 l
      have h2 := runK_len 2 l
      have h3 := runK_len 1 l
      unfold runN run25
      split <;> (try simp only [List.length_nil, List.length_append]) <;> omega
    by_cases hlt : q < 3
    · obtain ⟨kd, hq, hnext⟩ : ∃ kd, ([[.int .i64 3], [.int .i64 2], [.int .i64 1]] : List (List PV))[q]? = some [.int .i64 kd] ∧ runN l (q + 1) = runN l q ++ runK kd l := by
        have : q = 0 ∨ q = 1 ∨ q = 2 := by omega
        rcases this with rfl | rfl | rfl
        · exact ⟨3, rfl, by simp [runN]⟩
        · exact ⟨2, rfl, rfl⟩
        · exact ⟨1, rfl, by simp [runN, run25]⟩
      have hlt' : (q : Int) < 3 := by omega
      have hw : IntKind.i64.wrap ((q : Int) + 1) = ((q + 1 : Nat) : Int) := by rw [wrap_i64 (by omega) (by omega)]; omega
      have hin := fun st hst => run_inner u hl hf hn k (by omega) hq hb ho (st := st) hst
      simp [Fn.f_haulageref25_run_b0, Fn.f_haulageref25_run_s0, hlt, hlt']
      refine (hin _ ⟨rfl, rfl, rfl, rfl⟩).mono ?_
      rintro e st ⟨rfl, hds, hlen, g0, g4, g5, g3⟩
      obtain ⟨ts, m', ds⟩ := st
      simp only at hds hlen g0 g4 g5 g3
      subst hds
      have hx := expand_ts 45 ts hlen
      simp only [List.range, List.range.loop, List.map_cons, List.map_nil] at hx
      generalize hav : ts.getD 3 (.tup []) = av' at *
      rw [g0, g4, g5] at hx
      rw [hx]
      simp [hw, -Int.natCast_add]
      exact ⟨q + 1, by omega, hlt, _, _, by rw [hnext]; exact g3, rfl, rfl, rfl, rfl⟩
    · obtain rfl : q = 3 := by omega
      simp [Fn.f_haulageref25_run_b0, Fn.f_haulageref25_run_s0]
      exact ho
  obtain ⟨e, st, hrun, rfl, hds, hlen, ho⟩ := hmain
  obtain ⟨o, ho1, ho2⟩ := ho.strip
  refine ⟨o, ho2, fun m => ?_⟩
  refine denF_wp u.run rfl (args' := [.p sl]) rfl ?_
  simp only [List.replicate, List.cons_append, List.nil_append, ordV] at hrun
  simp [Fn.f_haulageref25_run, hrun]
  obtain ⟨ts, m', ds⟩ := st
  simp only at hds hlen ho ho1
  subst hds
  have hx := expand_ts 45 ts hlen
  simp only [List.range, List.range.loop, List.map_cons, List.map_nil] at hx
  rw [hx]
  generalize ts.getD 3 (.tup []) = av at *
  rcases ho with ⟨_, rfl⟩ | ⟨tok, rfl, _⟩
  · simp at ho1 ⊢; exact ho1
  · simp at ho1 ⊢; exact ho1
end Hx
