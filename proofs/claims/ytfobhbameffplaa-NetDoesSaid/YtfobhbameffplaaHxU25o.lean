/-
  HxU25o: how many rows there are, as the document says; which changes are tried.
-/
import Derived.Test.YtfobhbameffplaaHxU25i
namespace Hx
open Go
set_option linter.unusedSimpArgs false
set_option linter.unusedVariables false
set_option maxHeartbeats 64000000
set_option maxRecDepth 20000
variable {E : Env}
attribute [-simp] List.getD_eq_getElem?_getD getElem?_pos
def vE (b : Ch × Ch) : AV := .p (.agg (chV b.1 ++ chV b.2))
def OrdAt (m : Mem) (R : List En) (av : AV) : Prop := (R = [] ∧ av = .p .nils) ∨ ∃ tok, av = .tv 4 (R.map fun e => keyC e.1) tok ∧ m[tok]? = some (Blk.tok 4 R.length)
structure RunAt (m : Mem) (idr idm : Nat) (R : List En) : Prop where
  at_ : ∃ ord, m[idr]? = some (.cells [ord, .map idm]) ∧ OrdAt m R ord
  map : m[idm]? = some (.map (entsP vE R))
theorem ln_at0 {m : Mem} (a : Blk) (l : Mem) : (m ++ a :: l)[m.length]? = some a := by
  rw [List.getElem?_append_right (Nat.le_refl _), Nat.sub_self]; rfl
theorem ln_at1 {m : Mem} (a b : Blk) (l : Mem) : (m ++ a :: b :: l)[m.length + 1]? = some b := by
  rw [List.getElem?_append_right (by omega), Nat.add_sub_cancel_left]; rfl
theorem ln_at2 {m : Mem} (a b c : Blk) (l : Mem) : (m ++ a :: b :: c :: l)[m.length + 2]? = some c := by
  rw [List.getElem?_append_right (by omega), Nat.add_sub_cancel_left]; rfl
theorem ln_set0 {m : Mem} (a x : Blk) (l : Mem) : (m ++ a :: l).set m.length x = m ++ x :: l := by
  rw [List.set_append_right _ _ (Nat.le_refl _), Nat.sub_self]; rfl
theorem ln_set1 {m : Mem} (a b x : Blk) (l : Mem) : (m ++ a :: b :: l).set (m.length + 1) x = m ++ a :: x :: l := by
  rw [List.set_append_right _ _ (by omega), Nat.add_sub_cancel_left]; rfl
theorem ln_set2 {m : Mem} (a b c x : Blk) (l : Mem) : (m ++ a :: b :: c :: l).set (m.length + 2) x = m ++ a :: b :: x :: l := by
  rw [List.set_append_right _ _ (by omega), Nat.add_sub_cancel_left]; rfl
theorem lq_at0 {q m : Mem} (h : q.length = m.length) (a : Blk) (l : Mem) : (q ++ a :: l)[m.length]? = some a := by rw [← h]; exact ln_at0 a l
theorem lq_at1 {q m : Mem} (h : q.length = m.length) (a b : Blk) (l : Mem) : (q ++ a :: b :: l)[m.length + 1]? = some b := by rw [← h]; exact ln_at1 a b l
theorem idx_lt {m : Mem} {i : Nat} {b : Blk} (h : m[i]? = some b) : i < m.length := (List.getElem?_eq_some_iff.1 h).1
theorem idx_ne {m : Mem} {i j : Nat} {a b : Blk} (h : m[i]? = some a) (h' : m[j]? = some b) (hne : a ≠ b) : i ≠ j := by
  rintro rfl
  rw [h] at h'
  exact hne (Option.some.inj h')
theorem set_app {m l : Mem} {i : Nat} (h : i < m.length) (x : Blk) : (m ++ l).set i x = m.set i x ++ l := List.set_append_left _ _ h
theorem get_appl {m l : Mem} {i : Nat} (h : i < m.length) : (m ++ l)[i]? = m[i]? := List.getElem?_append_left h
theorem RunAt.tok_ne {m : Mem} {idr idm : Nat} {R : List En} (h : RunAt m idr idm R) {t n : Nat} (ht : m[t]? = some (Blk.tok 19 n)) : t ≠ idr ∧ t ≠ idm := by
  obtain ⟨ord, h1, _⟩ := h.at_
  exact ⟨idx_ne ht h1 (by simp), idx_ne ht h.map (by simp)⟩
theorem net_add_new (u : N25 E) {c : Ch} (hc : ChF c) {m : Mem} {idr idm : Nat} {R : List En} (hr : RunAt m idr idm R) (hn : R.length ≤ 1000000) (hF : findE c.key R = none) (k : Nat) (hk : 5 ≤ k) :
    ∃ m', denF E (k + 1) 148 [.ptr idr 0, .p (.agg (chV c))] m = some (.ret (.p (.int .i64 0)), m') ∧ RunAt m' idr idm (R ++ [(c.key, c, c)]) ∧ ∀ (t n : Nat), m[t]? = some (Blk.tok 19 n) → m'[t]? = some (Blk.tok 19 n) := by
  obtain ⟨j, rfl⟩ : ∃ j, k = j + 1 := ⟨k - 1, by omega⟩
  have hrow := fun m => net_rowOf u hc j m
  have htn := fun (t n : Nat) (ht : m[t]? = some (Blk.tok 19 n)) => hr.tok_ne ht
  obtain ⟨⟨ord, hm1, hord⟩, hm2⟩ := hr
  obtain ⟨c1, c2⟩ := id hc
  unfold PV.flat at c1 c2
  have hl1 := idx_lt hm1
  have hl2 := idx_lt hm2
  have hne : idr ≠ idm := idx_ne hm1 hm2 (by simp)
  have b1 : ∀ n, idr < m.length + n := fun n => by omega
  have b2 : ∀ n, idm < m.length + n := fun n => by omega
  have g1 : ∀ l : Mem, (m ++ l)[idr]? = some (.cells [ord, .map idm]) := fun l => by rw [get_appl hl1]; exact hm1
  have g2 : ∀ l : Mem, (m ++ l)[idm]? = some (.map (entsP vE R)) := fun l => by rw [get_appl hl2]; exact hm2
  have s1 : ∀ (l : Mem) (x : Blk), (m ++ l).set idr x = m.set idr x ++ l := fun l x => set_app hl1 x
  have g3 : ∀ (x : Blk) (l : Mem), (m.set idr x ++ l)[idr]? = some x := fun x l => by rw [get_appl (by simpa using hl1)]; exact List.getElem?_set_self hl1
  have g4 : ∀ (x : Blk) (l : Mem), (m.set idr x ++ l)[idm]? = some (.map (entsP vE R)) := fun x l => by rw [get_appl (by simpa using hl2), List.getElem?_set_ne hne]; exact hm2
  have s2 : ∀ (x y : Blk) (l : Mem), (m.set idr x ++ l).set idm y = (m.set idr x).set idm y ++ l := fun x y l => set_app (by simpa using hl2) y
  have g5 : ∀ (x a : Blk) (l : Mem), (m.set idr x ++ a :: l)[m.length]? = some a := fun x a l => lq_at0 (by simp) a l
  have g6 : ∀ (x a b : Blk) (l : Mem), (m.set idr x ++ a :: b :: l)[m.length + 1]? = some b := fun x a b l => lq_at1 (by simp) a b l
  have hfm := findM_none vE (k := c.key) (E := R) 0 (by rw [findK_E]; exact hF)
  have hkk := eq_key c.key c.key
  simp only [decide_true] at hkk
  simp only [keyE, keyP, Ch.key] at hfm hkk
  simp only [chV, keyC, Ch.key] at hrow
  rcases hord with ⟨rfl, rfl⟩ | ⟨tok, rfl, ht⟩
  · refine ⟨((m.set idr (.cells [.tv 4 [keyC c.key] (m.length + 3), .map idm])).set idm (.map (entsP vE [] ++ [(keyP c.key, vE (c, c))]))) ++ [.cells ((chV c).map .p), .cells ((keyC c.key).map .p), .cells ((chV chZ ++ chV chZ).map .p), .tok 4 1], ?_, ?_, ?_⟩
    · refine denF_wp_own u.add rfl ?_
      simp (maxSteps := 8000000) [Fn.f_net_run_add, chV, chZ, c1, c2, hrow, ln_at0, ln_at1, ln_at2, ln_set0, ln_set1, ln_set2, hl1, hl2, b1, b2, g1, g2, s1, g3, g4, s2, g5, g6, hfm, hkk, keyC, keyP, Ch.key, vE, room]
    · refine ⟨⟨_, by rw [get_appl (by simpa using hl1), List.getElem?_set_ne (Ne.symm hne), List.getElem?_set_self hl1]; rfl, .inr ⟨m.length + 3, rfl, ?_⟩⟩, ?_⟩
      · rw [List.getElem?_append_right (by simp), List.length_set, List.length_set, Nat.add_sub_cancel_left]; rfl
      · rw [get_appl (by simpa using hl2), List.getElem?_set_self (by simpa using hl2)]; rfl
    · intro t n h
      obtain ⟨n1, n2⟩ := htn t n h
      have h3 := idx_lt h
      rw [get_appl (by simpa using h3), List.getElem?_set_ne (Ne.symm n2), List.getElem?_set_ne (Ne.symm n1)]; exact h
  · have hlt := idx_lt ht
    have b3 : ∀ n, tok < m.length + n := fun n => by omega
    have n1 : tok ≠ idr := idx_ne ht hm1 (by simp)
    have n2 : tok ≠ idm := idx_ne ht hm2 (by simp)
    have t0 : ∀ l : Mem, (m ++ l)[tok]? = some (.tok 4 R.length) := fun l => by rw [get_appl hlt]; exact ht
    have t1 : ∀ (l : Mem) (x : Blk), (m ++ l).set tok x = m.set tok x ++ l := fun l x => set_app hlt x
    have s3 : ∀ (x y : Blk) (l : Mem), (m.set tok x ++ l).set idr y = (m.set tok x).set idr y ++ l := fun x y l => set_app (by simpa using hl1) y
    have g7 : ∀ (x : Blk) (l : Mem), (m.set tok x ++ l)[idr]? = some (.cells [.tv 4 (R.map fun e => keyC e.1) tok, .map idm]) := fun x l => by rw [get_appl (by simpa using hl1), List.getElem?_set_ne n1]; exact hm1
    have g8 : ∀ (x y : Blk) (l : Mem), ((m.set tok x).set idr y ++ l)[idr]? = some y := fun x y l => by rw [get_appl (by simpa using hl1)]; exact List.getElem?_set_self (by simpa using hl1)
    have g9 : ∀ (x y : Blk) (l : Mem), ((m.set tok x).set idr y ++ l)[idm]? = some (.map (entsP vE R)) := fun x y l => by rw [get_appl (by simpa using hl2), List.getElem?_set_ne hne, List.getElem?_set_ne n2]; exact hm2
    have s4 : ∀ (x y z : Blk) (l : Mem), ((m.set tok x).set idr y ++ l).set idm z = ((m.set tok x).set idr y).set idm z ++ l := fun x y z l => set_app (by simpa using hl2) z
    have ga : ∀ (x y a : Blk) (l : Mem), ((m.set tok x).set idr y ++ a :: l)[m.length]? = some a := fun x y a l => lq_at0 (by simp) a l
    have gb : ∀ (x y a b : Blk) (l : Mem), ((m.set tok x).set idr y ++ a :: b :: l)[m.length + 1]? = some b := fun x y a b l => lq_at1 (by simp) a b l
    have r1 : (R.length + 1) * 48 ≤ 70368744177664 := by omega
    have r2 : R.length + 1 ≤ 70368744177664 := by omega
    refine ⟨(((m.set tok (.tok 4 (R.length + 1))).set idr (.cells [.tv 4 ((R.map fun e => keyC e.1) ++ [keyC c.key]) tok, .map idm])).set idm (.map (entsP vE R ++ [(keyP c.key, vE (c, c))]))) ++ [.cells ((chV c).map .p), .cells ((keyC c.key).map .p), .cells ((chV chZ ++ chV chZ).map .p)], ?_, ?_, ?_⟩
    · refine denF_wp_own u.add rfl ?_
      simp only [keyC] at g1 g7 ⊢
      simp (maxSteps := 8000000) [Fn.f_net_run_add, chV, chZ, c1, c2, hrow, ln_at0, ln_at1, ln_at2, ln_set0, ln_set1, ln_set2, hl1, hl2, b1, b2, b3, g1, g2, t0, t1, s3, g7, g8, g9, s4, ga, gb, r1, r2, hfm, hkk, keyC, keyP, Ch.key, vE, room]
    · refine ⟨⟨_, by rw [get_appl (by simpa using hl1), List.getElem?_set_ne (Ne.symm hne), List.getElem?_set_self (by simpa using hl1)], .inr ⟨tok, by simp, ?_⟩⟩, ?_⟩
      · rw [get_appl (by simpa using hlt), List.getElem?_set_ne (Ne.symm n2), List.getElem?_set_ne (Ne.symm n1), List.getElem?_set_self hlt]; simp
      · rw [get_appl (by simpa using hl2), List.getElem?_set_self (by simpa using hl2)]; simp [entsP]
    · intro t n h
      obtain ⟨m1, m2⟩ := htn t n h
      have m3 : tok ≠ t := idx_ne ht h (by simp)
      have h3 := idx_lt h
      rw [get_appl (by simpa using h3), List.getElem?_set_ne (Ne.symm m2), List.getElem?_set_ne (Ne.symm m1), List.getElem?_set_ne m3]; exact h
theorem setE_len (k : Key25) (c : Ch) (R : List En) : (setE k c R).length = R.length := by
  rw [← List.length_map (f := fun e : En => e.1), setE_keys, List.length_map]
theorem setE_keyC (k : Key25) (c : Ch) (R : List En) : (setE k c R).map (fun e => keyC e.1) = R.map fun e => keyC e.1 := by
  have := congrArg (List.map keyC) (setE_keys k c R)
  rwa [List.map_map, List.map_map] at this
theorem net_add_old (u : N25 E) {c : Ch} (hc : ChF c) {m : Mem} {idr idm : Nat} {R : List En} (hr : RunAt m idr idm R) {b : Ch × Ch} (hb1 : ChF b.1) (hb2 : ChF b.2) (hF : findE c.key R = some b) (k : Nat) (hk : 5 ≤ k) :
    ∃ m', denF E (k + 1) 148 [.ptr idr 0, .p (.agg (chV c))] m = some (.ret (.p (.int .i64 (if c.kind = 1 ∧ b.2.kind ≠ 3 then 17 else if c.kind ≠ 1 ∧ b.2.kind = 3 then 18 else 0))), m') ∧
      (¬ (c.kind = 1 ∧ b.2.kind ≠ 3) → ¬ (c.kind ≠ 1 ∧ b.2.kind = 3) → RunAt m' idr idm (setE c.key c R) ∧ ∀ (t n : Nat), m[t]? = some (Blk.tok 19 n) → m'[t]? = some (Blk.tok 19 n)) := by
  obtain ⟨j, rfl⟩ : ∃ j, k = j + 1 := ⟨k - 1, by omega⟩
  have hrow := fun m => net_rowOf u hc j m
  have htn := fun (t n : Nat) (ht : m[t]? = some (Blk.tok 19 n)) => hr.tok_ne ht
  obtain ⟨⟨ord, hm1, hord⟩, hm2⟩ := hr
  obtain ⟨c1, c2⟩ := id hc
  obtain ⟨d1, d2⟩ := hb1
  obtain ⟨e1, e2⟩ := hb2
  unfold PV.flat at c1 c2 d1 d2 e1 e2
  have hl1 := idx_lt hm1
  have hl2 := idx_lt hm2
  have hne : idr ≠ idm := idx_ne hm1 hm2 (by simp)
  have b1 : ∀ n, idr < m.length + n := fun n => by omega
  have b2 : ∀ n, idm < m.length + n := fun n => by omega
  have g1 : ∀ l : Mem, (m ++ l)[idr]? = some (.cells [ord, .map idm]) := fun l => by rw [get_appl hl1]; exact hm1
  have g2 : ∀ l : Mem, (m ++ l)[idm]? = some (.map (entsP vE R)) := fun l => by rw [get_appl hl2]; exact hm2
  have s1 : ∀ (l : Mem) (x : Blk), (m ++ l).set idm x = m.set idm x ++ l := fun l x => set_app hl2 x
  obtain ⟨q, hfm, hset⟩ := findM_some vE (k := c.key) (E := R) (x := b) 0 (by rw [findK_E]; exact hF)
  rw [Nat.zero_add] at hfm
  have hset := hset (b.1, c)
  rw [setK_E c.key c hF] at hset
  have hkk := eq_key c.key c.key
  simp only [decide_true] at hkk
  have hsame := same_key c.key
  simp only [keyE, keyP, Ch.key, vE] at hfm hkk
  simp only [chV, keyC, Ch.key] at hrow
  obtain ⟨f, z⟩ := b
  simp only at *
  cases q1 : (c.kind == 1) with
  | true =>
    have x1 : c.kind = 1 := by simpa using q1
    rw [x1] at hrow
    cases q2 : (z.kind == 3) with
    | false =>
      have x2 : ¬ z.kind = 3 := by simpa using q2
      refine ⟨m ++ [.cells ((chV c).map .p), .cells ((keyC c.key).map .p), .cells ((chV f ++ chV z).map .p)], ?_, fun h => absurd ⟨x1, x2⟩ h⟩
      refine denF_wp_own u.add rfl ?_
      simp (maxSteps := 8000000) [Fn.f_net_run_add, chV, c1, c2, d1, d2, e1, e2, hrow, ln_at0, ln_at1, ln_at2, ln_set0, ln_set1, ln_set2, hl1, hl2, b1, b2, g1, g2, s1, hfm, hkk, keyC, keyP, Ch.key, vE, room, x1, x2, q2, bne]
    | true =>
      have x2 : z.kind = 3 := by simpa using q2
      refine ⟨m.set idm (.map ((entsP vE R).set q (keyP c.key, vE (f, c)))) ++ [.cells ((chV c).map .p), .cells ((keyC c.key).map .p), .cells ((chV f ++ chV c).map .p)], ?_, fun _ _ => ?_⟩
      · refine denF_wp_own u.add rfl ?_
        simp (maxSteps := 8000000) [Fn.f_net_run_add, chV, c1, c2, d1, d2, e1, e2, hrow, ln_at0, ln_at1, ln_at2, ln_set0, ln_set1, ln_set2, hl1, hl2, b1, b2, g1, g2, s1, hfm, hkk, keyC, keyP, Ch.key, vE, room, x1, x2, bne]
      · rw [hset]
        refine ⟨⟨⟨ord, by rw [get_appl (by simpa using hl1), List.getElem?_set_ne (Ne.symm hne)]; exact hm1, ?_⟩, ?_⟩, ?_⟩
        · rcases hord with ⟨rfl, rfl⟩ | ⟨tok, rfl, ht⟩
          · exact .inl ⟨rfl, rfl⟩
          · refine .inr ⟨tok, by rw [setE_keyC], ?_⟩
            rw [get_appl (by simpa using idx_lt ht), List.getElem?_set_ne (Ne.symm (idx_ne ht hm2 (by simp))), setE_len]; exact ht
        · rw [get_appl (by simpa using hl2), List.getElem?_set_self hl2]
        · intro t n h
          rw [get_appl (by simpa using idx_lt h), List.getElem?_set_ne (Ne.symm (htn t n h).2)]; exact h
  | false =>
    have x1 : ¬ c.kind = 1 := by simpa using q1
    cases q2 : (z.kind == 3) with
    | true =>
      have x2 : z.kind = 3 := by simpa using q2
      refine ⟨m ++ [.cells ((chV c).map .p), .cells ((keyC c.key).map .p), .cells ((chV f ++ chV z).map .p)], ?_, fun _ h => absurd ⟨x1, x2⟩ h⟩
      refine denF_wp_own u.add rfl ?_
      simp (maxSteps := 8000000) [Fn.f_net_run_add, chV, c1, c2, d1, d2, e1, e2, hrow, ln_at0, ln_at1, ln_at2, ln_set0, ln_set1, ln_set2, hl1, hl2, b1, b2, g1, g2, s1, hfm, hkk, keyC, keyP, Ch.key, vE, room, x1, x2, q1, bne]
    | false =>
      have x2 : ¬ z.kind = 3 := by simpa using q2
      refine ⟨m.set idm (.map ((entsP vE R).set q (keyP c.key, vE (f, c)))) ++ [.cells ((chV c).map .p), .cells ((keyC c.key).map .p), .cells ((chV f ++ chV c).map .p)], ?_, fun _ _ => ?_⟩
      · refine denF_wp_own u.add rfl ?_
        simp (maxSteps := 8000000) [Fn.f_net_run_add, chV, c1, c2, d1, d2, e1, e2, hrow, ln_at0, ln_at1, ln_at2, ln_set0, ln_set1, ln_set2, hl1, hl2, b1, b2, g1, g2, s1, hfm, hkk, keyC, keyP, Ch.key, vE, room, x1, x2, q1, q2, bne]
      · rw [hset]
        refine ⟨⟨⟨ord, by rw [get_appl (by simpa using hl1), List.getElem?_set_ne (Ne.symm hne)]; exact hm1, ?_⟩, ?_⟩, ?_⟩
        · rcases hord with ⟨rfl, rfl⟩ | ⟨tok, rfl, ht⟩
          · exact .inl ⟨rfl, rfl⟩
          · refine .inr ⟨tok, by rw [setE_keyC], ?_⟩
            rw [get_appl (by simpa using idx_lt ht), List.getElem?_set_ne (Ne.symm (idx_ne ht hm2 (by simp))), setE_len]; exact ht
        · rw [get_appl (by simpa using hl2), List.getElem?_set_self hl2]
        · intro t n h
          rw [get_appl (by simpa using idx_lt h), List.getElem?_set_ne (Ne.symm (htn t n h).2)]; exact h
end Hx

namespace Hx
open Go
set_option linter.unusedSimpArgs false
set_option linter.unusedVariables false
set_option maxHeartbeats 64000000
set_option maxRecDepth 20000
variable {E : Env}
attribute [-simp] List.getD_eq_getElem?_getD getElem?_pos
end Hx

namespace Hx
open Go
set_option linter.unusedSimpArgs false
set_option linter.unusedVariables false
set_option maxHeartbeats 64000000
set_option maxRecDepth 20000
variable {E : Env}
attribute [-simp] List.getD_eq_getElem?_getD getElem?_pos
end Hx

namespace Hx
open Go
set_option linter.unusedSimpArgs false
set_option linter.unusedVariables false
set_option maxHeartbeats 64000000
set_option maxRecDepth 20000
variable {E : Env}
attribute [-simp] List.getD_eq_getElem?_getD getElem?_pos

structure W25 (E : Env) : Prop where
  f09 : F09 E
  change : E.fn 139 = some Fn.f_haulagelaw15_FewChange
  few : E.fn 124 = some Fn.f_haulagelaw25_few
def SmallC (c : Ch) : Prop := rowsN c.cs ≤ 20 ∧ rowsN c.sl ≤ 20
theorem law_FewChange (u : W25 E) {c : Ch} (h : ChOk c) (k : Nat) (hk : 100 ≤ k) : ∃ b : Bool, (b = true → SmallC c) ∧ ∀ m, denF E (k + 1) 139 [.p (.agg (chV c))] m = some (.ret (.p (.bool b)), m) := by
  obtain ⟨j, rfl⟩ : ∃ j, k = j + 1 := ⟨k - 1, by omega⟩
  obtain ⟨c1, c2⟩ := h.f
  obtain ⟨⟨cells, hc⟩, ⟨cols, hd⟩⟩ := h
  have hL := fun m => law_Few u.f09 c.d hd j (by omega) m
  unfold PV.flat at c1 c2
  unfold SmallC
  rw [rowsN_cel hc, rowsN_sl hd]
  simp only [dV] at hL
  cases q1 : decide (IntKind.i64.wrap ((c.table.length : Int) + c.ks.length) > 400) with
  | true =>
    refine ⟨false, by simp, fun m => ?_⟩
    refine denF_wp u.change rfl (args' := [.p (.agg (chV c))]) rfl ?_
    have q1' : 400 < IntKind.i64.wrap ((c.table.length : Int) + c.ks.length) := of_decide_eq_true q1
    simp (maxSteps := 8000000) [Fn.f_haulagelaw15_FewChange, chV, c1, c2, q1']
  | false =>
    have q1' : ¬ 400 < IntKind.i64.wrap ((c.table.length : Int) + c.ks.length) := of_decide_eq_false q1
    by_cases q2 : cells.length ≤ 20
    · have q2' : ¬ (20 : Int) < cells.length := by omega
      cases q3 : fewB c.d cols with
      | false =>
        rw [q3] at hL
        refine ⟨false, by simp, fun m => ?_⟩
        refine denF_wp u.change rfl (args' := [.p (.agg (chV c))]) rfl ?_
        rcases hc with ⟨rfl, hc⟩ | hc
        · simp (maxSteps := 8000000) [Fn.f_haulagelaw15_FewChange, chV, c1, c2, q1', hc, hL]
        · simp (maxSteps := 8000000) [Fn.f_haulagelaw15_FewChange, chV, c1, c2, q1', hc, q2', hL]
      | true =>
        rw [q3] at hL
        have hcl : cols.length ≤ 20 := by
          unfold fewB at q3
          simp only [Bool.and_eq_true, decide_eq_true_eq] at q3
          have := q3.2.1
          omega
        have hmain : Wp (iter (loopF E (denF E (j + 1)) (j + 1) Fn.f_haulagelaw15_FewChange_k0 Fn.f_haulagelaw15_FewChange_b0) (j + 1) ⟨[.p (.agg (chV c)), .ptr 0 0, .p (.bool false), .p (.int .i64 0), .ptr 0 2, .p (.str c.table), .p (.int .i64 c.table.length), .ptr 0 3, .ptr 0 5, .p (.str c.ks), .p (.int .i64 c.ks.length), .p (.int .i64 (IntKind.i64.wrap ((c.table.length : Int) + c.ks.length))), .p (.bool false), .p (.bool false), .ptr 0 6, .p c.cs, .p (.int .i64 cells.length), .p (.bool false), .p (.bool false), .p (.bool false), .ptr 0 7, .p (.agg (dV c.d c.sl)), .p (.bool true), .p (.bool false), .p (.bool false)] ++ List.replicate 24 (.tup []), [.cells ((chV c).map .p)], []⟩)
            (fun e st => st.ds = [] ∧ st.ts.length = 49 ∧ (e = .exit 0 ∨ (e = .ret ∧ st.ts.getD 2 (.tup []) = .p (.bool false)))) := by
          refine loop_wp (α := Nat) (I := fun i st => i ≤ cells.length ∧ Live Fn.f_haulagelaw15_FewChange_k0 (Fn.f_haulagelaw15_FewChange_s0 (.ptr 0 0) (.p (.int .i64 i))) [.cells ((chV c).map .p)] st) (meas := fun i => cells.length - i) ?_ (j + 1) 0 _ ⟨Nat.zero_le _, rfl, rfl, rfl, rfl⟩ (by omega)
          rintro i st ⟨hi, hlive⟩
          rw [loopF_live hlive]
          by_cases hlt : i < cells.length
          · have hlt' : (i : Int) < cells.length := by omega
            obtain ⟨x, hx⟩ : ∃ x, cells[i]? = some x := ⟨_, List.getElem?_eq_getElem hlt⟩
            have hw : IntKind.i64.wrap ((i : Int) + 1) = ((i + 1 : Nat) : Int) := by rw [wrap_i64 (by omega) (by omega)]; omega
            rcases hc with ⟨rfl, hc⟩ | hc
            · simp at hlt
            by_cases hb : 400 < IntKind.i64.wrap ((x.name.length : Int) + x.vs.length)
            · simp (maxSteps := 8000000) [Fn.f_haulagelaw15_FewChange_b0, Fn.f_haulagelaw15_FewChange_s0, hlt, hlt', hx, chV, celP, hc, c1, c2, hb]
            · simp (maxSteps := 8000000) [Fn.f_haulagelaw15_FewChange_b0, Fn.f_haulagelaw15_FewChange_s0, hlt, hlt', hx, chV, celP, hc, c1, c2, hb, hw, -Int.natCast_add]
              exact ⟨i + 1, by omega, hlt, rfl, rfl, rfl, rfl⟩
          · have hlt' : ¬ (i : Int) < cells.length := by omega
            rcases hc with ⟨rfl, hc⟩ | hc
            · obtain rfl : i = 0 := by simpa using hi
              simp (maxSteps := 8000000) [Fn.f_haulagelaw15_FewChange_b0, Fn.f_haulagelaw15_FewChange_s0, chV, hc]
            · simp (maxSteps := 8000000) [Fn.f_haulagelaw15_FewChange_b0, Fn.f_haulagelaw15_FewChange_s0, chV, hc, hlt']
        obtain ⟨e, st, hrun, hds, hlen, hq⟩ := hmain
        obtain ⟨ts, m', ds⟩ := st
        simp only at hds hlen hq
        subst hds
        simp only [List.replicate, List.cons_append, List.nil_append, chV, List.map_cons, List.map_nil, dV] at hrun
        rcases hq with rfl | ⟨rfl, h2⟩
        · refine ⟨true, fun _ => ⟨q2, hcl⟩, fun m => ?_⟩
          refine denF_wp u.change rfl (args' := [.p (.agg (chV c))]) rfl ?_
          have hx := expand_ts 49 ts hlen
          simp only [List.range, List.range.loop, List.map_cons, List.map_nil] at hx
          rcases hc with ⟨rfl, hc⟩ | hc
          · rw [hc] at hrun
            simp only [List.length_nil, Int.natCast_zero] at hrun
            simp (maxSteps := 8000000) [Fn.f_haulagelaw15_FewChange, chV, c1, c2, q1', hc, hL, hrun]
            rw [hx]
            simp
          · rw [hc] at hrun
            simp (maxSteps := 8000000) [Fn.f_haulagelaw15_FewChange, chV, c1, c2, q1', hc, q2', hL, hrun]
            rw [hx]
            simp
        · refine ⟨false, by simp, fun m => ?_⟩
          refine denF_wp u.change rfl (args' := [.p (.agg (chV c))]) rfl ?_
          rcases hc with ⟨rfl, hc⟩ | hc
          · rw [hc] at hrun
            simp only [List.length_nil, Int.natCast_zero] at hrun
            simp (maxSteps := 8000000) [Fn.f_haulagelaw15_FewChange, chV, c1, c2, q1', hc, hL, hrun, h2]
          · rw [hc] at hrun
            simp (maxSteps := 8000000) [Fn.f_haulagelaw15_FewChange, chV, c1, c2, q1', hc, q2', hL, hrun, h2]
    · refine ⟨false, by simp, fun m => ?_⟩
      refine denF_wp u.change rfl (args' := [.p (.agg (chV c))]) rfl ?_
      have q2' : (20 : Int) < cells.length := by omega
      rcases hc with ⟨rfl, hc⟩ | hc
      · simp at q2
      · simp (maxSteps := 8000000) [Fn.f_haulagelaw15_FewChange, chV, c1, c2, q1', hc, q2']
theorem law_few25 (u : W25 E) {sl : PV} {l : List Ch} (hl : LQ sl l) (hf : ∀ c ∈ l, ChOk c) (k : Nat) (hk : 200 ≤ k) : ∃ b : Bool, (b = true → l.length ≤ 60 ∧ ∀ c ∈ l, SmallC c) ∧ ∀ m, denF E (k + 1) 124 [.p sl] m = some (.ret (.p (.bool b)), m) := by
  obtain ⟨j, rfl⟩ : ∃ j, k = j + 1 := ⟨k - 1, by omega⟩
  by_cases q1 : l.length ≤ 60
  · have q1' : ¬ (60 : Int) < l.length := by omega
    have hmain : Wp (iter (loopF E (denF E (j + 1)) (j + 1) Fn.f_haulagelaw25_few_k0 Fn.f_haulagelaw25_few_b0) (j + 1) ⟨[.p sl, .tup [], .p (.bool false), .p (.int .i64 0), .p sl, .p (.int .i64 l.length), .p (.bool false)] ++ List.replicate 12 (.tup []), [], []⟩)
        (fun e st => st.ds = [] ∧ st.ts.length = 19 ∧ ((e = .exit 0 ∧ ∀ c ∈ l, SmallC c) ∨ (e = .ret ∧ st.ts.getD 2 (.tup []) = .p (.bool false)))) := by
      refine loop_wp (α := Nat) (I := fun i st => i ≤ l.length ∧ (∀ c ∈ l.take i, SmallC c) ∧ Live Fn.f_haulagelaw25_few_k0 (Fn.f_haulagelaw25_few_s0 (.p sl) (.p (.int .i64 i))) [] st) (meas := fun i => l.length - i) ?_ (j + 1) 0 _ ⟨Nat.zero_le _, by simp, rfl, rfl, rfl, rfl⟩ (by omega)
      rintro i st ⟨hi, hsm, hlive⟩
      rw [loopF_live hlive]
      by_cases hlt : i < l.length
      · have hlt' : (i : Int) < l.length := by omega
        obtain ⟨c, hc⟩ : ∃ c, l[i]? = some c := ⟨_, List.getElem?_eq_getElem hlt⟩
        have hw : IntKind.i64.wrap ((i : Int) + 1) = ((i + 1 : Nat) : Int) := by rw [wrap_i64 (by omega) (by omega)]; omega
        obtain ⟨b, hb1, hb2⟩ := law_FewChange u (hf c (List.mem_of_getElem? hc)) j (by omega)
        simp only [chV] at hb2
        rcases hl with ⟨rfl, rfl⟩ | rfl
        · simp at hlt
        cases b with
        | false => simp (maxSteps := 8000000) [Fn.f_haulagelaw25_few_b0, Fn.f_haulagelaw25_few_s0, hlt, hlt', hc, chV, hb2]
        | true =>
          simp (maxSteps := 8000000) [Fn.f_haulagelaw25_few_b0, Fn.f_haulagelaw25_few_s0, hlt, hlt', hc, chV, hb2, hw, -Int.natCast_add]
          refine ⟨i + 1, by omega, hlt, ?_, rfl, rfl, rfl, rfl⟩
          intro x hx
          obtain ⟨h1, h2⟩ := List.getElem?_eq_some_iff.1 hc
          rw [List.take_succ_eq_append_getElem h1, h2] at hx
          rcases List.mem_append.1 hx with hx | hx
          · exact hsm x hx
          · obtain rfl : x = c := by simpa using hx
            exact hb1 rfl
      · have hlt' : ¬ (i : Int) < l.length := by omega
        rw [List.take_of_length_le (by omega)] at hsm
        rcases hl with ⟨rfl, rfl⟩ | rfl
        · obtain rfl : i = 0 := by simpa using hi
          simp [Fn.f_haulagelaw25_few_b0, Fn.f_haulagelaw25_few_s0]
        · simp [Fn.f_haulagelaw25_few_b0, Fn.f_haulagelaw25_few_s0, hlt']
          exact hsm
    obtain ⟨e, st, hrun, hds, hlen, hq⟩ := hmain
    obtain ⟨ts, m', ds⟩ := st
    simp only at hds hlen hq
    subst hds
    simp only [List.replicate, List.cons_append, List.nil_append] at hrun
    rcases hq with ⟨rfl, hs⟩ | ⟨rfl, h2⟩
    · refine ⟨true, fun _ => ⟨q1, hs⟩, fun m => ?_⟩
      refine denF_wp u.few rfl (args' := [.p sl]) rfl ?_
      have hx := expand_ts 19 ts hlen
      simp only [List.range, List.range.loop, List.map_cons, List.map_nil] at hx
      rcases hl with ⟨rfl, rfl⟩ | rfl
      all_goals
        try simp only [List.length_nil, Int.natCast_zero] at hrun
        simp (maxSteps := 8000000) [Fn.f_haulagelaw25_few, q1', hrun]
        rw [hx]
        simp
    · refine ⟨false, by simp, fun m => ?_⟩
      refine denF_wp u.few rfl (args' := [.p sl]) rfl ?_
      rcases hl with ⟨rfl, rfl⟩ | rfl
      all_goals
        try simp only [List.length_nil, Int.natCast_zero] at hrun
        simp (maxSteps := 8000000) [Fn.f_haulagelaw25_few, q1', hrun, h2]
  · refine ⟨false, by simp, fun m => ?_⟩
    refine denF_wp u.few rfl (args' := [.p sl]) rfl ?_
    have q1' : (60 : Int) < l.length := by omega
    rcases hl with ⟨rfl, rfl⟩ | rfl
    · simp at q1
    · simp (maxSteps := 8000000) [Fn.f_haulagelaw25_few, q1']
end Hx
