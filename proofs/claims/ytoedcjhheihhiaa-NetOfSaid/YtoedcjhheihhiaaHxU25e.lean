/-
  HxU25e: what changes come to, as the document says.
-/
import Derived.Test.YtoedcjhheihhiaaHxU25d
namespace Hx
open Go
set_option linter.unusedSimpArgs false
set_option linter.unusedVariables false
set_option maxHeartbeats 64000000
set_option maxRecDepth 20000
variable {E : Env}
attribute [-simp] List.getD_eq_getElem?_getD getElem?_pos
theorem pure_args {f : Nat} {xf : XFunc} (h : E.fn f = some xf) (hp : xf.pure = true) {n : Nat} {args args' : List AV} {m : Mem} (ha : stripVs args = stripVs args') : denF E (n + 1) f args m = denF E (n + 1) f args' m := by
  rw [denF, denF, h]; simp only [hp, if_true, ha]
def NowAt (now : List Ch) (av : AV) : Prop := (now = [] ∧ av = .p .nils) ∨ ∃ tok, av = .tv 19 (now.map chV) tok
theorem NowAt.strip {now : List Ch} {av : AV} (h : NowAt now av) : ∃ sl, stripV av = some (.p sl) ∧ LQ sl now ∧ stripVs [av] = stripVs [.p sl] := by
  rcases h with ⟨rfl, rfl⟩ | ⟨tok, rfl⟩
  · exact ⟨.nils, by simp, .inl ⟨rfl, rfl⟩, rfl⟩
  · exact ⟨.vals 19 (now.map chV), by simp, .inr rfl, rfl⟩
theorem p165 : Fn.f_haulageref25_run.pure = true := rfl
theorem ofD_step {pl : Ch → Bool} {l : List Ch} {i : Nat} {c : Ch} (h : l[i]? = some c) (out now : List Ch) : ofD pl (l.drop i) out now = (if pl c = false then ([], 2) else if c.kind = 4 then ofD pl (l.drop (i + 1)) ((out ++ run25 now) ++ [c]) [] else if wrongD now c ≠ 0 then ([], wrongD now c) else ofD pl (l.drop (i + 1)) out (now ++ [c])) := by
  obtain ⟨h1, h2⟩ := List.getElem?_eq_some_iff.1 h
  rw [List.drop_eq_getElem_cons h1, h2]; rfl
theorem run25_len (l : List Ch) : (run25 l).length ≤ 3 * l.length := by
  have h1 := runK_len 3 l
  have h2 := runK_len 2 l
  have h3 := runK_len 1 l
  unfold run25
  simp only [List.length_append]; omega
theorem ref_Of (u : R25 E) (h : E.fn 131 = some Fn.f_haulageref25_Of) (hp : E.fn 164 = some Fn.f_haulageref15_PlainChange) {pl : Ch → Bool} {sl : PV} {l : List Ch} (hl : LQ sl l) (hf : ∀ c ∈ l, ChF c) (hn : (l.length : Int) ≤ 1000) (hP : ∀ c ∈ l, ∀ j, 1200 ≤ j → ∀ m, denF E (j + 1) 164 [.p (.agg (chV c))] m = some (.ret (.p (.bool (pl c))), m)) (k : Nat) (hk : 2000 ≤ k) :
    ∃ o, LQ o (ofD pl l [] []).1 ∧ ∀ m, denF E (k + 1) 131 [.p sl] m = some (.ret (.tup [.p o, .p (.int .i64 (ofD pl l [] []).2)]), m) := by
  obtain ⟨j, rfl⟩ : ∃ j, k = j + 1 := ⟨k - 1, by omega⟩
  have hmain : Wp (iter (loopF E (denF E (j + 1)) (j + 1) Fn.f_haulageref25_Of_k0 Fn.f_haulageref25_Of_b0) (j + 1) ⟨[.p sl, .tup [], .p .nils, .p (.int .i64 0), .p .nils, .p .nils, .p (.int .i64 0)] ++ List.replicate 51 (.tup []), [], []⟩)
      (fun e st => st.ds = [] ∧ st.ts.length = 58 ∧ ((e = .exit 0 ∧ ∃ out now, OutAt st.m out (st.ts.getD 4 (.tup [])) ∧ NowAt now (st.ts.getD 5 (.tup [])) ∧ (∀ c ∈ now, ChF c) ∧ out.length + 3 * now.length ≤ 4 * l.length ∧ now.length ≤ l.length ∧ ofD pl l [] [] = (out ++ run25 now, 0)) ∨ (e = .ret ∧ (ofD pl l [] []).1 = [] ∧ st.ts.getD 2 (.tup []) = .p .nils ∧ st.ts.getD 3 (.tup []) = .p (.int .i64 (ofD pl l [] []).2)))) := by
    refine loop_wp (α := Nat × Mem × AV × AV × List Ch × List Ch) (I := fun a st => a.1 ≤ l.length ∧ OutAt a.2.1 a.2.2.2.2.1 a.2.2.1 ∧ NowAt a.2.2.2.2.2 a.2.2.2.1 ∧ (∀ c ∈ a.2.2.2.2.2, ChF c) ∧ a.2.2.2.2.1.length + 3 * a.2.2.2.2.2.length ≤ 4 * a.1 ∧ a.2.2.2.2.2.length ≤ a.1 ∧ ofD pl (l.drop a.1) a.2.2.2.2.1 a.2.2.2.2.2 = ofD pl l [] [] ∧ Live Fn.f_haulageref25_Of_k0 (Fn.f_haulageref25_Of_s0 (.p sl) a.2.2.1 a.2.2.2.1 (.p (.int .i64 a.1))) a.2.1 st) (meas := fun a => l.length - a.1) ?_ (j + 1) (0, [], .p .nils, .p .nils, [], []) _ ⟨Nat.zero_le _, .inl ⟨rfl, rfl⟩, .inl ⟨rfl, rfl⟩, by simp, by simp, by simp, rfl, rfl, rfl, rfl, rfl⟩ (by simp only [Nat.sub_zero]; omega)
    rintro ⟨i, m, avo, avn, out, now⟩ st ⟨hi, ho, hno, hnf, hb, hnl, hsq, hlive⟩
    simp only at hi ho hno hnf hb hnl hsq hlive
    rw [loopF_live hlive]
    by_cases hlt : i < l.length
    · have hlt' : (i : Int) < l.length := by omega
      obtain ⟨c, hc⟩ : ∃ c, l[i]? = some c := ⟨_, List.getElem?_eq_getElem hlt⟩
      have hw : IntKind.i64.wrap ((i : Int) + 1) = ((i + 1 : Nat) : Int) := by rw [wrap_i64 (by omega) (by omega)]; omega
      have hcm := List.mem_of_getElem? hc
      have hcf := hf c hcm
      obtain ⟨c1, c2⟩ := id hcf
      unfold PV.flat at c1 c2
      have hPl := fun m => hP c hcm j (by omega) m
      simp only [chV] at hPl
      rw [ofD_step hc] at hsq
      obtain ⟨sn, hs1, hs2, hs3⟩ := hno.strip
      have hnn : (now.length : Int) ≤ 1000000 := by omega
      have hW : ∀ m, denF E (j + 1) 166 [avn, .p (.agg (chV c))] m = some (.ret (.p (.int .i64 (wrongD now c))), m) := by
        intro m
        rw [pure_args u.wrong rfl (args' := [.p sn, .p (.agg (chV c))]) (by simp only [stripVs, hs1]; rfl)]
        exact ref_wrong u hs2 hnf hcf hnn j (by omega) m
      obtain ⟨o, ho1, hR0⟩ := ref_run u hs2 hnf hnn j (by omega)
      have hR : ∀ m, denF E (j + 1) 165 [avn] m = some (.ret (.p o), m) := by
        intro m
        rw [pure_args u.run rfl (args' := [.p sn]) hs3]
        exact hR0 m
      have hrl := run25_len now
      simp only [chV] at hW
      rcases hl with ⟨rfl, rfl⟩ | rfl
      · simp at hlt
      cases h1 : pl c with
      | false =>
        rw [h1] at hPl hsq
        simp only [if_true] at hsq
        simp (maxSteps := 8000000) [Fn.f_haulageref25_Of_b0, Fn.f_haulageref25_Of_s0, hlt, hlt', hc, hPl, chV, ← hsq]
      | true =>
        rw [h1] at hPl hsq
        simp only [Bool.true_eq_false, if_false] at hsq
        cases h2 : (c.kind == 4) with
        | true =>
          have h3 : c.kind = 4 := by simpa using h2
          rw [if_pos h3] at hsq
          rw [h3] at hPl
          have hset : ∀ (x y : Blk), (m ++ [x]).set m.length y = m ++ [y] := fun x y => by rw [List.set_append_right _ _ (Nat.le_refl _), Nat.sub_self]; rfl
          have hget : ∀ (x : Blk), (m ++ [x])[m.length]? = some x := fun x => by rw [List.getElem?_append_right (Nat.le_refl _), Nat.sub_self]; rfl
          generalize run25 now = r at ho1 hsq hrl
          rcases ho with ⟨rfl, rfl⟩ | ⟨tok, rfl, ht⟩
          · by_cases hr : r = []
            · subst hr
              have hro : o = .nils ∨ o = .vals 19 [] := by rcases ho1 with ⟨_, rfl⟩ | rfl <;> simp
              have hgo : ∀ m, rowsOf 19 m (.p o) = some [] := by intro m; rcases hro with rfl | rfl <;> simp
              simp (maxSteps := 8000000) [Fn.f_haulageref25_Of_b0, Fn.f_haulageref25_Of_s0, hlt, hlt', hc, c1, c2, hPl, hR, u.run, p165, hgo, room, hw, chV, h3, -Int.natCast_add]
              refine ⟨i + 1, by omega, hlt, _, _, _, _, ?_, [], .inl ⟨rfl, rfl⟩, by simp, ?_, ?_, hsq, rfl, rfl, rfl, rfl⟩
              · exact .inr ⟨m.length, by simp [chV, h3], by simp [hget]⟩
              · simp; omega
              · simp
            · obtain rfl : o = .vals 19 (r.map chV) := by
                rcases ho1 with ⟨h, _⟩ | h
                · exact absurd h hr
                · exact h
              have hr1 : r.length * 240 ≤ 70368744177664 := by omega
              have hr2 : r.length ≤ 70368744177664 := by omega
              have hr3 : (r.length + 1) * 240 ≤ 70368744177664 := by omega
              have hr4 : r.length + 1 ≤ 70368744177664 := by omega
              simp (maxSteps := 8000000) [Fn.f_haulageref25_Of_b0, Fn.f_haulageref25_Of_s0, hlt, hlt', hc, c1, c2, hPl, hR, u.run, p165, hr, hr1, hr2, hr3, hr4, hset, hget, room, hw, chV, h3, -Int.natCast_add]
              refine ⟨i + 1, by omega, hlt, _, _, _, _, ?_, [], .inl ⟨rfl, rfl⟩, by simp, ?_, ?_, hsq, rfl, rfl, rfl, rfl⟩
              · exact .inr ⟨m.length, by simp [chV, h3], by simp [hget]⟩
              · simp at hb ⊢; omega
              · simp
          · have htl : tok < m.length := (List.getElem?_eq_some_iff.1 ht).1
            have hself : ∀ x : Blk, (m.set tok x)[tok]? = some x := fun x => List.getElem?_set_self htl
            have hss : ∀ x y : Blk, (m.set tok x).set tok y = m.set tok y := fun x y => List.set_set ..
            have hr1 : (out.length + r.length) * 240 ≤ 70368744177664 := by omega
            have hr2 : out.length + r.length ≤ 70368744177664 := by omega
            have hr3 : (out.length + r.length + 1) * 240 ≤ 70368744177664 := by omega
            have hr4 : out.length + r.length + 1 ≤ 70368744177664 := by omega
            rcases ho1 with ⟨rfl, rfl⟩ | rfl
            · simp only [List.length_nil, Nat.add_zero] at hr1 hr2 hr3 hr4
              simp (maxSteps := 8000000) [Fn.f_haulageref25_Of_b0, Fn.f_haulageref25_Of_s0, hlt, hlt', hc, c1, c2, hPl, hR, u.run, p165, ht, hr1, hr2, hr3, hr4, hself, hss, room, hw, chV, h3, -Int.natCast_add]
              refine ⟨i + 1, by omega, hlt, _, _, _, _, ?_, [], .inl ⟨rfl, rfl⟩, by simp, ?_, ?_, hsq, rfl, rfl, rfl, rfl⟩
              · exact .inr ⟨tok, by simp [chV, h3], by simp [htl]⟩
              · simp; omega
              · simp
            · simp (maxSteps := 8000000) [Fn.f_haulageref25_Of_b0, Fn.f_haulageref25_Of_s0, hlt, hlt', hc, c1, c2, hPl, hR, u.run, p165, ht, hr1, hr2, hr3, hr4, hself, hss, room, hw, chV, h3, -Int.natCast_add]
              refine ⟨i + 1, by omega, hlt, _, _, _, _, ?_, [], .inl ⟨rfl, rfl⟩, by simp, ?_, ?_, hsq, rfl, rfl, rfl, rfl⟩
              · exact .inr ⟨tok, by simp [chV, h3], by simp [htl]; omega⟩
              · simp; omega
              · simp
        | false =>
          have h3 : ¬ c.kind = 4 := by simpa using h2
          rw [if_neg h3] at hsq
          cases h4 : (wrongD now c == 0) with
          | false =>
            have h5 : ¬ wrongD now c = 0 := by simpa using h4
            rw [if_pos h5] at hsq
            generalize wrongD now c = e at *
            simp (maxSteps := 8000000) [Fn.f_haulageref25_Of_b0, Fn.f_haulageref25_Of_s0, hlt, hlt', hc, c1, c2, hPl, hW, chV, h2, h3, h4, h5, bne, ← hsq]
          | true =>
            have h5 : wrongD now c = 0 := by simpa using h4
            rw [h5] at hW hsq
            simp only [ne_eq, not_true_eq_false, if_false] at hsq
            have hset : ∀ (x y : Blk), (m ++ [x]).set m.length y = m ++ [y] := fun x y => by rw [List.set_append_right _ _ (Nat.le_refl _), Nat.sub_self]; rfl
            have hget : ∀ (x : Blk), (m ++ [x])[m.length]? = some x := fun x => by rw [List.getElem?_append_right (Nat.le_refl _), Nat.sub_self]; rfl
            have hr1 : now.length * 240 ≤ 70368744177664 := by omega
            have hr2 : now.length ≤ 70368744177664 := by omega
            have hr3 : (now.length + 1) * 240 ≤ 70368744177664 := by omega
            have hr4 : now.length + 1 ≤ 70368744177664 := by omega
            have hnf' : ∀ x ∈ now ++ [c], ChF x := by
              intro x hx
              rcases List.mem_append.1 hx with hx | hx
              · exact hnf x hx
              · obtain rfl : x = c := by simpa using hx
                exact hcf
            rcases hno with ⟨rfl, rfl⟩ | ⟨tok, rfl⟩
            · simp (maxSteps := 8000000) [Fn.f_haulageref25_Of_b0, Fn.f_haulageref25_Of_s0, hlt, hlt', hc, c1, c2, hPl, hW, hset, hget, chV, h2, h3, room, hw, -Int.natCast_add]
              refine ⟨i + 1, by omega, hlt, _, _, _, out, ho.keep fun t n h => get_app h, _, .inr ⟨m.length, by simp [chV]⟩, ?_, ?_, ?_, hsq, rfl, rfl, rfl, rfl⟩
              · exact hnf'
              · simp at hb ⊢; omega
              · simp
            · simp (maxSteps := 8000000) [Fn.f_haulageref25_Of_b0, Fn.f_haulageref25_Of_s0, hlt, hlt', hc, c1, c2, hPl, hW, hset, hget, hr1, hr2, hr3, hr4, chV, h2, h3, room, hw, -Int.natCast_add]
              refine ⟨i + 1, by omega, hlt, _, _, _, out, ho.keep fun t n h => get_app h, now ++ [c], .inr ⟨m.length, by simp [chV]⟩, hnf', ?_, ?_, hsq, rfl, rfl, rfl, rfl⟩
              · simp; omega
              · simp; omega
    · have hlt' : ¬ (i : Int) < l.length := by omega
      have e1 : l.drop i = [] := List.drop_eq_nil_of_le (by omega)
      rw [e1] at hsq
      have hi' : i = l.length := by omega
      rcases hl with ⟨rfl, rfl⟩ | rfl
      · obtain rfl : i = 0 := by simpa using hi
        simp (maxSteps := 8000000) [Fn.f_haulageref25_Of_b0, Fn.f_haulageref25_Of_s0]
        exact ⟨out, ho, now, hno, hnf, by simpa using hb, by simpa using hnl, hsq.symm⟩
      · simp (maxSteps := 8000000) [Fn.f_haulageref25_Of_b0, Fn.f_haulageref25_Of_s0, hlt']
        exact ⟨out, ho, now, hno, hnf, by omega, by omega, hsq.symm⟩
  obtain ⟨e, st, hrun, hds, hlen, hq⟩ := hmain
  obtain ⟨ts, m', ds⟩ := st
  simp only at hds hlen hq
  subst hds
  simp only [List.replicate, List.cons_append, List.nil_append] at hrun
  rcases hq with ⟨rfl, out, now, ho, hno, hnf, hb, hnl, hz⟩ | ⟨rfl, hz1, h2, h3⟩
  · have hx := expand_ts 58 ts hlen
    simp only [List.range, List.range.loop, List.map_cons, List.map_nil] at hx
    generalize ts.getD 4 (.tup []) = avo at *
    generalize ts.getD 5 (.tup []) = avn at *
    obtain ⟨sn, hs1, hs2, hs3⟩ := hno.strip
    obtain ⟨o, ho1, hR0⟩ := ref_run u hs2 hnf (by omega) j (by omega)
    have hR : ∀ m, denF E (j + 1) 165 [avn] m = some (.ret (.p o), m) := by
      intro m
      rw [pure_args u.run rfl (args' := [.p sn]) hs3]
      exact hR0 m
    have hrl := run25_len now
    rw [hz]
    simp only
    generalize run25 now = r at *
    rcases ho with ⟨rfl, rfl⟩ | ⟨tok, rfl, ht⟩
    · by_cases hr : r = []
      · subst hr
        refine ⟨.nils, .inl ⟨rfl, rfl⟩, fun m => ?_⟩
        have hro : o = .nils ∨ o = .vals 19 [] := by rcases ho1 with ⟨_, rfl⟩ | rfl <;> simp
        have hgo : ∀ m, rowsOf 19 m (.p o) = some [] := by intro m; rcases hro with rfl | rfl <;> simp
        refine denF_wp h rfl (args' := [.p sl]) rfl ?_
        simp (maxSteps := 8000000) [Fn.f_haulageref25_Of, hrun]
        rw [hx]
        simp (maxSteps := 8000000) [hR, hgo, room]
      · obtain rfl : o = .vals 19 (r.map chV) := by
          rcases ho1 with ⟨h, _⟩ | h
          · exact absurd h hr
          · exact h
        have hr1 : r.length * 240 ≤ 70368744177664 := by omega
        have hr2 : r.length ≤ 70368744177664 := by omega
        refine ⟨.vals 19 (r.map chV), .inr (by simp), fun m => ?_⟩
        refine denF_wp h rfl (args' := [.p sl]) rfl ?_
        simp (maxSteps := 8000000) [Fn.f_haulageref25_Of, hrun]
        rw [hx]
        simp (maxSteps := 8000000) [hR, hr, hr1, hr2, room]
    · have hr1 : (out.length + r.length) * 240 ≤ 70368744177664 := by omega
      have hr2 : out.length + r.length ≤ 70368744177664 := by omega
      refine ⟨.vals 19 ((out ++ r).map chV), .inr rfl, fun m => ?_⟩
      refine denF_wp h rfl (args' := [.p sl]) rfl ?_
      rcases ho1 with ⟨rfl, rfl⟩ | rfl
      · simp only [List.length_nil, Nat.add_zero] at hr1 hr2
        simp (maxSteps := 8000000) [Fn.f_haulageref25_Of, hrun]
        rw [hx]
        simp (maxSteps := 8000000) [hR, ht, hr1, hr2, room]
      · simp (maxSteps := 8000000) [Fn.f_haulageref25_Of, hrun]
        rw [hx]
        simp (maxSteps := 8000000) [hR, ht, hr1, hr2, room]
  · refine ⟨.nils, .inl ⟨hz1, rfl⟩, fun m => ?_⟩
    refine denF_wp h rfl (args' := [.p sl]) rfl ?_
    simp (maxSteps := 8000000) [Fn.f_haulageref25_Of, hrun, h2, h3]
end Hx
