/-
  HxU03d: 'Read' of chapter 03, the program's.
-/
import Derived.Test.YtfobhbameffplaaHxU25g
import Derived.Test.YtfobhbameffplaaHxDraw
import Derived.Test.YtfobhbameffplaaHxU25o
import Derived.Test.YtfobhbameffplaaHxFn05
import Derived.Test.YtfobhbameffplaaHxSimp
namespace Hx
open Go
set_option linter.unusedSimpArgs false
set_option linter.unusedVariables false
set_option maxHeartbeats 64000000
set_option maxRecDepth 20000
variable {E : Env}
attribute [-simp] List.getD_eq_getElem?_getD getElem?_pos
mutual
theorem beqPV_refl : ∀ x : PV, beqPV x x = true
  | .bool a => by simp [beqPV]
  | .int k a => by simp [beqPV]
  | .str a => by simp [beqPV]
  | .agg xs => by simp [beqPV, beqPVs_refl xs]
  | .vals n r => by simp [beqPV, beqRows_refl r]
  | .nils => rfl
  | .nilp => rfl
  | .nilm => rfl
  | .nilf => rfl
  | .nili => rfl
  | .fn f => by simp [beqPV]
  | .iface t x => by simp [beqPV, beqPV_refl x]
theorem beqPVs_refl : ∀ x : List PV, beqPVs x x = true
  | [] => rfl
  | x :: xs => by simp [beqPVs, beqPV_refl x, beqPVs_refl xs]
theorem beqRows_refl : ∀ x : List (List PV), beqRows x x = true
  | [] => rfl
  | x :: xs => by simp [beqRows, beqPVs_refl x, beqRows_refl xs]
end
theorem allP_map : ∀ ps : List PV, allP (ps.map .p) = some ps
  | [] => rfl
  | p :: ps => by simp only [List.map_cons, allP, allP_map ps]
theorem others_has (n : Nat) (ks : List Nat) (i : Nat) : (others n ks).contains i = (decide (i < n) && !ks.contains i) := by
  unfold others
  rw [Bool.eq_iff_iff, List.contains_iff_mem, List.mem_filter, List.mem_range, Bool.and_eq_true, decide_eq_true_eq]
theorem others_self (n id : Nat) : ¬ id ∈ others n [id] := by
  intro h
  have := others_has n [id] id
  rw [List.contains_iff_mem.2 h] at this
  simp at this
theorem kept_one {n id : Nat} {m m' : Mem} {ps : List PV} (h : m[id]? = some (.cells (ps.map .p))) (h' : m'[id]? = some (.cells (ps.map .p))) : keptB (some ⟨n, others n [id]⟩) 4 m m' = true := by
  unfold keptB
  simp only [Bool.or_eq_true]
  right
  unfold kept
  rw [List.all_eq_true]
  intro i hi
  by_cases hii : i = id
  · subst hii
    rw [h, h']
    simp only [sameB, allP_map, beqPVs_refl, Bool.or_true]
  · have : Dr.ok ⟨n, others n [id]⟩ i = false := by
      unfold Dr.ok
      simp only [others_has]
      simp at hi
      simp [hi, hii]
    rw [this]; rfl
structure C25 (E : Env) : Prop where
  cells : E.fn 145 = some Fn.f_slices_Clone_api_Cell_api_Cell
  cols : E.fn 146 = some Fn.f_slices_Clone_api_Column_api_Column
theorem clone_cells (u : C25 E) {cs : PV} {l : List Cel} (h : CelQ cs l) (hn : l.length ≤ 1000000) (k : Nat) (m : Mem) : denF E (k + 1) 145 [.p cs] m = some (.ret (.p cs), m) := by
  refine denF_wp u.cells rfl (args' := [.p cs]) rfl ?_
  have r1 : l.length * 64 ≤ 70368744177664 := by omega
  have r2 : l.length ≤ 70368744177664 := by omega
  rcases h with ⟨rfl, rfl⟩ | rfl
  · simp [Fn.f_slices_Clone_api_Cell_api_Cell]
  · simp [Fn.f_slices_Clone_api_Cell_api_Cell, room, r1, r2]
theorem clone_cols (u : C25 E) {cs : PV} {l : List (Int × Col)} (h : SlQ cs l) (hn : l.length ≤ 1000000) (k : Nat) (m : Mem) : denF E (k + 1) 146 [.p cs] m = some (.ret (.p cs), m) := by
  refine denF_wp u.cols rfl (args' := [.p cs]) rfl ?_
  have r1 : l.length * 80 ≤ 70368744177664 := by omega
  have r2 : l.length ≤ 70368744177664 := by omega
  rcases h with ⟨rfl, rfl⟩ | rfl
  · simp [Fn.f_slices_Clone_api_Column_api_Column]
  · simp [Fn.f_slices_Clone_api_Column_api_Column, room, r1, r2]
theorem RunAt.app {m : Mem} {idr idm : Nat} {R : List En} (h : RunAt m idr idm R) (l : Mem) : RunAt (m ++ l) idr idm R := by
  obtain ⟨⟨ord, h1, h2⟩, h3⟩ := h
  refine ⟨⟨ord, get_app5 h1, ?_⟩, get_app5 h3⟩
  rcases h2 with h2 | ⟨tok, h4, h5⟩
  · exact .inl h2
  · exact .inr ⟨tok, h4, get_app5 h5⟩
theorem RunAt.ord {m : Mem} {idr idm : Nat} {R : List En} (h : RunAt m idr idm R) : ∃ ord, m[idr]? = some (.cells [ord, .map idm]) ∧ OrdV R ord := by
  obtain ⟨⟨ord, h1, h2⟩, h3⟩ := h
  refine ⟨ord, h1, ?_⟩
  rcases h2 with h2 | ⟨tok, h4, h5⟩
  · exact .inl h2
  · exact .inr ⟨tok, h4⟩
def FE (R : List En) : Prop := ∀ e ∈ R, ChF e.2.1 ∧ ChF e.2.2
theorem findE_mem' {k : Key25} {R : List En} {b : Ch × Ch} (h : findE k R = some b) : ∃ e ∈ R, e.2 = b := by
  induction R with
  | nil => cases h
  | cons e R ih =>
    unfold findE at h
    split at h
    · exact ⟨e, by simp, Option.some.inj h⟩
    · obtain ⟨x, hx, h2⟩ := ih h
      exact ⟨x, by simp [hx], h2⟩
theorem addE_F {R : List En} (h : FE R) {c : Ch} (hc : ChF c) : FE (addE R c).2 ∧ (addE R c).2.length ≤ R.length + 1 := by
  unfold addE
  split
  · refine ⟨?_, by simp⟩
    intro e he
    rcases List.mem_append.1 he with he | he
    · exact h e he
    · rw [List.mem_singleton.1 he]; exact ⟨hc, hc⟩
  · split
    · exact ⟨h, by simp⟩
    · split
      · exact ⟨h, by simp⟩
      · refine ⟨?_, by simp [setE_len]⟩
        intro e he
        rcases setE_mem he with he | ⟨x, hx, rfl⟩
        · exact h e he
        · exact ⟨(h x hx).1, hc⟩
theorem net_add (u : N25 E) {c : Ch} (hc : ChF c) {m : Mem} {idr idm : Nat} {R : List En} (hr : RunAt m idr idm R) (hf : FE R) (hn : R.length ≤ 1000000) (k : Nat) (hk : 5 ≤ k) :
    ∃ m', denF E (k + 1) 148 [.ptr idr 0, .p (.agg (chV c))] m = some (.ret (.p (.int .i64 (addE R c).1)), m') ∧ ((addE R c).1 = 0 → RunAt m' idr idm (addE R c).2 ∧ ∀ (t n : Nat), m[t]? = some (Blk.tok 19 n) → m'[t]? = some (Blk.tok 19 n)) := by
  unfold addE
  cases h : findE c.key R with
  | none =>
    obtain ⟨m', h1, h2, h3⟩ := net_add_new u hc hr hn h k hk
    exact ⟨m', h1, fun _ => ⟨h2, h3⟩⟩
  | some b =>
    obtain ⟨e, he, hb⟩ := findE_mem' h
    obtain ⟨f1, f2⟩ := hf e he
    rw [hb] at f1 f2
    obtain ⟨m', h1, h2⟩ := net_add_old u hc hr f1 f2 h k hk
    refine ⟨m', ?_, ?_⟩
    · rw [h1]
      simp only
      congr 5
      split
      · rfl
      · split <;> rfl
    · simp only
      intro h0
      split at h0
      · cases h0
      · rename_i n1
        rw [if_neg n1] at *
        split at h0
        · cases h0
        · rename_i n2
          rw [if_neg n2]
          exact h2 n1 n2
theorem run_empty (m : Mem) : RunAt (m ++ [.map [], .cells [.p .nils, .map m.length]]) (m.length + 1) m.length [] := by
  refine ⟨⟨.p .nils, ln_at1 _ _ _, .inl ⟨rfl, rfl⟩⟩, ?_⟩
  rw [ln_at0]; rfl
theorem ofP_step {pl : Ch → Bool} {l : List Ch} {i : Nat} {c : Ch} (h : l[i]? = some c) (out : List Ch) (R : List En) : ofP pl (l.drop i) out R = (if pl c = false then ([], 2) else if c.kind = 4 then ofP pl (l.drop (i + 1)) ((out ++ endE R) ++ [c]) [] else if (addE R c).1 ≠ 0 then ([], (addE R c).1) else ofP pl (l.drop (i + 1)) out (addE R c).2) := by
  obtain ⟨h1, h2⟩ := List.getElem?_eq_some_iff.1 h
  rw [List.drop_eq_getElem_cons h1, h2]; rfl
theorem endE_len (R : List En) : (endE R).length ≤ 3 * R.length := by
  have h1 := endK_len 3 R
  have h2 := endK_len 2 R
  have h3 := endK_len 1 R
  unfold endE
  simp only [List.length_append]; omega
theorem plainB_K {c : Ch} (h : plainB c = true) (h4 : ¬ c.kind = 4) : K3 c := by
  unfold plainB at h
  simp only [Bool.and_eq_true] at h
  obtain ⟨_, h⟩ := h
  by_cases h1 : c.kind = 1 ∨ c.kind = 2
  · rcases h1 with h1 | h1
    · exact .inl h1
    · exact .inr (.inl h1)
  · by_cases h3 : c.kind = 3
    · exact .inr (.inr h3)
    · rw [if_neg h1, if_neg h3, if_neg h4] at h; cases h
theorem cells_flat {v : PV} (h : v.flat = true) : v.cells = [v] := by cases v <;> first | rfl | (simp [PV.flat] at h)
theorem p145 : Fn.f_slices_Clone_api_Cell_api_Cell.pure = true := rfl
theorem p146 : Fn.f_slices_Clone_api_Column_api_Column.pure = true := rfl
def OfInv (l : List Ch) (i : Nat) (m : Mem) (avo : AV) (idr : Nat) : Prop := ∃ (out : List Ch) (R : List En) (idm : Nat), OutAt m out avo ∧ RunAt m idr idm R ∧ VE plainB R ∧ FE R ∧ out.length + 3 * R.length ≤ 4 * i ∧ R.length ≤ i ∧ ofP plainB (l.drop i) out R = ofP plainB l [] []
theorem net_Of (u : N25 E) (s : S25 E) (cl : C25 E) (h : E.fn 127 = some Fn.f_net_Of) {sl : PV} {l : List Ch} (hl : LQ sl l) (hf : ∀ c ∈ l, ChOk c ∧ rowsN c.cs ≤ 1000 ∧ rowsN c.sl ≤ 1000) (hn : (l.length : Int) ≤ 1000) (k : Nat) (hk : 4000 ≤ k) :
    ∃ o, LQ o (ofP plainB l [] []).1 ∧ ∀ m, denF E (k + 1) 127 [.p sl] m = some (.ret (.tup [.p o, .p (.int .i64 (ofP plainB l [] []).2)]), m) := by
  obtain ⟨j, rfl⟩ : ∃ j, k = j + 1 := ⟨k - 1, by omega⟩
  have hmain : Wp (iter (loopF E (denF E (j + 1)) (j + 1) Fn.f_net_Of_k0 Fn.f_net_Of_b0) (j + 1) ⟨[.p sl, .tup [], .p .nils, .p (.int .i64 0), .p .nils, .ptr 1 0, .tup [], .tup [], .tup [], .ptr 1 0, .p sl, .p (.int .i64 l.length), .p (.int .i64 0)] ++ List.replicate 36 (.tup []), [.map [], .cells [.p .nils, .map 0]], []⟩)
      (fun e st => st.ds = [] ∧ st.ts.length = 49 ∧ ((e = .exit 0 ∧ ∃ idr, OfInv l l.length st.m (st.ts.getD 4 (.tup [])) idr ∧ st.ts.getD 5 (.tup []) = .ptr idr 0) ∨ (e = .ret ∧ (ofP plainB l [] []).1 = [] ∧ st.ts.getD 2 (.tup []) = .p .nils ∧ st.ts.getD 3 (.tup []) = .p (.int .i64 (ofP plainB l [] []).2)))) := by
    refine loop_wp (α := Nat × Mem × AV × Nat) (I := fun a st => a.1 ≤ l.length ∧ OfInv l a.1 a.2.1 a.2.2.1 a.2.2.2 ∧ Live Fn.f_net_Of_k0 (Fn.f_net_Of_s0 a.2.2.1 (.ptr a.2.2.2 0) (.p sl) (.p (.int .i64 l.length)) (.p (.int .i64 a.1))) a.2.1 st) (meas := fun a => l.length - a.1) ?_ (j + 1) (0, [.map [], .cells [.p .nils, .map 0]], .p .nils, 1) _ ⟨Nat.zero_le _, ⟨[], [], 0, .inl ⟨rfl, rfl⟩, run_empty [], ⟨.nil, by simp⟩, (by intro e he; cases he), by simp, by simp, rfl⟩, rfl, rfl, rfl, rfl⟩ (by simp only [Nat.sub_zero]; omega)
    rintro ⟨i, m, avo, idr⟩ st ⟨hi, hinv, hlive⟩
    simp only at hi hinv hlive
    have hinv0 := hinv
    obtain ⟨out, R, idm, ho, hr, hve, hfe, hb, hnl, hsq⟩ := hinv
    rw [loopF_live hlive]
    by_cases hlt : i < l.length
    · have hlt' : (i : Int) < l.length := by omega
      obtain ⟨c, hc⟩ : ∃ c, l[i]? = some c := ⟨_, List.getElem?_eq_getElem hlt⟩
      have hw : IntKind.i64.wrap ((i : Int) + 1) = ((i + 1 : Nat) : Int) := by rw [wrap_i64 (by omega) (by omega)]; omega
      obtain ⟨hok, hrc, hrs⟩ := hf c (List.mem_of_getElem? hc)
      have hcf := hok.f
      obtain ⟨c1, c2⟩ := id hcf
      have y1 := cells_flat c1
      have y2 := cells_flat c2
      unfold PV.flat at c1 c2
      unfold PV.cells at y1 y2
      have hP := fun m => state_Plain s hok j (by omega) m
      obtain ⟨⟨cells, hcells⟩, ⟨cols, hcols⟩⟩ := id hok
      have hC1 := fun m => clone_cells cl hcells (by have := rowsN_cel hcells; omega) j m
      have hC2 := fun m => clone_cols cl hcols (by have := rowsN_sl hcols; omega) j m
      simp only [chV] at hP
      rw [ofP_step hc] at hsq
      have hel := endE_len R
      rcases hl with ⟨rfl, rfl⟩ | rfl
      · simp at hlt
      cases h1 : plainB c with
      | false =>
        rw [h1] at hP hsq
        simp only [if_true] at hsq
        simp (maxSteps := 8000000) [Fn.f_net_Of_b0, Fn.f_net_Of_s0, hlt, hlt', hc, hP, chV, c1, c2, ln_at0, ln_set0, ← hsq]
      | true =>
        rw [h1] at hP hsq
        simp only [Bool.true_eq_false, if_false] at hsq
        have hoa : OutAt (m ++ [Blk.cells ((chV c).map .p)]) out avo := ho.keep fun t n h => get_app5 h
        have hra := hr.app [Blk.cells ((chV c).map .p)]
        have hch : (m ++ [Blk.cells ((chV c).map .p)])[m.length]? = some (.cells ((chV c).map .p)) := ln_at0 _ _
        cases h2 : (c.kind == 4) with
        | true =>
          have h3 : c.kind = 4 := by simpa using h2
          rw [if_pos h3] at hsq
          obtain ⟨ord, hm1, hord⟩ := hra.ord
          obtain ⟨m', av', hE, hO, hKp⟩ := net_end u hve.pw hfe (by omega) j (by omega) (by omega) hord hm1 hra.map hoa
          have hget := hKp _ _ rfl hch
          have hkb := kept_one (n := m.length + 1) hch hget
          have hB := fun m => net_began u j m
          have hol : (out ++ endE R).length ≤ 1000000 := by rw [List.length_append]; omega
          have hol2 : (out ++ endE R).length + 1 ≤ 4 * (i + 1) := by rw [List.length_append]; omega
          generalize out ++ endE R = o2 at hO hsq hol hol2
          simp only [chV, List.map_cons, List.map_nil] at hE hget hkb
          have hml : m.length + 1 ≤ m'.length := idx_lt hget
          rcases hO with ⟨rfl, rfl⟩ | ⟨tok, rfl, ht⟩
          · simp (maxSteps := 8000000) [Fn.f_net_Of_b0, Fn.f_net_Of_s0, hlt, hlt', hc, hP, hC1, hC2, cl.cells, cl.cols, p145, p146, chV, c1, c2, y1, y2, ln_at0, ln_set0, h2, hE, hget, hkb, others_self, hml, hB, room, hw, -Int.natCast_add]
            refine ⟨i + 1, by omega, hlt, _, _, _, ⟨[c], [], m'.length + 1, .inr ⟨m'.length, by simp [chV], ln_at0 _ _⟩, ?_, ⟨.nil, by simp⟩, (by intro e he; cases he), by simp; omega, by simp, hsq⟩, rfl, rfl, rfl, rfl⟩
            have := run_empty (m' ++ [Blk.tok 19 1])
            simpa using this
          · have htl := idx_lt ht
            have r1 : (o2.length + 1) * 240 ≤ 70368744177664 := by omega
            have r2 : o2.length + 1 ≤ 70368744177664 := by omega
            simp (maxSteps := 8000000) [Fn.f_net_Of_b0, Fn.f_net_Of_s0, hlt, hlt', hc, hP, hC1, hC2, cl.cells, cl.cols, p145, p146, chV, c1, c2, y1, y2, ln_at0, ln_set0, h2, hE, hget, hkb, others_self, hml, hB, ht, r1, r2, room, hw, -Int.natCast_add]
            refine ⟨i + 1, by omega, hlt, _, _, _, ⟨o2 ++ [c], [], m'.length, .inr ⟨tok, by simp [chV], ?_⟩, ?_, ⟨.nil, by simp⟩, (by intro e he; cases he), by simp; omega, by simp, hsq⟩, rfl, rfl, rfl, rfl⟩
            · rw [get_appl (by simpa using htl), List.getElem?_set_self htl]; simp
            · have := run_empty (m'.set tok (Blk.tok 19 (o2.length + 1)))
              simpa using this
        | false =>
          have h3 : ¬ c.kind = 4 := by simpa using h2
          rw [if_neg h3] at hsq
          obtain ⟨m', hA, hA2⟩ := net_add u hcf hra hfe (by omega) j (by omega)
          have hve' := fun h0 => ve_add hve h1 (plainB_K h1 h3) h0
          obtain ⟨hfe', hle'⟩ := addE_F hfe hcf
          simp only [chV, List.map_cons, List.map_nil] at hA
          cases h5 : ((addE R c).1 == 0) with
          | false =>
            have h6 : ¬ (addE R c).1 = 0 := by simpa using h5
            rw [if_pos h6] at hsq
            generalize addE R c = er at *
            simp (maxSteps := 8000000) [Fn.f_net_Of_b0, Fn.f_net_Of_s0, hlt, hlt', hc, hP, hC1, hC2, cl.cells, cl.cols, p145, p146, chV, c1, c2, y1, y2, ln_at0, ln_set0, h2, h3, hA, h5, h6, bne, ← hsq]
          | true =>
            have h6 : (addE R c).1 = 0 := by simpa using h5
            obtain ⟨hr', htk⟩ := hA2 h6
            have hve' := hve' h6
            rw [h6] at hA hsq
            simp only [ne_eq, not_true_eq_false, if_false] at hsq
            simp (maxSteps := 8000000) [Fn.f_net_Of_b0, Fn.f_net_Of_s0, hlt, hlt', hc, hP, hC1, hC2, cl.cells, cl.cols, p145, p146, chV, c1, c2, y1, y2, ln_at0, ln_set0, h2, h3, hA, hw, bne, -Int.natCast_add]
            exact ⟨i + 1, by omega, hlt, _, _, _, ⟨out, _, idm, hoa.keep htk, hr', hve', hfe', by omega, by omega, hsq⟩, rfl, rfl, rfl, rfl⟩
    · have hlt' : ¬ (i : Int) < l.length := by omega
      obtain rfl : i = l.length := by omega
      simp (maxSteps := 8000000) [Fn.f_net_Of_b0, Fn.f_net_Of_s0, hlt']
      exact hinv0
  obtain ⟨e, st, hrun, hds, hlen, hq⟩ := hmain
  obtain ⟨ts, m', ds⟩ := st
  simp only at hds hlen hq
  subst hds
  have hB := net_began u j []
  simp only [List.length_nil, Nat.zero_add, List.nil_append] at hB
  simp only [List.replicate, List.cons_append, List.nil_append] at hrun
  rcases hq with ⟨rfl, idr, ⟨out, R, idm, ho, hr, hve, hfe, hb, hnl, hsq⟩, h5⟩ | ⟨rfl, hz1, h2, h3⟩
  · have hx := expand_ts 49 ts hlen
    simp only [List.range, List.range.loop, List.map_cons, List.map_nil] at hx
    generalize ts.getD 4 (.tup []) = avo at *
    rw [h5] at hx
    have e1 : l.drop l.length = [] := List.drop_eq_nil_of_le (Nat.le_refl _)
    rw [e1] at hsq
    have hsq : ofP plainB l [] [] = (out ++ endE R, 0) := hsq.symm
    obtain ⟨ord, hm1, hord⟩ := hr.ord
    obtain ⟨m2, av', hE, hO, _⟩ := net_end u hve.pw hfe (by omega) j (by omega) (by omega) hord hm1 hr.map ho
    obtain ⟨o, ho1, ho2⟩ := hO.strip
    rw [hsq]
    refine ⟨o, ho2, fun m => ?_⟩
    refine denF_wp h rfl (args' := [.p sl]) rfl ?_
    rcases hl with ⟨rfl, rfl⟩ | rfl
    all_goals
      try simp only [List.length_nil, Int.natCast_zero] at hrun
      simp (maxSteps := 8000000) [Fn.f_net_Of, hB, hrun]
      rw [hx]
      simp (maxSteps := 8000000) [hE]
      rcases hO with ⟨_, rfl⟩ | ⟨tok, rfl, _⟩
      · simp at ho1 ⊢; exact ho1
      · simp at ho1 ⊢; exact ho1
  · refine ⟨.nils, .inl ⟨hz1, rfl⟩, fun m => ?_⟩
    refine denF_wp h rfl (args' := [.p sl]) rfl ?_
    rcases hl with ⟨rfl, rfl⟩ | rfl
    all_goals
      try simp only [List.length_nil, Int.natCast_zero] at hrun
      simp (maxSteps := 8000000) [Fn.f_net_Of, hB, hrun, h2, h3]
end Hx

namespace Hx
open Go
set_option linter.unusedSimpArgs false
set_option linter.unusedVariables false
set_option maxHeartbeats 64000000
set_option maxRecDepth 20000
variable {E : Env}
attribute [-simp] List.getD_eq_getElem?_getD getElem?_pos
def celSh : List Sh := [.str, .int .i64, .int .i64, .int .i64, .int .i64, .str]
def colSh : List Sh := [.int .i64, .str, .int .i64, .int .i64, .bool, .int .i64, .int .i64, .str]
def chSh : List Sh := [.int .i64, .int .i64, .str, .int .i64, .int .i64, .str, .slice 6 celSh, .int .i64, .str, .str, .str, .str, .int .i64, .int .i64, .bool, .int .i64, .int .i64, .str, .slice 8 colSh]

theorem comesB_P {P : Ch → Prop} (hP : ∀ c k, P c → P { c with kind := k }) {f l c : Ch} (h : comesB f l = some c) (hl : P l) : P c := by
  unfold comesB at h
  split at h
  · split at h
    · cases h
    · cases h; exact hP _ _ hl
  · split at h
    · cases h; exact hl
    · cases h; exact hP _ _ hl
theorem endE_P {P : Ch → Prop} (hP : ∀ c k, P c → P { c with kind := k }) {R : List En} (h : ∀ e ∈ R, P e.2.2) : ∀ c ∈ endE R, P c := by
  have key : ∀ kd, ∀ c ∈ endK kd R, P c := by
    intro kd c hc
    unfold endK at hc
    obtain ⟨e, he, hq⟩ := List.mem_filterMap.1 hc
    obtain ⟨hq, _⟩ := Option.filter_eq_some_iff.1 hq
    exact comesB_P hP hq (h e he)
  intro c hc
  unfold endE at hc
  rcases List.mem_append.1 hc with hc | hc
  · exact key 3 c hc
  · rcases List.mem_append.1 hc with hc | hc
    · exact key 2 c hc
    · exact key 1 c hc
theorem addE_P {P : Ch → Prop} {R : List En} (h : ∀ e ∈ R, P e.2.2) {c : Ch} (hc : P c) : (∀ e ∈ (addE R c).2, P e.2.2) ∧ (addE R c).2.length ≤ R.length + 1 := by
  unfold addE
  split
  · refine ⟨?_, by simp⟩
    intro e he
    rcases List.mem_append.1 he with he | he
    · exact h e he
    · rw [List.mem_singleton.1 he]; exact hc
  · split
    · exact ⟨h, by simp⟩
    · split
      · exact ⟨h, by simp⟩
      · refine ⟨?_, by simp [setE_len]⟩
        intro e he
        rcases setE_mem he with he | ⟨x, hx, rfl⟩
        · exact h e he
        · exact hc
theorem ofP_P {P : Ch → Prop} (hP : ∀ c k, P c → P { c with kind := k }) {pl : Ch → Bool} : ∀ (l out : List Ch) (R : List En), (∀ c ∈ l, P c) → (∀ c ∈ out, P c) → (∀ e ∈ R, P e.2.2) → (∀ c ∈ (ofP pl l out R).1, P c) ∧ (ofP pl l out R).1.length ≤ out.length + 3 * R.length + 4 * l.length
  | [], out, R, _, ho, hr => by
    have := endE_len R
    refine ⟨?_, by simp only [ofP, List.length_append, List.length_nil]; omega⟩
    intro c hc
    simp only [ofP] at hc
    rcases List.mem_append.1 hc with hc | hc
    · exact ho c hc
    · exact endE_P hP hr c hc
  | c :: l, out, R, hl, ho, hr => by
    have hel := endE_len R
    have hl' : ∀ x ∈ l, P x := fun x hx => hl x (by simp [hx])
    have hcP : P c := hl c (by simp)
    simp only [ofP]
    split
    · exact ⟨by simp, by simp⟩
    · split
      · obtain ⟨h1, h2⟩ := ofP_P hP (pl := pl) l ((out ++ endE R) ++ [c]) [] hl' (by
          intro x hx
          rcases List.mem_append.1 hx with hx | hx
          · rcases List.mem_append.1 hx with hx | hx
            · exact ho x hx
            · exact endE_P hP hr x hx
          · obtain rfl : x = c := by simpa using hx
            exact hcP) (by simp)
        refine ⟨h1, ?_⟩
        simp only [List.length_append, List.length_cons, List.length_nil] at h2 ⊢
        omega
      · split
        · exact ⟨by simp, by simp⟩
        · obtain ⟨k1, k2⟩ := addE_P hr hcP
          obtain ⟨h1, h2⟩ := ofP_P hP (pl := pl) l out _ hl' ho k1
          refine ⟨h1, ?_⟩
          simp only [List.length_cons]
          omega
theorem plain_ok : PlainOk plainB where
  k := fun c h => by
    by_cases h4 : c.kind = 4
    · exact .inr h4
    · exact .inl (plainB_K h h4)
  to1 := fun c h hk => by
    unfold plainB at h ⊢
    simp only [if_pos hk] at h
    simpa [zeroD] using h
  to2 := fun c h hk => by
    unfold plainB at h ⊢
    simp only [if_pos hk] at h
    simpa [zeroD] using h

end Hx

/-
  HxM06: types of columns, and which of two is as wide: plain laws.
-/
namespace Hx
def rightT (k m : Int) : Bool := if k = 1 ∨ k = 2 then decide (m = 0) else if k = 3 ∨ k = 4 then decide (1 ≤ m ∧ m ≤ 120) else false
def needT (k m : Int) : Int := if k = 3 ∨ k = 4 then m else if k = 1 then 11 else 20
def wideT (k m k' m' : Int) : Bool := rightT k m && rightT k' m' && decide (k' ≤ k) && (if k = 3 ∨ k = 4 then decide (needT k' m' ≤ m) else true)
theorem right_cases {k m : Int} (h : rightT k m = true) : (k = 1 ∧ m = 0) ∨ (k = 2 ∧ m = 0) ∨ (k = 3 ∧ 1 ≤ m ∧ m ≤ 120) ∨ (k = 4 ∧ 1 ≤ m ∧ m ≤ 120) := by
  unfold rightT at h
  split at h
  · have := of_decide_eq_true h
    omega
  · split at h
    · have := of_decide_eq_true h
      omega
    · cases h
theorem wide_iff {k m k' m' : Int} : wideT k m k' m' = true ↔ rightT k m = true ∧ rightT k' m' = true ∧ k' ≤ k ∧ (k = 3 ∨ k = 4 → needT k' m' ≤ m) := by
  unfold wideT
  by_cases h : k = 3 ∨ k = 4
  · simp only [if_pos h, Bool.and_eq_true, decide_eq_true_eq]
    constructor
    · rintro ⟨⟨⟨a, b⟩, c⟩, d⟩; exact ⟨a, b, c, fun _ => d⟩
    · rintro ⟨a, b, c, d⟩; exact ⟨⟨⟨a, b⟩, c⟩, d h⟩
  · simp only [if_neg h, Bool.and_eq_true, decide_eq_true_eq]
    constructor
    · rintro ⟨⟨⟨a, b⟩, c⟩, d⟩; exact ⟨a, b, c, fun q => absurd q h⟩
    · rintro ⟨a, b, c, d⟩; exact ⟨⟨⟨a, b⟩, c⟩, trivial⟩
theorem need_1 (m : Int) : needT 1 m = 11 := by simp [needT]
theorem need_2 (m : Int) : needT 2 m = 20 := by simp [needT]
theorem need_3 (m : Int) : needT 3 m = m := by simp [needT]
theorem need_4 (m : Int) : needT 4 m = m := by simp [needT]
theorem wide_refl {k m : Int} : wideT k m k m = rightT k m := by
  rw [Bool.eq_iff_iff, wide_iff]
  constructor
  · exact fun h => h.1
  · intro h
    refine ⟨h, h, Int.le_refl _, fun q => ?_⟩
    rcases right_cases h with ⟨rfl, _⟩ | ⟨rfl, _⟩ | ⟨rfl, _⟩ | ⟨rfl, _⟩ <;> simp only [need_1, need_2, need_3, need_4] <;> omega
end Hx

namespace Hx
open Go
set_option linter.unusedSimpArgs false
set_option linter.unusedVariables false
variable {E : Env}
def isSign (n : Int) : Bool := decide (0 ≤ n) && decide (n ≤ 1114111) && (decide (n < 55296) || decide (n > 57343))
theorem isSign_iff {n : Int} : isSign n = true ↔ 0 ≤ n ∧ n ≤ 1114111 ∧ (n < 55296 ∨ n > 57343) := by
  simp [isSign, and_assoc]
theorem ref_Is (h : E.fn 2 = some Fn.f_haulageref03_Is) (k : Nat) (n : Int) (m : Mem) : denF E (k + 1) 2 [.p (.int .i64 n)] m = some (.ret (.p (.bool (isSign n))), m) := by
  rw [denF_pure h rfl]
  by_cases h1 : n ≥ 0 <;> by_cases h2 : n ≤ 1114111 <;> by_cases h3 : n < 55296 <;>
  simp [Fn.f_haulageref03_Is, isSign, h1, h2, h3]
def widthOf (n : Int) : Int := if n ≥ 65536 then 4 else if n ≥ 2048 then 3 else if n ≥ 128 then 2 else 1
def byte (x : Int) : UInt8 := UInt8.ofNat (x % 256).toNat
theorem ref_one (h : E.fn 17 = some Fn.f_haulageref03_one) (k : Nat) (n : Int) (m : Mem) : denF E (k + 1) 17 [.p (.int .i64 n)] m = some (.ret (.p (.str [byte n])), m) := by
  rw [denF_pure h rfl]
  simp [Fn.f_haulageref03_one, unBytes, unByte, byte, wrap_u8_mod, List.replicate]
def utf8 (n : Int) : List UInt8 :=
  if n < 128 then [byte n]
  else if n < 2048 then [byte (192 + n / 64), byte (128 + n % 64)]
  else if n < 65536 then [byte (224 + n / 4096), byte (128 + n / 64 % 64), byte (128 + n % 64)]
  else [byte (240 + n / 262144), byte (128 + n / 4096 % 64), byte (128 + n / 64 % 64), byte (128 + n % 64)]
theorem ref_Put (h : E.fn 3 = some Fn.f_haulageref03_Put) (h1 : E.fn 17 = some Fn.f_haulageref03_one) (k : Nat) (n : Int) (hn : 0 ≤ n) (hn' : n ≤ 1114111) (m : Mem) :
    denF E (k + 2) 3 [.p (.int .i64 n)] m = some (.ret (.p (.str (utf8 n))), m) := by
  rw [denF_pure h rfl]
  have q : ∀ d : Int, 0 < d → n.tdiv d = n / d := fun d _ => Int.tdiv_eq_ediv_of_nonneg hn
  have r : ∀ x d : Int, 0 ≤ x → x.tmod d = x % d := fun x d hx => Int.tmod_eq_emod_of_nonneg hx
  have b1 := Int.ediv_nonneg hn (by decide : (0:Int) ≤ 64)
  have b2 := Int.ediv_nonneg hn (by decide : (0:Int) ≤ 4096)
  have c1 : n / 64 ≤ n := Int.ediv_le_self _ hn
  have c2 : n / 4096 ≤ n := Int.ediv_le_self _ hn
  have c3 : n / 262144 ≤ n := Int.ediv_le_self _ hn
  by_cases h2 : n < 128
  · simp [Fn.f_haulageref03_Put, ref_one h1, h2, utf8]
  by_cases h3 : n < 2048
  · simp [Fn.f_haulageref03_Put, ref_one h1, h2, h3, utf8, strLim]
    simp (disch := omega) only [q, r, wrap_i64, and_self]
  by_cases h4 : n < 65536
  · simp [Fn.f_haulageref03_Put, ref_one h1, h2, h3, h4, utf8, strLim]
    simp (disch := omega) only [q, r, wrap_i64, and_self]
  · simp [Fn.f_haulageref03_Put, ref_one h1, h2, h3, h4, utf8, strLim]
    simp (disch := omega) only [q, r, wrap_i64, and_self]
end Hx

namespace Hx
open Go
set_option linter.unusedSimpArgs false
set_option linter.unusedVariables false
variable {E : Env}
def b8 (x : Int) : AV := .p (.int .u8 x)
end Hx

namespace Hx
set_option linter.unusedSimpArgs false
open Go
variable {E : Env}
end Hx

namespace Hx
open Go
set_option linter.unusedSimpArgs false
variable {E : Env}
attribute [-simp] List.getD_eq_getElem?_getD getElem?_pos
def readV : Option (Int × Int) → AV
  | none => .tup [.p (.int .i64 0), .p (.int .i64 0), .p (.bool false)]
  | some (n, size) => .tup [.p (.int .i64 n), .p (.int .i64 size), .p (.bool true)]
def fits (n size : Int) : Option (Int × Int) := if isSign n = true then (if widthOf n = size then some (n, size) else none) else none
def cont (b : UInt8) : Bool := (b.toNat : Int) / 64 == 2
def readB (x : Int) (r : List UInt8) : Option (Int × Int) :=
    if x < 128 then fits x 1
    else if x / 32 = 6 then match r with
      | b :: _ => bif cont b then fits (x % 32 * 64 + (b.toNat : Int) % 64) 2 else none
      | _ => none
    else if x / 16 = 14 then match r with
      | b :: d :: _ => bif cont b then (bif cont d then fits ((x % 16 * 64 + (b.toNat : Int) % 64) * 64 + (d.toNat : Int) % 64) 3 else none) else none
      | _ => none
    else if x / 8 = 30 then match r with
      | b :: d :: e :: _ => bif cont b then (bif cont d then (bif cont e then fits (((x % 8 * 64 + (b.toNat : Int) % 64) * 64 + (d.toNat : Int) % 64) * 64 + (e.toNat : Int) % 64) 4 else none) else none) else none
      | _ => none
    else none
def readU : List UInt8 → Option (Int × Int)
  | [] => none
  | c :: r => readB c.toNat r
theorem u8_range (c : UInt8) : (0 : Int) ≤ c.toNat ∧ (c.toNat : Int) ≤ 255 := by
  have : c.toNat < 256 := UInt8.toNat_lt c
  omega
end Hx
