/-
  HxS15y: changes, one behind the other, as the document says.
-/
import Derived.Test.YtfobhbameffplaaHxS15w
namespace Hx
open Go
set_option linter.unusedSimpArgs false
set_option linter.unusedVariables false
set_option maxHeartbeats 64000000
set_option maxRecDepth 20000
variable {E : Env}
attribute [-simp] List.getD_eq_getElem?_getD getElem?_pos
theorem redo_none (u : K15 E) {cat : Cat15} {rp : PV} {es : List RE} (hs : StG cat.tp rp cat.ts es) {c : Ch} (hok : ChOk c) (hsz : rowsN c.sl ≤ 1000) (j : Nat) (hj : 6000 ≤ j) (hp : plainB c = false) : RedoP E j cat rp c (redo (mdl15 E (j + 1)) (cat, rowsZ es) c) := by
  have hr : redo (mdl15 E (j + 1)) (cat, rowsZ es) c = none := by
    unfold redo
    rw [if_pos (by show plainB c = false; exact hp)]
  rw [hr]
  have hPl := fun m => ref_Plain u.p.l u.plainC hok (by omega) (j + 1) (by omega) m
  rw [hp] at hPl
  have g1 := hs.tp.flat
  have g2 := hs.rp.flat
  have f3 := hok.f.cs
  have f4 := hok.f.sl
  unfold PV.flat at g1 g2 f3 f4
  simp only [chV] at hPl
  refine ⟨2, by decide, fun m => ?_⟩
  refine denF_wp u.redo rfl (args' := [.p (.agg [cat.tp, rp]), .p (.agg (chV c))]) rfl ?_
  simp (maxSteps := 4000000) [Fn.f_haulageref15_Redo, chV, g1, g2, f3, f4, hPl]
theorem redo_rows (u : K15 E) {cat : Cat15} {rp : PV} {es : List RE} (hs : StG cat.tp rp cat.ts es) {c : Ch} (hok : ChOk c) (hci : ChI c) (hsz : rowsN c.sl ≤ 1000) (hsz2 : rowsN c.cs ≤ 1000) (j : Nat) (hj : 6000 ≤ j) (hp : plainB c = true) (h4 : ¬ c.kind = 4) : RedoP E j cat rp c (redo (mdl15 E (j + 1)) (cat, rowsZ es) c) := by
  have hw := wf_of E (j + 1) hs
  have hr : redo (mdl15 E (j + 1)) (cat, rowsZ es) c = redo1 (mdl15 E (j + 1)) (cat, rowsZ es) c := by
    unfold redo
    rw [if_neg (by show ¬ plainB c = false; rw [hp]; simp), if_neg h4]
  obtain ⟨cols, hc⟩ := hok.sl
  have hPl := fun m => ref_Plain u.p.l u.plainC hok (by omega) (j + 1) (by omega) m
  rw [hp] at hPl
  have b4 : (c.kind == 4) = false := by simpa using h4
  have f1 := hs.tp.flat
  have f2 := hs.rp.flat
  have g1 := f1
  have g2 := f2
  have f3 := hok.f.cs
  have f4 := hok.f.sl
  unfold PV.flat at g1 g2 f3 f4
  have hF := fun m => ref_Find u.find hs.tp c.table (by have := hs.n; omega) (j + 1) (by have := hs.n; omega) m
  simp only [chV] at hPl
  rw [hr]
  rcases posI_cases (fun t : Tbl => t.name == c.table) cat.ts 0 with ⟨q, _⟩ | ⟨a, t, q, ht, _⟩
  · have q : tabAt cat.ts c.table = -1 := q
    have hfd : find15 cat c.table = none := by unfold find15; rw [q]; rfl
    have hr1 : redo1 (mdl15 E (j + 1)) (cat, rowsZ es) c = none := by
      unfold redo1
      rw [show (mdl15 E (j + 1)).find (cat, rowsZ es).1 c.table = none from hfd]
    rw [hr1]
    rw [q] at hF
    refine ⟨12, by decide, fun m => ?_⟩
    refine denF_wp u.redo rfl (args' := [.p (.agg [cat.tp, rp]), .p (.agg (chV c))]) rfl ?_
    simp (maxSteps := 4000000) [Fn.f_haulageref15_Redo, chV, g1, g2, f3, f4, hPl, h4, b4, hF]
  have q : tabAt cat.ts c.table = (a : Int) := by unfold tabAt; rw [q]; simp
  rw [q] at hF
  have hfd : find15 cat c.table = some a := find15_some.2 q
  have hal := (List.getElem?_eq_some_iff.1 ht).1
  obtain ⟨t0, e, ht0, he⟩ := hs.at hal
  rw [ht] at ht0
  obtain rfl := Option.some.inj ht0
  have hel := (List.getElem?_eq_some_iff.1 he).1
  have hg := hs.t t (List.mem_of_getElem? ht)
  obtain ⟨kk, hkey, hkl⟩ := hg.key
  have hkk : kk15 cat a = kk := by unfold kk15; rw [ht]; simp only; rw [hkey]; rfl
  have hzq := hs.q e (List.mem_of_getElem? he)
  have hfew := hs.few e (List.mem_of_getElem? he)
  have hfit := hs.fit a t e ht he
  have hK := fun m => ref_Key u.key hg.ok.f (by have := hg.len; omega) (j + 1) (by have := hg.len; omega) m
  rw [hkey] at hK
  have ft := hg.ok.f.flat
  unfold PV.flat at ft
  have ha0 : ¬ (a : Int) < 0 := by omega
  have hrd : redo1 (mdl15 E (j + 1)) (cat, rowsZ es) c = if c.kind = 3 then (if getR (keyN kk) e.2.2 c.key.2 = none then none else some (cat, (rowsZ es).set a (delR (keyN kk) c.key.2 e.2.2))) else match val15 cat c with
      | none => none
      | some x => if c.kind = 1 then (if getR (keyN kk) e.2.2 c.key.2 ≠ none then none else if 200 ≤ e.2.2.length then none else some (cat, (rowsZ es).set a (putR ltV (keyN kk) x e.2.2))) else if getR (keyN kk) e.2.2 c.key.2 = none then none else some (cat, (rowsZ es).set a (putR ltV (keyN kk) x e.2.2)) := by
    unfold redo1
    rw [show (mdl15 E (j + 1)).find (cat, rowsZ es).1 c.table = some a from hfd]
    simp only
    rw [rowsAt_z he]
    rw [show (mdl15 E (j + 1)).keyOf cat a = keyN kk from by funext r; show keyN (kk15 cat a) r = _; rw [hkk]]
    rfl
  have hdone : ∀ s', redo1 (mdl15 E (j + 1)) (cat, rowsZ es) c = some s' → WF (mdl15 E (j + 1)) s' := fun s' h => (redo1_ok (mdl_ok E (j + 1)) hw h).wf
  rw [hrd] at hdone ⊢
  obtain ⟨e1, e2, e3⟩ := e
  simp only at hzq hfew hfit hdone ⊢
  by_cases k3 : c.kind = 3
  · rw [if_pos k3] at hdone ⊢
    have hRF := fun m => ref_RFind u.toC15 hg.ok hkey hg.len hzq (fun r hr => (fit_key (hfit r hr) hkl).lt) c.key.2 (by omega) (j + 1) (by omega) m
    have hth := @findZ_there kk c.key.2 e3
    rcases hs.tp with ⟨h0, _⟩ | htq
    · rw [h0] at hal; simp at hal
    rcases hs.rp with ⟨h0, _⟩ | hrq
    · rw [h0] at hel; simp at hel
    by_cases q1 : getR (keyN kk) e3 c.key.2 = none
    · rw [if_pos q1]
      have hlt : findZ kk c.key.2 e3 < 0 := by
        rcases Int.lt_or_le (findZ kk c.key.2 e3) 0 with h | h
        · exact h
        · exact absurd q1 (hth.1 h)
      generalize findZ kk c.key.2 e3 = z at hRF hlt
      refine ⟨18, by decide, fun m => ?_⟩
      refine denF_wp u.redo rfl (args' := [.p (.agg [cat.tp, rp]), .p (.agg (chV c))]) rfl ?_
      rw [htq] at g1 hF
      rw [hrq] at g2
      simp only [tblP, valP, Ch.key] at hRF
      rw [k3] at hPl
      simp (maxSteps := 4000000) [Fn.f_haulageref15_Redo, chV, RZ, reP, tblP, htq, hrq, f3, f4, hPl, k3, hF, ha0, ht, hal, he, hel, ft, hRF, u.rfind, p159, hlt]
    · rw [if_neg q1] at hdone ⊢
      obtain ⟨b, hb⟩ : ∃ b : Nat, findZ kk c.key.2 e3 = (b : Int) := ⟨(findZ kk c.key.2 e3).toNat, by have := hth.2 q1; omega⟩
      rw [hb] at hRF
      obtain ⟨lp, hlp, hC⟩ := ref_cut u.toC15 hzq b (by omega) (j + 1) (by omega)
      obtain ⟨rp', hrp', hW⟩ := ref_with u.toC15 f1 hs.rp hs.le a hlp.flat (cutZ b e3) (by have := hs.len; have := hs.n; omega) (j + 1) (by have := hs.len; have := hs.n; omega)
      rw [cut_del hb] at hlp hrp'
      have hw2 := hdone _ rfl
      refine ⟨rp', setE15 a lp (delR (keyN kk) c.key.2 e3) es, stG_set (E := E) (n := j + 1) hs ht hlp (fun r hr => hfit r (List.mem_of_mem_eraseP hr)) hrp' hw2, rowsZ_set hel, fun m => ?_⟩
      refine denF_wp u.redo rfl (args' := [.p (.agg [cat.tp, rp]), .p (.agg (chV c))]) rfl ?_
      have fr := hrp'.flat
      have hb0 : ¬ (b : Int) < 0 := by omega
      unfold PV.flat at fr
      rw [htq] at g1 hF
      rw [hrq] at g2
      rw [htq, hrq] at hW
      simp only [tblP, valP, Ch.key] at hRF
      simp only [RZ, reP] at hW
      rw [k3] at hPl
      simp (maxSteps := 4000000) [Fn.f_haulageref15_Redo, chV, RZ, reP, tblP, htq, hrq, f3, f4, hPl, k3, hF, ha0, ht, hal, he, hel, ft, hRF, u.rfind, p159, hb0, hC, u.cut, p160, hW, u.with_, p161, fr]
  · rw [if_neg k3] at hdone ⊢
    have hkd : c.kind = 1 ∨ c.kind = 2 := by
      rcases plain_ok.k c hp with (h | h | h) | h
      · exact .inl h
      · exact .inr h
      · exact absurd h k3
      · exact absurd h h4
    have b3 : (c.kind == 3) = false := by simpa using k3
    obtain ⟨cels, hcel⟩ := hok.cs
    have hco := celsOf_eq hcel
    have hcl : cels.length ≤ 1000 := by rw [← rowsN_cel hcel]; exact hsz2
    have hval : val15 cat c = if celsB t.cols cels = true ∧ rowE t (cels.map celV) = 0 ∧ keyN kk (cels.map celV) = c.key.2 then some (cels.map celV) else none := by
      unfold val15
      rw [hfd]
      simp only
      rw [ht]
      simp only
      rw [hco, hkk]
    have hs2 : t.sl = .vals 8 (t.cols.map colQ) := by
      rcases hg.ok.f with ⟨h, _⟩ | h
      · exact absurd h hg.ne
      · exact h
    have hxi : ∀ v ∈ cels.map celV, isI64 v.2.1 := by
      intro v hv
      obtain ⟨y, hy, rfl⟩ := List.mem_map.1 hv
      exact hci.cs cels hcel y hy
    rw [hval] at hdone ⊢
    by_cases hlen : cels.length = t.cols.length
    · have hcs : c.cs = .vals 6 (cels.map celP) := by
        rcases hcel with ⟨h1, _⟩ | h
        · exfalso
          rw [h1] at hlen
          exact hg.ne (List.length_eq_zero_iff.1 (by simpa using hlen.symm))
        · exact h
      generalize hxd : cels.map celV = x at *
      have hR := fun m => ref_Row u.toB15 hg.ok (rp := .vals 3 (x.map valP)) (.inr rfl) hxi (by rw [← hxd, List.length_map]; omega) (j + 1) (by omega) m
      have hsplit : ∃ (er : Int) (rpo : PV), rpo.flat = true ∧ ((∀ m, denF E (j + 3) 142 [.p (.agg [cat.tp, rp]), .p (.agg (chV c))] m = some (.ret (.tup [.p (.agg [cat.tp, rpo]), .p (.int .i64 er)]), m)) → RedoP E j cat rp c (match (if celsB t.cols cels = true ∧ rowE t x = 0 ∧ keyN kk x = c.key.2 then some x else none) with
          | none => none
          | some x => if c.kind = 1 then (if getR (keyN kk) e3 c.key.2 ≠ none then none else if 200 ≤ e3.length then none else some (cat, (rowsZ es).set a (putR ltV (keyN kk) x e3))) else if getR (keyN kk) e3 c.key.2 = none then none else some (cat, (rowsZ es).set a (putR ltV (keyN kk) x e3)))) ∧
          (celsB t.cols cels = false → er = 5 ∧ rpo = rp) ∧ (celsB t.cols cels = true → rowE t x ≠ 0 → er = rowE t x ∧ rpo = rp) ∧ (celsB t.cols cels = true → rowE t x = 0 → keyN kk x ≠ c.key.2 → er = 15 ∧ rpo = rp) ∧
          (celsB t.cols cels = true → rowE t x = 0 → keyN kk x = c.key.2 → ∀ m, denF E (j + 2) 156 [.p (.agg [cat.tp, rp]), .p (.int .i64 a), .p (.int .i64 c.kind), .p (.vals 3 (x.map valP))] m = some (.ret (.tup [.p (.agg [cat.tp, rpo]), .p (.int .i64 er)]), m)) := by
        cases z1 : celsB t.cols cels with
        | false =>
          refine ⟨5, rp, f2, fun h => ?_, fun _ => ⟨rfl, rfl⟩, fun h => (by cases h), fun h => (by cases h), fun h => (by cases h)⟩
          rw [if_neg (fun h => by cases h.1)]
          exact ⟨5, by decide, h⟩
        | true =>
          by_cases z2 : rowE t x = 0
          · by_cases z3 : keyN kk x = c.key.2
            · rw [z1, if_pos ⟨rfl, z2, z3⟩] at hdone
              rw [if_pos ⟨rfl, z2, z3⟩]
              have hx := rowE_fit z2 hxi
              obtain ⟨w1, w2⟩ := ref_row u hs ht he hkey hkl c.kind hkd hx (j + 1) (by omega)
              simp only at w1 w2 hdone ⊢
              rw [z3] at w1 w2
              by_cases bad : c.kind = 1 ∧ getR (keyN kk) e3 c.key.2 ≠ none ∨ c.kind = 1 ∧ 200 ≤ e3.length ∨ c.kind = 2 ∧ getR (keyN kk) e3 c.key.2 = none
              · obtain ⟨er, h1, h2⟩ := w1 bad
                refine ⟨er, rp, f2, fun h => ?_, fun h => (by cases h), fun _ h => absurd z2 h, fun _ _ h => absurd z3 h, fun _ _ _ => h2⟩
                have : (if c.kind = 1 then (if getR (keyN kk) e3 c.key.2 ≠ none then (none : Option (Cat15 × List (List Row))) else if 200 ≤ e3.length then none else some (cat, (rowsZ es).set a (putR ltV (keyN kk) x e3))) else if getR (keyN kk) e3 c.key.2 = none then none else some (cat, (rowsZ es).set a (putR ltV (keyN kk) x e3))) = none := by
                  rcases bad with ⟨p1, p2⟩ | ⟨p1, p2⟩ | ⟨p1, p2⟩
                  · rw [if_pos p1, if_pos p2]
                  · simp [p1, p2]
                  · rw [if_neg (by omega), if_pos p2]
                rw [this]
                exact ⟨er, h1, h⟩
              · obtain ⟨rp', lp, h1, h2, h3⟩ := w2 bad
                refine ⟨0, rp', h2.flat, fun h => ?_, fun h => (by cases h), fun _ h => absurd z2 h, fun _ _ h => absurd z3 h, fun _ _ _ => h3⟩
                have hsome : (if c.kind = 1 then (if getR (keyN kk) e3 c.key.2 ≠ none then (none : Option (Cat15 × List (List Row))) else if 200 ≤ e3.length then none else some (cat, (rowsZ es).set a (putR ltV (keyN kk) x e3))) else if getR (keyN kk) e3 c.key.2 = none then none else some (cat, (rowsZ es).set a (putR ltV (keyN kk) x e3))) = some (cat, (rowsZ es).set a (putR ltV (keyN kk) x e3)) := by
                  rcases hkd with p1 | p1
                  · rw [if_pos p1, if_neg (fun p2 => bad (.inl ⟨p1, p2⟩)), if_neg (fun p2 => bad (.inr (.inl ⟨p1, p2⟩)))]
                  · rw [if_neg (by omega), if_neg (fun p2 => bad (.inr (.inr ⟨p1, p2⟩)))]
                have hw2 := hdone _ hsome
                rw [hsome]
                refine ⟨rp', setE15 a lp (putZ kk x e3) es, stG_set (E := E) (n := j + 1) hs ht h1 ?_ h2 hw2, rowsZ_set hel, h⟩
                intro r hr
                rcases mem_put hr with rfl | hr
                · exact hx
                · exact hfit r hr
            · refine ⟨15, rp, f2, fun h => ?_, fun h => (by cases h), fun _ h => absurd z2 h, fun _ _ _ => ⟨rfl, rfl⟩, fun _ _ h => absurd h z3⟩
              rw [if_neg (fun h => z3 h.2.2)]
              exact ⟨15, by decide, h⟩
          · refine ⟨rowE t x, rp, f2, fun h => ?_, fun h => (by cases h), fun _ _ => ⟨rfl, rfl⟩, fun _ h => absurd h z2, fun _ h => absurd h z2⟩
            rw [if_neg (fun h => z2 h.2.1)]
            exact ⟨rowE t x, z2, h⟩
      obtain ⟨er, rpo, fo, hfin, r1, r2, r3, r4⟩ := hsplit
      refine hfin fun m => ?_
      have hL := fun st0 h0 => redo_loop u f1 f2 (c := c) hs2 hcs hlen hcl hok.f.sl (.p (.int .i64 a)) (j + 1) (by omega) st0 h0
      rcases hs.tp with ⟨h0, _⟩ | htq
      · rw [h0] at hal; simp at hal
      refine denF_wp u.redo rfl (args' := [.p (.agg [cat.tp, rp]), .p (.agg (chV c))]) rfl ?_
      have hlenI : ((cels.length : Int) == (t.cols.length : Int)) = true := by rw [hlen]; exact beq_self_eq_true _
      have i2 : ∀ m' : Mem, m'[2]? = some (.cells [.p .nils, .p .nils]) → 2 < m'.length := fun m' h => idx_lt h
      rw [htq] at g1 hF
      rw [hcs] at hPl
      simp only [chV, tblP, hcs, hs2, htq, List.map_cons, List.map_nil] at hL
      unfold PV.flat at fo
      simp (maxSteps := 4000000) [Fn.f_haulageref15_Redo, chV, tblP, htq, hs2, hcs, g2, f4, hPl, h4, b4, k3, b3, hF, ha0, ht, hal, hlenI, hlen, bne]
      refine (hL _ ⟨rfl, rfl, rfl, rfl⟩).mono ?_
      rintro e st ⟨hds, hlen2, e4, ⟨rfl, z1, e5, m2⟩ | ⟨rfl, z1, e2, e3', e6, e7, hinv⟩⟩
      · obtain ⟨rfl, rfl⟩ := r1 z1
        obtain ⟨ts', m', ds⟩ := st
        simp only at hds hlen2 e4 e5 m2
        subst hds
        simp (maxSteps := 4000000) [e4, e5, m2]
      · have ⟨m0, m1, m2, m3, ho, _⟩ := hinv
        obtain ⟨ts', m', ds⟩ := st
        simp only at hds hlen2 e4 e2 e3' e6 e7 m0 m1 m2 m3 ho
        subst hds
        rw [List.take_of_length_le (Nat.le_refl _), hxd] at ho
        have hxl : x.length = t.cols.length := by rw [← hxd, List.length_map]; exact hlen
        have hkx : kk < x.length := by omega
        have hxk := row_key hkx
        rcases ho with ⟨h0, _⟩ | ⟨tok, h9, htok⟩
        · exfalso
          have := congrArg List.length h0
          simp only [List.length_map, List.length_nil] at this
          omega
        have hx := expand_ts 145 ts' hlen2
        simp only [List.range, List.range.loop, List.map_cons, List.map_nil] at hx
        rw [e2, e3', e4, e6, e7, h9] at hx
        rw [hx]
        have l2 := idx_lt m2
        have l0 := idx_lt m0
        have l1 := idx_lt m1
        have l3 := idx_lt m3
        have hR2 : ∀ m, denF E (j + 2) 173 [.p (.agg (tblP t)), .tv 3 (x.map valP) tok] m = some (.ret (.p (.int .i64 (rowE t x))), m) := by
          intro m
          refine (pure_args u.row rfl (args := [.p (.agg (tblP t)), .tv 3 (x.map valP) tok]) (args' := [.p (.agg (tblP t)), .p (.vals 3 (x.map valP))]) rfl).trans (hR m)
        simp only [chV, tblP, hcs, hs2, htq, List.map_cons, List.map_nil] at m0 m1 m3 hR2 hK
        by_cases z2 : rowE t x = 0
        · rw [z2] at hR2
          have hE := eq_valP (keyN kk x) (c.kk, c.kn, c.ks)
          simp only [valP] at hE
          by_cases z3 : keyN kk x = c.key.2
          · have hrow := r4 z1 z2 z3
            have hrow2 : ∀ m, denF E (j + 2) 156 [.p (.agg [.vals 5 (cat.ts.map tblP), rp]), .p (.int .i64 a), .p (.int .i64 c.kind), .tv 3 (x.map valP) tok] m = some (.ret (.tup [.p (.agg [cat.tp, rpo]), .p (.int .i64 er)]), m) := by
              intro m
              rw [← htq]
              exact (pure_args u.rowf rfl (args := [.p (.agg [cat.tp, rp]), .p (.int .i64 a), .p (.int .i64 c.kind), .tv 3 (x.map valP) tok]) (args' := [.p (.agg [cat.tp, rp]), .p (.int .i64 a), .p (.int .i64 c.kind), .p (.vals 3 (x.map valP))]) rfl).trans (hrow m)
            rw [htq] at hrow2
            have z3' : keyN kk x = (c.kk, c.kn, c.ks) := z3
            rw [decide_eq_true z3'] at hE
            generalize keyN kk x = y at hE hxk
            simp (maxSteps := 4000000) [m0, m1, m2, m3, l0, l1, l2, l3, hR2, hK, u.key, p157, hkx, hxk, valP, hE, hrow2, fo, g2, bne]
          · obtain ⟨rfl, rfl⟩ := r3 z1 z2 z3
            have z3' : ¬ keyN kk x = (c.kk, c.kn, c.ks) := z3
            rw [decide_eq_false z3'] at hE
            generalize keyN kk x = y at hE hxk
            simp (maxSteps := 4000000) [m0, m1, m2, m3, l0, l1, l2, l3, hR2, hK, u.key, p157, hkx, hxk, valP, hE, g2, bne]
        · obtain ⟨rfl, rfl⟩ := r2 z1 z2
          have z2b : (rowE t x == 0) = false := by simpa using z2
          simp (maxSteps := 4000000) [m0, m1, m2, m3, l0, l1, l2, l3, hR2, z2, z2b, g2, bne]
    · have hnb : celsB t.cols cels = false := by
        unfold celsB
        rw [decide_eq_false hlen]; rfl
      rw [if_neg (fun h => by rw [hnb] at h; cases h.1)]
      refine ⟨5, by decide, fun m => ?_⟩
      have hlenI : ((cels.length : Int) == (t.cols.length : Int)) = false := by rw [beq_eq_false_iff_ne]; omega
      rcases hs.tp with ⟨h0, _⟩ | htq
      · rw [h0] at hal; simp at hal
      refine denF_wp u.redo rfl (args' := [.p (.agg [cat.tp, rp]), .p (.agg (chV c))]) rfl ?_
      rw [htq] at g1 hF
      rcases hcel with ⟨rfl, hcn⟩ | hcn
      · simp only [List.length_nil, Int.natCast_zero] at hlenI
        rw [hcn] at hPl
        simp (maxSteps := 4000000) [Fn.f_haulageref15_Redo, chV, tblP, htq, hs2, hcn, g2, f4, hPl, h4, b4, k3, b3, hF, ha0, ht, hal, hlenI, bne]
      · rw [hcn] at hPl
        simp (maxSteps := 4000000) [Fn.f_haulageref15_Redo, chV, tblP, htq, hs2, hcn, g2, f4, hPl, h4, b4, k3, b3, hF, ha0, ht, hal, hlenI, bne]
theorem ref_Redo (u : K15 E) {cat : Cat15} {rp : PV} {es : List RE} (hs : StG cat.tp rp cat.ts es) {c : Ch} (hok : ChOk c) (hci : ChI c) (hsz : rowsN c.sl ≤ 1000) (hsz2 : rowsN c.cs ≤ 1000) (j : Nat) (hj : 6000 ≤ j) : RedoP E j cat rp c (redo (mdl15 E (j + 1)) (cat, rowsZ es) c) := by
  cases hp : plainB c with
  | false => exact redo_none u hs hok hsz j hj hp
  | true =>
    by_cases h4 : c.kind = 4
    · exact redo_ddl u hs hok hci hsz j hj hp h4
    · exact redo_rows u hs hok hci hsz hsz2 j hj hp h4
end Hx

namespace Hx
open Go
set_option linter.unusedSimpArgs false
set_option linter.unusedVariables false
set_option maxHeartbeats 64000000
set_option maxRecDepth 20000
variable {E : Env}
attribute [-simp] List.getD_eq_getElem?_getD getElem?_pos
theorem p142 : Fn.f_haulageref15_Redo.pure = true := rfl
def ApplyP (E : Env) (j : Nat) (tp rp lp : PV) : Option (Cat15 × List (List Row)) → Prop
  | none => ∃ (er : Int) (tp' rp' : PV), er ≠ 0 ∧ tp'.flat = true ∧ rp'.flat = true ∧ ∀ m, denF E (j + 4) 126 [.p (.agg [tp, rp]), .p (.agg [.int .i64 0, lp])] m = some (.ret (.tup [.p (.agg [tp', rp']), .p (.int .i64 er)]), m)
  | some s' => ∃ (rp' : PV) (es' : List RE), StG s'.1.tp rp' s'.1.ts es' ∧ rowsZ es' = s'.2 ∧ ∀ m, denF E (j + 4) 126 [.p (.agg [tp, rp]), .p (.agg [.int .i64 0, lp])] m = some (.ret (.tup [.p (.agg [s'.1.tp, rp']), .p (.int .i64 0)]), m)
structure ChT (c : Ch) : Prop where
  ok : ChOk c
  i : ChI c
  sl : rowsN c.sl ≤ 1000
  cs : rowsN c.cs ≤ 1000
def AppAt (E : Env) (j : Nat) (s0 : Cat15 × List (List Row)) (l : List Ch) (lp : PV) (i : Nat) (m : Mem) : Prop := ∃ (cat : Cat15) (rp : PV) (es : List RE), StG cat.tp rp cat.ts es ∧ applyL (mdl15 E (j + 1)) s0 l = applyL (mdl15 E (j + 1)) (cat, rowsZ es) (l.drop i) ∧
  m[0]? = some (.cells [.p cat.tp, .p rp]) ∧ m[1]? = some (.cells [.p (.int .i64 0), .p lp]) ∧ m[2]? = some (.cells [.p .nils, .p .nils])
theorem apply_loop (u : K15 E) (s0 : Cat15 × List (List Row)) {lp : PV} {l : List Ch} (hl : LQ lp l) (hc : ∀ c ∈ l, ChT c) (hn : l.length ≤ 1000) (j : Nat) (hj : 6000 ≤ j) (m0 : Mem) (h0 : AppAt E j s0 l lp 0 m0) (st0 : St)
    (hst0 : Live Fn.f_haulageref20_Apply_k0 (Fn.f_haulageref20_Apply_s0 (.ptr 0 0) (.ptr 1 0) (.ptr 2 0) (.p (.int .i64 0))) m0 st0) :
    Wp (iter (loopF E (denF E (j + 3)) (j + 3) Fn.f_haulageref20_Apply_k0 Fn.f_haulageref20_Apply_b0) (j + 3) st0)
      (fun e st => st.ds = [] ∧ st.ts.length = 32 ∧ st.ts.getD 4 (.tup []) = .ptr 2 0 ∧ ((e = .ret ∧ applyL (mdl15 E (j + 1)) s0 l = none ∧ ∃ (er : Int) (tp' rp' : PV), er ≠ 0 ∧ tp'.flat = true ∧ rp'.flat = true ∧ st.ts.getD 5 (.tup []) = .p (.int .i64 er) ∧ st.m[2]? = some (.cells [.p tp', .p rp'])) ∨ (e = .exit 0 ∧ st.ts.getD 2 (.tup []) = .ptr 0 0 ∧ AppAt E j s0 l lp l.length st.m))) := by
  refine loop_wp (α := Nat × Mem) (I := fun s st => s.1 ≤ l.length ∧ AppAt E j s0 l lp s.1 s.2 ∧ Live Fn.f_haulageref20_Apply_k0 (Fn.f_haulageref20_Apply_s0 (.ptr 0 0) (.ptr 1 0) (.ptr 2 0) (.p (.int .i64 s.1))) s.2 st) (meas := fun s => l.length - s.1) ?_ (j + 3) (0, m0) _ ⟨Nat.zero_le _, h0, hst0⟩ (by simp only [Nat.sub_zero]; omega)
  rintro ⟨i, m⟩ st ⟨hi, hinv, hlive⟩
  simp only at hi hinv hlive
  rw [loopF_live hlive]
  obtain ⟨cat, rp, es, hs, happ, m0, m1, m2⟩ := id hinv
  have l0 := idx_lt m0
  have l1 := idx_lt m1
  have l2 := idx_lt m2
  have f1 := hs.tp.flat
  have f2 := hs.rp.flat
  have f1' := f1
  have f2' := f2
  unfold PV.flat at f1' f2'
  by_cases hlt : i < l.length
  · have hlt' : (i : Int) < l.length := by omega
    obtain ⟨c, hci⟩ : ∃ c, l[i]? = some c := ⟨_, List.getElem?_eq_getElem hlt⟩
    have ht := hc c (List.mem_of_getElem? hci)
    have hw : IntKind.i64.wrap ((i : Int) + 1) = ((i + 1 : Nat) : Int) := by rw [wrap_i64 (by omega) (by omega)]; omega
    have hR := ref_Redo u hs ht.ok ht.i ht.sl ht.cs j hj
    have hdr : l.drop i = c :: l.drop (i + 1) := by
      obtain ⟨h1, h2⟩ := List.getElem?_eq_some_iff.1 hci
      rw [List.drop_eq_getElem_cons h1, h2]
    rw [hdr] at happ
    simp only [applyL] at happ
    have g0 := fun k : Mem => get_app5 (l := k) m0
    have g1 := fun k : Mem => get_app5 (l := k) m1
    have g2 := fun k : Mem => get_app5 (l := k) m2
    obtain ⟨c1, c2⟩ := ht.ok.f
    unfold PV.flat at c1 c2
    rcases hl with ⟨rfl, rfl⟩ | rfl
    · simp at hlt
    cases hr : redo (mdl15 E (j + 1)) (cat, rowsZ es) c with
    | none =>
      rw [hr] at hR happ
      obtain ⟨er, he, hrun⟩ := hR
      have heb : (er == 0) = false := by simpa using he
      simp only [chV] at hrun
      have s2 : ∀ x y : Blk, ((m ++ [y]).set 2 x)[2]? = some x := fun x y => List.getElem?_set_self (by rw [List.length_append]; omega)
      simp (maxSteps := 4000000) [Fn.f_haulageref20_Apply_b0, Fn.f_haulageref20_Apply_s0, chV, c1, c2, hlt, hlt', hci, m0, m1, m2, l0, l1, l2, g0, g1, g2, ln_at0, ln_set0, f1', f2', hrun, u.redo, p142, he, heb, s2, bne]
      exact ⟨happ, er, he, cat.tp, f1', rp, f2', rfl, by rw [List.getElem?_append_left (by rw [List.length_set]; omega)]; exact List.getElem?_set_self l2⟩
    | some s' =>
      rw [hr] at hR happ
      obtain ⟨rp', es', hs', hz, hrun⟩ := hR
      have k1 := hs'.tp.flat
      have k2 := hs'.rp.flat
      unfold PV.flat at k1 k2
      simp only [chV] at hrun
      obtain ⟨cat', zs'⟩ := s'
      simp only at hs' hz hrun happ k1
      subst hz
      have hinv' : AppAt E j s0 l (.vals 19 (l.map chV)) (i + 1) ((m ++ [Blk.cells [.p cat'.tp, .p rp']]).set 0 (Blk.cells [.p cat'.tp, .p rp'])) := ⟨cat', rp', es', hs', happ, List.getElem?_set_self (by rw [List.length_append]; omega), by rw [List.getElem?_set_ne (by decide)]; exact g1 _, by rw [List.getElem?_set_ne (by decide)]; exact g2 _⟩
      simp (maxSteps := 4000000) [Fn.f_haulageref20_Apply_b0, Fn.f_haulageref20_Apply_s0, chV, c1, c2, hlt, hlt', hci, m0, m1, m2, l0, l1, l2, g0, g1, g2, ln_at0, ln_set0, f1', f2', k1, k2, hrun, u.redo, p142, hw, bne, -Int.natCast_add]
      rw [List.set_append_left _ _ l0] at hinv'
      exact ⟨i + 1, by omega, hlt, _, hinv', rfl, rfl, rfl, rfl⟩
  · have hlt' : ¬ (i : Int) < l.length := by omega
    obtain rfl : i = l.length := by omega
    rcases hl with ⟨rfl, rfl⟩ | rfl
    · simp (maxSteps := 4000000) [Fn.f_haulageref20_Apply_b0, Fn.f_haulageref20_Apply_s0, m1, l1]
      exact hinv
    · simp (maxSteps := 4000000) [Fn.f_haulageref20_Apply_b0, Fn.f_haulageref20_Apply_s0, m1, l1]
      exact hinv
theorem ref_Apply20 (u : K15 E) {cat : Cat15} {rp : PV} {es : List RE} (hs : StG cat.tp rp cat.ts es) {lp : PV} {l : List Ch} (hl : LQ lp l) (hc : ∀ c ∈ l, ChT c) (hn : l.length ≤ 1000) (j : Nat) (hj : 6000 ≤ j) : ApplyP E j cat.tp rp lp (applyL (mdl15 E (j + 1)) (cat, rowsZ es) l) := by
  have f1 := hs.tp.flat
  have f2 := hs.rp.flat
  have f3 : lp.flat = true := by rcases hl with ⟨_, rfl⟩ | rfl <;> rfl
  have g1 := f1
  have g2 := f2
  unfold PV.flat at g1 g2 f3
  have hL := fun m0 h0 st0 hst => apply_loop u (cat, rowsZ es) hl hc hn j hj m0 h0 st0 hst
  have hx : ∃ v, (match applyL (mdl15 E (j + 1)) (cat, rowsZ es) l with
      | none => ∃ (er : Int) (tp' rp' : PV), er ≠ 0 ∧ tp'.flat = true ∧ rp'.flat = true ∧ v = .tup [.p (.agg [tp', rp']), .p (.int .i64 er)]
      | some s' => ∃ (rp' : PV) (es' : List RE), StG s'.1.tp rp' s'.1.ts es' ∧ rowsZ es' = s'.2 ∧ v = .tup [.p (.agg [s'.1.tp, rp']), .p (.int .i64 0)]) ∧ ∀ m, denF E (j + 3 + 1) 126 [.p (.agg [cat.tp, rp]), .p (.agg [.int .i64 0, lp])] m = some (.ret v, m) := by
    refine denF_ex u.apply20 rfl (args' := [.p (.agg [cat.tp, rp]), .p (.agg [.int .i64 0, lp])]) rfl ?_
    simp (maxSteps := 4000000) [Fn.f_haulageref20_Apply, g1, g2, f3]
    refine (hL _ ⟨cat, rp, es, hs, by simp, rfl, rfl, rfl⟩ _ ⟨rfl, rfl, rfl, rfl⟩).mono ?_
    rintro e st ⟨hds, hlen, e4, ⟨rfl, ha, er, tp', rp', he, t1, t2, e5, m2⟩ | ⟨rfl, e2, cat', rp', es', hs', ha, m0, m1, m2⟩⟩
    · obtain ⟨ts', m', ds⟩ := st
      simp only at hds hlen e4 e5 m2
      subst hds
      rw [ha]
      simp (maxSteps := 4000000) [e4, e5, m2]
      exact ⟨er, he, tp', t1, rp', t2, ⟨rfl, rfl⟩, rfl⟩
    · obtain ⟨ts', m', ds⟩ := st
      simp only at hds hlen e4 e2 m0 m1 m2
      subst hds
      have hx := expand_ts 32 ts' hlen
      simp only [List.range, List.range.loop, List.map_cons, List.map_nil] at hx
      rw [e2, e4] at hx
      rw [hx]
      have l2 := idx_lt m2
      have k1 := hs'.tp.flat
      have k2 := hs'.rp.flat
      unfold PV.flat at k1 k2
      rw [ha, List.drop_length]
      simp only [applyL]
      simp (maxSteps := 4000000) [m0, m1, m2, l2, k1, k2]
      exact ⟨rp', es', hs', rfl, rfl⟩
  obtain ⟨v, hv, hrun⟩ := hx
  cases ha : applyL (mdl15 E (j + 1)) (cat, rowsZ es) l with
  | none =>
    rw [ha] at hv
    obtain ⟨er, tp', rp', h1, h2, h3, rfl⟩ := hv
    exact ⟨er, tp', rp', h1, h2, h3, hrun⟩
  | some s' =>
    rw [ha] at hv
    obtain ⟨rp', es', h1, h2, rfl⟩ := hv
    exact ⟨rp', es', h1, h2, hrun⟩
end Hx
