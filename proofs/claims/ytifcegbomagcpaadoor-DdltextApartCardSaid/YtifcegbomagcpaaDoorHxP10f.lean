/-
  HxP10f: the text of a change, as the program writes it.
-/
import Derived.Test.YtifcegbomagcpaaDoorHxP10e
namespace Hx
open Go
set_option linter.unusedSimpArgs false
set_option linter.unusedVariables false
set_option maxHeartbeats 32000000
set_option maxRecDepth 20000
variable {E : Env}
attribute [-simp] List.getD_eq_getElem?_getD getElem?_pos
theorem rightN_ne {w : List UInt8} (h : rightN w = true) : w ≠ [] := by
  rintro rfl
  simp [rightN] at h
theorem rightN_len {w : List UInt8} (h : rightN w = true) : w.length ≤ 16 := by
  unfold rightN at h
  simp only [Bool.and_eq_true, decide_eq_true_eq] at h
  exact h.2.1
theorem colsCan_mem {rows : List (Int × Col)} (h : colsCan rows = true) {c : Int × Col} (hc : c ∈ rows) : colCan c.2 = true := List.all_eq_true.1 h c hc
theorem can_1 {table column to key : List UInt8} {kind max : Int} {null : Bool} {dk dn : Int} {ds : List UInt8} {rows : List (Int × Col)} (h : canQ ⟨1, table, column, to, key, kind, max, null, dk, dn, ds, []⟩ rows = true) : rightN table = true ∧ (colsCan rows = true ∧ rightN key = true ∧ 1 ≤ rows.length ∧ rows.length ≤ 10) ∧ column = [] := by
  unfold canQ at h
  simp only [Bool.and_eq_true] at h
  obtain ⟨hp, ht, h2⟩ := h
  refine ⟨ht, ?_, ?_⟩
  · simpa [canTail, colsCan] using h2
  · unfold plainQ at hp
    simp only [Bool.and_eq_true] at hp
    have := congrArg Ddl.column ((sameH_iff _ _).1 hp.2.2)
    simpa [keepOf, Ddl.bare] using this
theorem can_2 {table column to key : List UInt8} {kind max : Int} {null : Bool} {dk dn : Int} {ds : List UInt8} {rows : List (Int × Col)} (h : canQ ⟨2, table, column, to, key, kind, max, null, dk, dn, ds, []⟩ rows = true) : rightN table = true ∧ (True) ∧ column = [] := by
  unfold canQ at h
  simp only [Bool.and_eq_true] at h
  obtain ⟨hp, ht, h2⟩ := h
  refine ⟨ht, ?_, ?_⟩
  · trivial
  · unfold plainQ at hp
    simp only [Bool.and_eq_true] at hp
    have := congrArg Ddl.column ((sameH_iff _ _).1 hp.2.2)
    simpa [keepOf, Ddl.bare] using this
theorem can_3 {table column to key : List UInt8} {kind max : Int} {null : Bool} {dk dn : Int} {ds : List UInt8} {rows : List (Int × Col)} (h : canQ ⟨3, table, column, to, key, kind, max, null, dk, dn, ds, []⟩ rows = true) : rightN table = true ∧ (rightN to = true) ∧ column = [] := by
  unfold canQ at h
  simp only [Bool.and_eq_true] at h
  obtain ⟨hp, ht, h2⟩ := h
  refine ⟨ht, ?_, ?_⟩
  · simpa [canTail, colsCan] using h2
  · unfold plainQ at hp
    simp only [Bool.and_eq_true] at hp
    have := congrArg Ddl.column ((sameH_iff _ _).1 hp.2.2)
    simpa [keepOf, Ddl.bare] using this
theorem can_4 {table column to key : List UInt8} {kind max : Int} {null : Bool} {dk dn : Int} {ds : List UInt8} {rows : List (Int × Col)} (h : canQ ⟨4, table, column, to, key, kind, max, null, dk, dn, ds, []⟩ rows = true) : rightN table = true ∧ (rightN column = true ∧ rightT kind max = true ∧ rightV dk dn ds = true) := by
  unfold canQ at h
  simp only [Bool.and_eq_true] at h
  obtain ⟨hp, ht, h2⟩ := h
  refine ⟨ht, ?_⟩
  · simpa [canTail, colsCan] using h2
theorem can_5 {table column to key : List UInt8} {kind max : Int} {null : Bool} {dk dn : Int} {ds : List UInt8} {rows : List (Int × Col)} (h : canQ ⟨5, table, column, to, key, kind, max, null, dk, dn, ds, []⟩ rows = true) : rightN table = true ∧ (rightN column = true) := by
  unfold canQ at h
  simp only [Bool.and_eq_true] at h
  obtain ⟨hp, ht, h2⟩ := h
  refine ⟨ht, ?_⟩
  · simpa [canTail, colsCan] using h2
theorem can_6 {table column to key : List UInt8} {kind max : Int} {null : Bool} {dk dn : Int} {ds : List UInt8} {rows : List (Int × Col)} (h : canQ ⟨6, table, column, to, key, kind, max, null, dk, dn, ds, []⟩ rows = true) : rightN table = true ∧ (rightN column = true ∧ rightN to = true) := by
  unfold canQ at h
  simp only [Bool.and_eq_true] at h
  obtain ⟨hp, ht, h2⟩ := h
  refine ⟨ht, ?_⟩
  · simpa [canTail, colsCan] using h2
theorem can_7 {table column to key : List UInt8} {kind max : Int} {null : Bool} {dk dn : Int} {ds : List UInt8} {rows : List (Int × Col)} (h : canQ ⟨7, table, column, to, key, kind, max, null, dk, dn, ds, []⟩ rows = true) : rightN table = true ∧ (rightN column = true ∧ rightT kind max = true) := by
  unfold canQ at h
  simp only [Bool.and_eq_true] at h
  obtain ⟨hp, ht, h2⟩ := h
  refine ⟨ht, ?_⟩
  · simpa [canTail, colsCan] using h2
theorem can_8 {table column to key : List UInt8} {kind max : Int} {null : Bool} {dk dn : Int} {ds : List UInt8} {rows : List (Int × Col)} (h : canQ ⟨8, table, column, to, key, kind, max, null, dk, dn, ds, []⟩ rows = true) : rightN table = true ∧ (rightN column = true ∧ rightV dk dn ds = true) := by
  unfold canQ at h
  simp only [Bool.and_eq_true] at h
  obtain ⟨hp, ht, h2⟩ := h
  refine ⟨ht, ?_⟩
  · simpa [canTail, colsCan] using h2
theorem ddl_Print_1 (u : W10 E) (hg : E.gl 3 = glWords) (table column to key : List UInt8) (kind max : Int) (null : Bool) (dk dn : Int) (ds : List UInt8) {sl : PV} {rows : List (Int × Col)} (ha : SlQ sl rows) (hd : smallD ⟨1, table, column, to, key, kind, max, null, dk, dn, ds, []⟩) (hs : ∀ c ∈ rows, smallC c.2) (hl : (rows.length : Int) ≤ 1000000000) (hcan : canQ ⟨1, table, column, to, key, kind, max, null, dk, dn, ds, []⟩ rows = true) (k : Nat) (hk : rows.length + ds.length + 4600 ≤ k) (m : Mem) :
    denF E (k + 1) 234 [.p (.agg (dV ⟨1, table, column, to, key, kind, max, null, dk, dn, ds, []⟩ sl))] m = some (.ret (.tup [.p (.str (printQ ⟨1, table, column, to, key, kind, max, null, dk, dn, ds, []⟩ (rows.map (·.2)))), .p (.int .i64 0)]), m) := by
  refine denF_wp u.print rfl (args' := [.p (.agg (dV ⟨1, table, column, to, key, kind, max, null, dk, dn, ds, []⟩ sl))]) rfl ?_
  obtain ⟨j, rfl⟩ : ∃ j, k = j + 5 := ⟨k - 5, by omega⟩
  have hfl := ha.flat
  unfold PV.flat at hfl
  have hC := fun m => ddl_Can u.c ⟨1, table, column, to, key, kind, max, null, dk, dn, ds, []⟩ ha hd hs hl (j + 4) (by simp only; omega) m
  rw [hcan] at hC
  have hcn := can_1 hcan
  obtain ⟨h6, h5'⟩ := hd
  simp only at h5' h6
  unfold dV at hC
  simp only at hC
  have hb0 : BGrow [] 1 [.cells [.p (.int .i64 1), .p (.str table), .p (.str column), .p (.str to), .p (.str key), .p (.int .i64 kind), .p (.int .i64 max), .p (.bool null), .p (.int .i64 dk), .p (.int .i64 dn), .p (.str ds), .p sl], .cells [.p .nilp, .p .nils]] := ⟨.p .nilp, .p .nils, rfl, .inl rfl, .inl ⟨rfl, rfl⟩⟩
  obtain ⟨m1, a1, b1, f1⟩ := w_word u (j + 1) 1 [] [99, 114, 101, 97, 116, 101] (by simp) (by simp) _ hb0 (by simp)
  have c1 := f1.cells (j := 0) rfl (by decide)
  simp only [spc, if_true] at b1
  obtain ⟨ht, hx, hcol⟩ := hcn
  have htn := rightN_ne ht
  have htl := rightN_len ht
  obtain ⟨m2, a2, b2, f2⟩ := w_word u (j + 1) 1 _ table htn (by omega) m1 b1 (by simp)
  rw [spc_ne (by simp)] at b2
  have c2 := f2.cells c1 (by decide)
  subst hcol
  obtain ⟨hx1, hx2, hx3, hx4⟩ := hx
  have hkl := rightN_len hx2
  have hrn : rows ≠ [] := by rintro rfl; simp at hx3
  have hsl : sl = .vals 8 (rows.map colQ) := by rcases ha with ⟨h, _⟩ | h; exact absurd h hrn; exact h
  subst hsl
  have hcl' := colsLeft_len (rows.map (·.2)) (by intro c hc; obtain ⟨x, hx, rfl⟩ := List.mem_map.1 hc; exact colText_len (colsCan_mem hx1 hx) (hs x hx))
  rw [List.length_map] at hcl'
  obtain ⟨m3, a3, b3, f3⟩ := w_columns u (j + 4) (by omega) 1 _ (by simp) rows hrn (fun c hc => ⟨colsCan_mem hx1 hc, hs c hc⟩) hx4 m2 b2 (by simp; omega)
  have c3 := f3.cells c2 (by decide)
  obtain ⟨m4, a4, b4, f4⟩ := w_word u (j + 1) 1 _ [107, 101, 121] (by simp) (by simp) m3 b3 (by simp; omega)
  rw [spc_ne (by simp)] at b4
  have c4 := f4.cells c3 (by decide)
  obtain ⟨m5, a5, b5, f5⟩ := w_word u (j + 1) 1 _ key (rightN_ne hx2) (by omega) m4 b4 (by simp; omega)
  rw [spc_ne (by simp)] at b5
  have c5 := f5.cells c4 (by decide)
  obtain ⟨mz, az⟩ := bld_str u.q (j + 4) 1 _ (by simp) m5 b5 (by simp; omega)
  simp (maxSteps := 8000000) [Fn.f_ddltext_Print, dV, hfl, hC, hg, glWords, a1, a2, c1, c2, a3, c3, a4, c4, a5, c5, az]
  simp [printQ, tailText, opWords, wKey, colsLeft, List.getD_cons_zero, List.getD_cons_succ]
theorem ddl_Print_2 (u : W10 E) (hg : E.gl 3 = glWords) (table column to key : List UInt8) (kind max : Int) (null : Bool) (dk dn : Int) (ds : List UInt8) {sl : PV} {rows : List (Int × Col)} (ha : SlQ sl rows) (hd : smallD ⟨2, table, column, to, key, kind, max, null, dk, dn, ds, []⟩) (hs : ∀ c ∈ rows, smallC c.2) (hl : (rows.length : Int) ≤ 1000000000) (hcan : canQ ⟨2, table, column, to, key, kind, max, null, dk, dn, ds, []⟩ rows = true) (k : Nat) (hk : rows.length + ds.length + 4600 ≤ k) (m : Mem) :
    denF E (k + 1) 234 [.p (.agg (dV ⟨2, table, column, to, key, kind, max, null, dk, dn, ds, []⟩ sl))] m = some (.ret (.tup [.p (.str (printQ ⟨2, table, column, to, key, kind, max, null, dk, dn, ds, []⟩ (rows.map (·.2)))), .p (.int .i64 0)]), m) := by
  refine denF_wp u.print rfl (args' := [.p (.agg (dV ⟨2, table, column, to, key, kind, max, null, dk, dn, ds, []⟩ sl))]) rfl ?_
  obtain ⟨j, rfl⟩ : ∃ j, k = j + 5 := ⟨k - 5, by omega⟩
  have hfl := ha.flat
  unfold PV.flat at hfl
  have hC := fun m => ddl_Can u.c ⟨2, table, column, to, key, kind, max, null, dk, dn, ds, []⟩ ha hd hs hl (j + 4) (by simp only; omega) m
  rw [hcan] at hC
  have hcn := can_2 hcan
  obtain ⟨h6, h5'⟩ := hd
  simp only at h5' h6
  unfold dV at hC
  simp only at hC
  have hb0 : BGrow [] 1 [.cells [.p (.int .i64 2), .p (.str table), .p (.str column), .p (.str to), .p (.str key), .p (.int .i64 kind), .p (.int .i64 max), .p (.bool null), .p (.int .i64 dk), .p (.int .i64 dn), .p (.str ds), .p sl], .cells [.p .nilp, .p .nils]] := ⟨.p .nilp, .p .nils, rfl, .inl rfl, .inl ⟨rfl, rfl⟩⟩
  obtain ⟨m1, a1, b1, f1⟩ := w_word u (j + 1) 1 [] [100, 114, 111, 112] (by simp) (by simp) _ hb0 (by simp)
  have c1 := f1.cells (j := 0) rfl (by decide)
  simp only [spc, if_true] at b1
  obtain ⟨ht, hx, hcol⟩ := hcn
  have htn := rightN_ne ht
  have htl := rightN_len ht
  obtain ⟨m2, a2, b2, f2⟩ := w_word u (j + 1) 1 _ table htn (by omega) m1 b1 (by simp)
  rw [spc_ne (by simp)] at b2
  have c2 := f2.cells c1 (by decide)
  subst hcol
  obtain ⟨mz, az⟩ := bld_str u.q (j + 4) 1 _ (by simp) m2 b2 (by simp; omega)
  simp (maxSteps := 8000000) [Fn.f_ddltext_Print, dV, hfl, hC, hg, glWords, a1, a2, c1, c2, az]
  simp [printQ, tailText, opWords, wTo, wKey, colText, Ddl.added, List.getD_cons_zero, List.getD_cons_succ]
theorem ddl_Print_3 (u : W10 E) (hg : E.gl 3 = glWords) (table column to key : List UInt8) (kind max : Int) (null : Bool) (dk dn : Int) (ds : List UInt8) {sl : PV} {rows : List (Int × Col)} (ha : SlQ sl rows) (hd : smallD ⟨3, table, column, to, key, kind, max, null, dk, dn, ds, []⟩) (hs : ∀ c ∈ rows, smallC c.2) (hl : (rows.length : Int) ≤ 1000000000) (hcan : canQ ⟨3, table, column, to, key, kind, max, null, dk, dn, ds, []⟩ rows = true) (k : Nat) (hk : rows.length + ds.length + 4600 ≤ k) (m : Mem) :
    denF E (k + 1) 234 [.p (.agg (dV ⟨3, table, column, to, key, kind, max, null, dk, dn, ds, []⟩ sl))] m = some (.ret (.tup [.p (.str (printQ ⟨3, table, column, to, key, kind, max, null, dk, dn, ds, []⟩ (rows.map (·.2)))), .p (.int .i64 0)]), m) := by
  refine denF_wp u.print rfl (args' := [.p (.agg (dV ⟨3, table, column, to, key, kind, max, null, dk, dn, ds, []⟩ sl))]) rfl ?_
  obtain ⟨j, rfl⟩ : ∃ j, k = j + 5 := ⟨k - 5, by omega⟩
  have hfl := ha.flat
  unfold PV.flat at hfl
  have hC := fun m => ddl_Can u.c ⟨3, table, column, to, key, kind, max, null, dk, dn, ds, []⟩ ha hd hs hl (j + 4) (by simp only; omega) m
  rw [hcan] at hC
  have hcn := can_3 hcan
  obtain ⟨h6, h5'⟩ := hd
  simp only at h5' h6
  unfold dV at hC
  simp only at hC
  have hb0 : BGrow [] 1 [.cells [.p (.int .i64 3), .p (.str table), .p (.str column), .p (.str to), .p (.str key), .p (.int .i64 kind), .p (.int .i64 max), .p (.bool null), .p (.int .i64 dk), .p (.int .i64 dn), .p (.str ds), .p sl], .cells [.p .nilp, .p .nils]] := ⟨.p .nilp, .p .nils, rfl, .inl rfl, .inl ⟨rfl, rfl⟩⟩
  obtain ⟨m1, a1, b1, f1⟩ := w_word u (j + 1) 1 [] [114, 101, 110, 97, 109, 101] (by simp) (by simp) _ hb0 (by simp)
  have c1 := f1.cells (j := 0) rfl (by decide)
  simp only [spc, if_true] at b1
  obtain ⟨ht, hx, hcol⟩ := hcn
  have htn := rightN_ne ht
  have htl := rightN_len ht
  obtain ⟨m2, a2, b2, f2⟩ := w_word u (j + 1) 1 _ table htn (by omega) m1 b1 (by simp)
  rw [spc_ne (by simp)] at b2
  have c2 := f2.cells c1 (by decide)
  subst hcol
  have htR : rightN to = true := hx
  have htoL := rightN_len htR
  obtain ⟨m3, a3, b3, f3⟩ := w_word u (j + 1) 1 _ [116, 111] (by simp) (by simp) m2 b2 (by simp; omega)
  rw [spc_ne (by simp)] at b3
  have c3 := f3.cells c2 (by decide)
  obtain ⟨m4, a4, b4, f4⟩ := w_word u (j + 1) 1 _ to (rightN_ne htR) (by omega) m3 b3 (by simp; omega)
  rw [spc_ne (by simp)] at b4
  have c4 := f4.cells c3 (by decide)
  obtain ⟨mz, az⟩ := bld_str u.q (j + 4) 1 _ (by simp) m4 b4 (by simp; omega)
  simp (maxSteps := 8000000) [Fn.f_ddltext_Print, dV, hfl, hC, hg, glWords, a1, a2, c1, c2, a3, c3, a4, c4, az]
  simp [printQ, tailText, opWords, wTo, wKey, colText, Ddl.added, List.getD_cons_zero, List.getD_cons_succ]
theorem ddl_Print_4 (u : W10 E) (hg : E.gl 3 = glWords) (table column to key : List UInt8) (kind max : Int) (null : Bool) (dk dn : Int) (ds : List UInt8) {sl : PV} {rows : List (Int × Col)} (ha : SlQ sl rows) (hd : smallD ⟨4, table, column, to, key, kind, max, null, dk, dn, ds, []⟩) (hs : ∀ c ∈ rows, smallC c.2) (hl : (rows.length : Int) ≤ 1000000000) (hcan : canQ ⟨4, table, column, to, key, kind, max, null, dk, dn, ds, []⟩ rows = true) (k : Nat) (hk : rows.length + ds.length + 4600 ≤ k) (m : Mem) :
    denF E (k + 1) 234 [.p (.agg (dV ⟨4, table, column, to, key, kind, max, null, dk, dn, ds, []⟩ sl))] m = some (.ret (.tup [.p (.str (printQ ⟨4, table, column, to, key, kind, max, null, dk, dn, ds, []⟩ (rows.map (·.2)))), .p (.int .i64 0)]), m) := by
  refine denF_wp u.print rfl (args' := [.p (.agg (dV ⟨4, table, column, to, key, kind, max, null, dk, dn, ds, []⟩ sl))]) rfl ?_
  obtain ⟨j, rfl⟩ : ∃ j, k = j + 5 := ⟨k - 5, by omega⟩
  have hfl := ha.flat
  unfold PV.flat at hfl
  have hC := fun m => ddl_Can u.c ⟨4, table, column, to, key, kind, max, null, dk, dn, ds, []⟩ ha hd hs hl (j + 4) (by simp only; omega) m
  rw [hcan] at hC
  have hcn := can_4 hcan
  obtain ⟨h6, h5'⟩ := hd
  simp only at h5' h6
  unfold dV at hC
  simp only at hC
  have hb0 : BGrow [] 1 [.cells [.p (.int .i64 4), .p (.str table), .p (.str column), .p (.str to), .p (.str key), .p (.int .i64 kind), .p (.int .i64 max), .p (.bool null), .p (.int .i64 dk), .p (.int .i64 dn), .p (.str ds), .p sl], .cells [.p .nilp, .p .nils]] := ⟨.p .nilp, .p .nils, rfl, .inl rfl, .inl ⟨rfl, rfl⟩⟩
  obtain ⟨m1, a1, b1, f1⟩ := w_word u (j + 1) 1 [] [97, 100, 100] (by simp) (by simp) _ hb0 (by simp)
  have c1 := f1.cells (j := 0) rfl (by decide)
  simp only [spc, if_true] at b1
  obtain ⟨ht, hx⟩ := hcn
  have htn := rightN_ne ht
  have htl := rightN_len ht
  obtain ⟨m2, a2, b2, f2⟩ := w_word u (j + 1) 1 _ table htn (by omega) m1 b1 (by simp)
  rw [spc_ne (by simp)] at b2
  have c2 := f2.cells c1 (by decide)
  have hcR : rightN column = true := hx.1
  have hcn := rightN_ne hcR
  have hcl := rightN_len hcR
  have hcb : (column == []) = false := by simpa using hcn
  have h2 : column.length ≤ 2000 := by omega
  have h5 : ds.length ≤ 2000 := by have := rightV_len hx.2.2; omega
  obtain ⟨m3, a3, b3, f3⟩ := w_word u (j + 1) 1 _ column hcn (by omega) m2 b2 (by simp; omega)
  rw [spc_ne (by simp)] at b3
  have c3 := f3.cells c2 (by decide)
  have hA := fun m => ddl_added u.c ⟨4, table, column, to, key, kind, max, null, dk, dn, ds, []⟩ ha.flat (j + 4) m
  unfold dV Ddl.added at hA
  simp only at hA
  have hcc : colCan ⟨column, kind, max, null, dk, dn, ds⟩ = true := by unfold colCan; simp [hx]
  obtain ⟨m4, a4, b4, f4⟩ := w_rest u (j + 4) (by omega) 1 _ (by simp) 0 ⟨column, kind, max, null, dk, dn, ds⟩ hcc ⟨h2, h5, h6⟩ m3 b3 (by simp; omega)
  have c4 := f4.cells c3 (by decide)
  unfold colQ at hA a4
  simp only at hA a4
  obtain ⟨mz, az⟩ := bld_str u.q (j + 4) 1 _ (by simp) m4 b4 (by have := restText_len hcc ⟨h2, h5, h6⟩; simp; omega)
  simp (maxSteps := 8000000) [Fn.f_ddltext_Print, dV, hfl, hC, hg, glWords, a1, a2, c1, c2, a3, c3, a4, c4, hcb, hcn, hA, az]
  simp [printQ, tailText, opWords, wTo, wKey, colText, Ddl.added, List.getD_cons_zero, List.getD_cons_succ]
theorem ddl_Print_5 (u : W10 E) (hg : E.gl 3 = glWords) (table column to key : List UInt8) (kind max : Int) (null : Bool) (dk dn : Int) (ds : List UInt8) {sl : PV} {rows : List (Int × Col)} (ha : SlQ sl rows) (hd : smallD ⟨5, table, column, to, key, kind, max, null, dk, dn, ds, []⟩) (hs : ∀ c ∈ rows, smallC c.2) (hl : (rows.length : Int) ≤ 1000000000) (hcan : canQ ⟨5, table, column, to, key, kind, max, null, dk, dn, ds, []⟩ rows = true) (k : Nat) (hk : rows.length + ds.length + 4600 ≤ k) (m : Mem) :
    denF E (k + 1) 234 [.p (.agg (dV ⟨5, table, column, to, key, kind, max, null, dk, dn, ds, []⟩ sl))] m = some (.ret (.tup [.p (.str (printQ ⟨5, table, column, to, key, kind, max, null, dk, dn, ds, []⟩ (rows.map (·.2)))), .p (.int .i64 0)]), m) := by
  refine denF_wp u.print rfl (args' := [.p (.agg (dV ⟨5, table, column, to, key, kind, max, null, dk, dn, ds, []⟩ sl))]) rfl ?_
  obtain ⟨j, rfl⟩ : ∃ j, k = j + 5 := ⟨k - 5, by omega⟩
  have hfl := ha.flat
  unfold PV.flat at hfl
  have hC := fun m => ddl_Can u.c ⟨5, table, column, to, key, kind, max, null, dk, dn, ds, []⟩ ha hd hs hl (j + 4) (by simp only; omega) m
  rw [hcan] at hC
  have hcn := can_5 hcan
  obtain ⟨h6, h5'⟩ := hd
  simp only at h5' h6
  unfold dV at hC
  simp only at hC
  have hb0 : BGrow [] 1 [.cells [.p (.int .i64 5), .p (.str table), .p (.str column), .p (.str to), .p (.str key), .p (.int .i64 kind), .p (.int .i64 max), .p (.bool null), .p (.int .i64 dk), .p (.int .i64 dn), .p (.str ds), .p sl], .cells [.p .nilp, .p .nils]] := ⟨.p .nilp, .p .nils, rfl, .inl rfl, .inl ⟨rfl, rfl⟩⟩
  obtain ⟨m1, a1, b1, f1⟩ := w_word u (j + 1) 1 [] [99, 117, 116] (by simp) (by simp) _ hb0 (by simp)
  have c1 := f1.cells (j := 0) rfl (by decide)
  simp only [spc, if_true] at b1
  obtain ⟨ht, hx⟩ := hcn
  have htn := rightN_ne ht
  have htl := rightN_len ht
  obtain ⟨m2, a2, b2, f2⟩ := w_word u (j + 1) 1 _ table htn (by omega) m1 b1 (by simp)
  rw [spc_ne (by simp)] at b2
  have c2 := f2.cells c1 (by decide)
  have hcR : rightN column = true := hx
  have hcn := rightN_ne hcR
  have hcl := rightN_len hcR
  have hcb : (column == []) = false := by simpa using hcn
  have h2 : column.length ≤ 2000 := by omega
  obtain ⟨m3, a3, b3, f3⟩ := w_word u (j + 1) 1 _ column hcn (by omega) m2 b2 (by simp; omega)
  rw [spc_ne (by simp)] at b3
  have c3 := f3.cells c2 (by decide)
  obtain ⟨mz, az⟩ := bld_str u.q (j + 4) 1 _ (by simp) m3 b3 (by simp; omega)
  simp (maxSteps := 8000000) [Fn.f_ddltext_Print, dV, hfl, hC, hg, glWords, a1, a2, c1, c2, a3, c3, hcb, hcn, az]
  simp [printQ, tailText, opWords, wTo, wKey, colText, Ddl.added, List.getD_cons_zero, List.getD_cons_succ]
theorem ddl_Print_6 (u : W10 E) (hg : E.gl 3 = glWords) (table column to key : List UInt8) (kind max : Int) (null : Bool) (dk dn : Int) (ds : List UInt8) {sl : PV} {rows : List (Int × Col)} (ha : SlQ sl rows) (hd : smallD ⟨6, table, column, to, key, kind, max, null, dk, dn, ds, []⟩) (hs : ∀ c ∈ rows, smallC c.2) (hl : (rows.length : Int) ≤ 1000000000) (hcan : canQ ⟨6, table, column, to, key, kind, max, null, dk, dn, ds, []⟩ rows = true) (k : Nat) (hk : rows.length + ds.length + 4600 ≤ k) (m : Mem) :
    denF E (k + 1) 234 [.p (.agg (dV ⟨6, table, column, to, key, kind, max, null, dk, dn, ds, []⟩ sl))] m = some (.ret (.tup [.p (.str (printQ ⟨6, table, column, to, key, kind, max, null, dk, dn, ds, []⟩ (rows.map (·.2)))), .p (.int .i64 0)]), m) := by
  refine denF_wp u.print rfl (args' := [.p (.agg (dV ⟨6, table, column, to, key, kind, max, null, dk, dn, ds, []⟩ sl))]) rfl ?_
  obtain ⟨j, rfl⟩ : ∃ j, k = j + 5 := ⟨k - 5, by omega⟩
  have hfl := ha.flat
  unfold PV.flat at hfl
  have hC := fun m => ddl_Can u.c ⟨6, table, column, to, key, kind, max, null, dk, dn, ds, []⟩ ha hd hs hl (j + 4) (by simp only; omega) m
  rw [hcan] at hC
  have hcn := can_6 hcan
  obtain ⟨h6, h5'⟩ := hd
  simp only at h5' h6
  unfold dV at hC
  simp only at hC
  have hb0 : BGrow [] 1 [.cells [.p (.int .i64 6), .p (.str table), .p (.str column), .p (.str to), .p (.str key), .p (.int .i64 kind), .p (.int .i64 max), .p (.bool null), .p (.int .i64 dk), .p (.int .i64 dn), .p (.str ds), .p sl], .cells [.p .nilp, .p .nils]] := ⟨.p .nilp, .p .nils, rfl, .inl rfl, .inl ⟨rfl, rfl⟩⟩
  obtain ⟨m1, a1, b1, f1⟩ := w_word u (j + 1) 1 [] [99, 97, 108, 108] (by simp) (by simp) _ hb0 (by simp)
  have c1 := f1.cells (j := 0) rfl (by decide)
  simp only [spc, if_true] at b1
  obtain ⟨ht, hx⟩ := hcn
  have htn := rightN_ne ht
  have htl := rightN_len ht
  obtain ⟨m2, a2, b2, f2⟩ := w_word u (j + 1) 1 _ table htn (by omega) m1 b1 (by simp)
  rw [spc_ne (by simp)] at b2
  have c2 := f2.cells c1 (by decide)
  have hcR : rightN column = true := hx.1
  have hcn := rightN_ne hcR
  have hcl := rightN_len hcR
  have hcb : (column == []) = false := by simpa using hcn
  have h2 : column.length ≤ 2000 := by omega
  obtain ⟨m3, a3, b3, f3⟩ := w_word u (j + 1) 1 _ column hcn (by omega) m2 b2 (by simp; omega)
  rw [spc_ne (by simp)] at b3
  have c3 := f3.cells c2 (by decide)
  have htR : rightN to = true := hx.2
  have htoL := rightN_len htR
  obtain ⟨m4, a4, b4, f4⟩ := w_word u (j + 1) 1 _ [116, 111] (by simp) (by simp) m3 b3 (by simp; omega)
  rw [spc_ne (by simp)] at b4
  have c4 := f4.cells c3 (by decide)
  obtain ⟨m5, a5, b5, f5⟩ := w_word u (j + 1) 1 _ to (rightN_ne htR) (by omega) m4 b4 (by simp; omega)
  rw [spc_ne (by simp)] at b5
  have c5 := f5.cells c4 (by decide)
  obtain ⟨mz, az⟩ := bld_str u.q (j + 4) 1 _ (by simp) m5 b5 (by simp; omega)
  simp (maxSteps := 8000000) [Fn.f_ddltext_Print, dV, hfl, hC, hg, glWords, a1, a2, c1, c2, a3, c3, a4, c4, a5, c5, hcb, hcn, az]
  simp [printQ, tailText, opWords, wTo, wKey, colText, Ddl.added, List.getD_cons_zero, List.getD_cons_succ]
theorem ddl_Print_7 (u : W10 E) (hg : E.gl 3 = glWords) (table column to key : List UInt8) (kind max : Int) (null : Bool) (dk dn : Int) (ds : List UInt8) {sl : PV} {rows : List (Int × Col)} (ha : SlQ sl rows) (hd : smallD ⟨7, table, column, to, key, kind, max, null, dk, dn, ds, []⟩) (hs : ∀ c ∈ rows, smallC c.2) (hl : (rows.length : Int) ≤ 1000000000) (hcan : canQ ⟨7, table, column, to, key, kind, max, null, dk, dn, ds, []⟩ rows = true) (k : Nat) (hk : rows.length + ds.length + 4600 ≤ k) (m : Mem) :
    denF E (k + 1) 234 [.p (.agg (dV ⟨7, table, column, to, key, kind, max, null, dk, dn, ds, []⟩ sl))] m = some (.ret (.tup [.p (.str (printQ ⟨7, table, column, to, key, kind, max, null, dk, dn, ds, []⟩ (rows.map (·.2)))), .p (.int .i64 0)]), m) := by
  refine denF_wp u.print rfl (args' := [.p (.agg (dV ⟨7, table, column, to, key, kind, max, null, dk, dn, ds, []⟩ sl))]) rfl ?_
  obtain ⟨j, rfl⟩ : ∃ j, k = j + 5 := ⟨k - 5, by omega⟩
  have hfl := ha.flat
  unfold PV.flat at hfl
  have hC := fun m => ddl_Can u.c ⟨7, table, column, to, key, kind, max, null, dk, dn, ds, []⟩ ha hd hs hl (j + 4) (by simp only; omega) m
  rw [hcan] at hC
  have hcn := can_7 hcan
  obtain ⟨h6, h5'⟩ := hd
  simp only at h5' h6
  unfold dV at hC
  simp only at hC
  have hb0 : BGrow [] 1 [.cells [.p (.int .i64 7), .p (.str table), .p (.str column), .p (.str to), .p (.str key), .p (.int .i64 kind), .p (.int .i64 max), .p (.bool null), .p (.int .i64 dk), .p (.int .i64 dn), .p (.str ds), .p sl], .cells [.p .nilp, .p .nils]] := ⟨.p .nilp, .p .nils, rfl, .inl rfl, .inl ⟨rfl, rfl⟩⟩
  obtain ⟨m1, a1, b1, f1⟩ := w_word u (j + 1) 1 [] [119, 105, 100, 101, 110] (by simp) (by simp) _ hb0 (by simp)
  have c1 := f1.cells (j := 0) rfl (by decide)
  simp only [spc, if_true] at b1
  obtain ⟨ht, hx⟩ := hcn
  have htn := rightN_ne ht
  have htl := rightN_len ht
  obtain ⟨m2, a2, b2, f2⟩ := w_word u (j + 1) 1 _ table htn (by omega) m1 b1 (by simp)
  rw [spc_ne (by simp)] at b2
  have c2 := f2.cells c1 (by decide)
  have hcR : rightN column = true := hx.1
  have hcn := rightN_ne hcR
  have hcl := rightN_len hcR
  have hcb : (column == []) = false := by simpa using hcn
  have h2 : column.length ≤ 2000 := by omega
  obtain ⟨m3, a3, b3, f3⟩ := w_word u (j + 1) 1 _ column hcn (by omega) m2 b2 (by simp; omega)
  rw [spc_ne (by simp)] at b3
  have c3 := f3.cells c2 (by decide)
  obtain ⟨m4, a4, b4, f4⟩ := w_of u (j + 4) (by omega) 1 _ (by simp) kind max hx.2 m3 b3 (by simp; omega)
  have c4 := f4.cells c3 (by decide)
  unfold tP at a4
  obtain ⟨mz, az⟩ := bld_str u.q (j + 4) 1 _ (by simp) m4 b4 (by have := printT_len hx.2; simp; omega)
  simp (maxSteps := 8000000) [Fn.f_ddltext_Print, dV, hfl, hC, hg, glWords, a1, a2, c1, c2, a3, c3, a4, c4, hcb, hcn, az]
  simp [printQ, tailText, opWords, wTo, wKey, colText, Ddl.added, List.getD_cons_zero, List.getD_cons_succ]
theorem ddl_Print_8 (u : W10 E) (hg : E.gl 3 = glWords) (table column to key : List UInt8) (kind max : Int) (null : Bool) (dk dn : Int) (ds : List UInt8) {sl : PV} {rows : List (Int × Col)} (ha : SlQ sl rows) (hd : smallD ⟨8, table, column, to, key, kind, max, null, dk, dn, ds, []⟩) (hs : ∀ c ∈ rows, smallC c.2) (hl : (rows.length : Int) ≤ 1000000000) (hcan : canQ ⟨8, table, column, to, key, kind, max, null, dk, dn, ds, []⟩ rows = true) (k : Nat) (hk : rows.length + ds.length + 4600 ≤ k) (m : Mem) :
    denF E (k + 1) 234 [.p (.agg (dV ⟨8, table, column, to, key, kind, max, null, dk, dn, ds, []⟩ sl))] m = some (.ret (.tup [.p (.str (printQ ⟨8, table, column, to, key, kind, max, null, dk, dn, ds, []⟩ (rows.map (·.2)))), .p (.int .i64 0)]), m) := by
  refine denF_wp u.print rfl (args' := [.p (.agg (dV ⟨8, table, column, to, key, kind, max, null, dk, dn, ds, []⟩ sl))]) rfl ?_
  obtain ⟨j, rfl⟩ : ∃ j, k = j + 5 := ⟨k - 5, by omega⟩
  have hfl := ha.flat
  unfold PV.flat at hfl
  have hC := fun m => ddl_Can u.c ⟨8, table, column, to, key, kind, max, null, dk, dn, ds, []⟩ ha hd hs hl (j + 4) (by simp only; omega) m
  rw [hcan] at hC
  have hcn := can_8 hcan
  obtain ⟨h6, h5'⟩ := hd
  simp only at h5' h6
  unfold dV at hC
  simp only at hC
  have hb0 : BGrow [] 1 [.cells [.p (.int .i64 8), .p (.str table), .p (.str column), .p (.str to), .p (.str key), .p (.int .i64 kind), .p (.int .i64 max), .p (.bool null), .p (.int .i64 dk), .p (.int .i64 dn), .p (.str ds), .p sl], .cells [.p .nilp, .p .nils]] := ⟨.p .nilp, .p .nils, rfl, .inl rfl, .inl ⟨rfl, rfl⟩⟩
  obtain ⟨m1, a1, b1, f1⟩ := w_word u (j + 1) 1 [] [112, 114, 101, 115, 101, 116] (by simp) (by simp) _ hb0 (by simp)
  have c1 := f1.cells (j := 0) rfl (by decide)
  simp only [spc, if_true] at b1
  obtain ⟨ht, hx⟩ := hcn
  have htn := rightN_ne ht
  have htl := rightN_len ht
  obtain ⟨m2, a2, b2, f2⟩ := w_word u (j + 1) 1 _ table htn (by omega) m1 b1 (by simp)
  rw [spc_ne (by simp)] at b2
  have c2 := f2.cells c1 (by decide)
  have hcR : rightN column = true := hx.1
  have hcn := rightN_ne hcR
  have hcl := rightN_len hcR
  have hcb : (column == []) = false := by simpa using hcn
  have h2 : column.length ≤ 2000 := by omega
  have h5 : ds.length ≤ 2000 := by have := rightV_len hx.2; omega
  obtain ⟨m3, a3, b3, f3⟩ := w_word u (j + 1) 1 _ column hcn (by omega) m2 b2 (by simp; omega)
  rw [spc_ne (by simp)] at b3
  have c3 := f3.cells c2 (by decide)
  obtain ⟨m4, a4, b4, f4⟩ := w_value u (j + 4) 1 _ (by simp) dk dn ds hx.2 h6 (by omega) (by omega) m3 b3 (by simp; omega)
  have c4 := f4.cells c3 (by decide)
  obtain ⟨mz, az⟩ := bld_str u.q (j + 4) 1 _ (by simp) m4 b4 (by have := printS_len (a := dk) (s := ds) h6; simp; omega)
  simp (maxSteps := 8000000) [Fn.f_ddltext_Print, dV, hfl, hC, hg, glWords, a1, a2, c1, c2, a3, c3, a4, c4, hcb, hcn, az]
  simp [printQ, tailText, opWords, wTo, wKey, colText, Ddl.added, List.getD_cons_zero, List.getD_cons_succ]
theorem ddl_Print (u : W10 E) (hg : E.gl 3 = glWords) (d : Ddl) {sl : PV} {rows : List (Int × Col)} (ha : SlQ sl rows) (hd : smallD d) (hs : ∀ c ∈ rows, smallC c.2) (hl : (rows.length : Int) ≤ 1000000000) (k : Nat) (hk : rows.length + d.ds.length + 4600 ≤ k) (m : Mem) :
    denF E (k + 1) 234 [.p (.agg (dV d sl))] m = some (.ret (if canQ d rows then .tup [.p (.str (printQ d (rows.map (·.2)))), .p (.int .i64 0)] else .tup [.p (.str []), .p (.int .i64 2)]), m) := by
  cases hcan : canQ d rows with
  | false =>
    refine denF_wp u.print rfl (args' := [.p (.agg (dV d sl))]) rfl ?_
    obtain ⟨j, rfl⟩ : ∃ j, k = j + 5 := ⟨k - 5, by omega⟩
    have hfl := ha.flat
    unfold PV.flat at hfl
    have hC := fun m => ddl_Can u.c d ha hd hs hl (j + 4) (by omega) m
    rw [hcan] at hC
    unfold dV at hC
    simp (maxSteps := 8000000) [Fn.f_ddltext_Print, dV, hfl, hC]
  | true =>
    simp only [if_true]
    have hcan0 := hcan
    unfold canQ plainQ at hcan0
    simp only [Bool.and_eq_true, decide_eq_true_eq] at hcan0
    have hop := hcan0.1.1
    obtain ⟨op, table, column, to, key, kind, max, null, dk, dn, ds, cols⟩ := d
    have e1 : dV ⟨op, table, column, to, key, kind, max, null, dk, dn, ds, cols⟩ sl = dV ⟨op, table, column, to, key, kind, max, null, dk, dn, ds, []⟩ sl := rfl
    have e3 : printQ ⟨op, table, column, to, key, kind, max, null, dk, dn, ds, cols⟩ (rows.map (·.2)) = printQ ⟨op, table, column, to, key, kind, max, null, dk, dn, ds, []⟩ (rows.map (·.2)) := rfl
    rw [canQ_bare] at hcan
    rw [e1, e3]
    have hd' : smallD ⟨op, table, column, to, key, kind, max, null, dk, dn, ds, []⟩ := hd
    simp only at hop
    rcases (by omega : op = 1 ∨ op = 2 ∨ op = 3 ∨ op = 4 ∨ op = 5 ∨ op = 6 ∨ op = 7 ∨ op = 8) with rfl | rfl | rfl | rfl | rfl | rfl | rfl | rfl
    · exact ddl_Print_1 u hg table column to key kind max null dk dn ds ha hd' hs hl hcan k hk m
    · exact ddl_Print_2 u hg table column to key kind max null dk dn ds ha hd' hs hl hcan k hk m
    · exact ddl_Print_3 u hg table column to key kind max null dk dn ds ha hd' hs hl hcan k hk m
    · exact ddl_Print_4 u hg table column to key kind max null dk dn ds ha hd' hs hl hcan k hk m
    · exact ddl_Print_5 u hg table column to key kind max null dk dn ds ha hd' hs hl hcan k hk m
    · exact ddl_Print_6 u hg table column to key kind max null dk dn ds ha hd' hs hl hcan k hk m
    · exact ddl_Print_7 u hg table column to key kind max null dk dn ds ha hd' hs hl hcan k hk m
    · exact ddl_Print_8 u hg table column to key kind max null dk dn ds ha hd' hs hl hcan k hk m
end Hx
