/-
  HxP10g: the text of a change, as the document writes it.
-/
import Derived.Test.YtifcegbomagcpaaGreatDoorHxP10f
import Derived.Test.YtifcegbomagcpaaGreatDoorHxP10c
namespace Hx
open Go
set_option linter.unusedSimpArgs false
set_option linter.unusedVariables false
set_option maxHeartbeats 32000000
set_option maxRecDepth 20000
variable {E : Env}
attribute [-simp] List.getD_eq_getElem?_getD getElem?_pos
structure E10 (E : Env) : Prop where
  p : P05 E
  x : X06 E
  tPrint : E.fn 94 = some Fn.f_haulageref06_Print
  vPrint : E.fn 44 = some Fn.f_haulageref05_Print
  quote : E.fn 60 = some Fn.f_haulageref04_Quote
  col : E.fn 277 = some Fn.f_haulageref10_col
  print : E.fn 275 = some Fn.f_haulageref10_Print
theorem binS_add {x y : List UInt8} (h : x.length + y.length ≤ strLim) : binS .add x y = some (.str (x ++ y)) := if_pos h
theorem ref_col (u : E10 E) (c : Col) (hc : colCan c = true) (hs : smallC c) (k : Nat) (hk : 2200 ≤ k) (m : Mem) :
    denF E (k + 1) 277 [.p (.str c.name), .p (.agg [.int .i64 c.kind, .int .i64 c.max]), .p (.bool c.null), .p (.agg [.int .i64 c.dk, .int .i64 c.dn, .str c.ds])] m = some (.ret (.p (.str (colText c))), m) := by
  obtain ⟨name, kind, max, null, dk, dn, ds⟩ := c
  refine denF_wp u.col rfl (args' := [.p (.str name), .p (.agg [.int .i64 kind, .int .i64 max]), .p (.bool null), .p (.agg [.int .i64 dk, .int .i64 dn, .str ds])]) rfl ?_
  obtain ⟨j, rfl⟩ : ∃ j, k = j + 1 := ⟨k - 1, by omega⟩
  unfold colCan at hc
  simp only [Bool.and_eq_true] at hc
  obtain ⟨_, hT, hV⟩ := hc
  obtain ⟨h1, h2, h3⟩ := hs
  simp only at h1 h2 h3
  have hP := fun m => ref_TPrint u.x u.tPrint kind max hT j (by omega) m
  have hQ := fun m => ref_VPrint u.p u.vPrint u.quote dk dn ds h3 (by omega) j (by omega) m
  have l1 := printT_len hT
  have l2 := printS_len (a := dk) (s := ds) h3
  unfold tP at hP
  unfold colText restText
  simp only
  generalize printT kind max = T at *
  generalize printS dk dn ds = V at *
  cases null <;> by_cases h0 : dk = 0
  all_goals
    have hb : (dk == 0) = decide (dk = 0) := by rw [Bool.eq_iff_iff]; simp
    simp (maxSteps := 4000000) (disch := (simp only [List.length_append, List.length_cons, List.length_nil, strLim]; omega)) [Fn.f_haulageref10_col, hP, hQ, hb, h0, bne, binS_add, -binS, wNul, wDef]
def leftR (cols : List Col) (i : Nat) : List UInt8 := if i = 0 then colsText cols else colsMore (cols.drop i)
theorem leftR_0 {cols : List Col} {c : Col} (h : cols[0]? = some c) : leftR cols 0 = colText c ++ leftR cols 1 := by
  cases cols with
  | nil => cases h
  | cons a l => cases h; rfl
theorem leftR_s {cols : List Col} {c : Col} {i : Nat} (hi : i ≠ 0) (h : cols[i]? = some c) : leftR cols i = 44 :: 32 :: (colText c ++ leftR cols (i + 1)) := by
  obtain ⟨h1, h2⟩ := List.getElem?_eq_some_iff.1 h
  unfold leftR
  rw [if_neg hi, if_neg (by omega), List.drop_eq_getElem_cons h1, h2]
  rfl
theorem leftR_end {cols : List Col} {i : Nat} (hi : i ≠ 0) (h : cols.length ≤ i) : leftR cols i = [] := by
  unfold leftR
  rw [if_neg hi, List.drop_eq_nil_of_le h]
  rfl
theorem leftR_len (l : List Col) (h : ∀ c ∈ l, (colText c).length ≤ 12000) : (leftR l 0).length ≤ 13000 * l.length := by
  cases l with
  | nil => simp [leftR, colsText]
  | cons c l =>
    have h1 := h c (by simp)
    have h2 := colsMore_len l (fun x hx => h x (by simp [hx]))
    simp only [leftR, if_true, colsText, List.length_cons, List.length_append]
    omega
theorem rprint_loop (u : E10 E) {rows : List (Int × Col)} (hr : rows ≠ []) (hc : ∀ c ∈ rows, colCan c.2 = true ∧ smallC c.2) (hl : rows.length ≤ 10) (a0 a1 a2 a3 a4 a5 a6 a7 a8 a9 a10 : AV) (A0 T : List UInt8) (hT : A0 ++ leftR (rows.map (·.2)) 0 = T) (hTl : T.length < 100200000) (k : Nat) (hk : 2400 ≤ k) (st : St)
    (h0 : Live Fn.f_haulageref10_Print_k0 (Fn.f_haulageref10_Print_s0 (.ptr 0 0) (.p (.str A0)) (.p (.int .i64 0))) [.cells [a0, a1, a2, a3, a4, a5, a6, a7, a8, a9, a10, .p (.vals 8 (rows.map colQ))]] st) :
    Wp (iter (loopF E (denF E k) k Fn.f_haulageref10_Print_k0 Fn.f_haulageref10_Print_b0) k st) (fun e st => e = .exit 1 ∧ st.ds = [] ∧ st.ts.length = 124 ∧ st.ts.getD 1 (.tup []) = .ptr 0 0 ∧ st.ts.getD 3 (.tup []) = .p (.str T) ∧ ∃ x, st.m = [.cells [a0, a1, a2, a3, a4, a5, a6, a7, a8, a9, a10, .p (.vals 8 (rows.map colQ))]] ++ x) := by
  obtain ⟨j, rfl⟩ : ∃ j, k = j + 1 := ⟨k - 1, by omega⟩
  refine loop_wp (α := Nat) (I := fun i st => i ≤ rows.length ∧ ∃ A x, A ++ leftR (rows.map (·.2)) i = T ∧ Live Fn.f_haulageref10_Print_k0 (Fn.f_haulageref10_Print_s0 (.ptr 0 0) (.p (.str A)) (.p (.int .i64 i))) (.cells [a0, a1, a2, a3, a4, a5, a6, a7, a8, a9, a10, .p (.vals 8 (rows.map colQ))] :: x) st) (meas := fun i => rows.length - i) ?_ (j + 1) 0 _ ⟨Nat.zero_le _, A0, [], hT, h0⟩ (by omega)
  rintro i st ⟨hi, A, x, hAT, hlive⟩
  rw [loopF_live hlive]
  by_cases hlt : i < rows.length
  · have hlt' : (i : Int) < rows.length := by omega
    obtain ⟨⟨n, c⟩, hrow⟩ : ∃ x, rows[i]? = some x := ⟨_, List.getElem?_eq_getElem hlt⟩
    obtain ⟨hcc, hcs⟩ := hc (n, c) (List.mem_of_getElem? hrow)
    simp only at hcc hcs
    have hcol : (rows.map (·.2))[i]? = some c := by simp [hrow]
    have hw : IntKind.i64.wrap ((i : Int) + 1) = ((i + 1 : Nat) : Int) := by rw [wrap_i64 (by omega) (by omega)]; omega
    have hAl : A.length < 100200000 := by rw [← hAT, List.length_append] at hTl; omega
    have g : ∀ b : Blk, (x ++ [b])[x.length]? = some b := fun b => by rw [List.getElem?_append_right (Nat.le_refl _), Nat.sub_self]; rfl
    have s : ∀ b c : Blk, (x ++ [b]).set x.length c = x ++ [c] := fun b c => by rw [List.set_append_right _ _ (Nat.le_refl _), Nat.sub_self]; rfl
    have hC := fun m => ref_col u c hcc hcs j (by omega) m
    have hcl := colText_len hcc hcs
    have f277 := u.col
    by_cases h0 : i = 0
    · subst h0
      rw [leftR_0 hcol] at hAT
      simp (maxSteps := 4000000) (disch := (simp only [List.length_append, List.length_cons, List.length_nil, strLim]; omega)) [Fn.f_haulageref10_Print_b0, Fn.f_haulageref10_Print_s0, hlt, hlt', hrow, colQ, g, s, hC, binS_add, -binS]
      exact ⟨1, by omega, by omega, A ++ colText c, by rw [← hAT]; simp, _, rfl, rfl, rfl, rfl⟩
    · rw [leftR_s h0 hcol] at hAT
      have hz : (0 : Int) < i := by omega
      have hz' : 0 < i := by omega
      simp (maxSteps := 4000000) (disch := (simp only [List.length_append, List.length_cons, List.length_nil, strLim]; omega)) [Fn.f_haulageref10_Print_b0, Fn.f_haulageref10_Print_s0, hlt, hlt', hrow, colQ, g, s, hz, hz', hC, hw, binS_add, -binS, -Int.natCast_add]
      exact ⟨i + 1, by omega, hlt, A ++ (44 :: 32 :: colText c), by rw [← hAT]; simp, _, rfl, by simp [keep, Fn.f_haulageref10_Print_k0, Fn.f_haulageref10_Print_s0], rfl, rfl⟩
  · have hlt' : ¬ (i : Int) < rows.length := by omega
    have h0 : i ≠ 0 := by
      have := List.length_pos_iff.2 hr
      omega
    rw [leftR_end h0 (by rw [List.length_map]; omega), List.append_nil] at hAT
    subst hAT
    simp [Fn.f_haulageref10_Print_b0, Fn.f_haulageref10_Print_s0, hlt']
theorem ref_Print_1 (u : E10 E) (table column to key : List UInt8) (kind max : Int) (null : Bool) (dk dn : Int) (ds : List UInt8) {sl : PV} {rows : List (Int × Col)} (ha : SlQ sl rows) (hd : smallD ⟨1, table, column, to, key, kind, max, null, dk, dn, ds, []⟩) (hs : ∀ c ∈ rows, smallC c.2) (hcan : canQ ⟨1, table, column, to, key, kind, max, null, dk, dn, ds, []⟩ rows = true) (k : Nat) (hk : rows.length + 2500 ≤ k) (m : Mem) :
    denF E (k + 1) 275 [.p (.agg (dV ⟨1, table, column, to, key, kind, max, null, dk, dn, ds, []⟩ sl))] m = some (.ret (.p (.str (printQ ⟨1, table, column, to, key, kind, max, null, dk, dn, ds, []⟩ (rows.map (·.2))))), m) := by
  refine denF_wp u.print rfl (args' := [.p (.agg (dV ⟨1, table, column, to, key, kind, max, null, dk, dn, ds, []⟩ sl))]) rfl ?_
  obtain ⟨j, rfl⟩ : ∃ j, k = j + 1 := ⟨k - 1, by omega⟩
  have hfl := ha.flat
  unfold PV.flat at hfl
  have hcn := can_1 hcan
  obtain ⟨h6, h5'⟩ := hd
  simp only at h5' h6
  obtain ⟨ht, hx, hcol⟩ := hcn
  have htl := rightN_len ht
  obtain ⟨hx1, hx2, hx3, hx4⟩ := hx
  have hkl := rightN_len hx2
  have hrn : rows ≠ [] := by rintro rfl; simp at hx3
  have hsl : sl = .vals 8 (rows.map colQ) := by rcases ha with ⟨h, _⟩ | h; exact absurd h hrn; exact h
  subst hsl
  have hcl' := leftR_len (rows.map (·.2)) (by intro c hc; obtain ⟨x, hx, rfl⟩ := List.mem_map.1 hc; exact colText_len (colsCan_mem hx1 hx) (hs x hx))
  rw [List.length_map] at hcl'
  have hTl : (([99, 114, 101, 97, 116, 101, 32] : List UInt8) ++ table ++ ([32, 40] : List UInt8) ++ leftR (rows.map (·.2)) 0).length < 100200000 := by
    simp only [List.length_append, List.length_cons, List.length_nil]; omega
  have hmain := rprint_loop u hrn (fun c hc => ⟨colsCan_mem hx1 hc, hs c hc⟩) hx4 (.p (.int .i64 1)) (.p (.str table)) (.p (.str column)) (.p (.str to)) (.p (.str key)) (.p (.int .i64 kind)) (.p (.int .i64 max)) (.p (.bool null)) (.p (.int .i64 dk)) (.p (.int .i64 dn)) (.p (.str ds)) (([99, 114, 101, 97, 116, 101, 32] : List UInt8) ++ table ++ ([32, 40] : List UInt8)) _ rfl hTl (j + 1) (by omega)
  simp (maxSteps := 8000000) (disch := (simp only [List.length_append, List.length_cons, List.length_nil, strLim]; omega)) [Fn.f_haulageref10_Print, dV, binS_add, -binS]
  refine (hmain _ ⟨rfl, by simp [keep, Fn.f_haulageref10_Print_k0, Fn.f_haulageref10_Print_s0], rfl, rfl⟩).mono ?_
  rintro e st ⟨rfl, hds, hlen, q1, q3, x, hm⟩
  obtain ⟨ts, m', ds'⟩ := st
  simp only at hds hlen q1 q3 hm
  subst hds hm
  have hx' : ts = [ts.getD 0 (.tup []), ts.getD 1 (.tup []), ts.getD 2 (.tup []), ts.getD 3 (.tup []), ts.getD 4 (.tup []), ts.getD 5 (.tup []), ts.getD 6 (.tup []), ts.getD 7 (.tup []), ts.getD 8 (.tup []), ts.getD 9 (.tup []), ts.getD 10 (.tup []), ts.getD 11 (.tup []), ts.getD 12 (.tup []), ts.getD 13 (.tup []), ts.getD 14 (.tup []), ts.getD 15 (.tup []), ts.getD 16 (.tup []), ts.getD 17 (.tup []), ts.getD 18 (.tup []), ts.getD 19 (.tup []), ts.getD 20 (.tup []), ts.getD 21 (.tup []), ts.getD 22 (.tup []), ts.getD 23 (.tup []), ts.getD 24 (.tup []), ts.getD 25 (.tup []), ts.getD 26 (.tup []), ts.getD 27 (.tup []), ts.getD 28 (.tup []), ts.getD 29 (.tup []), ts.getD 30 (.tup []), ts.getD 31 (.tup []), ts.getD 32 (.tup []), ts.getD 33 (.tup []), ts.getD 34 (.tup []), ts.getD 35 (.tup []), ts.getD 36 (.tup []), ts.getD 37 (.tup []), ts.getD 38 (.tup []), ts.getD 39 (.tup []), ts.getD 40 (.tup []), ts.getD 41 (.tup []), ts.getD 42 (.tup []), ts.getD 43 (.tup []), ts.getD 44 (.tup []), ts.getD 45 (.tup []), ts.getD 46 (.tup []), ts.getD 47 (.tup []), ts.getD 48 (.tup []), ts.getD 49 (.tup []), ts.getD 50 (.tup []), ts.getD 51 (.tup []), ts.getD 52 (.tup []), ts.getD 53 (.tup []), ts.getD 54 (.tup []), ts.getD 55 (.tup []), ts.getD 56 (.tup []), ts.getD 57 (.tup []), ts.getD 58 (.tup []), ts.getD 59 (.tup []), ts.getD 60 (.tup []), ts.getD 61 (.tup []), ts.getD 62 (.tup []), ts.getD 63 (.tup []), ts.getD 64 (.tup []), ts.getD 65 (.tup []), ts.getD 66 (.tup []), ts.getD 67 (.tup []), ts.getD 68 (.tup []), ts.getD 69 (.tup []), ts.getD 70 (.tup []), ts.getD 71 (.tup []), ts.getD 72 (.tup []), ts.getD 73 (.tup []), ts.getD 74 (.tup []), ts.getD 75 (.tup []), ts.getD 76 (.tup []), ts.getD 77 (.tup []), ts.getD 78 (.tup []), ts.getD 79 (.tup []), ts.getD 80 (.tup []), ts.getD 81 (.tup []), ts.getD 82 (.tup []), ts.getD 83 (.tup []), ts.getD 84 (.tup []), ts.getD 85 (.tup []), ts.getD 86 (.tup []), ts.getD 87 (.tup []), ts.getD 88 (.tup []), ts.getD 89 (.tup []), ts.getD 90 (.tup []), ts.getD 91 (.tup []), ts.getD 92 (.tup []), ts.getD 93 (.tup []), ts.getD 94 (.tup []), ts.getD 95 (.tup []), ts.getD 96 (.tup []), ts.getD 97 (.tup []), ts.getD 98 (.tup []), ts.getD 99 (.tup []), ts.getD 100 (.tup []), ts.getD 101 (.tup []), ts.getD 102 (.tup []), ts.getD 103 (.tup []), ts.getD 104 (.tup []), ts.getD 105 (.tup []), ts.getD 106 (.tup []), ts.getD 107 (.tup []), ts.getD 108 (.tup []), ts.getD 109 (.tup []), ts.getD 110 (.tup []), ts.getD 111 (.tup []), ts.getD 112 (.tup []), ts.getD 113 (.tup []), ts.getD 114 (.tup []), ts.getD 115 (.tup []), ts.getD 116 (.tup []), ts.getD 117 (.tup []), ts.getD 118 (.tup []), ts.getD 119 (.tup []), ts.getD 120 (.tup []), ts.getD 121 (.tup []), ts.getD 122 (.tup []), ts.getD 123 (.tup [])] := expand_ts 124 ts hlen
  rw [hx']
  have hP : printQ ⟨1, table, column, to, key, kind, max, null, dk, dn, ds, []⟩ (rows.map (·.2)) = ([99, 114, 101, 97, 116, 101, 32] : List UInt8) ++ table ++ ([32, 40] : List UInt8) ++ leftR (rows.map (·.2)) 0 ++ ([41, 32, 107, 101, 121, 32] : List UInt8) ++ key := by
    simp [printQ, tailText, opWords, wKey, leftR, List.getD_cons_zero, List.getD_cons_succ]
  rw [hP]
  generalize ([99, 114, 101, 97, 116, 101, 32] : List UInt8) ++ table ++ ([32, 40] : List UInt8) ++ leftR (rows.map (·.2)) 0 = TT at *
  simp (maxSteps := 8000000) (disch := (simp only [List.length_append, List.length_cons, List.length_nil, strLim]; omega)) [q1, q3, binS_add, -binS]
theorem ref_Print_2 (u : E10 E) (table column to key : List UInt8) (kind max : Int) (null : Bool) (dk dn : Int) (ds : List UInt8) {sl : PV} {rows : List (Int × Col)} (ha : SlQ sl rows) (hd : smallD ⟨2, table, column, to, key, kind, max, null, dk, dn, ds, []⟩) (hs : ∀ c ∈ rows, smallC c.2) (hcan : canQ ⟨2, table, column, to, key, kind, max, null, dk, dn, ds, []⟩ rows = true) (k : Nat) (hk : rows.length + 2500 ≤ k) (m : Mem) :
    denF E (k + 1) 275 [.p (.agg (dV ⟨2, table, column, to, key, kind, max, null, dk, dn, ds, []⟩ sl))] m = some (.ret (.p (.str (printQ ⟨2, table, column, to, key, kind, max, null, dk, dn, ds, []⟩ (rows.map (·.2))))), m) := by
  refine denF_wp u.print rfl (args' := [.p (.agg (dV ⟨2, table, column, to, key, kind, max, null, dk, dn, ds, []⟩ sl))]) rfl ?_
  obtain ⟨j, rfl⟩ : ∃ j, k = j + 1 := ⟨k - 1, by omega⟩
  have hfl := ha.flat
  unfold PV.flat at hfl
  have hcn := can_2 hcan
  obtain ⟨h6, h5'⟩ := hd
  simp only at h5' h6
  obtain ⟨ht, hx, hcol⟩ := hcn
  have htl := rightN_len ht
  simp (maxSteps := 8000000) (disch := (simp only [List.length_append, List.length_cons, List.length_nil, strLim]; omega)) [Fn.f_haulageref10_Print, dV, hfl, binS_add, -binS, printQ, tailText, opWords, wTo, wKey, List.getD_cons_zero, List.getD_cons_succ]
theorem ref_Print_3 (u : E10 E) (table column to key : List UInt8) (kind max : Int) (null : Bool) (dk dn : Int) (ds : List UInt8) {sl : PV} {rows : List (Int × Col)} (ha : SlQ sl rows) (hd : smallD ⟨3, table, column, to, key, kind, max, null, dk, dn, ds, []⟩) (hs : ∀ c ∈ rows, smallC c.2) (hcan : canQ ⟨3, table, column, to, key, kind, max, null, dk, dn, ds, []⟩ rows = true) (k : Nat) (hk : rows.length + 2500 ≤ k) (m : Mem) :
    denF E (k + 1) 275 [.p (.agg (dV ⟨3, table, column, to, key, kind, max, null, dk, dn, ds, []⟩ sl))] m = some (.ret (.p (.str (printQ ⟨3, table, column, to, key, kind, max, null, dk, dn, ds, []⟩ (rows.map (·.2))))), m) := by
  refine denF_wp u.print rfl (args' := [.p (.agg (dV ⟨3, table, column, to, key, kind, max, null, dk, dn, ds, []⟩ sl))]) rfl ?_
  obtain ⟨j, rfl⟩ : ∃ j, k = j + 1 := ⟨k - 1, by omega⟩
  have hfl := ha.flat
  unfold PV.flat at hfl
  have hcn := can_3 hcan
  obtain ⟨h6, h5'⟩ := hd
  simp only at h5' h6
  obtain ⟨ht, hx, hcol⟩ := hcn
  have htl := rightN_len ht
  have htR : rightN to = true := hx
  have htoL := rightN_len htR
  simp (maxSteps := 8000000) (disch := (simp only [List.length_append, List.length_cons, List.length_nil, strLim]; omega)) [Fn.f_haulageref10_Print, dV, hfl, binS_add, -binS, printQ, tailText, opWords, wTo, wKey, List.getD_cons_zero, List.getD_cons_succ]
theorem ref_Print_4 (u : E10 E) (table column to key : List UInt8) (kind max : Int) (null : Bool) (dk dn : Int) (ds : List UInt8) {sl : PV} {rows : List (Int × Col)} (ha : SlQ sl rows) (hd : smallD ⟨4, table, column, to, key, kind, max, null, dk, dn, ds, []⟩) (hs : ∀ c ∈ rows, smallC c.2) (hcan : canQ ⟨4, table, column, to, key, kind, max, null, dk, dn, ds, []⟩ rows = true) (k : Nat) (hk : rows.length + 2500 ≤ k) (m : Mem) :
    denF E (k + 1) 275 [.p (.agg (dV ⟨4, table, column, to, key, kind, max, null, dk, dn, ds, []⟩ sl))] m = some (.ret (.p (.str (printQ ⟨4, table, column, to, key, kind, max, null, dk, dn, ds, []⟩ (rows.map (·.2))))), m) := by
  refine denF_wp u.print rfl (args' := [.p (.agg (dV ⟨4, table, column, to, key, kind, max, null, dk, dn, ds, []⟩ sl))]) rfl ?_
  obtain ⟨j, rfl⟩ : ∃ j, k = j + 1 := ⟨k - 1, by omega⟩
  have hfl := ha.flat
  unfold PV.flat at hfl
  have hcn := can_4 hcan
  obtain ⟨h6, h5'⟩ := hd
  simp only at h5' h6
  obtain ⟨ht, hx⟩ := hcn
  have htl := rightN_len ht
  have hcR : rightN column = true := hx.1
  have hcl := rightN_len hcR
  have h2 : column.length ≤ 2000 := by omega
  have h5 : ds.length ≤ 2000 := by have := rightV_len hx.2.2; omega
  have hcc : colCan ⟨column, kind, max, null, dk, dn, ds⟩ = true := by unfold colCan; simp [hx]
  have hC := fun m => ref_col u ⟨column, kind, max, null, dk, dn, ds⟩ hcc ⟨h2, h5, h6⟩ j (by omega) m
  have hcl2 := colText_len hcc ⟨h2, h5, h6⟩
  simp only at hC
  have f1 := u.col
  have p1 : Fn.f_haulageref10_col.pure = true := rfl
  unfold printQ tailText Ddl.added
  simp only
  generalize colText ⟨column, kind, max, null, dk, dn, ds⟩ = CT at *
  simp (maxSteps := 8000000) (disch := (simp only [List.length_append, List.length_cons, List.length_nil, strLim]; omega)) [Fn.f_haulageref10_Print, dV, hfl, hC, f1, p1, binS_add, -binS, printQ, tailText, opWords, wTo, wKey, List.getD_cons_zero, List.getD_cons_succ]
theorem ref_Print_5 (u : E10 E) (table column to key : List UInt8) (kind max : Int) (null : Bool) (dk dn : Int) (ds : List UInt8) {sl : PV} {rows : List (Int × Col)} (ha : SlQ sl rows) (hd : smallD ⟨5, table, column, to, key, kind, max, null, dk, dn, ds, []⟩) (hs : ∀ c ∈ rows, smallC c.2) (hcan : canQ ⟨5, table, column, to, key, kind, max, null, dk, dn, ds, []⟩ rows = true) (k : Nat) (hk : rows.length + 2500 ≤ k) (m : Mem) :
    denF E (k + 1) 275 [.p (.agg (dV ⟨5, table, column, to, key, kind, max, null, dk, dn, ds, []⟩ sl))] m = some (.ret (.p (.str (printQ ⟨5, table, column, to, key, kind, max, null, dk, dn, ds, []⟩ (rows.map (·.2))))), m) := by
  refine denF_wp u.print rfl (args' := [.p (.agg (dV ⟨5, table, column, to, key, kind, max, null, dk, dn, ds, []⟩ sl))]) rfl ?_
  obtain ⟨j, rfl⟩ : ∃ j, k = j + 1 := ⟨k - 1, by omega⟩
  have hfl := ha.flat
  unfold PV.flat at hfl
  have hcn := can_5 hcan
  obtain ⟨h6, h5'⟩ := hd
  simp only at h5' h6
  obtain ⟨ht, hx⟩ := hcn
  have htl := rightN_len ht
  have hcR : rightN column = true := hx
  have hcl := rightN_len hcR
  have h2 : column.length ≤ 2000 := by omega
  simp (maxSteps := 8000000) (disch := (simp only [List.length_append, List.length_cons, List.length_nil, strLim]; omega)) [Fn.f_haulageref10_Print, dV, hfl, binS_add, -binS, printQ, tailText, opWords, wTo, wKey, List.getD_cons_zero, List.getD_cons_succ]
theorem ref_Print_6 (u : E10 E) (table column to key : List UInt8) (kind max : Int) (null : Bool) (dk dn : Int) (ds : List UInt8) {sl : PV} {rows : List (Int × Col)} (ha : SlQ sl rows) (hd : smallD ⟨6, table, column, to, key, kind, max, null, dk, dn, ds, []⟩) (hs : ∀ c ∈ rows, smallC c.2) (hcan : canQ ⟨6, table, column, to, key, kind, max, null, dk, dn, ds, []⟩ rows = true) (k : Nat) (hk : rows.length + 2500 ≤ k) (m : Mem) :
    denF E (k + 1) 275 [.p (.agg (dV ⟨6, table, column, to, key, kind, max, null, dk, dn, ds, []⟩ sl))] m = some (.ret (.p (.str (printQ ⟨6, table, column, to, key, kind, max, null, dk, dn, ds, []⟩ (rows.map (·.2))))), m) := by
  refine denF_wp u.print rfl (args' := [.p (.agg (dV ⟨6, table, column, to, key, kind, max, null, dk, dn, ds, []⟩ sl))]) rfl ?_
  obtain ⟨j, rfl⟩ : ∃ j, k = j + 1 := ⟨k - 1, by omega⟩
  have hfl := ha.flat
  unfold PV.flat at hfl
  have hcn := can_6 hcan
  obtain ⟨h6, h5'⟩ := hd
  simp only at h5' h6
  obtain ⟨ht, hx⟩ := hcn
  have htl := rightN_len ht
  have htR : rightN to = true := hx.2
  have htoL := rightN_len htR
  have hcR : rightN column = true := hx.1
  have hcl := rightN_len hcR
  have h2 : column.length ≤ 2000 := by omega
  simp (maxSteps := 8000000) (disch := (simp only [List.length_append, List.length_cons, List.length_nil, strLim]; omega)) [Fn.f_haulageref10_Print, dV, hfl, binS_add, -binS, printQ, tailText, opWords, wTo, wKey, List.getD_cons_zero, List.getD_cons_succ]
theorem ref_Print_7 (u : E10 E) (table column to key : List UInt8) (kind max : Int) (null : Bool) (dk dn : Int) (ds : List UInt8) {sl : PV} {rows : List (Int × Col)} (ha : SlQ sl rows) (hd : smallD ⟨7, table, column, to, key, kind, max, null, dk, dn, ds, []⟩) (hs : ∀ c ∈ rows, smallC c.2) (hcan : canQ ⟨7, table, column, to, key, kind, max, null, dk, dn, ds, []⟩ rows = true) (k : Nat) (hk : rows.length + 2500 ≤ k) (m : Mem) :
    denF E (k + 1) 275 [.p (.agg (dV ⟨7, table, column, to, key, kind, max, null, dk, dn, ds, []⟩ sl))] m = some (.ret (.p (.str (printQ ⟨7, table, column, to, key, kind, max, null, dk, dn, ds, []⟩ (rows.map (·.2))))), m) := by
  refine denF_wp u.print rfl (args' := [.p (.agg (dV ⟨7, table, column, to, key, kind, max, null, dk, dn, ds, []⟩ sl))]) rfl ?_
  obtain ⟨j, rfl⟩ : ∃ j, k = j + 1 := ⟨k - 1, by omega⟩
  have hfl := ha.flat
  unfold PV.flat at hfl
  have hcn := can_7 hcan
  obtain ⟨h6, h5'⟩ := hd
  simp only at h5' h6
  obtain ⟨ht, hx⟩ := hcn
  have htl := rightN_len ht
  have hcR : rightN column = true := hx.1
  have hcl := rightN_len hcR
  have h2 : column.length ≤ 2000 := by omega
  have hC := fun m => ref_TPrint u.x u.tPrint kind max hx.2 j (by omega) m
  unfold tP at hC
  have hcl2 := printT_len hx.2
  have f1 := u.tPrint
  have p1 : Fn.f_haulageref06_Print.pure = true := rfl
  unfold printQ tailText
  simp only
  generalize printT kind max = CT at *
  simp (maxSteps := 8000000) (disch := (simp only [List.length_append, List.length_cons, List.length_nil, strLim]; omega)) [Fn.f_haulageref10_Print, dV, hfl, hC, f1, p1, binS_add, -binS, printQ, tailText, opWords, wTo, wKey, List.getD_cons_zero, List.getD_cons_succ]
theorem ref_Print_8 (u : E10 E) (table column to key : List UInt8) (kind max : Int) (null : Bool) (dk dn : Int) (ds : List UInt8) {sl : PV} {rows : List (Int × Col)} (ha : SlQ sl rows) (hd : smallD ⟨8, table, column, to, key, kind, max, null, dk, dn, ds, []⟩) (hs : ∀ c ∈ rows, smallC c.2) (hcan : canQ ⟨8, table, column, to, key, kind, max, null, dk, dn, ds, []⟩ rows = true) (k : Nat) (hk : rows.length + 2500 ≤ k) (m : Mem) :
    denF E (k + 1) 275 [.p (.agg (dV ⟨8, table, column, to, key, kind, max, null, dk, dn, ds, []⟩ sl))] m = some (.ret (.p (.str (printQ ⟨8, table, column, to, key, kind, max, null, dk, dn, ds, []⟩ (rows.map (·.2))))), m) := by
  refine denF_wp u.print rfl (args' := [.p (.agg (dV ⟨8, table, column, to, key, kind, max, null, dk, dn, ds, []⟩ sl))]) rfl ?_
  obtain ⟨j, rfl⟩ : ∃ j, k = j + 1 := ⟨k - 1, by omega⟩
  have hfl := ha.flat
  unfold PV.flat at hfl
  have hcn := can_8 hcan
  obtain ⟨h6, h5'⟩ := hd
  simp only at h5' h6
  obtain ⟨ht, hx⟩ := hcn
  have htl := rightN_len ht
  have hcR : rightN column = true := hx.1
  have hcl := rightN_len hcR
  have h2 : column.length ≤ 2000 := by omega
  have h5 : ds.length ≤ 2000 := by have := rightV_len hx.2; omega
  have hC := fun m => ref_VPrint u.p u.vPrint u.quote dk dn ds h6 (by omega) j (by omega) m
  have hcl2 := printS_len (a := dk) (s := ds) h6
  have f1 := u.vPrint
  have p1 : Fn.f_haulageref05_Print.pure = true := rfl
  unfold printQ tailText
  simp only
  generalize printS dk dn ds = CT at *
  simp (maxSteps := 8000000) (disch := (simp only [List.length_append, List.length_cons, List.length_nil, strLim]; omega)) [Fn.f_haulageref10_Print, dV, hfl, hC, f1, p1, binS_add, -binS, printQ, tailText, opWords, wTo, wKey, List.getD_cons_zero, List.getD_cons_succ]
theorem ref_Print (u : E10 E) (d : Ddl) {sl : PV} {rows : List (Int × Col)} (ha : SlQ sl rows) (hd : smallD d) (hs : ∀ c ∈ rows, smallC c.2) (hcan : canQ d rows = true) (k : Nat) (hk : rows.length + 2500 ≤ k) (m : Mem) :
    denF E (k + 1) 275 [.p (.agg (dV d sl))] m = some (.ret (.p (.str (printQ d (rows.map (·.2))))), m) := by
  have hcan0 := hcan
  unfold canQ plainQ at hcan0
  simp only [Bool.and_eq_true, decide_eq_true_eq] at hcan0
  have hop := hcan0.1.1
  obtain ⟨op, table, column, to, key, kind, max, null, dk, dn, ds, cols⟩ := d
  have e1 : dV ⟨op, table, column, to, key, kind, max, null, dk, dn, ds, cols⟩ sl = dV ⟨op, table, column, to, key, kind, max, null, dk, dn, ds, []⟩ sl := rfl
  have e3 : printQ ⟨op, table, column, to, key, kind, max, null, dk, dn, ds, cols⟩ (rows.map (·.2)) = printQ ⟨op, table, column, to, key, kind, max, null, dk, dn, ds, []⟩ (rows.map (·.2)) := rfl
  rw [canQ_bare] at hcan
  rw [e1, e3]
  have hd' : smallD ⟨op, table, column, to, key, kind, max, null, dk, dn, ds, []⟩ := hd
  simp only at hop
  rcases (by omega : op = 1 ∨ op = 2 ∨ op = 3 ∨ op = 4 ∨ op = 5 ∨ op = 6 ∨ op = 7 ∨ op = 8) with rfl | rfl | rfl | rfl | rfl | rfl | rfl | rfl
  · exact ref_Print_1 u table column to key kind max null dk dn ds ha hd' hs hcan k hk m
  · exact ref_Print_2 u table column to key kind max null dk dn ds ha hd' hs hcan k hk m
  · exact ref_Print_3 u table column to key kind max null dk dn ds ha hd' hs hcan k hk m
  · exact ref_Print_4 u table column to key kind max null dk dn ds ha hd' hs hcan k hk m
  · exact ref_Print_5 u table column to key kind max null dk dn ds ha hd' hs hcan k hk m
  · exact ref_Print_6 u table column to key kind max null dk dn ds ha hd' hs hcan k hk m
  · exact ref_Print_7 u table column to key kind max null dk dn ds ha hd' hs hcan k hk m
  · exact ref_Print_8 u table column to key kind max null dk dn ds ha hd' hs hcan k hk m
end Hx
