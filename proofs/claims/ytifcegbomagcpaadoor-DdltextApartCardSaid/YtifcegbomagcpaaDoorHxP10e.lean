/-
  HxP10e: the program's writer of changes: columns.
-/
import Derived.Test.YtifcegbomagcpaaDoorHxP10b
import Derived.Test.YtifcegbomagcpaaDoorHxV05f
import Derived.Test.YtifcegbomagcpaaDoorHxM10o
import Derived.Test.YtifcegbomagcpaaDoorHxU06j
namespace Hx
open Go
set_option linter.unusedSimpArgs false
set_option linter.unusedVariables false
set_option maxHeartbeats 32000000
set_option maxRecDepth 20000
variable {E : Env}
attribute [-simp] List.getD_eq_getElem?_getD getElem?_pos
def Fr (id : Nat) (m m' : Mem) : Prop := m.length ≤ m'.length ∧ ∀ j b, m[j]? = some b → j ≠ id → (∀ n z, b ≠ .tok n z) → m'[j]? = some b
theorem Fr.trans {id : Nat} {a b c : Mem} (h : Fr id a b) (h2 : Fr id b c) : Fr id a c := ⟨Nat.le_trans h.1 h2.1, fun j x hx hj hn => h2.2 j x (h.2 j x hx hj hn) hj hn⟩
theorem Fr.app {id : Nat} {m l m' : Mem} (h : Fr id (m ++ l) m') : Fr id m m' := ⟨by have := h.1; rw [List.length_append] at this; omega, fun j x hx hj hn => h.2 j x (get_app hx _) hj hn⟩
theorem Fr.cells {id j : Nat} {m m' : Mem} {c : List AV} (h : Fr id m m') (hj : m[j]? = some (.cells c)) (hne : j ≠ id) : m'[j]? = some (.cells c) := h.2 j _ hj hne (fun n z e => by cases e)
theorem BGrow.app {acc : List UInt8} {id : Nat} {m : Mem} (h : BGrow acc id m) (l : Mem) : BGrow acc id (m ++ l) := by
  obtain ⟨a, b, h1, ha, hb⟩ := h
  refine ⟨a, b, get_app h1 _, ha, ?_⟩
  rcases hb with h | ⟨hne, t, ht, hb, hm⟩
  · exact .inl h
  · exact .inr ⟨hne, t, ht, hb, get_app hm _⟩
theorem BGrow.lt {acc : List UInt8} {id : Nat} {m : Mem} (h : BGrow acc id m) : id < m.length := by
  obtain ⟨a, b, h1, _⟩ := h
  exact get_lt h1
structure W10 (E : Env) : Prop where
  c : C10 E
  q : Q05 E
  p : P05 E
  x : X06 E
  len : E.fn 269 = some Fn.f_strings_Builder_Len
  word : E.fn 245 = some Fn.f_ddltext_writer_word
  columns : E.fn 246 = some Fn.f_ddltext_writer_columns
  rest : E.fn 247 = some Fn.f_ddltext_writer_rest
  of : E.fn 249 = some Fn.f_ddltext_writer_of
  value : E.fn 250 = some Fn.f_ddltext_writer_value
  print : E.fn 234 = some Fn.f_ddltext_Print
theorem bld_len (h : E.fn 269 = some Fn.f_strings_Builder_Len) (k : Nat) (id : Nat) (acc : List UInt8) (m : Mem) (hb : BGrow acc id m) : denF E (k + 1) 269 [.ty 0 (.ptr id 0)] m = some (.ret (.p (.int .i64 acc.length)), m) := by
  obtain ⟨a, b, h1, ha, hb⟩ := hb
  refine denF_wp_own h rfl ?_
  rcases hb with ⟨rfl, rfl⟩ | ⟨hne, t, ht, rfl, hm⟩
  · simp [Fn.f_strings_Builder_Len, h1]
  · have := byteRows_len' acc
    simp [Fn.f_strings_Builder_Len, h1, this]
def spc (acc s : List UInt8) : List UInt8 := if acc = [] then s else acc ++ (32 :: s)
theorem spc_ne {acc s : List UInt8} (h : acc ≠ []) : spc acc s = acc ++ (32 :: s) := if_neg h
theorem w_word (u : W10 E) (k : Nat) (id : Nat) (acc s : List UInt8) (hs : s ≠ []) (hsl : s.length < 1000000000) (m : Mem) (h : BGrow acc id m) (hl : acc.length < 1000000000) :
    ∃ m', denF E (k + 4) 245 [.ty 0 (.ptr id 0), .p (.str s)] m = some (.ret (.tup []), m') ∧ BGrow (spc acc s) id m' ∧ Fr id m m' := by
  have hL := bld_len u.len (k + 2) id acc m h
  by_cases ha : acc = []
  · subst ha
    obtain ⟨m1, h1, h2, h3, h4⟩ := bld_text u.q (k + 1) id [] s hs (by omega) m h (by simp)
    refine ⟨m1, ?_, by simpa [spc] using h2, h3, h4⟩
    refine denF_wp_own u.word rfl ?_
    simp [Fn.f_ddltext_writer_word, hL, h1]
  · obtain ⟨m1, h1, h2, h3, h4⟩ := bld_byte u.q (k + 1) id acc 32 m h (by omega)
    obtain ⟨m2, g1, g2, g3, g4⟩ := bld_text u.q (k + 1) id (acc ++ [32]) s hs (by omega) m1 h2 (by simp; omega)
    have e32 : ((32 : UInt8).toNat : Int) = 32 := rfl
    rw [e32] at h1
    have hpos : (0 : Int) < acc.length := by have := (List.length_pos_iff.2 ha); omega
    have hpos' : 0 < acc.length := (List.length_pos_iff.2 ha)
    refine ⟨m2, ?_, by rw [spc_ne ha]; simpa using g2, Fr.trans ⟨h3, h4⟩ ⟨g3, g4⟩⟩
    refine denF_wp_own u.word rfl ?_
    simp [Fn.f_ddltext_writer_word, hL, h1, g1, hpos, hpos', ha]
theorem printT_ne (a b : Int) : printT a b ≠ [] := by
  unfold printT
  repeat' split
  all_goals simp
theorem printS_ne {a n : Int} {s : List UInt8} (hn : isI64 n) : printS a n s ≠ [] := by
  unfold printS
  repeat' split
  · exact digits_ne n
  · simp
  all_goals simp
theorem w_of (u : W10 E) (k : Nat) (hk : 40 ≤ k) (id : Nat) (acc : List UInt8) (ha : acc ≠ []) (a b : Int) (hr : rightT a b = true) (m : Mem) (h : BGrow acc id m) (hl : acc.length < 1000000000) :
    ∃ m', denF E (k + 1) 249 [.ty 0 (.ptr id 0), .p (tP a b)] m = some (.ret (.tup []), m') ∧ BGrow (acc ++ (32 :: printT a b)) id m' ∧ Fr id m m' := by
  obtain ⟨j, rfl⟩ : ∃ j, k = j + 4 := ⟨k - 4, by omega⟩
  have hP := fun m => typ_Print u.x a b (j + 3) (by omega) m
  rw [hr] at hP
  simp only [if_true] at hP
  have hpl := printT_len hr
  obtain ⟨m1, h1, h2, h3⟩ := w_word u j id acc (printT a b) (printT_ne a b) (by omega) (m ++ [.cells [.p (.int .i64 a), .p (.int .i64 b)]]) (h.app _) hl
  rw [spc_ne ha] at h2
  refine ⟨m1, ?_, h2, h3.app⟩
  refine denF_wp_own u.of rfl ?_
  have g : ∀ x : Blk, (m ++ [x])[m.length]? = some x := fun x => get_new
  unfold tP at *
  simp (maxSteps := 4000000) [Fn.f_ddltext_writer_of, hP, h1, g]
theorem w_value (u : W10 E) (k : Nat) (id : Nat) (acc : List UInt8) (ha : acc ≠ []) (a n : Int) (s : List UInt8) (hr : rightV a n s = true) (hn : isI64 n) (hs : s.length ≤ 2000) (hk : 2100 ≤ k) (m : Mem) (h : BGrow acc id m) (hl : acc.length < 1000000000) :
    ∃ m', denF E (k + 1) 250 [.ty 0 (.ptr id 0), .p (.agg [.int .i64 a, .int .i64 n, .str s])] m = some (.ret (.tup []), m') ∧ BGrow (acc ++ (32 :: printS a n s)) id m' ∧ Fr id m m' := by
  obtain ⟨j, rfl⟩ : ∃ j, k = j + 4 := ⟨k - 4, by omega⟩
  have hP := fun m => value_Print u.p a n s hn (by omega) (j + 3) (by omega) m
  rw [hr] at hP
  simp only [if_true] at hP
  have hpl := printS_len (a := a) (s := s) hn
  obtain ⟨m1, h1, h2, h3⟩ := w_word u j id acc (printS a n s) (printS_ne hn) (by omega) (m ++ [.cells [.p (.int .i64 a), .p (.int .i64 n), .p (.str s)]]) (h.app _) hl
  rw [spc_ne ha] at h2
  refine ⟨m1, ?_, h2, h3.app⟩
  refine denF_wp_own u.value rfl ?_
  have g : ∀ x : Blk, (m ++ [x])[m.length]? = some x := fun x => get_new
  simp (maxSteps := 4000000) [Fn.f_ddltext_writer_value, hP, h1, g]
theorem restText_len {c : Col} (hc : colCan c = true) (hs : smallC c) : (restText c).length ≤ 10000 := by
  unfold colCan at hc
  simp only [Bool.and_eq_true] at hc
  have h1 := printT_len hc.2.1
  have h2 := printS_len (a := c.dk) (s := c.ds) hs.2.2
  have h3 := hs.2.1
  unfold restText
  simp only [List.length_cons, List.length_append]
  have e1 : (if c.null = true then (32 : UInt8) :: wNul else []).length ≤ 5 := by split <;> simp [wNul]
  have e2 : (if c.dk = 0 then [] else (32 : UInt8) :: (wDef ++ 32 :: printS c.dk c.dn c.ds)).length ≤ 9 + (printS c.dk c.dn c.ds).length := by
    split
    · simp
    · simp [wDef]; omega
  omega
theorem w_rest (u : W10 E) (k : Nat) (hk : 2200 ≤ k) (id : Nat) (acc : List UInt8) (ha : acc ≠ []) (i : Int) (c : Col) (hc : colCan c = true) (hs : smallC c) (m : Mem) (h : BGrow acc id m) (hl : acc.length < 900000000) :
    ∃ m', denF E (k + 1) 247 [.ty 0 (.ptr id 0), .p (.agg (colQ (i, c)))] m = some (.ret (.tup []), m') ∧ BGrow (acc ++ restText c) id m' ∧ Fr id m m' := by
  obtain ⟨j, rfl⟩ : ∃ j, k = j + 5 := ⟨k - 5, by omega⟩
  obtain ⟨name, kind, max, null, dk, dn, ds⟩ := c
  have hc' := hc
  unfold colCan at hc'
  simp only [Bool.and_eq_true] at hc'
  obtain ⟨_, hT, hV⟩ := hc'
  obtain ⟨_, hs2, hs3⟩ := hs
  simp only at hs2 hs3
  have hpl := printT_len hT
  have hpv := printS_len (a := dk) (s := ds) hs3
  have hid := h.lt
  have g : ∀ x : Blk, (m ++ [x])[m.length]? = some x := fun x => get_new
  have hne : m.length ≠ id := by omega
  obtain ⟨m1, a1, a2, a3⟩ := w_of u (j + 4) (by omega) id acc ha kind max hT (m ++ [.cells [.p (.int .i64 i), .p (.str name), .p (.int .i64 kind), .p (.int .i64 max), .p (.bool null), .p (.int .i64 dk), .p (.int .i64 dn), .p (.str ds)]]) (h.app _) (by omega)
  have c1 := a3.cells (g _) hne
  unfold tP at a1
  have ha1 : acc ++ (32 :: printT kind max) ≠ [] := by simp
  obtain ⟨m2, b1, b2, b3⟩ : ∃ m2, (null = true → denF E (j + 5) 245 [.ty 0 (.ptr id 0), .p (.str [110, 117, 108, 108])] m1 = some (.ret (.tup []), m2)) ∧ BGrow (acc ++ (32 :: (printT kind max ++ (if null then 32 :: wNul else [])))) id m2 ∧ Fr id m1 m2 ∧ (null = false → m2 = m1) := by
    cases null with
    | false => exact ⟨m1, (fun h => by cases h), by simpa using a2, ⟨Nat.le_refl _, fun _ _ h _ _ => h⟩, fun _ => rfl⟩
    | true =>
      obtain ⟨m2, h1, h2, h3⟩ := w_word u (j + 1) id _ [110, 117, 108, 108] (by simp) (by simp) m1 a2 (by simp; omega)
      rw [spc_ne ha1] at h2
      exact ⟨m2, fun _ => h1, by simpa [wNul] using h2, h3, (fun h => by cases h)⟩
  have c2 := b3.1.cells c1 hne
  have ha2 : acc ++ (32 :: (printT kind max ++ (if null then 32 :: wNul else []))) ≠ [] := by simp
  have hl2 : (acc ++ (32 :: (printT kind max ++ (if null then 32 :: wNul else [])))).length < 950000000 := by
    have : (if null = true then (32 : UInt8) :: wNul else []).length ≤ 5 := by split <;> simp [wNul]
    simp only [List.length_append, List.length_cons]
    omega
  by_cases hd : dk = 0
  · refine ⟨m2, ?_, by simpa [restText, hd] using b2, (Fr.trans a3 b3.1).app⟩
    refine denF_wp_own u.rest rfl ?_
    subst hd
    cases null with
    | false =>
      have := b3.2 rfl
      subst this
      simp (maxSteps := 4000000) [Fn.f_ddltext_writer_rest, colQ, g, a1, c1, bne]
    | true =>
      have b1' := b1 rfl
      simp (maxSteps := 4000000) [Fn.f_ddltext_writer_rest, colQ, g, a1, c1, c2, b1', bne]
  · obtain ⟨m3, d1, d2, d3⟩ := w_word u (j + 1) id _ [100, 101, 102, 97, 117, 108, 116] (by simp) (by simp) m2 b2 (by omega)
    rw [spc_ne ha2] at d2
    have c3 := d3.cells c2 hne
    obtain ⟨m4, e1, e2, e3⟩ := w_value u (j + 4) id _ (by simp) dk dn ds hV hs3 hs2 (by omega) m3 d2 (by rw [List.length_append]; simp; simp at hl2; omega)
    have hb : (dk == 0) = false := by simpa using hd
    refine ⟨m4, ?_, by simpa [restText, hd, wDef] using e2, (Fr.trans a3 (Fr.trans b3.1 (Fr.trans d3 e3))).app⟩
    refine denF_wp_own u.rest rfl ?_
    cases null with
    | false =>
      have := b3.2 rfl
      subst this
      simp (maxSteps := 4000000) [Fn.f_ddltext_writer_rest, colQ, g, a1, c1, c3, d1, e1, hb, bne]
    | true =>
      have b1' := b1 rfl
      simp (maxSteps := 4000000) [Fn.f_ddltext_writer_rest, colQ, g, a1, c1, c2, c3, b1', d1, e1, hb, bne]
end Hx

namespace Hx
open Go
set_option linter.unusedSimpArgs false
set_option linter.unusedVariables false
set_option maxHeartbeats 32000000
set_option maxRecDepth 20000
variable {E : Env}
attribute [-simp] List.getD_eq_getElem?_getD getElem?_pos
theorem colText_len {c : Col} (hc : colCan c = true) (hs : smallC c) : (colText c).length ≤ 12000 := by
  have := restText_len hc hs
  have := hs.1
  unfold colText
  rw [List.length_append]
  omega
theorem name_ne {c : Col} (hc : colCan c = true) : c.name ≠ [] := by
  unfold colCan rightN at hc
  rintro h
  rw [h] at hc
  simp at hc
def colsLeft (cols : List Col) (i : Nat) : List UInt8 := if i = 0 then 32 :: 40 :: colsText cols else colsMore (cols.drop i)
theorem colsLeft_0 {cols : List Col} {c : Col} (h : cols[0]? = some c) : colsLeft cols 0 = 32 :: 40 :: (colText c ++ colsLeft cols 1) := by
  cases cols with
  | nil => cases h
  | cons a l => cases h; rfl
theorem colsLeft_s {cols : List Col} {c : Col} {i : Nat} (hi : i ≠ 0) (h : cols[i]? = some c) : colsLeft cols i = 44 :: 32 :: (colText c ++ colsLeft cols (i + 1)) := by
  obtain ⟨h1, h2⟩ := List.getElem?_eq_some_iff.1 h
  unfold colsLeft
  rw [if_neg hi, if_neg (by omega), List.drop_eq_getElem_cons h1, h2]
  rfl
theorem colsLeft_end {cols : List Col} {i : Nat} (hi : i ≠ 0) (h : cols.length ≤ i) : colsLeft cols i = [] := by
  unfold colsLeft
  rw [if_neg hi, List.drop_eq_nil_of_le h]
  rfl
theorem colsMore_len : ∀ (l : List Col), (∀ c ∈ l, (colText c).length ≤ 12000) → (colsMore l).length ≤ 13000 * l.length
  | [], _ => by simp [colsMore]
  | c :: l, h => by
    have h1 := h c (by simp)
    have h2 := colsMore_len l (fun x hx => h x (by simp [hx]))
    simp only [colsMore, List.length_cons, List.length_append]
    omega
theorem colsLeft_len (l : List Col) (h : ∀ c ∈ l, (colText c).length ≤ 12000) : (colsLeft l 0).length ≤ 13000 * l.length + 2 := by
  cases l with
  | nil => simp [colsLeft, colsText]
  | cons c l =>
    have h1 := h c (by simp)
    have h2 := colsMore_len l (fun x hx => h x (by simp [hx]))
    simp only [colsLeft, if_true, colsText, List.length_cons, List.length_append]
    omega
theorem w_columns (u : W10 E) (k : Nat) (hk : 2400 ≤ k) (id : Nat) (acc : List UInt8) (ha : acc ≠ []) (rows : List (Int × Col)) (hr : rows ≠ []) (hc : ∀ c ∈ rows, colCan c.2 = true ∧ smallC c.2) (hl : rows.length ≤ 10) (m : Mem) (h : BGrow acc id m) (hal : acc.length < 100000000) :
    ∃ m', denF E (k + 1) 246 [.ty 0 (.ptr id 0), .p (.vals 8 (rows.map colQ))] m = some (.ret (.tup []), m') ∧ BGrow (acc ++ (colsLeft (rows.map (·.2)) 0 ++ [41])) id m' ∧ Fr id m m' := by
  obtain ⟨j, rfl⟩ : ∃ j, k = j + 5 := ⟨k - 5, by omega⟩
  have hcl : ∀ c ∈ rows.map (·.2), (colText c).length ≤ 12000 := by
    intro c hcm
    obtain ⟨x, hx, rfl⟩ := List.mem_map.1 hcm
    exact colText_len (hc x hx).1 (hc x hx).2
  have htot := colsLeft_len _ hcl
  rw [List.length_map] at htot
  generalize hT : acc ++ colsLeft (rows.map (·.2)) 0 = T at *
  have hTl : T.length < 100200000 := by rw [← hT, List.length_append]; omega
  have hmain : Wp (iter (loopF E (denF E (j + 5)) (j + 5) Fn.f_ddltext_writer_columns_k0 Fn.f_ddltext_writer_columns_b0) (j + 5) ⟨[.ty 0 (.ptr id 0), .p (.vals 8 (rows.map colQ)), .tup [], .tup [], .tup [], .tup [], .p (.vals 8 (rows.map colQ)), .p (.int .i64 rows.length), .p (.int .i64 0)] ++ List.replicate 27 (.tup []), m, []⟩)
      (fun e st => e = .exit 0 ∧ st.ds = [] ∧ st.ts.length = 36 ∧ st.ts.getD 0 (.tup []) = .ty 0 (.ptr id 0) ∧ BGrow T id st.m ∧ Fr id m st.m) := by
    refine loop_wp (α := Nat) (I := fun i st => i ≤ rows.length ∧ ∃ A M, A ≠ [] ∧ A ++ colsLeft (rows.map (·.2)) i = T ∧ BGrow A id M ∧ Fr id m M ∧ Live Fn.f_ddltext_writer_columns_k0 (Fn.f_ddltext_writer_columns_s0 (.ty 0 (.ptr id 0)) (.p (.vals 8 (rows.map colQ))) (.p (.int .i64 rows.length)) (.p (.int .i64 i))) M st) (meas := fun i => rows.length - i) ?_ (j + 5) 0 _
      ⟨Nat.zero_le _, acc, m, ha, hT, h, ⟨Nat.le_refl _, fun _ _ h _ _ => h⟩, rfl, rfl, rfl, rfl⟩ (by omega)
    rintro i st ⟨hi, A, M, hA, hAT, hB, hF, hlive⟩
    rw [loopF_live hlive]
    by_cases hlt : i < rows.length
    · have hlt' : (i : Int) < rows.length := by omega
      obtain ⟨⟨n, c⟩, hrow⟩ : ∃ x, rows[i]? = some x := ⟨_, List.getElem?_eq_getElem hlt⟩
      obtain ⟨hcc, hcs⟩ := hc (n, c) (List.mem_of_getElem? hrow)
      simp only at hcc hcs
      have hcol : (rows.map (·.2))[i]? = some c := by simp [hrow]
      have hw : IntKind.i64.wrap ((i : Int) + 1) = ((i + 1 : Nat) : Int) := by rw [wrap_i64 (by omega) (by omega)]; omega
      have hAl : A.length < 100200000 := by rw [← hAT, List.length_append] at hTl; omega
      have hid := hB.lt
      have g : ∀ x : Blk, (M ++ [x])[M.length]? = some x := fun x => get_new
      have sM : ∀ x y : Blk, (M ++ [x]).set M.length y = M ++ [y] := fun x y => by rw [List.set_append_right _ _ (Nat.le_refl _), Nat.sub_self]; rfl
      have hne : M.length ≠ id := by omega
      have hB0 : BGrow A id (M ++ [.cells [.p (.int .i64 n), .p (.str c.name), .p (.int .i64 c.kind), .p (.int .i64 c.max), .p (.bool c.null), .p (.int .i64 c.dk), .p (.int .i64 c.dn), .p (.str c.ds)]]) := hB.app _
      have hnm := name_ne hcc
      have hnl := hcs.1
      by_cases h0 : i = 0
      · subst h0
        rw [colsLeft_0 hcol] at hAT
        obtain ⟨m1, a1, a2, a3⟩ := w_word u (j + 1) id A (40 :: c.name) (by simp) (by simp; omega) _ hB0 (by omega)
        have c1 := a3.cells (g _) hne
        rw [spc_ne hA] at a2
        obtain ⟨m2, b1, b2, b3⟩ := w_rest u (j + 4) (by omega) id _ (by simp) n c hcc hcs m1 a2 (by simp; omega)
        unfold colQ at b1
        simp only at b1
        have hlim : c.name.length + 1 ≤ strLim := by unfold strLim; omega
        have hlim' : 1 + c.name.length ≤ strLim := by unfold strLim; omega
        simp (maxSteps := 4000000) [Fn.f_ddltext_writer_columns_b0, Fn.f_ddltext_writer_columns_s0, hlt, hlt', hrow, colQ, g, sM, a1, c1, b1, hlim, hlim']
        refine ⟨1, by omega, by omega, A ++ (32 :: 40 :: c.name) ++ restText c, by simp, by rw [← hAT]; simp [colText], m2, b2, hF.trans (Fr.trans a3 b3).app, rfl, rfl, rfl, rfl⟩
      · rw [colsLeft_s h0 hcol] at hAT
        have hz : ((i : Int) == 0) = false := by simpa using h0
        obtain ⟨m1, a1, a2, a3, a4⟩ := bld_byte u.q (j + 3) id A 44 _ hB0 (by omega)
        have hfr1 : Fr id _ m1 := ⟨a3, a4⟩
        have c1 := hfr1.cells (g _) hne
        have e44 : ((44 : UInt8).toNat : Int) = 44 := rfl
        rw [e44] at a1
        obtain ⟨m2, b1, b2, b3⟩ := w_word u (j + 1) id (A ++ [44]) c.name hnm (by omega) m1 a2 (by simp; omega)
        have c2 := b3.cells c1 hne
        rw [spc_ne (by simp)] at b2
        obtain ⟨m3, d1, d2, d3⟩ := w_rest u (j + 4) (by omega) id _ (by simp) n c hcc hcs m2 b2 (by simp; omega)
        unfold colQ at d1
        simp only at d1
        simp (maxSteps := 4000000) [Fn.f_ddltext_writer_columns_b0, Fn.f_ddltext_writer_columns_s0, hlt, hlt', hrow, colQ, g, sM, hz, h0, a1, c1, b1, c2, d1, hw, -Int.natCast_add]
        refine ⟨i + 1, by omega, hlt, A ++ [44] ++ (32 :: c.name) ++ restText c, by simp, by rw [← hAT]; simp [colText], m3, d2, hF.trans (Fr.trans hfr1 (Fr.trans b3 d3)).app, rfl, rfl, rfl, rfl⟩
    · have hlt' : ¬ (i : Int) < rows.length := by omega
      have h0 : i ≠ 0 := by
        have := List.length_pos_iff.2 hr
        omega
      rw [colsLeft_end h0 (by rw [List.length_map]; omega), List.append_nil] at hAT
      subst hAT
      simp [Fn.f_ddltext_writer_columns_b0, Fn.f_ddltext_writer_columns_s0, hlt']
      exact ⟨hB, hF⟩
  obtain ⟨e, st, hrun, rfl, hds, hlen, h0, hB, hF⟩ := hmain
  obtain ⟨m2, b1, b2, b3, b4⟩ := bld_byte u.q (j + 3) id T 41 st.m hB (by omega)
  refine ⟨m2, ?_, by rw [← List.append_assoc, hT]; exact b2, hF.trans ⟨b3, b4⟩⟩
  refine denF_wp_own u.columns rfl ?_
  have e41 : ((41 : UInt8).toNat : Int) = 41 := rfl
  rw [e41] at b1
  simp (maxSteps := 4000000) [Fn.f_ddltext_writer_columns]
  refine ⟨.exit 0, st, by simpa using hrun, ?_⟩
  obtain ⟨ts, m', ds'⟩ := st
  simp only at hds hlen h0 b1
  subst hds
  have hx : ts = [ts.getD 0 (.tup []), ts.getD 1 (.tup []), ts.getD 2 (.tup []), ts.getD 3 (.tup []), ts.getD 4 (.tup []), ts.getD 5 (.tup []), ts.getD 6 (.tup []), ts.getD 7 (.tup []), ts.getD 8 (.tup []), ts.getD 9 (.tup []), ts.getD 10 (.tup []), ts.getD 11 (.tup []), ts.getD 12 (.tup []), ts.getD 13 (.tup []), ts.getD 14 (.tup []), ts.getD 15 (.tup []), ts.getD 16 (.tup []), ts.getD 17 (.tup []), ts.getD 18 (.tup []), ts.getD 19 (.tup []), ts.getD 20 (.tup []), ts.getD 21 (.tup []), ts.getD 22 (.tup []), ts.getD 23 (.tup []), ts.getD 24 (.tup []), ts.getD 25 (.tup []), ts.getD 26 (.tup []), ts.getD 27 (.tup []), ts.getD 28 (.tup []), ts.getD 29 (.tup []), ts.getD 30 (.tup []), ts.getD 31 (.tup []), ts.getD 32 (.tup []), ts.getD 33 (.tup []), ts.getD 34 (.tup []), ts.getD 35 (.tup [])] := expand_ts 36 ts hlen
  rw [hx]
  simp (maxSteps := 4000000) [h0, b1]
end Hx
