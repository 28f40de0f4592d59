/-
  HxP10b: which changes can be written, as the program tells it.
-/
import Derived.Test.YtifcegbomagcpaaDoorHxP10a
import Derived.Test.YtifcegbomagcpaaDoorHxU10n
import Derived.Test.YtifcegbomagcpaaDoorHxRow
import Derived.Test.YtifcegbomagcpaaDoorHxP10w
namespace Hx
open Go
set_option linter.unusedSimpArgs false
set_option linter.unusedVariables false
set_option maxHeartbeats 32000000
set_option maxRecDepth 20000
variable {E : Env}
attribute [-simp] List.getD_eq_getElem?_getD getElem?_pos
structure C10 (E : Env) : Prop where
  p : C09 E
  r : R10 E
  v : V06 E
  tRight : E.fn 84 = some Fn.f_typ_Right
  names : E.fn 267 = some Fn.f_ddltext_names
  column : E.fn 268 = some Fn.f_ddltext_column
  added : E.fn 248 = some Fn.f_ddltext_added
  can : E.fn 244 = some Fn.f_ddltext_Can
def smallD (d : Ddl) : Prop := isI64 d.dn ∧ (d.ds.length : Int) ≤ 9223372036854775807
def smallC (c : Col) : Prop := c.name.length ≤ 2000 ∧ c.ds.length ≤ 2000 ∧ isI64 c.dn
theorem names_one (u : C10 E) (a : List UInt8) (t : Nat) (k : Nat) (hk : 2100 ≤ k) (m : Mem) : denF E (k + 1) 267 [.tv 1 [[.str a]] t] m = some (.ret (.p (.bool (rightN a))), m) := by
  refine denF_wp u.names rfl (args' := [.p (.vals 1 [[.str a]])]) rfl ?_
  obtain ⟨j, rfl⟩ : ∃ j, k = j + 2 := ⟨k - 2, by omega⟩
  have hR := fun m => name_RightL u.r a (j + 1) (by omega) m
  simp [Fn.f_ddltext_names]
  refine iter_wp_succ ?_
  rw [loopF_live (vals := Fn.f_ddltext_names_s0 (.p (.vals 1 [[.str a]])) (.p (.int .i64 1)) (.p (.int .i64 0))) (m := []) ⟨rfl, rfl, rfl, rfl⟩]
  cases hr : rightN a with
  | false => rw [hr] at hR; simp [Fn.f_ddltext_names_b0, Fn.f_ddltext_names_s0, hR]
  | true =>
    rw [hr] at hR
    simp [Fn.f_ddltext_names_b0, Fn.f_ddltext_names_s0, hR]
    refine iter_wp_succ ?_
    rw [loopF_live (vals := Fn.f_ddltext_names_s0 (.p (.vals 1 [[.str a]])) (.p (.int .i64 1)) (.p (.int .i64 1))) (m := []) ⟨rfl, rfl, rfl, rfl⟩]
    simp [Fn.f_ddltext_names_b0, Fn.f_ddltext_names_s0]
theorem names_two (u : C10 E) (a b : List UInt8) (t : Nat) (k : Nat) (hk : 2100 ≤ k) (m : Mem) : denF E (k + 1) 267 [.tv 1 [[.str a], [.str b]] t] m = some (.ret (.p (.bool (rightN a && rightN b))), m) := by
  refine denF_wp u.names rfl (args' := [.p (.vals 1 [[.str a], [.str b]])]) rfl ?_
  obtain ⟨j, rfl⟩ : ∃ j, k = j + 3 := ⟨k - 3, by omega⟩
  have hR := fun m => name_RightL u.r a (j + 2) (by omega) m
  have hS := fun m => name_RightL u.r b (j + 2) (by omega) m
  simp [Fn.f_ddltext_names]
  refine iter_wp_succ ?_
  rw [loopF_live (vals := Fn.f_ddltext_names_s0 (.p (.vals 1 [[.str a], [.str b]])) (.p (.int .i64 2)) (.p (.int .i64 0))) (m := []) ⟨rfl, rfl, rfl, rfl⟩]
  cases hr : rightN a with
  | false => rw [hr] at hR; simp [Fn.f_ddltext_names_b0, Fn.f_ddltext_names_s0, hR]
  | true =>
    rw [hr] at hR
    simp [Fn.f_ddltext_names_b0, Fn.f_ddltext_names_s0, hR]
    refine iter_wp_succ ?_
    rw [loopF_live (vals := Fn.f_ddltext_names_s0 (.p (.vals 1 [[.str a], [.str b]])) (.p (.int .i64 2)) (.p (.int .i64 1))) (m := []) ⟨rfl, rfl, rfl, rfl⟩]
    cases hs : rightN b with
    | false => rw [hs] at hS; simp [Fn.f_ddltext_names_b0, Fn.f_ddltext_names_s0, hS]
    | true =>
      rw [hs] at hS
      simp [Fn.f_ddltext_names_b0, Fn.f_ddltext_names_s0, hS]
      refine iter_wp_succ ?_
      rw [loopF_live (vals := Fn.f_ddltext_names_s0 (.p (.vals 1 [[.str a], [.str b]])) (.p (.int .i64 2)) (.p (.int .i64 2))) (m := []) ⟨rfl, rfl, rfl, rfl⟩]
      simp [Fn.f_ddltext_names_b0, Fn.f_ddltext_names_s0]
theorem ddl_column (u : C10 E) (i : Int) (c : Col) (hn : isI64 c.dn) (hl : (c.ds.length : Int) ≤ 9223372036854775807) (k : Nat) (hk : c.ds.length + 2200 ≤ k) (m : Mem) : denF E (k + 1) 268 [.p (.agg (colQ (i, c)))] m = some (.ret (.p (.bool (colCan c))), m) := by
  refine denF_wp u.column rfl (args' := [.p (.agg (colQ (i, c)))]) rfl ?_
  obtain ⟨j, rfl⟩ : ∃ j, k = j + 1 := ⟨k - 1, by omega⟩
  obtain ⟨name, kind, max, null, dk, dn, ds⟩ := c
  simp only at hn hl hk
  have hN := fun t m => names_one u name t j (by omega) m
  have hT := fun m => typ_Right u.tRight j kind max m
  have hV := fun m => value_RightL u.v dk dn ds hn hl j (by omega) m
  unfold tP at hT
  unfold vP at hV
  unfold colCan
  simp only
  cases q1 : rightN name with
  | false => rw [q1] at hN; simp (maxSteps := 4000000) [Fn.f_ddltext_column, colQ, hN]
  | true =>
    rw [q1] at hN
    cases q2 : rightT kind max with
    | false => rw [q2] at hT; simp (maxSteps := 4000000) [Fn.f_ddltext_column, colQ, hN, hT]
    | true => rw [q2] at hT; simp (maxSteps := 4000000) [Fn.f_ddltext_column, colQ, hN, hT, hV]
theorem ddl_added (u : C10 E) (d : Ddl) {sl : PV} (hf : sl.flat = true) (k : Nat) (m : Mem) : denF E (k + 1) 248 [.p (.agg (dV d sl))] m = some (.ret (.p (.agg (colQ (0, d.added)))), m) := by
  refine denF_wp u.added rfl (args' := [.p (.agg (dV d sl))]) rfl ?_
  unfold PV.flat at hf
  simp (maxSteps := 4000000) [Fn.f_ddltext_added, dV, colQ, Ddl.added, hf]
def colsCan (rows : List (Int × Col)) : Bool := rows.all fun c => colCan c.2
theorem colsCan_step {rows : List (Int × Col)} {i : Nat} {x : Int × Col} (hx : rows[i]? = some x) : colsCan (rows.drop i) = (colCan x.2 && colsCan (rows.drop (i + 1))) := by
  obtain ⟨h1, h2⟩ := List.getElem?_eq_some_iff.1 hx
  rw [List.drop_eq_getElem_cons h1, h2]
  rfl
theorem can_loop (u : C10 E) {sl : PV} {rows : List (Int × Col)} (ha : SlQ sl rows) (hs : ∀ c ∈ rows, smallC c.2) (hl : (rows.length : Int) ≤ 1000000000) (base : Mem) (k : Nat) (hk : rows.length + 4400 ≤ k) (st : St)
    (h0 : Live Fn.f_ddltext_Can_k0 (Fn.f_ddltext_Can_s0 (.ptr 0 0) (.p sl) (.p (.int .i64 rows.length)) (.p (.int .i64 0))) base st) :
    Wp (iter (loopF E (denF E k) k Fn.f_ddltext_Can_k0 Fn.f_ddltext_Can_b0) k st) (fun e st => st.ds = [] ∧ st.ts.length = 93 ∧ ((e = .exit 1 ∧ colsCan rows = true ∧ st.ts.getD 1 (.tup []) = .ptr 0 0 ∧ ∃ x, st.m = base ++ x) ∨ (e = .ret ∧ colsCan rows = false ∧ st.ts.getD 2 (.tup []) = .p (.bool false)))) := by
  obtain ⟨j, rfl⟩ : ∃ j, k = j + 1 := ⟨k - 1, by omega⟩
  refine loop_wp (α := Nat) (I := fun i st => i ≤ rows.length ∧ colsCan (rows.drop i) = colsCan rows ∧ ∃ x, Live Fn.f_ddltext_Can_k0 (Fn.f_ddltext_Can_s0 (.ptr 0 0) (.p sl) (.p (.int .i64 rows.length)) (.p (.int .i64 i))) (base ++ x) st) (meas := fun i => rows.length - i) ?_ (j + 1) 0 _ ⟨Nat.zero_le _, rfl, [], by rw [List.append_nil]; exact h0⟩ (by omega)
  rintro i st ⟨hi, hsq, x, hlive⟩
  rw [loopF_live hlive]
  by_cases hlt : i < rows.length
  · have hlt' : (i : Int) < rows.length := by omega
    obtain ⟨c, hc⟩ : ∃ c, rows[i]? = some c := ⟨_, List.getElem?_eq_getElem hlt⟩
    rw [colsCan_step hc] at hsq
    have hw : IntKind.i64.wrap ((i : Int) + 1) = ((i + 1 : Nat) : Int) := by rw [wrap_i64 (by omega) (by omega)]; omega
    have hC := fun m => ddl_column u c.1 c.2 (hs c (List.mem_of_getElem? hc)).2.2 (by have := (hs c (List.mem_of_getElem? hc)).2.1; omega) j (by have := (hs c (List.mem_of_getElem? hc)).2.1; omega) m
    rcases ha with ⟨rfl, rfl⟩ | rfl
    · simp at hlt
    have g : ∀ b : Blk, (base ++ (x ++ [b]))[base.length + x.length]? = some b := fun b => by
      rw [List.getElem?_append_right (by omega), Nat.add_sub_cancel_left, List.getElem?_append_right (Nat.le_refl _), Nat.sub_self]; rfl
    have s : ∀ b c : Blk, (base ++ (x ++ [b])).set (base.length + x.length) c = base ++ (x ++ [c]) := fun b c => by
      rw [List.set_append_right _ _ (by omega), Nat.add_sub_cancel_left, List.set_append_right _ _ (Nat.le_refl _), Nat.sub_self]; rfl
    unfold colQ at hC
    simp only at hC
    cases hq : colCan c.2 with
    | false =>
      rw [hq] at hC
      rw [hq, Bool.false_and] at hsq
      simp [Fn.f_ddltext_Can_b0, Fn.f_ddltext_Can_s0, hlt, hlt', hc, colQ, g, s, hC, hsq.symm]
    | true =>
      rw [hq] at hC
      rw [hq, Bool.true_and] at hsq
      simp [Fn.f_ddltext_Can_b0, Fn.f_ddltext_Can_s0, hlt, hlt', hc, colQ, g, s, hC, hw, -Int.natCast_add]
      exact ⟨i + 1, by omega, hlt, hsq, _, rfl, rfl, rfl, rfl⟩
  · have hlt' : ¬ (i : Int) < rows.length := by omega
    have e1 : rows.drop i = [] := List.drop_eq_nil_of_le (by omega)
    rw [e1] at hsq
    have hs' : colsCan rows = true := hsq.symm
    simp [Fn.f_ddltext_Can_b0, Fn.f_ddltext_Can_s0, hlt', hs']

theorem ddl_Can_1 (u : C10 E) (table column to key : List UInt8) (kind max : Int) (null : Bool) (dk dn : Int) (ds : List UInt8) {sl : PV} {rows : List (Int × Col)} (ha : SlQ sl rows) (hd : smallD ⟨(1 : Int), table, column, to, key, kind, max, null, dk, dn, ds, []⟩) (hs : ∀ c ∈ rows, smallC c.2) (hl : (rows.length : Int) ≤ 1000000000) (k : Nat) (hk : rows.length + ds.length + 4500 ≤ k) (m : Mem) :
    denF E (k + 1) 244 [.p (.agg (dV ⟨(1 : Int), table, column, to, key, kind, max, null, dk, dn, ds, []⟩ sl))] m = some (.ret (.p (.bool (canQ ⟨(1 : Int), table, column, to, key, kind, max, null, dk, dn, ds, []⟩ rows))), m) := by
  refine denF_wp u.can rfl (args' := [.p (.agg (dV ⟨(1 : Int), table, column, to, key, kind, max, null, dk, dn, ds, []⟩ sl))]) rfl ?_
  obtain ⟨j, rfl⟩ : ∃ j, k = j + 1 := ⟨k - 1, by omega⟩
  have hfl := ha.flat
  unfold PV.flat at hfl
  have hP := fun m => ddl_Plain u.p ⟨(1 : Int), table, column, to, key, kind, max, null, dk, dn, ds, []⟩ ha hl j (by omega) m
  unfold dV at hP
  simp only at hP
  obtain ⟨h6, h5⟩ := hd
  simp only at h5 h6
  have hNt := fun t m => names_one u table t j (by omega) m
  unfold canQ
  generalize plainQ ⟨(1 : Int), table, column, to, key, kind, max, null, dk, dn, ds, []⟩ rows = pq at *
  cases pq with
  | false => simp (maxSteps := 8000000) [Fn.f_ddltext_Can, dV, hfl, hP]
  | true =>
    simp only [Bool.true_and]
    cases q1 : rightN table with
    | false => rw [q1] at hNt; simp (maxSteps := 8000000) [Fn.f_ddltext_Can, dV, hfl, hP, hNt]
    | true =>
      rw [q1] at hNt
      simp only [Bool.true_and, canTail]
      have hNk := fun t m => names_one u key t j (by omega) m
      have hmain := can_loop u ha hs hl [.cells [.p (.int .i64 1), .p (.str table), .p (.str column), .p (.str to), .p (.str key), .p (.int .i64 kind), .p (.int .i64 max), .p (.bool null), .p (.int .i64 dk), .p (.int .i64 dn), .p (.str ds), .p sl], .tok 1 1] (j + 1) (by omega)
      have hcc : (rows.all fun c => colCan c.2) = colsCan rows := rfl
      simp only [if_true, hcc]
      have hb1 : (decide ((0 : Int) < rows.length)) = decide (1 ≤ rows.length) := by rw [Bool.eq_iff_iff]; simp; omega
      have hb2 : (decide ((rows.length : Int) ≤ 10)) = decide (rows.length ≤ 10) := by rw [Bool.eq_iff_iff]; simp; omega
      rcases ha with ⟨rfl, rfl⟩ | rfl
      all_goals
        simp (maxSteps := 8000000) [Fn.f_ddltext_Can, dV, hP, hNt]
        refine (hmain _ ⟨rfl, rfl, rfl, rfl⟩).mono ?_
        rintro e st ⟨hds, hlen, ⟨rfl, hz, h3', x, hm⟩ | ⟨rfl, hz, h2'⟩⟩
        · obtain ⟨ts, m', ds'⟩ := st
          simp only at hds hlen h3' hm
          subst hds hm
          have hx : ts = [ts.getD 0 (.tup []), ts.getD 1 (.tup []), ts.getD 2 (.tup []), ts.getD 3 (.tup []), ts.getD 4 (.tup []), ts.getD 5 (.tup []), ts.getD 6 (.tup []), ts.getD 7 (.tup []), ts.getD 8 (.tup []), ts.getD 9 (.tup []), ts.getD 10 (.tup []), ts.getD 11 (.tup []), ts.getD 12 (.tup []), ts.getD 13 (.tup []), ts.getD 14 (.tup []), ts.getD 15 (.tup []), ts.getD 16 (.tup []), ts.getD 17 (.tup []), ts.getD 18 (.tup []), ts.getD 19 (.tup []), ts.getD 20 (.tup []), ts.getD 21 (.tup []), ts.getD 22 (.tup []), ts.getD 23 (.tup []), ts.getD 24 (.tup []), ts.getD 25 (.tup []), ts.getD 26 (.tup []), ts.getD 27 (.tup []), ts.getD 28 (.tup []), ts.getD 29 (.tup []), ts.getD 30 (.tup []), ts.getD 31 (.tup []), ts.getD 32 (.tup []), ts.getD 33 (.tup []), ts.getD 34 (.tup []), ts.getD 35 (.tup []), ts.getD 36 (.tup []), ts.getD 37 (.tup []), ts.getD 38 (.tup []), ts.getD 39 (.tup []), ts.getD 40 (.tup []), ts.getD 41 (.tup []), ts.getD 42 (.tup []), ts.getD 43 (.tup []), ts.getD 44 (.tup []), ts.getD 45 (.tup []), ts.getD 46 (.tup []), ts.getD 47 (.tup []), ts.getD 48 (.tup []), ts.getD 49 (.tup []), ts.getD 50 (.tup []), ts.getD 51 (.tup []), ts.getD 52 (.tup []), ts.getD 53 (.tup []), ts.getD 54 (.tup []), ts.getD 55 (.tup []), ts.getD 56 (.tup []), ts.getD 57 (.tup []), ts.getD 58 (.tup []), ts.getD 59 (.tup []), ts.getD 60 (.tup []), ts.getD 61 (.tup []), ts.getD 62 (.tup []), ts.getD 63 (.tup []), ts.getD 64 (.tup []), ts.getD 65 (.tup []), ts.getD 66 (.tup []), ts.getD 67 (.tup []), ts.getD 68 (.tup []), ts.getD 69 (.tup []), ts.getD 70 (.tup []), ts.getD 71 (.tup []), ts.getD 72 (.tup []), ts.getD 73 (.tup []), ts.getD 74 (.tup []), ts.getD 75 (.tup []), ts.getD 76 (.tup []), ts.getD 77 (.tup []), ts.getD 78 (.tup []), ts.getD 79 (.tup []), ts.getD 80 (.tup []), ts.getD 81 (.tup []), ts.getD 82 (.tup []), ts.getD 83 (.tup []), ts.getD 84 (.tup []), ts.getD 85 (.tup []), ts.getD 86 (.tup []), ts.getD 87 (.tup []), ts.getD 88 (.tup []), ts.getD 89 (.tup []), ts.getD 90 (.tup []), ts.getD 91 (.tup []), ts.getD 92 (.tup [])] := expand_ts 93 ts hlen
          rw [hx]
          try rw [hz]
          cases q2 : rightN key with
          | false => rw [q2] at hNk; simp (maxSteps := 8000000) [h3', hNk]
          | true =>
            rw [q2] at hNk
            simp (maxSteps := 8000000) [h3', hNk]
            try
              by_cases g1 : 1 ≤ rows.length
              · have g1' : (0 : Int) < rows.length := by omega
                have g1'' : 0 < rows.length := by omega
                by_cases g2 : rows.length ≤ 10
                · have g2' : (rows.length : Int) ≤ 10 := by omega
                  simp [g1, g1', g1'', g2, g2']
                · have g2' : ¬ (rows.length : Int) ≤ 10 := by omega
                  simp [g1, g1', g1'', g2, g2']
              · have g1' : ¬ (0 : Int) < rows.length := by omega
                have g1'' : ¬ 0 < rows.length := by omega
                simp [g1, g1', g1'']
        · simp (maxSteps := 8000000) [hds, h2', hz]
theorem ddl_Can_2 (u : C10 E) (table column to key : List UInt8) (kind max : Int) (null : Bool) (dk dn : Int) (ds : List UInt8) {sl : PV} {rows : List (Int × Col)} (ha : SlQ sl rows) (hd : smallD ⟨(2 : Int), table, column, to, key, kind, max, null, dk, dn, ds, []⟩) (hs : ∀ c ∈ rows, smallC c.2) (hl : (rows.length : Int) ≤ 1000000000) (k : Nat) (hk : rows.length + ds.length + 4500 ≤ k) (m : Mem) :
    denF E (k + 1) 244 [.p (.agg (dV ⟨(2 : Int), table, column, to, key, kind, max, null, dk, dn, ds, []⟩ sl))] m = some (.ret (.p (.bool (canQ ⟨(2 : Int), table, column, to, key, kind, max, null, dk, dn, ds, []⟩ rows))), m) := by
  refine denF_wp u.can rfl (args' := [.p (.agg (dV ⟨(2 : Int), table, column, to, key, kind, max, null, dk, dn, ds, []⟩ sl))]) rfl ?_
  obtain ⟨j, rfl⟩ : ∃ j, k = j + 1 := ⟨k - 1, by omega⟩
  have hfl := ha.flat
  unfold PV.flat at hfl
  have hP := fun m => ddl_Plain u.p ⟨(2 : Int), table, column, to, key, kind, max, null, dk, dn, ds, []⟩ ha hl j (by omega) m
  unfold dV at hP
  simp only at hP
  obtain ⟨h6, h5⟩ := hd
  simp only at h5 h6
  have hNt := fun t m => names_one u table t j (by omega) m
  unfold canQ
  generalize plainQ ⟨(2 : Int), table, column, to, key, kind, max, null, dk, dn, ds, []⟩ rows = pq at *
  cases pq with
  | false => simp (maxSteps := 8000000) [Fn.f_ddltext_Can, dV, hfl, hP]
  | true =>
    simp only [Bool.true_and]
    cases q1 : rightN table with
    | false => rw [q1] at hNt; simp (maxSteps := 8000000) [Fn.f_ddltext_Can, dV, hfl, hP, hNt]
    | true =>
      rw [q1] at hNt
      simp only [Bool.true_and, canTail]
      simp (maxSteps := 8000000) [Fn.f_ddltext_Can, dV, hfl, hP, hNt]
theorem ddl_Can_3 (u : C10 E) (table column to key : List UInt8) (kind max : Int) (null : Bool) (dk dn : Int) (ds : List UInt8) {sl : PV} {rows : List (Int × Col)} (ha : SlQ sl rows) (hd : smallD ⟨(3 : Int), table, column, to, key, kind, max, null, dk, dn, ds, []⟩) (hs : ∀ c ∈ rows, smallC c.2) (hl : (rows.length : Int) ≤ 1000000000) (k : Nat) (hk : rows.length + ds.length + 4500 ≤ k) (m : Mem) :
    denF E (k + 1) 244 [.p (.agg (dV ⟨(3 : Int), table, column, to, key, kind, max, null, dk, dn, ds, []⟩ sl))] m = some (.ret (.p (.bool (canQ ⟨(3 : Int), table, column, to, key, kind, max, null, dk, dn, ds, []⟩ rows))), m) := by
  refine denF_wp u.can rfl (args' := [.p (.agg (dV ⟨(3 : Int), table, column, to, key, kind, max, null, dk, dn, ds, []⟩ sl))]) rfl ?_
  obtain ⟨j, rfl⟩ : ∃ j, k = j + 1 := ⟨k - 1, by omega⟩
  have hfl := ha.flat
  unfold PV.flat at hfl
  have hP := fun m => ddl_Plain u.p ⟨(3 : Int), table, column, to, key, kind, max, null, dk, dn, ds, []⟩ ha hl j (by omega) m
  unfold dV at hP
  simp only at hP
  obtain ⟨h6, h5⟩ := hd
  simp only at h5 h6
  have hNt := fun t m => names_one u table t j (by omega) m
  unfold canQ
  generalize plainQ ⟨(3 : Int), table, column, to, key, kind, max, null, dk, dn, ds, []⟩ rows = pq at *
  cases pq with
  | false => simp (maxSteps := 8000000) [Fn.f_ddltext_Can, dV, hfl, hP]
  | true =>
    simp only [Bool.true_and]
    cases q1 : rightN table with
    | false => rw [q1] at hNt; simp (maxSteps := 8000000) [Fn.f_ddltext_Can, dV, hfl, hP, hNt]
    | true =>
      rw [q1] at hNt
      simp only [Bool.true_and, canTail]
      have hN2 := fun t m => names_one u to t j (by omega) m
      simp (maxSteps := 8000000) [Fn.f_ddltext_Can, dV, hfl, hP, hNt, hN2]
theorem ddl_Can_4 (u : C10 E) (table column to key : List UInt8) (kind max : Int) (null : Bool) (dk dn : Int) (ds : List UInt8) {sl : PV} {rows : List (Int × Col)} (ha : SlQ sl rows) (hd : smallD ⟨(4 : Int), table, column, to, key, kind, max, null, dk, dn, ds, []⟩) (hs : ∀ c ∈ rows, smallC c.2) (hl : (rows.length : Int) ≤ 1000000000) (k : Nat) (hk : rows.length + ds.length + 4500 ≤ k) (m : Mem) :
    denF E (k + 1) 244 [.p (.agg (dV ⟨(4 : Int), table, column, to, key, kind, max, null, dk, dn, ds, []⟩ sl))] m = some (.ret (.p (.bool (canQ ⟨(4 : Int), table, column, to, key, kind, max, null, dk, dn, ds, []⟩ rows))), m) := by
  refine denF_wp u.can rfl (args' := [.p (.agg (dV ⟨(4 : Int), table, column, to, key, kind, max, null, dk, dn, ds, []⟩ sl))]) rfl ?_
  obtain ⟨j, rfl⟩ : ∃ j, k = j + 1 := ⟨k - 1, by omega⟩
  have hfl := ha.flat
  unfold PV.flat at hfl
  have hP := fun m => ddl_Plain u.p ⟨(4 : Int), table, column, to, key, kind, max, null, dk, dn, ds, []⟩ ha hl j (by omega) m
  unfold dV at hP
  simp only at hP
  obtain ⟨h6, h5⟩ := hd
  simp only at h5 h6
  have hNt := fun t m => names_one u table t j (by omega) m
  unfold canQ
  generalize plainQ ⟨(4 : Int), table, column, to, key, kind, max, null, dk, dn, ds, []⟩ rows = pq at *
  cases pq with
  | false => simp (maxSteps := 8000000) [Fn.f_ddltext_Can, dV, hfl, hP]
  | true =>
    simp only [Bool.true_and]
    cases q1 : rightN table with
    | false => rw [q1] at hNt; simp (maxSteps := 8000000) [Fn.f_ddltext_Can, dV, hfl, hP, hNt]
    | true =>
      rw [q1] at hNt
      simp only [Bool.true_and, canTail]
      have hA := fun m => ddl_added u ⟨4, table, column, to, key, kind, max, null, dk, dn, ds, []⟩ ha.flat j m
      have hC := fun m => ddl_column u 0 ⟨column, kind, max, null, dk, dn, ds⟩ h6 h5 j (by simp only; omega) m
      unfold colCan at hC
      unfold dV Ddl.added colQ at hA
      unfold colQ at hC
      simp only at hA hC
      simp (maxSteps := 8000000) [Fn.f_ddltext_Can, dV, hfl, hP, hNt, hA, hC]
theorem ddl_Can_5 (u : C10 E) (table column to key : List UInt8) (kind max : Int) (null : Bool) (dk dn : Int) (ds : List UInt8) {sl : PV} {rows : List (Int × Col)} (ha : SlQ sl rows) (hd : smallD ⟨(5 : Int), table, column, to, key, kind, max, null, dk, dn, ds, []⟩) (hs : ∀ c ∈ rows, smallC c.2) (hl : (rows.length : Int) ≤ 1000000000) (k : Nat) (hk : rows.length + ds.length + 4500 ≤ k) (m : Mem) :
    denF E (k + 1) 244 [.p (.agg (dV ⟨(5 : Int), table, column, to, key, kind, max, null, dk, dn, ds, []⟩ sl))] m = some (.ret (.p (.bool (canQ ⟨(5 : Int), table, column, to, key, kind, max, null, dk, dn, ds, []⟩ rows))), m) := by
  refine denF_wp u.can rfl (args' := [.p (.agg (dV ⟨(5 : Int), table, column, to, key, kind, max, null, dk, dn, ds, []⟩ sl))]) rfl ?_
  obtain ⟨j, rfl⟩ : ∃ j, k = j + 1 := ⟨k - 1, by omega⟩
  have hfl := ha.flat
  unfold PV.flat at hfl
  have hP := fun m => ddl_Plain u.p ⟨(5 : Int), table, column, to, key, kind, max, null, dk, dn, ds, []⟩ ha hl j (by omega) m
  unfold dV at hP
  simp only at hP
  obtain ⟨h6, h5⟩ := hd
  simp only at h5 h6
  have hNt := fun t m => names_one u table t j (by omega) m
  unfold canQ
  generalize plainQ ⟨(5 : Int), table, column, to, key, kind, max, null, dk, dn, ds, []⟩ rows = pq at *
  cases pq with
  | false => simp (maxSteps := 8000000) [Fn.f_ddltext_Can, dV, hfl, hP]
  | true =>
    simp only [Bool.true_and]
    cases q1 : rightN table with
    | false => rw [q1] at hNt; simp (maxSteps := 8000000) [Fn.f_ddltext_Can, dV, hfl, hP, hNt]
    | true =>
      rw [q1] at hNt
      simp only [Bool.true_and, canTail]
      have hN2 := fun t m => names_one u column t j (by omega) m
      simp (maxSteps := 8000000) [Fn.f_ddltext_Can, dV, hfl, hP, hNt, hN2]
theorem ddl_Can_6 (u : C10 E) (table column to key : List UInt8) (kind max : Int) (null : Bool) (dk dn : Int) (ds : List UInt8) {sl : PV} {rows : List (Int × Col)} (ha : SlQ sl rows) (hd : smallD ⟨(6 : Int), table, column, to, key, kind, max, null, dk, dn, ds, []⟩) (hs : ∀ c ∈ rows, smallC c.2) (hl : (rows.length : Int) ≤ 1000000000) (k : Nat) (hk : rows.length + ds.length + 4500 ≤ k) (m : Mem) :
    denF E (k + 1) 244 [.p (.agg (dV ⟨(6 : Int), table, column, to, key, kind, max, null, dk, dn, ds, []⟩ sl))] m = some (.ret (.p (.bool (canQ ⟨(6 : Int), table, column, to, key, kind, max, null, dk, dn, ds, []⟩ rows))), m) := by
  refine denF_wp u.can rfl (args' := [.p (.agg (dV ⟨(6 : Int), table, column, to, key, kind, max, null, dk, dn, ds, []⟩ sl))]) rfl ?_
  obtain ⟨j, rfl⟩ : ∃ j, k = j + 1 := ⟨k - 1, by omega⟩
  have hfl := ha.flat
  unfold PV.flat at hfl
  have hP := fun m => ddl_Plain u.p ⟨(6 : Int), table, column, to, key, kind, max, null, dk, dn, ds, []⟩ ha hl j (by omega) m
  unfold dV at hP
  simp only at hP
  obtain ⟨h6, h5⟩ := hd
  simp only at h5 h6
  have hNt := fun t m => names_one u table t j (by omega) m
  unfold canQ
  generalize plainQ ⟨(6 : Int), table, column, to, key, kind, max, null, dk, dn, ds, []⟩ rows = pq at *
  cases pq with
  | false => simp (maxSteps := 8000000) [Fn.f_ddltext_Can, dV, hfl, hP]
  | true =>
    simp only [Bool.true_and]
    cases q1 : rightN table with
    | false => rw [q1] at hNt; simp (maxSteps := 8000000) [Fn.f_ddltext_Can, dV, hfl, hP, hNt]
    | true =>
      rw [q1] at hNt
      simp only [Bool.true_and, canTail]
      have hN2 := fun t m => names_two u column to t j (by omega) m
      simp (maxSteps := 8000000) [Fn.f_ddltext_Can, dV, hfl, hP, hNt, hN2]
theorem ddl_Can_7 (u : C10 E) (table column to key : List UInt8) (kind max : Int) (null : Bool) (dk dn : Int) (ds : List UInt8) {sl : PV} {rows : List (Int × Col)} (ha : SlQ sl rows) (hd : smallD ⟨(7 : Int), table, column, to, key, kind, max, null, dk, dn, ds, []⟩) (hs : ∀ c ∈ rows, smallC c.2) (hl : (rows.length : Int) ≤ 1000000000) (k : Nat) (hk : rows.length + ds.length + 4500 ≤ k) (m : Mem) :
    denF E (k + 1) 244 [.p (.agg (dV ⟨(7 : Int), table, column, to, key, kind, max, null, dk, dn, ds, []⟩ sl))] m = some (.ret (.p (.bool (canQ ⟨(7 : Int), table, column, to, key, kind, max, null, dk, dn, ds, []⟩ rows))), m) := by
  refine denF_wp u.can rfl (args' := [.p (.agg (dV ⟨(7 : Int), table, column, to, key, kind, max, null, dk, dn, ds, []⟩ sl))]) rfl ?_
  obtain ⟨j, rfl⟩ : ∃ j, k = j + 1 := ⟨k - 1, by omega⟩
  have hfl := ha.flat
  unfold PV.flat at hfl
  have hP := fun m => ddl_Plain u.p ⟨(7 : Int), table, column, to, key, kind, max, null, dk, dn, ds, []⟩ ha hl j (by omega) m
  unfold dV at hP
  simp only at hP
  obtain ⟨h6, h5⟩ := hd
  simp only at h5 h6
  have hNt := fun t m => names_one u table t j (by omega) m
  unfold canQ
  generalize plainQ ⟨(7 : Int), table, column, to, key, kind, max, null, dk, dn, ds, []⟩ rows = pq at *
  cases pq with
  | false => simp (maxSteps := 8000000) [Fn.f_ddltext_Can, dV, hfl, hP]
  | true =>
    simp only [Bool.true_and]
    cases q1 : rightN table with
    | false => rw [q1] at hNt; simp (maxSteps := 8000000) [Fn.f_ddltext_Can, dV, hfl, hP, hNt]
    | true =>
      rw [q1] at hNt
      simp only [Bool.true_and, canTail]
      have hN2 := fun t m => names_one u column t j (by omega) m
      have hT := fun m => typ_Right u.tRight j kind max m
      unfold tP at hT
      cases q2 : rightN column with
      | false => rw [q2] at hN2; simp (maxSteps := 8000000) [Fn.f_ddltext_Can, dV, hfl, hP, hNt, hN2]
      | true => rw [q2] at hN2; simp (maxSteps := 8000000) [Fn.f_ddltext_Can, dV, hfl, hP, hNt, hN2, hT]
theorem ddl_Can_8 (u : C10 E) (table column to key : List UInt8) (kind max : Int) (null : Bool) (dk dn : Int) (ds : List UInt8) {sl : PV} {rows : List (Int × Col)} (ha : SlQ sl rows) (hd : smallD ⟨(8 : Int), table, column, to, key, kind, max, null, dk, dn, ds, []⟩) (hs : ∀ c ∈ rows, smallC c.2) (hl : (rows.length : Int) ≤ 1000000000) (k : Nat) (hk : rows.length + ds.length + 4500 ≤ k) (m : Mem) :
    denF E (k + 1) 244 [.p (.agg (dV ⟨(8 : Int), table, column, to, key, kind, max, null, dk, dn, ds, []⟩ sl))] m = some (.ret (.p (.bool (canQ ⟨(8 : Int), table, column, to, key, kind, max, null, dk, dn, ds, []⟩ rows))), m) := by
  refine denF_wp u.can rfl (args' := [.p (.agg (dV ⟨(8 : Int), table, column, to, key, kind, max, null, dk, dn, ds, []⟩ sl))]) rfl ?_
  obtain ⟨j, rfl⟩ : ∃ j, k = j + 1 := ⟨k - 1, by omega⟩
  have hfl := ha.flat
  unfold PV.flat at hfl
  have hP := fun m => ddl_Plain u.p ⟨(8 : Int), table, column, to, key, kind, max, null, dk, dn, ds, []⟩ ha hl j (by omega) m
  unfold dV at hP
  simp only at hP
  obtain ⟨h6, h5⟩ := hd
  simp only at h5 h6
  have hNt := fun t m => names_one u table t j (by omega) m
  unfold canQ
  generalize plainQ ⟨(8 : Int), table, column, to, key, kind, max, null, dk, dn, ds, []⟩ rows = pq at *
  cases pq with
  | false => simp (maxSteps := 8000000) [Fn.f_ddltext_Can, dV, hfl, hP]
  | true =>
    simp only [Bool.true_and]
    cases q1 : rightN table with
    | false => rw [q1] at hNt; simp (maxSteps := 8000000) [Fn.f_ddltext_Can, dV, hfl, hP, hNt]
    | true =>
      rw [q1] at hNt
      simp only [Bool.true_and, canTail]
      have hN2 := fun t m => names_one u column t j (by omega) m
      have hV := fun m => value_RightL u.v dk dn ds h6 h5 j (by omega) m
      unfold vP at hV
      cases q2 : rightN column with
      | false => rw [q2] at hN2; simp (maxSteps := 8000000) [Fn.f_ddltext_Can, dV, hfl, hP, hNt, hN2]
      | true => rw [q2] at hN2; simp (maxSteps := 8000000) [Fn.f_ddltext_Can, dV, hfl, hP, hNt, hN2, hV]
theorem ddl_Can (u : C10 E) (d : Ddl) {sl : PV} {rows : List (Int × Col)} (ha : SlQ sl rows) (hd : smallD d) (hs : ∀ c ∈ rows, smallC c.2) (hl : (rows.length : Int) ≤ 1000000000) (k : Nat) (hk : rows.length + d.ds.length + 4500 ≤ k) (m : Mem) :
    denF E (k + 1) 244 [.p (.agg (dV d sl))] m = some (.ret (.p (.bool (canQ d rows))), m) := by
  obtain ⟨op, table, column, to, key, kind, max, null, dk, dn, ds, cols⟩ := d
  have e1 : dV ⟨op, table, column, to, key, kind, max, null, dk, dn, ds, cols⟩ sl = dV ⟨op, table, column, to, key, kind, max, null, dk, dn, ds, []⟩ sl := rfl
  rw [e1, canQ_bare]
  have hd' : smallD ⟨op, table, column, to, key, kind, max, null, dk, dn, ds, []⟩ := hd
  by_cases hop : 1 ≤ op ∧ op ≤ 8
  · rcases (by omega : op = 1 ∨ op = 2 ∨ op = 3 ∨ op = 4 ∨ op = 5 ∨ op = 6 ∨ op = 7 ∨ op = 8) with rfl | rfl | rfl | rfl | rfl | rfl | rfl | rfl
    · exact ddl_Can_1 u table column to key kind max null dk dn ds ha hd' hs hl k hk m
    · exact ddl_Can_2 u table column to key kind max null dk dn ds ha hd' hs hl k hk m
    · exact ddl_Can_3 u table column to key kind max null dk dn ds ha hd' hs hl k hk m
    · exact ddl_Can_4 u table column to key kind max null dk dn ds ha hd' hs hl k hk m
    · exact ddl_Can_5 u table column to key kind max null dk dn ds ha hd' hs hl k hk m
    · exact ddl_Can_6 u table column to key kind max null dk dn ds ha hd' hs hl k hk m
    · exact ddl_Can_7 u table column to key kind max null dk dn ds ha hd' hs hl k hk m
    · exact ddl_Can_8 u table column to key kind max null dk dn ds ha hd' hs hl k hk m
  · have hP := fun m => ddl_Plain u.p ⟨op, table, column, to, key, kind, max, null, dk, dn, ds, []⟩ ha hl (k - 1) (by omega) m
    have hPQ : plainQ ⟨op, table, column, to, key, kind, max, null, dk, dn, ds, []⟩ rows = false := by unfold plainQ; simp only [decide_eq_false hop, Bool.false_and]
    have hfl := ha.flat
    unfold PV.flat at hfl
    obtain ⟨j, rfl⟩ : ∃ j, k = j + 1 := ⟨k - 1, by omega⟩
    simp only [Nat.add_sub_cancel] at hP
    unfold canQ
    rw [hPQ] at hP ⊢
    refine denF_wp u.can rfl (args' := [.p (.agg (dV ⟨op, table, column, to, key, kind, max, null, dk, dn, ds, []⟩ sl))]) rfl ?_
    unfold dV at hP
    simp (maxSteps := 8000000) [Fn.f_ddltext_Can, dV, hfl, hP]
end Hx
