/-
  HxP10a: whether a change has nothing that her op doesn't have (the program's).
-/
import Derived.Test.YtifcegbomagcpaaDoorHxQ10a
import Derived.Test.YtifcegbomagcpaaDoorHxU10z
namespace Hx
open Go
set_option linter.unusedSimpArgs false
set_option linter.unusedVariables false
set_option maxHeartbeats 32000000
set_option maxRecDepth 20000
variable {E : Env}
attribute [-simp] List.getD_eq_getElem?_getD getElem?_pos
def hdP (d : Ddl) : List PV := [.int .i64 d.op, .str d.table, .str d.column, .str d.to, .str d.key, .int .i64 d.kind, .int .i64 d.max, .bool d.null, .int .i64 d.dk, .int .i64 d.dn, .str d.ds]
theorem SlQ.flat {sl : PV} {rows : List (Int × Col)} (h : SlQ sl rows) : sl.flat = true := by rcases h with ⟨_, rfl⟩ | rfl <;> rfl
theorem ddl_flat (h : E.fn 192 = some Fn.f_ddl_flat) (d : Ddl) {sl : PV} (hf : sl.flat = true) (k : Nat) (m : Mem) : denF E (k + 1) 192 [.p (.agg (dV d sl))] m = some (.ret (.p (.agg (hdP d))), m) := by
  refine denF_wp h rfl (args' := [.p (.agg (dV d sl))]) rfl ?_
  unfold PV.flat at hf
  simp (maxSteps := 4000000) [Fn.f_ddl_flat, dV, hdP, hf]
def eqKey (d : Ddl) : Bool := sameH d { op := 0 }
theorem eq_key (d : Ddl) : eqTree (.struct [(0, 1, .int), (1, 1, .str), (2, 1, .str), (3, 1, .str), (4, 1, .str), (5, 2, (.struct [(0, 1, .int), (1, 1, .int)])), (7, 1, .bool), (8, 3, (.struct [(0, 1, .int), (1, 1, .int), (2, 1, .str)]))])
    (.agg [.int .i64 d.op, .str d.table, .str d.column, .str d.to, .str d.key, .int .i64 d.kind, .int .i64 d.max, .bool d.null, .int .i64 d.dk, .int .i64 d.dn, .str d.ds]) (.agg [.int .i64 0, .str [], .str [], .str [], .str [], .int .i64 0, .int .i64 0, .bool false, .int .i64 0, .int .i64 0, .str []]) = some (eqKey d) := by
  simp [eqTree, eqFs, partP, EqT.agg, eqKey, sameH]
def idsZ (rows : List (Int × Col)) : Bool := rows.all fun c => c.1 == 0
theorem idsZ_step {rows : List (Int × Col)} {i : Nat} {x : Int × Col} (hx : rows[i]? = some x) : idsZ (rows.drop i) = (x.1 == 0 && idsZ (rows.drop (i + 1))) := by
  obtain ⟨h1, h2⟩ := List.getElem?_eq_some_iff.1 hx
  rw [List.drop_eq_getElem_cons h1, h2]
  rfl
theorem plain_loop (call : Caller) {sl : PV} {rows : List (Int × Col)} (ha : SlQ sl rows) (hl : (rows.length : Int) ≤ 1000000000) (base : Mem) (k : Nat) (hk : rows.length + 3 ≤ k) (st : St)
    (h0 : Live Fn.f_ddl_Plain_k0 (Fn.f_ddl_Plain_s0 (.ptr 1 0) (.p sl) (.p (.int .i64 rows.length)) (.p (.int .i64 0))) base st) :
    Wp (iter (loopF E call k Fn.f_ddl_Plain_k0 Fn.f_ddl_Plain_b0) k st) (fun e st => st.ds = [] ∧ st.ts.length = 64 ∧ ((e = .exit 10 ∧ idsZ rows = true ∧ st.ts.getD 3 (.tup []) = .ptr 1 0 ∧ ∃ x, st.m = base ++ x) ∨ (e = .ret ∧ idsZ rows = false ∧ st.ts.getD 2 (.tup []) = .p (.bool false)))) := by
  refine loop_wp (α := Nat) (I := fun i st => i ≤ rows.length ∧ idsZ (rows.drop i) = idsZ rows ∧ ∃ x, Live Fn.f_ddl_Plain_k0 (Fn.f_ddl_Plain_s0 (.ptr 1 0) (.p sl) (.p (.int .i64 rows.length)) (.p (.int .i64 i))) (base ++ x) st) (meas := fun i => rows.length - i) ?_ k 0 _ ⟨Nat.zero_le _, rfl, [], by rw [List.append_nil]; exact h0⟩ (by omega)
  rintro i st ⟨hi, hs, x, hlive⟩
  rw [loopF_live hlive]
  by_cases hlt : i < rows.length
  · have hlt' : (i : Int) < rows.length := by omega
    obtain ⟨c, hc⟩ : ∃ c, rows[i]? = some c := ⟨_, List.getElem?_eq_getElem hlt⟩
    rw [idsZ_step hc] at hs
    have hw : IntKind.i64.wrap ((i : Int) + 1) = ((i + 1 : Nat) : Int) := by rw [wrap_i64 (by omega) (by omega)]; omega
    rcases ha with ⟨rfl, rfl⟩ | rfl
    · simp at hlt
    have g : ∀ b : Blk, (base ++ (x ++ [b]))[base.length + x.length]? = some b := fun b => by
      rw [List.getElem?_append_right (by omega), Nat.add_sub_cancel_left, List.getElem?_append_right (Nat.le_refl _), Nat.sub_self]; rfl
    have s : ∀ b c : Blk, (base ++ (x ++ [b])).set (base.length + x.length) c = base ++ (x ++ [c]) := fun b c => by
      rw [List.set_append_right _ _ (by omega), Nat.add_sub_cancel_left, List.set_append_right _ _ (Nat.le_refl _), Nat.sub_self]; rfl
    cases hq : (c.1 == 0) with
    | false =>
      rw [hq, Bool.false_and] at hs
      simp [Fn.f_ddl_Plain_b0, Fn.f_ddl_Plain_s0, hlt, hlt', hc, colQ, g, s, hq, bne, hs.symm]
    | true =>
      rw [hq, Bool.true_and] at hs
      simp [Fn.f_ddl_Plain_b0, Fn.f_ddl_Plain_s0, hlt, hlt', hc, colQ, g, s, hq, bne, hw, -Int.natCast_add]
      exact ⟨i + 1, by omega, hlt, hs, _, rfl, rfl, rfl, rfl⟩
  · have hlt' : ¬ (i : Int) < rows.length := by omega
    have e1 : rows.drop i = [] := List.drop_eq_nil_of_le (by omega)
    rw [e1] at hs
    have hs' : idsZ rows = true := hs.symm
    simp [Fn.f_ddl_Plain_b0, Fn.f_ddl_Plain_s0, hlt', hs']
structure C09 (E : Env) : Prop where
  l : L09 E
  flat : E.fn 192 = some Fn.f_ddl_flat
  plain : E.fn 266 = some Fn.f_ddl_Plain
theorem ddl_Plain (u : C09 E) (d : Ddl) {sl : PV} {rows : List (Int × Col)} (ha : SlQ sl rows) (hl : (rows.length : Int) ≤ 1000000000) (k : Nat) (hk : rows.length + 10 ≤ k) (m : Mem) :
    denF E (k + 1) 266 [.p (.agg (dV d sl))] m = some (.ret (.p (.bool (plainQ d rows))), m) := by
  refine denF_wp u.plain rfl (args' := [.p (.agg (dV d sl))]) rfl ?_
  obtain ⟨j, rfl⟩ : ∃ j, k = j + 1 := ⟨k - 1, by omega⟩
  have hF := fun m => ddl_flat u.flat d ha.flat j m
  have hfl := ha.flat
  unfold PV.flat at hfl
  obtain ⟨op, table, column, to, key, kind, max, null, dk, dn, ds, cols⟩ := d
  unfold dV hdP at hF
  simp only at hF
  by_cases hop : ¬ (1 ≤ op ∧ op ≤ 8)
  · have hP : plainQ ⟨op, table, column, to, key, kind, max, null, dk, dn, ds, cols⟩ rows = false := by unfold plainQ; simp only [decide_eq_false hop, Bool.false_and]
    rw [hP]
    have b : ∀ i : Int, 1 ≤ i → i ≤ 8 → (op == i) = false := fun i h1 h2 => by simp; omega
    simp (maxSteps := 8000000) [Fn.f_ddl_Plain, dV, hdP, hfl, hF, b]
  have hop := Decidable.not_not.1 hop
  have hne : rows ≠ [] → ((rows.length : Int) == 0) = false := fun h => by simpa using h
  rcases (by omega : op = 1 ∨ op = 2 ∨ op = 3 ∨ op = 4 ∨ op = 5 ∨ op = 6 ∨ op = 7 ∨ op = 8) with rfl | rfl | rfl | rfl | rfl | rfl | rfl | rfl
  · have hP : plainQ ⟨(1 : Int), table, column, to, key, kind, max, null, dk, dn, ds, cols⟩ rows = (idsZ rows && eqKey ⟨0, [], column, to, [], kind, max, null, dk, dn, ds, []⟩) := by
      simp [plainQ, keepOf, sameH, eqKey, idsZ]
    have hK := eq_key ⟨0, [], column, to, [], kind, max, null, dk, dn, ds, []⟩
    simp only at hK
    rw [hP]
    generalize eqKey ⟨0, [], column, to, [], kind, max, null, dk, dn, ds, []⟩ = ek at *
    have hmain := plain_loop (E := E) (denF E (j + 1)) ha hl [.cells [.p (.int .i64 1), .p (.str table), .p (.str column), .p (.str to), .p (.str key), .p (.int .i64 kind), .p (.int .i64 max), .p (.bool null), .p (.int .i64 dk), .p (.int .i64 dn), .p (.str ds), .p sl],
      .cells [.p (.int .i64 0), .p (.str []), .p (.str column), .p (.str to), .p (.str key), .p (.int .i64 kind), .p (.int .i64 max), .p (.bool null), .p (.int .i64 dk), .p (.int .i64 dn), .p (.str ds)]] (j + 1) (by omega)
    rcases ha with ⟨rfl, rfl⟩ | rfl
    all_goals
      simp (maxSteps := 8000000) [Fn.f_ddl_Plain, dV, hdP, hF]
      refine (hmain _ ⟨rfl, rfl, rfl, rfl⟩).mono ?_
      rintro e st ⟨hds, hlen, ⟨rfl, hz, h3, x, hm⟩ | ⟨rfl, hz, h2⟩⟩
      · obtain ⟨ts, m', ds'⟩ := st
        simp only at hds hlen h3 hm
        subst hds hm
        have hx : ts = [ts.getD 0 (.tup []), ts.getD 1 (.tup []), ts.getD 2 (.tup []), ts.getD 3 (.tup []), ts.getD 4 (.tup []), ts.getD 5 (.tup []), ts.getD 6 (.tup []), ts.getD 7 (.tup []), ts.getD 8 (.tup []), ts.getD 9 (.tup []), ts.getD 10 (.tup []), ts.getD 11 (.tup []), ts.getD 12 (.tup []), ts.getD 13 (.tup []), ts.getD 14 (.tup []), ts.getD 15 (.tup []), ts.getD 16 (.tup []), ts.getD 17 (.tup []), ts.getD 18 (.tup []), ts.getD 19 (.tup []), ts.getD 20 (.tup []), ts.getD 21 (.tup []), ts.getD 22 (.tup []), ts.getD 23 (.tup []), ts.getD 24 (.tup []), ts.getD 25 (.tup []), ts.getD 26 (.tup []), ts.getD 27 (.tup []), ts.getD 28 (.tup []), ts.getD 29 (.tup []), ts.getD 30 (.tup []), ts.getD 31 (.tup []), ts.getD 32 (.tup []), ts.getD 33 (.tup []), ts.getD 34 (.tup []), ts.getD 35 (.tup []), ts.getD 36 (.tup []), ts.getD 37 (.tup []), ts.getD 38 (.tup []), ts.getD 39 (.tup []), ts.getD 40 (.tup []), ts.getD 41 (.tup []), ts.getD 42 (.tup []), ts.getD 43 (.tup []), ts.getD 44 (.tup []), ts.getD 45 (.tup []), ts.getD 46 (.tup []), ts.getD 47 (.tup []), ts.getD 48 (.tup []), ts.getD 49 (.tup []), ts.getD 50 (.tup []), ts.getD 51 (.tup []), ts.getD 52 (.tup []), ts.getD 53 (.tup []), ts.getD 54 (.tup []), ts.getD 55 (.tup []), ts.getD 56 (.tup []), ts.getD 57 (.tup []), ts.getD 58 (.tup []), ts.getD 59 (.tup []), ts.getD 60 (.tup []), ts.getD 61 (.tup []), ts.getD 62 (.tup []), ts.getD 63 (.tup [])] := expand_ts 64 ts hlen
        rw [hx]
        simp (maxSteps := 8000000) [h3, hz, hK]
      · simp (maxSteps := 8000000) [hds, h2, hz]
  · have hP : plainQ ⟨(2 : Int), table, column, to, key, kind, max, null, dk, dn, ds, cols⟩ rows = (rows.isEmpty && eqKey ⟨0, [], column, to, key, kind, max, null, dk, dn, ds, []⟩) := by
      simp [plainQ, keepOf, sameH, eqKey]
    have hK := eq_key ⟨0, [], column, to, key, kind, max, null, dk, dn, ds, []⟩
    simp only at hK
    rw [hP]
    generalize eqKey ⟨0, [], column, to, key, kind, max, null, dk, dn, ds, []⟩ = ek at *
    rcases ha with ⟨rfl, rfl⟩ | rfl
    · simp (maxSteps := 8000000) [Fn.f_ddl_Plain, dV, hdP, hF, hK]
    · cases rows with
      | nil => simp only [List.map_nil] at hF; simp (maxSteps := 8000000) [Fn.f_ddl_Plain, dV, hdP, hF, hK]
      | cons a l =>
        simp only [List.map_cons] at hF
        have hb := hne (by simp)
        have hb' : ((l.length : Int) + 1 == 0) = false := by simp; omega
        simp (maxSteps := 8000000) [Fn.f_ddl_Plain, dV, hdP, hF, hK, hb']
  · have hP : plainQ ⟨(3 : Int), table, column, to, key, kind, max, null, dk, dn, ds, cols⟩ rows = (rows.isEmpty && eqKey ⟨0, [], column, [], key, kind, max, null, dk, dn, ds, []⟩) := by
      simp [plainQ, keepOf, sameH, eqKey]
    have hK := eq_key ⟨0, [], column, [], key, kind, max, null, dk, dn, ds, []⟩
    simp only at hK
    rw [hP]
    generalize eqKey ⟨0, [], column, [], key, kind, max, null, dk, dn, ds, []⟩ = ek at *
    rcases ha with ⟨rfl, rfl⟩ | rfl
    · simp (maxSteps := 8000000) [Fn.f_ddl_Plain, dV, hdP, hF, hK]
    · cases rows with
      | nil => simp only [List.map_nil] at hF; simp (maxSteps := 8000000) [Fn.f_ddl_Plain, dV, hdP, hF, hK]
      | cons a l =>
        simp only [List.map_cons] at hF
        have hb := hne (by simp)
        have hb' : ((l.length : Int) + 1 == 0) = false := by simp; omega
        simp (maxSteps := 8000000) [Fn.f_ddl_Plain, dV, hdP, hF, hK, hb']
  · have hP : plainQ ⟨(4 : Int), table, column, to, key, kind, max, null, dk, dn, ds, cols⟩ rows = (rows.isEmpty && eqKey ⟨0, [], [], to, key, 0, 0, false, 0, 0, [], []⟩) := by
      simp [plainQ, keepOf, sameH, eqKey]
    have hK := eq_key ⟨0, [], [], to, key, 0, 0, false, 0, 0, [], []⟩
    simp only at hK
    rw [hP]
    generalize eqKey ⟨0, [], [], to, key, 0, 0, false, 0, 0, [], []⟩ = ek at *
    rcases ha with ⟨rfl, rfl⟩ | rfl
    · simp (maxSteps := 8000000) [Fn.f_ddl_Plain, dV, hdP, hF, hK]
    · cases rows with
      | nil => simp only [List.map_nil] at hF; simp (maxSteps := 8000000) [Fn.f_ddl_Plain, dV, hdP, hF, hK]
      | cons a l =>
        simp only [List.map_cons] at hF
        have hb := hne (by simp)
        have hb' : ((l.length : Int) + 1 == 0) = false := by simp; omega
        simp (maxSteps := 8000000) [Fn.f_ddl_Plain, dV, hdP, hF, hK, hb']
  · have hP : plainQ ⟨(5 : Int), table, column, to, key, kind, max, null, dk, dn, ds, cols⟩ rows = (rows.isEmpty && eqKey ⟨0, [], [], to, key, kind, max, null, dk, dn, ds, []⟩) := by
      simp [plainQ, keepOf, sameH, eqKey]
    have hK := eq_key ⟨0, [], [], to, key, kind, max, null, dk, dn, ds, []⟩
    simp only at hK
    rw [hP]
    generalize eqKey ⟨0, [], [], to, key, kind, max, null, dk, dn, ds, []⟩ = ek at *
    rcases ha with ⟨rfl, rfl⟩ | rfl
    · simp (maxSteps := 8000000) [Fn.f_ddl_Plain, dV, hdP, hF, hK]
    · cases rows with
      | nil => simp only [List.map_nil] at hF; simp (maxSteps := 8000000) [Fn.f_ddl_Plain, dV, hdP, hF, hK]
      | cons a l =>
        simp only [List.map_cons] at hF
        have hb := hne (by simp)
        have hb' : ((l.length : Int) + 1 == 0) = false := by simp; omega
        simp (maxSteps := 8000000) [Fn.f_ddl_Plain, dV, hdP, hF, hK, hb']
  · have hP : plainQ ⟨(6 : Int), table, column, to, key, kind, max, null, dk, dn, ds, cols⟩ rows = (rows.isEmpty && eqKey ⟨0, [], [], [], key, kind, max, null, dk, dn, ds, []⟩) := by
      simp [plainQ, keepOf, sameH, eqKey]
    have hK := eq_key ⟨0, [], [], [], key, kind, max, null, dk, dn, ds, []⟩
    simp only at hK
    rw [hP]
    generalize eqKey ⟨0, [], [], [], key, kind, max, null, dk, dn, ds, []⟩ = ek at *
    rcases ha with ⟨rfl, rfl⟩ | rfl
    · simp (maxSteps := 8000000) [Fn.f_ddl_Plain, dV, hdP, hF, hK]
    · cases rows with
      | nil => simp only [List.map_nil] at hF; simp (maxSteps := 8000000) [Fn.f_ddl_Plain, dV, hdP, hF, hK]
      | cons a l =>
        simp only [List.map_cons] at hF
        have hb := hne (by simp)
        have hb' : ((l.length : Int) + 1 == 0) = false := by simp; omega
        simp (maxSteps := 8000000) [Fn.f_ddl_Plain, dV, hdP, hF, hK, hb']
  · have hP : plainQ ⟨(7 : Int), table, column, to, key, kind, max, null, dk, dn, ds, cols⟩ rows = (rows.isEmpty && eqKey ⟨0, [], [], to, key, 0, 0, null, dk, dn, ds, []⟩) := by
      simp [plainQ, keepOf, sameH, eqKey]
    have hK := eq_key ⟨0, [], [], to, key, 0, 0, null, dk, dn, ds, []⟩
    simp only at hK
    rw [hP]
    generalize eqKey ⟨0, [], [], to, key, 0, 0, null, dk, dn, ds, []⟩ = ek at *
    rcases ha with ⟨rfl, rfl⟩ | rfl
    · simp (maxSteps := 8000000) [Fn.f_ddl_Plain, dV, hdP, hF, hK]
    · cases rows with
      | nil => simp only [List.map_nil] at hF; simp (maxSteps := 8000000) [Fn.f_ddl_Plain, dV, hdP, hF, hK]
      | cons a l =>
        simp only [List.map_cons] at hF
        have hb := hne (by simp)
        have hb' : ((l.length : Int) + 1 == 0) = false := by simp; omega
        simp (maxSteps := 8000000) [Fn.f_ddl_Plain, dV, hdP, hF, hK, hb']
  · have hP : plainQ ⟨(8 : Int), table, column, to, key, kind, max, null, dk, dn, ds, cols⟩ rows = (rows.isEmpty && eqKey ⟨0, [], [], to, key, kind, max, null, 0, 0, [], []⟩) := by
      simp [plainQ, keepOf, sameH, eqKey]
    have hK := eq_key ⟨0, [], [], to, key, kind, max, null, 0, 0, [], []⟩
    simp only at hK
    rw [hP]
    generalize eqKey ⟨0, [], [], to, key, kind, max, null, 0, 0, [], []⟩ = ek at *
    rcases ha with ⟨rfl, rfl⟩ | rfl
    · simp (maxSteps := 8000000) [Fn.f_ddl_Plain, dV, hdP, hF, hK]
    · cases rows with
      | nil => simp only [List.map_nil] at hF; simp (maxSteps := 8000000) [Fn.f_ddl_Plain, dV, hdP, hF, hK]
      | cons a l =>
        simp only [List.map_cons] at hF
        have hb := hne (by simp)
        have hb' : ((l.length : Int) + 1 == 0) = false := by simp; omega
        simp (maxSteps := 8000000) [Fn.f_ddl_Plain, dV, hdP, hF, hK, hb']
end Hx
