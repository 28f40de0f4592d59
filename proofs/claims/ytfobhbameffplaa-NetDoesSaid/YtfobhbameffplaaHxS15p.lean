/-
  HxS15p: which changes of the tables are plain, as the document says (see HxP10c).
-/
import Derived.Test.YtfobhbameffplaaHxS15b
import Derived.Test.YtfobhbameffplaaHxFn10b
namespace Hx
open Go
set_option linter.unusedSimpArgs false
set_option linter.unusedVariables false
set_option maxHeartbeats 32000000
set_option maxRecDepth 20000
variable {E : Env}
attribute [-simp] List.getD_eq_getElem?_getD getElem?_pos
structure P15 (E : Env) : Prop where
  l : L09 E
  plain : E.fn 194 = some Fn.f_haulageref09_Plain
def idsZ (rows : List (Int × Col)) : Bool := rows.all fun c => c.1 == 0
theorem idsZ_step {rows : List (Int × Col)} {i : Nat} {x : Int × Col} (hx : rows[i]? = some x) : idsZ (rows.drop i) = (x.1 == 0 && idsZ (rows.drop (i + 1))) := by
  obtain ⟨h1, h2⟩ := List.getElem?_eq_some_iff.1 hx
  rw [List.drop_eq_getElem_cons h1, h2]
  rfl
def keepOf (d : Ddl) : Ddl :=
  if d.op = 1 then { op := 1, table := d.table, key := d.key } else if d.op = 2 then { op := 2, table := d.table } else if d.op = 3 then { op := 3, table := d.table, to := d.to }
  else if d.op = 4 then { op := 4, table := d.table, column := d.column, kind := d.kind, max := d.max, null := d.null, dk := d.dk, dn := d.dn, ds := d.ds }
  else if d.op = 5 then { op := 5, table := d.table, column := d.column } else if d.op = 6 then { op := 6, table := d.table, column := d.column, to := d.to }
  else if d.op = 7 then { op := 7, table := d.table, column := d.column, kind := d.kind, max := d.max } else { op := 8, table := d.table, column := d.column, dk := d.dk, dn := d.dn, ds := d.ds }
theorem sameH_comm (a b : Ddl) : sameH a b = sameH b a := by
  unfold sameH
  simp only [Bool.beq_comm (a := a.op), Bool.beq_comm (a := a.table), Bool.beq_comm (a := a.column), Bool.beq_comm (a := a.to), Bool.beq_comm (a := a.key), Bool.beq_comm (a := a.kind), Bool.beq_comm (a := a.max), Bool.beq_comm (a := a.null), Bool.beq_comm (a := a.dk), Bool.beq_comm (a := a.dn), Bool.beq_comm (a := a.ds)]
def plainQ (d : Ddl) (rows : List (Int × Col)) : Bool := decide (1 ≤ d.op ∧ d.op ≤ 8) && ((if d.op = 1 then rows.all fun c => c.1 == 0 else rows.isEmpty) && sameH d (keepOf d))
theorem rplain_loop (call : Caller) {sl : PV} {rows : List (Int × Col)} (ha : SlQ sl rows) (hl : (rows.length : Int) ≤ 1000000000) (a0 a1 a2 a3 a4 a5 a6 a7 a8 a9 a10 : AV) (b : Blk) (k : Nat) (hk : rows.length + 3 ≤ k) (st : St)
    (h0 : Live Fn.f_haulageref09_Plain_k0 (Fn.f_haulageref09_Plain_s0 (.ptr 0 0) (.ptr 1 0) (.p (.int .i64 0))) [.cells [a0, a1, a2, a3, a4, a5, a6, a7, a8, a9, a10, .p sl], b] st) :
    Wp (iter (loopF E call k Fn.f_haulageref09_Plain_k0 Fn.f_haulageref09_Plain_b0) k st) (fun e st => st.ds = [] ∧ st.ts.length = 87 ∧ ((e = .exit 1 ∧ idsZ rows = true ∧ st.ts.getD 1 (.tup []) = .ptr 0 0 ∧ st.ts.getD 3 (.tup []) = .ptr 1 0 ∧ st.m = [.cells [a0, a1, a2, a3, a4, a5, a6, a7, a8, a9, a10, .p sl], b]) ∨ (e = .ret ∧ idsZ rows = false ∧ st.ts.getD 2 (.tup []) = .p (.bool false)))) := by
  refine loop_wp (α := Nat) (I := fun i st => i ≤ rows.length ∧ idsZ (rows.drop i) = idsZ rows ∧ Live Fn.f_haulageref09_Plain_k0 (Fn.f_haulageref09_Plain_s0 (.ptr 0 0) (.ptr 1 0) (.p (.int .i64 i))) [.cells [a0, a1, a2, a3, a4, a5, a6, a7, a8, a9, a10, .p sl], b] st) (meas := fun i => rows.length - i) ?_ k 0 _ ⟨Nat.zero_le _, rfl, h0⟩ (by omega)
  rintro i st ⟨hi, hs, hlive⟩
  rw [loopF_live hlive]
  by_cases hlt : i < rows.length
  · have hlt' : (i : Int) < rows.length := by omega
    obtain ⟨c, hc⟩ : ∃ c, rows[i]? = some c := ⟨_, List.getElem?_eq_getElem hlt⟩
    rw [idsZ_step hc] at hs
    have hw : IntKind.i64.wrap ((i : Int) + 1) = ((i + 1 : Nat) : Int) := by rw [wrap_i64 (by omega) (by omega)]; omega
    rcases ha with ⟨rfl, rfl⟩ | rfl
    · simp at hlt
    cases hq : (c.1 == 0) with
    | false =>
      rw [hq, Bool.false_and] at hs
      simp [Fn.f_haulageref09_Plain_b0, Fn.f_haulageref09_Plain_s0, hlt, hlt', hc, colQ, hq, bne, hs.symm]
    | true =>
      rw [hq, Bool.true_and] at hs
      simp [Fn.f_haulageref09_Plain_b0, Fn.f_haulageref09_Plain_s0, hlt, hlt', hc, colQ, hq, bne, hw, -Int.natCast_add]
      exact ⟨i + 1, by omega, hlt, hs, rfl, rfl, rfl, rfl⟩
  · have hlt' : ¬ (i : Int) < rows.length := by omega
    have e1 : rows.drop i = [] := List.drop_eq_nil_of_le (by omega)
    rw [e1] at hs
    have hs' : idsZ rows = true := hs.symm
    rcases ha with ⟨rfl, rfl⟩ | rfl
    · obtain rfl : i = 0 := by simpa using hi
      simp [Fn.f_haulageref09_Plain_b0, Fn.f_haulageref09_Plain_s0, hs']
    · simp [Fn.f_haulageref09_Plain_b0, Fn.f_haulageref09_Plain_s0, hlt', hs']

theorem sameQs_nilL (rows : List (Int × Col)) : sameQs [] rows = rows.isEmpty := by cases rows <;> rfl
theorem ref_Plain_1 (u : P15 E) (table column to key : List UInt8) (kind max : Int) (null : Bool) (dk dn : Int) (ds : List UInt8) {sl : PV} {rows : List (Int × Col)} (ha : SlQ sl rows) (hl : (rows.length : Int) ≤ 1000000000) (k : Nat) (hk : rows.length + 10 ≤ k) (m : Mem) :
    denF E (k + 1) 194 [.p (.agg (dV ⟨1, table, column, to, key, kind, max, null, dk, dn, ds, []⟩ sl))] m = some (.ret (.p (.bool (plainQ ⟨1, table, column, to, key, kind, max, null, dk, dn, ds, []⟩ rows))), m) := by
  refine denF_wp u.plain rfl (args' := [.p (.agg (dV ⟨1, table, column, to, key, kind, max, null, dk, dn, ds, []⟩ sl))]) rfl ?_
  obtain ⟨j, rfl⟩ : ∃ j, k = j + 1 := ⟨k - 1, by omega⟩
  have hfl := ha.flat
  unfold PV.flat at hfl
  have hS := fun m => ref_Same u.l ⟨1, table, [], [], key, 0, 0, false, 0, 0, [], []⟩ ⟨1, table, column, to, key, kind, max, null, dk, dn, ds, []⟩ ha ha hl j (by omega) m
  rw [sameQs_self, Bool.and_true] at hS
  have hQ : plainQ ⟨1, table, column, to, key, kind, max, null, dk, dn, ds, []⟩ rows = (idsZ rows && sameH ⟨1, table, [], [], key, 0, 0, false, 0, 0, [], []⟩ ⟨1, table, column, to, key, kind, max, null, dk, dn, ds, []⟩) := by
    rw [sameH_comm]; simp [plainQ, keepOf, idsZ]
  rw [hQ]
  generalize sameH ⟨1, table, [], [], key, 0, 0, false, 0, 0, [], []⟩ ⟨1, table, column, to, key, kind, max, null, dk, dn, ds, []⟩ = sq at *
  unfold dV at hS
  simp only at hS
  have hmain := rplain_loop (E := E) (denF E (j + 1)) ha hl (.p (.int .i64 1)) (.p (.str table)) (.p (.str column)) (.p (.str to)) (.p (.str key)) (.p (.int .i64 kind)) (.p (.int .i64 max)) (.p (.bool null)) (.p (.int .i64 dk)) (.p (.int .i64 dn)) (.p (.str ds))
    (.cells [.p (.int .i64 1), .p (.str table), .p (.str []), .p (.str []), .p (.str key), .p (.int .i64 0), .p (.int .i64 0), .p (.bool false), .p (.int .i64 0), .p (.int .i64 0), .p (.str []), .p sl]) (j + 1) (by omega)
  rcases ha with ⟨rfl, rfl⟩ | rfl
  all_goals
    simp (maxSteps := 8000000) [Fn.f_haulageref09_Plain, dV]
    refine (hmain _ ⟨rfl, rfl, rfl, rfl⟩).mono ?_
    rintro e st ⟨hds, hlen, ⟨rfl, hz, h1, h3, hm⟩ | ⟨rfl, hz, h2⟩⟩
    · obtain ⟨ts, m', ds'⟩ := st
      simp only at hds hlen h1 h3 hm
      subst hds hm
      have hx : ts = [ts.getD 0 (.tup []), ts.getD 1 (.tup []), ts.getD 2 (.tup []), ts.getD 3 (.tup []), ts.getD 4 (.tup []), ts.getD 5 (.tup []), ts.getD 6 (.tup []), ts.getD 7 (.tup []), ts.getD 8 (.tup []), ts.getD 9 (.tup []), ts.getD 10 (.tup []), ts.getD 11 (.tup []), ts.getD 12 (.tup []), ts.getD 13 (.tup []), ts.getD 14 (.tup []), ts.getD 15 (.tup []), ts.getD 16 (.tup []), ts.getD 17 (.tup []), ts.getD 18 (.tup []), ts.getD 19 (.tup []), ts.getD 20 (.tup []), ts.getD 21 (.tup []), ts.getD 22 (.tup []), ts.getD 23 (.tup []), ts.getD 24 (.tup []), ts.getD 25 (.tup []), ts.getD 26 (.tup []), ts.getD 27 (.tup []), ts.getD 28 (.tup []), ts.getD 29 (.tup []), ts.getD 30 (.tup []), ts.getD 31 (.tup []), ts.getD 32 (.tup []), ts.getD 33 (.tup []), ts.getD 34 (.tup []), ts.getD 35 (.tup []), ts.getD 36 (.tup []), ts.getD 37 (.tup []), ts.getD 38 (.tup []), ts.getD 39 (.tup []), ts.getD 40 (.tup []), ts.getD 41 (.tup []), ts.getD 42 (.tup []), ts.getD 43 (.tup []), ts.getD 44 (.tup []), ts.getD 45 (.tup []), ts.getD 46 (.tup []), ts.getD 47 (.tup []), ts.getD 48 (.tup []), ts.getD 49 (.tup []), ts.getD 50 (.tup []), ts.getD 51 (.tup []), ts.getD 52 (.tup []), ts.getD 53 (.tup []), ts.getD 54 (.tup []), ts.getD 55 (.tup []), ts.getD 56 (.tup []), ts.getD 57 (.tup []), ts.getD 58 (.tup []), ts.getD 59 (.tup []), ts.getD 60 (.tup []), ts.getD 61 (.tup []), ts.getD 62 (.tup []), ts.getD 63 (.tup []), ts.getD 64 (.tup []), ts.getD 65 (.tup []), ts.getD 66 (.tup []), ts.getD 67 (.tup []), ts.getD 68 (.tup []), ts.getD 69 (.tup []), ts.getD 70 (.tup []), ts.getD 71 (.tup []), ts.getD 72 (.tup []), ts.getD 73 (.tup []), ts.getD 74 (.tup []), ts.getD 75 (.tup []), ts.getD 76 (.tup []), ts.getD 77 (.tup []), ts.getD 78 (.tup []), ts.getD 79 (.tup []), ts.getD 80 (.tup []), ts.getD 81 (.tup []), ts.getD 82 (.tup []), ts.getD 83 (.tup []), ts.getD 84 (.tup []), ts.getD 85 (.tup []), ts.getD 86 (.tup [])] := expand_ts 87 ts hlen
      rw [hx]
      simp (maxSteps := 8000000) [h1, h3, hz, hS]
    · simp (maxSteps := 8000000) [hds, h2, hz]
theorem ref_Plain_2 (u : P15 E) (table column to key : List UInt8) (kind max : Int) (null : Bool) (dk dn : Int) (ds : List UInt8) {sl : PV} {rows : List (Int × Col)} (ha : SlQ sl rows) (hl : (rows.length : Int) ≤ 1000000000) (k : Nat) (hk : rows.length + 10 ≤ k) (m : Mem) :
    denF E (k + 1) 194 [.p (.agg (dV ⟨2, table, column, to, key, kind, max, null, dk, dn, ds, []⟩ sl))] m = some (.ret (.p (.bool (plainQ ⟨2, table, column, to, key, kind, max, null, dk, dn, ds, []⟩ rows))), m) := by
  refine denF_wp u.plain rfl (args' := [.p (.agg (dV ⟨2, table, column, to, key, kind, max, null, dk, dn, ds, []⟩ sl))]) rfl ?_
  obtain ⟨j, rfl⟩ : ∃ j, k = j + 1 := ⟨k - 1, by omega⟩
  have hfl := ha.flat
  unfold PV.flat at hfl
  have hS := fun m => ref_Same u.l ⟨2, table, [], [], [], 0, 0, false, 0, 0, [], []⟩ ⟨2, table, column, to, key, kind, max, null, dk, dn, ds, []⟩ (a := []) (.inl ⟨rfl, rfl⟩) ha (by simp) j (by simp; omega) m
  rw [sameQs_nilL] at hS
  have hQ : plainQ ⟨2, table, column, to, key, kind, max, null, dk, dn, ds, []⟩ rows = (sameH ⟨2, table, [], [], [], 0, 0, false, 0, 0, [], []⟩ ⟨2, table, column, to, key, kind, max, null, dk, dn, ds, []⟩ && rows.isEmpty) := by
    rw [sameH_comm]; simp [plainQ, keepOf, Bool.and_comm]
  rw [hQ]
  generalize sameH ⟨2, table, [], [], [], 0, 0, false, 0, 0, [], []⟩ ⟨2, table, column, to, key, kind, max, null, dk, dn, ds, []⟩ = sq at *
  generalize rows.isEmpty = re at *
  unfold dV at hS
  simp only at hS
  simp (maxSteps := 8000000) [Fn.f_haulageref09_Plain, dV, hfl, hS]
theorem ref_Plain_3 (u : P15 E) (table column to key : List UInt8) (kind max : Int) (null : Bool) (dk dn : Int) (ds : List UInt8) {sl : PV} {rows : List (Int × Col)} (ha : SlQ sl rows) (hl : (rows.length : Int) ≤ 1000000000) (k : Nat) (hk : rows.length + 10 ≤ k) (m : Mem) :
    denF E (k + 1) 194 [.p (.agg (dV ⟨3, table, column, to, key, kind, max, null, dk, dn, ds, []⟩ sl))] m = some (.ret (.p (.bool (plainQ ⟨3, table, column, to, key, kind, max, null, dk, dn, ds, []⟩ rows))), m) := by
  refine denF_wp u.plain rfl (args' := [.p (.agg (dV ⟨3, table, column, to, key, kind, max, null, dk, dn, ds, []⟩ sl))]) rfl ?_
  obtain ⟨j, rfl⟩ : ∃ j, k = j + 1 := ⟨k - 1, by omega⟩
  have hfl := ha.flat
  unfold PV.flat at hfl
  have hS := fun m => ref_Same u.l ⟨3, table, [], to, [], 0, 0, false, 0, 0, [], []⟩ ⟨3, table, column, to, key, kind, max, null, dk, dn, ds, []⟩ (a := []) (.inl ⟨rfl, rfl⟩) ha (by simp) j (by simp; omega) m
  rw [sameQs_nilL] at hS
  have hQ : plainQ ⟨3, table, column, to, key, kind, max, null, dk, dn, ds, []⟩ rows = (sameH ⟨3, table, [], to, [], 0, 0, false, 0, 0, [], []⟩ ⟨3, table, column, to, key, kind, max, null, dk, dn, ds, []⟩ && rows.isEmpty) := by
    rw [sameH_comm]; simp [plainQ, keepOf, Bool.and_comm]
  rw [hQ]
  generalize sameH ⟨3, table, [], to, [], 0, 0, false, 0, 0, [], []⟩ ⟨3, table, column, to, key, kind, max, null, dk, dn, ds, []⟩ = sq at *
  generalize rows.isEmpty = re at *
  unfold dV at hS
  simp only at hS
  simp (maxSteps := 8000000) [Fn.f_haulageref09_Plain, dV, hfl, hS]
theorem ref_Plain_4 (u : P15 E) (table column to key : List UInt8) (kind max : Int) (null : Bool) (dk dn : Int) (ds : List UInt8) {sl : PV} {rows : List (Int × Col)} (ha : SlQ sl rows) (hl : (rows.length : Int) ≤ 1000000000) (k : Nat) (hk : rows.length + 10 ≤ k) (m : Mem) :
    denF E (k + 1) 194 [.p (.agg (dV ⟨4, table, column, to, key, kind, max, null, dk, dn, ds, []⟩ sl))] m = some (.ret (.p (.bool (plainQ ⟨4, table, column, to, key, kind, max, null, dk, dn, ds, []⟩ rows))), m) := by
  refine denF_wp u.plain rfl (args' := [.p (.agg (dV ⟨4, table, column, to, key, kind, max, null, dk, dn, ds, []⟩ sl))]) rfl ?_
  obtain ⟨j, rfl⟩ : ∃ j, k = j + 1 := ⟨k - 1, by omega⟩
  have hfl := ha.flat
  unfold PV.flat at hfl
  have hS := fun m => ref_Same u.l ⟨4, table, column, [], [], kind, max, null, dk, dn, ds, []⟩ ⟨4, table, column, to, key, kind, max, null, dk, dn, ds, []⟩ (a := []) (.inl ⟨rfl, rfl⟩) ha (by simp) j (by simp; omega) m
  rw [sameQs_nilL] at hS
  have hQ : plainQ ⟨4, table, column, to, key, kind, max, null, dk, dn, ds, []⟩ rows = (sameH ⟨4, table, column, [], [], kind, max, null, dk, dn, ds, []⟩ ⟨4, table, column, to, key, kind, max, null, dk, dn, ds, []⟩ && rows.isEmpty) := by
    rw [sameH_comm]; simp [plainQ, keepOf, Bool.and_comm]
  rw [hQ]
  generalize sameH ⟨4, table, column, [], [], kind, max, null, dk, dn, ds, []⟩ ⟨4, table, column, to, key, kind, max, null, dk, dn, ds, []⟩ = sq at *
  generalize rows.isEmpty = re at *
  unfold dV at hS
  simp only at hS
  simp (maxSteps := 8000000) [Fn.f_haulageref09_Plain, dV, hfl, hS]
theorem ref_Plain_5 (u : P15 E) (table column to key : List UInt8) (kind max : Int) (null : Bool) (dk dn : Int) (ds : List UInt8) {sl : PV} {rows : List (Int × Col)} (ha : SlQ sl rows) (hl : (rows.length : Int) ≤ 1000000000) (k : Nat) (hk : rows.length + 10 ≤ k) (m : Mem) :
    denF E (k + 1) 194 [.p (.agg (dV ⟨5, table, column, to, key, kind, max, null, dk, dn, ds, []⟩ sl))] m = some (.ret (.p (.bool (plainQ ⟨5, table, column, to, key, kind, max, null, dk, dn, ds, []⟩ rows))), m) := by
  refine denF_wp u.plain rfl (args' := [.p (.agg (dV ⟨5, table, column, to, key, kind, max, null, dk, dn, ds, []⟩ sl))]) rfl ?_
  obtain ⟨j, rfl⟩ : ∃ j, k = j + 1 := ⟨k - 1, by omega⟩
  have hfl := ha.flat
  unfold PV.flat at hfl
  have hS := fun m => ref_Same u.l ⟨5, table, column, [], [], 0, 0, false, 0, 0, [], []⟩ ⟨5, table, column, to, key, kind, max, null, dk, dn, ds, []⟩ (a := []) (.inl ⟨rfl, rfl⟩) ha (by simp) j (by simp; omega) m
  rw [sameQs_nilL] at hS
  have hQ : plainQ ⟨5, table, column, to, key, kind, max, null, dk, dn, ds, []⟩ rows = (sameH ⟨5, table, column, [], [], 0, 0, false, 0, 0, [], []⟩ ⟨5, table, column, to, key, kind, max, null, dk, dn, ds, []⟩ && rows.isEmpty) := by
    rw [sameH_comm]; simp [plainQ, keepOf, Bool.and_comm]
  rw [hQ]
  generalize sameH ⟨5, table, column, [], [], 0, 0, false, 0, 0, [], []⟩ ⟨5, table, column, to, key, kind, max, null, dk, dn, ds, []⟩ = sq at *
  generalize rows.isEmpty = re at *
  unfold dV at hS
  simp only at hS
  simp (maxSteps := 8000000) [Fn.f_haulageref09_Plain, dV, hfl, hS]
theorem ref_Plain_6 (u : P15 E) (table column to key : List UInt8) (kind max : Int) (null : Bool) (dk dn : Int) (ds : List UInt8) {sl : PV} {rows : List (Int × Col)} (ha : SlQ sl rows) (hl : (rows.length : Int) ≤ 1000000000) (k : Nat) (hk : rows.length + 10 ≤ k) (m : Mem) :
    denF E (k + 1) 194 [.p (.agg (dV ⟨6, table, column, to, key, kind, max, null, dk, dn, ds, []⟩ sl))] m = some (.ret (.p (.bool (plainQ ⟨6, table, column, to, key, kind, max, null, dk, dn, ds, []⟩ rows))), m) := by
  refine denF_wp u.plain rfl (args' := [.p (.agg (dV ⟨6, table, column, to, key, kind, max, null, dk, dn, ds, []⟩ sl))]) rfl ?_
  obtain ⟨j, rfl⟩ : ∃ j, k = j + 1 := ⟨k - 1, by omega⟩
  have hfl := ha.flat
  unfold PV.flat at hfl
  have hS := fun m => ref_Same u.l ⟨6, table, column, to, [], 0, 0, false, 0, 0, [], []⟩ ⟨6, table, column, to, key, kind, max, null, dk, dn, ds, []⟩ (a := []) (.inl ⟨rfl, rfl⟩) ha (by simp) j (by simp; omega) m
  rw [sameQs_nilL] at hS
  have hQ : plainQ ⟨6, table, column, to, key, kind, max, null, dk, dn, ds, []⟩ rows = (sameH ⟨6, table, column, to, [], 0, 0, false, 0, 0, [], []⟩ ⟨6, table, column, to, key, kind, max, null, dk, dn, ds, []⟩ && rows.isEmpty) := by
    rw [sameH_comm]; simp [plainQ, keepOf, Bool.and_comm]
  rw [hQ]
  generalize sameH ⟨6, table, column, to, [], 0, 0, false, 0, 0, [], []⟩ ⟨6, table, column, to, key, kind, max, null, dk, dn, ds, []⟩ = sq at *
  generalize rows.isEmpty = re at *
  unfold dV at hS
  simp only at hS
  simp (maxSteps := 8000000) [Fn.f_haulageref09_Plain, dV, hfl, hS]
theorem ref_Plain_7 (u : P15 E) (table column to key : List UInt8) (kind max : Int) (null : Bool) (dk dn : Int) (ds : List UInt8) {sl : PV} {rows : List (Int × Col)} (ha : SlQ sl rows) (hl : (rows.length : Int) ≤ 1000000000) (k : Nat) (hk : rows.length + 10 ≤ k) (m : Mem) :
    denF E (k + 1) 194 [.p (.agg (dV ⟨7, table, column, to, key, kind, max, null, dk, dn, ds, []⟩ sl))] m = some (.ret (.p (.bool (plainQ ⟨7, table, column, to, key, kind, max, null, dk, dn, ds, []⟩ rows))), m) := by
  refine denF_wp u.plain rfl (args' := [.p (.agg (dV ⟨7, table, column, to, key, kind, max, null, dk, dn, ds, []⟩ sl))]) rfl ?_
  obtain ⟨j, rfl⟩ : ∃ j, k = j + 1 := ⟨k - 1, by omega⟩
  have hfl := ha.flat
  unfold PV.flat at hfl
  have hS := fun m => ref_Same u.l ⟨7, table, column, [], [], kind, max, false, 0, 0, [], []⟩ ⟨7, table, column, to, key, kind, max, null, dk, dn, ds, []⟩ (a := []) (.inl ⟨rfl, rfl⟩) ha (by simp) j (by simp; omega) m
  rw [sameQs_nilL] at hS
  have hQ : plainQ ⟨7, table, column, to, key, kind, max, null, dk, dn, ds, []⟩ rows = (sameH ⟨7, table, column, [], [], kind, max, false, 0, 0, [], []⟩ ⟨7, table, column, to, key, kind, max, null, dk, dn, ds, []⟩ && rows.isEmpty) := by
    rw [sameH_comm]; simp [plainQ, keepOf, Bool.and_comm]
  rw [hQ]
  generalize sameH ⟨7, table, column, [], [], kind, max, false, 0, 0, [], []⟩ ⟨7, table, column, to, key, kind, max, null, dk, dn, ds, []⟩ = sq at *
  generalize rows.isEmpty = re at *
  unfold dV at hS
  simp only at hS
  simp (maxSteps := 8000000) [Fn.f_haulageref09_Plain, dV, hfl, hS]
theorem ref_Plain_8 (u : P15 E) (table column to key : List UInt8) (kind max : Int) (null : Bool) (dk dn : Int) (ds : List UInt8) {sl : PV} {rows : List (Int × Col)} (ha : SlQ sl rows) (hl : (rows.length : Int) ≤ 1000000000) (k : Nat) (hk : rows.length + 10 ≤ k) (m : Mem) :
    denF E (k + 1) 194 [.p (.agg (dV ⟨8, table, column, to, key, kind, max, null, dk, dn, ds, []⟩ sl))] m = some (.ret (.p (.bool (plainQ ⟨8, table, column, to, key, kind, max, null, dk, dn, ds, []⟩ rows))), m) := by
  refine denF_wp u.plain rfl (args' := [.p (.agg (dV ⟨8, table, column, to, key, kind, max, null, dk, dn, ds, []⟩ sl))]) rfl ?_
  obtain ⟨j, rfl⟩ : ∃ j, k = j + 1 := ⟨k - 1, by omega⟩
  have hfl := ha.flat
  unfold PV.flat at hfl
  have hS := fun m => ref_Same u.l ⟨8, table, column, [], [], 0, 0, false, dk, dn, ds, []⟩ ⟨8, table, column, to, key, kind, max, null, dk, dn, ds, []⟩ (a := []) (.inl ⟨rfl, rfl⟩) ha (by simp) j (by simp; omega) m
  rw [sameQs_nilL] at hS
  have hQ : plainQ ⟨8, table, column, to, key, kind, max, null, dk, dn, ds, []⟩ rows = (sameH ⟨8, table, column, [], [], 0, 0, false, dk, dn, ds, []⟩ ⟨8, table, column, to, key, kind, max, null, dk, dn, ds, []⟩ && rows.isEmpty) := by
    rw [sameH_comm]; simp [plainQ, keepOf, Bool.and_comm]
  rw [hQ]
  generalize sameH ⟨8, table, column, [], [], 0, 0, false, dk, dn, ds, []⟩ ⟨8, table, column, to, key, kind, max, null, dk, dn, ds, []⟩ = sq at *
  generalize rows.isEmpty = re at *
  unfold dV at hS
  simp only at hS
  simp (maxSteps := 8000000) [Fn.f_haulageref09_Plain, dV, hfl, hS]
theorem ref_Plain_no (u : P15 E) (op : Int) (hop : ¬ (1 ≤ op ∧ op ≤ 8)) (table column to key : List UInt8) (kind max : Int) (null : Bool) (dk dn : Int) (ds : List UInt8) {sl : PV} (hfl : sl.flat = true) (k : Nat) (m : Mem) :
    denF E (k + 1) 194 [.p (.agg (dV ⟨op, table, column, to, key, kind, max, null, dk, dn, ds, []⟩ sl))] m = some (.ret (.p (.bool false)), m) := by
  refine denF_wp u.plain rfl (args' := [.p (.agg (dV ⟨op, table, column, to, key, kind, max, null, dk, dn, ds, []⟩ sl))]) rfl ?_
  have b : ∀ i : Int, 1 ≤ i → i ≤ 8 → (op == i) = false := fun i h1 h2 => by simp; omega
  unfold PV.flat at hfl
  simp (maxSteps := 8000000) [Fn.f_haulageref09_Plain, dV, hfl, b]
theorem ref_PlainD (u : P15 E) (d : Ddl) {sl : PV} {rows : List (Int × Col)} (ha : SlQ sl rows) (hl : (rows.length : Int) ≤ 1000000000) (k : Nat) (hk : rows.length + 10 ≤ k) :
    ∃ b, ∀ m, denF E (k + 1) 194 [.p (.agg (dV d sl))] m = some (.ret (.p (.bool b)), m) := by
  obtain ⟨op, table, column, to, key, kind, max, null, dk, dn, ds, cols⟩ := d
  by_cases h : 1 ≤ op ∧ op ≤ 8
  · have h8 : op = 1 ∨ op = 2 ∨ op = 3 ∨ op = 4 ∨ op = 5 ∨ op = 6 ∨ op = 7 ∨ op = 8 := by omega
    rcases h8 with rfl | rfl | rfl | rfl | rfl | rfl | rfl | rfl
    · exact ⟨_, fun m => ref_Plain_1 u table column to key kind max null dk dn ds ha hl k hk m⟩
    · exact ⟨_, fun m => ref_Plain_2 u table column to key kind max null dk dn ds ha hl k hk m⟩
    · exact ⟨_, fun m => ref_Plain_3 u table column to key kind max null dk dn ds ha hl k hk m⟩
    · exact ⟨_, fun m => ref_Plain_4 u table column to key kind max null dk dn ds ha hl k hk m⟩
    · exact ⟨_, fun m => ref_Plain_5 u table column to key kind max null dk dn ds ha hl k hk m⟩
    · exact ⟨_, fun m => ref_Plain_6 u table column to key kind max null dk dn ds ha hl k hk m⟩
    · exact ⟨_, fun m => ref_Plain_7 u table column to key kind max null dk dn ds ha hl k hk m⟩
    · exact ⟨_, fun m => ref_Plain_8 u table column to key kind max null dk dn ds ha hl k hk m⟩
  · exact ⟨_, fun m => ref_Plain_no u op h table column to key kind max null dk dn ds ha.flat k m⟩
end Hx
