/-
  HxMove4: one theorem for all operations that read or write the call's own memory.
-/
import Derived.Test.YtfobhbameffplaaHxMove3
namespace Hx
open Go Go.RowKit
set_option linter.unusedSimpArgs false
set_option linter.unusedVariables false

section
variable {F : Fix} {E : Env} {w0 : Base} {c : Cx} {m : Mem}

theorem zero_run {t : TypeId} {zero : List PV} (h : okZero F.P zero t = true) : ∃ i z, F.P.info? t = some i ∧ i.zero = some z ∧ (∀ w, (zeroValue t).run F.P w = .ok z w) ∧ ∀ c, RPs F c zero z.cells.toList := by
  unfold okZero zeroO at h
  cases hi : F.P.info? t with
  | none => simp [hi] at h
  | some i =>
    simp only [hi, Option.bind_some] at h
    cases hz : i.zero with
    | none => simp [hz] at h
    | some z =>
      simp only [hz] at h
      exact ⟨i, z, rfl, hz, fun w => by simp [zeroValue, typeInfo, hi, hz], fun c => okVs_sound (F := F) (c := c) _ _ h⟩

theorem all_flat {xs : List PV} (h : xs.all PV.flat = true) : ∀ x ∈ xs.map AV.p, x.flat = true := by
  intro x hx
  simp only [List.mem_map] at hx
  obtain ⟨p, hp, rfl⟩ := hx
  exact List.all_eq_true.mp h p hp

theorem nofz_zero (n : Nat) : nofz n (0, 0) := .inl rfl

theorem RPs_append {xs : List PV} : ∀ {ys : List Value} {xs' : List PV} {ys' : List Value}, RPs F c xs ys → RPs F c xs' ys' → RPs F c (xs ++ xs') (ys ++ ys') := by
  induction xs with
  | nil => intro ys xs' ys' h k; simp only [RPs] at h; subst h; simpa using k
  | cons x xs ih =>
    intro ys xs' ys' h k
    simp only [RPs] at h
    obtain ⟨y, r, rfl, h1, h2⟩ := h
    simp only [List.cons_append, RPs]
    exact ⟨y, _, rfl, h1, ih h2 k⟩

theorem set_ok {xs : List AV} : (∀ x ∈ xs, AV.flat x = true) ↔ xs.all AV.flat = true := by
  rw [List.all_eq_true]

theorem take_mid {α : Type} (l us : List α) (off k : Nat) (h : off + us.length ≤ k) (hk : k ≤ l.length) :
    (l.take off ++ us ++ l.drop (off + us.length)).take k = (l.take k).take off ++ us ++ (l.take k).drop (off + us.length) := by
  apply List.ext_getElem?
  intro j
  simp only [List.getElem?_take, List.getElem?_append, List.length_take, List.getElem?_drop, List.length_append]
  rw [show min off l.length = off by omega, show min off (min k l.length) = off by omega]
  by_cases hj : j < k
  · by_cases h1 : j < off + us.length
    · by_cases h2 : j < off
      · simp [hj, h1, h2]
      · simp [hj, h1, h2]
    · simp [hj, h1, show off + us.length + (j - (off + us.length)) < k by omega]
  · by_cases h1 : j < off + us.length
    · omega
    · simp [hj, h1, show ¬ (off + us.length + (j - (off + us.length)) < k) by omega]

set_option maxHeartbeats 4000000 in
theorem load_sound (h : Inv F E w0 c m) {ev : X → AV} {ρ : Operand → Value} (hev : Evs F c ev ρ) {n : Nat} {agg : Bool} {x : X} (go : Oper) (hok : okOp F (.load n agg x) go.op = true) {r : AV} {m' : Mem} (hd : denMove ev m (.load n agg x) = some (r, m')) : Moved F E w0 c ρ go r m' := by
  rcases go with ⟨dst, op, type, pos, after, guard⟩
  dsimp only at hok
  unfold Moved execOp
  cases op <;> try (simp [okOp] at hok; done)
  dsimp only
  simp only [okOp, Bool.and_eq_true, decide_eq_true_eq] at hok
  obtain ⟨⟨h1, h2⟩, h3⟩ := hok
  simp only [denMove] at hd
  split at hd <;> try (cases hd; done)
  rename_i id off hx
  split at hd <;> try (cases hd; done)
  rename_i cs hm
  split at hd <;> try (cases hd; done)
  rename_i hcond
  split at hd <;> try (cases hd; done)
  rename_i v hv
  simp only [Option.some.injEq, Prod.mk.injEq] at hd
  obtain ⟨rfl, rfl⟩ := hd
  have hR := hev _ _ h3
  rw [hx] at hR
  simp only [R] at hR
  obtain ⟨k3, k2, k4, arr, T, fz, k5, k6, k7, k8⟩ := cells_of h hm
  obtain ⟨hid, hp⟩ := hR
  rw [hp, k3, Nat.zero_add]
  unfold partV at hv
  cases agg with
  | true =>
    simp only [if_true] at hv
    obtain rfl := Option.some.inj hv
    simp only [true_and, Bool.true_eq_false, or_false] at hcond
    refine ⟨c, .agg ((arr.toList.drop off).take n).toArray, .value (.agg ((arr.toList.drop off).take n).toArray), ?_, .inl rfl, Ext.refl c, h, ?_⟩
    · simp only [Instr.loadAt, Instr.sureAddr, loadVar, Sem.run_bind, Sem.run_pure, Result.andThen_ok, run_agg h1, if_true, run_size h2, run_cells k5 off n (by omega)]
    · have := R_mkAgg (Rs_take n (Rs_drop off k8))
      rw [List.drop_take, List.take_take, show min n (cs.length - off) = n by omega] at this
      exact this
  | false =>
    simp only [Bool.false_eq_true, if_false] at hv
    obtain ⟨y, h4, h5⟩ := Rs_get k8 hv
    refine ⟨c, y, .value y, ?_, .inl rfl, Ext.refl c, h, h5⟩
    have hoff : off < cs.length := by
      rw [List.getElem?_eq_some_iff] at hv; exact hv.1
    rw [List.getElem?_take_of_lt hoff] at h4
    have h6 : c.w.cell? ⟨(c.ρ id).1, off, none⟩ = some y := by
      simp only [World.cell?, k5]
      simpa using h4
    simp only [Instr.loadAt, Instr.sureAddr, loadVar, Sem.run_bind, Sem.run_pure, Result.andThen_ok, run_agg h1, Bool.false_eq_true, if_false, run_load, h6]

set_option maxHeartbeats 4000000 in
theorem store_sound (h : Inv F E w0 c m) {ev : X → AV} {ρ : Operand → Value} (hev : Evs F c ev ρ) {n : Nat} {x v : X} (go : Oper) (hok : okOp F (.store n x v) go.op = true) {r : AV} {m' : Mem} (hd : denMove ev m (.store n x v) = some (r, m')) : Moved F E w0 c ρ go r m' := by
  rcases go with ⟨dst, op, type, pos, after, guard⟩
  dsimp only at hok
  unfold Moved execOp
  cases op <;> try (simp [okOp] at hok; done)
  dsimp only
  rename_i t x' v'
  simp only [okOp, Bool.and_eq_true, decide_eq_true_eq] at hok
  obtain ⟨⟨h1, h2⟩, h3⟩ := hok
  simp only [denMove] at hd
  split at hd <;> try (cases hd; done)
  rename_i id off vs hx hvs
  split at hd <;> try (cases hd; done)
  rename_i cs hm
  split at hd <;> try (cases hd; done)
  rename_i hcond
  obtain ⟨hn, hle, hfl⟩ := hcond
  simp only [Option.some.injEq, Prod.mk.injEq] at hd
  obtain ⟨rfl, rfl⟩ := hd
  have hR := hev _ _ h2
  rw [hx] at hR
  simp only [R] at hR
  obtain ⟨hid, hp⟩ := hR
  obtain ⟨k3, k2, k4, arr, T, fz, k5, k6, k7, k8⟩ := cells_of h hm
  have hcv := cells_sound hvs (hev _ _ h3)
  have hlv := Rs_length hcv
  have hones := flat_ones (set_ok.mpr hfl) hcv
  obtain ⟨w', arr', j1, j2, j3, j4, j5⟩ := storeCells_run (P := F.P) (c.ρ id).1 T fz (ρ v').cells.toList off 0 arr c.w k5 k6 (by omega) hones
  simp only [Nat.add_zero] at j5
  have hcs : (setAt cs off vs).length = cs.length := setAt_length (by omega)
  have hnew : Rs F c (setAt cs off vs) (arr'.toList.take (setAt cs off vs).length) := by
    have hq := Rs_setAt (off := off) k8 hcv
    rw [hcs, j5]
    have := take_mid arr.toList (ρ v').cells.toList off cs.length (by omega) (by simpa using k7)
    rw [this]
    exact hq
  have hfall : ∀ y ∈ setAt cs off vs, AV.flat y = true := by
    intro y hy
    simp only [setAt, List.mem_append] at hy
    rcases hy with (hy | hy) | hy
    · exact k4 y (List.mem_of_mem_take hy)
    · exact set_ok.mpr hfl y hy
    · exact k4 y (List.mem_of_mem_drop hy)
  obtain ⟨he, hi⟩ := stored h hm k5 k6 j2 j3 j4 hcs hfall hnew
  refine ⟨_, undef, .skip, ?_, .inr ⟨rfl, rfl⟩, he, hi, by simp only [R]⟩
  rw [hp, k3, Nat.zero_add]
  have hsz : ¬ ((ρ v').cells.size ≠ n) := by
    simp only [Array.length_toList] at hlv; omega
  simp only [Instr.storeAt, Instr.sureAddr, storeVar, Sem.run_bind, Sem.run_pure, Result.andThen_ok, run_size h1, if_neg hsz, Sem.run_ite, j1]

set_option maxHeartbeats 4000000 in
theorem alloc_sound (h : Inv F E w0 c m) {ev : X → AV} {ρ : Operand → Value} (hev : Evs F c ev ρ) {zero : List PV} (go : Oper) (hok : okOp F (.alloc zero) go.op = true) {r : AV} {m' : Mem} (hd : denMove ev m (.alloc zero) = some (r, m')) : Moved F E w0 c ρ go r m' := by
  rcases go with ⟨dst, op, type, pos, after, guard⟩
  dsimp only at hok
  unfold Moved execOp
  cases op <;> try (simp [okOp] at hok; done)
  dsimp only
  simp only [okOp] at hok
  obtain ⟨i, z, hi, hz, hzr, hzp⟩ := zero_run hok
  simp only [denMove] at hd
  split at hd <;> try (cases hd; done)
  rename_i hfl
  simp only [Option.some.injEq, Prod.mk.injEq] at hd
  obtain ⟨rfl, rfl⟩ := hd
  rename_i t
  let w' : World := { c.w with heap := c.w.heap.push (.cells z.cells t) }
  have hh : w'.heap = c.w.heap.push (.cells z.cells t (0, 0)) := rfl
  have hl := RPs_length (hzp c)
  simp only [Array.length_toList] at hl
  obtain ⟨he, hinv⟩ := fresh_cells h (w' := w') hh (nofz_zero _) ⟨rfl, rfl, rfl⟩ (all_flat hfl) (by simp; omega) (by
    rw [List.length_map, hl, ← Array.length_toList, List.take_length]; exact Rs_p (hzp c))
  refine ⟨_, _, .value (.pointer (some ⟨c.w.heap.size, 0, none⟩)), ?_, .inl rfl, he, hinv, ptr_pushed h⟩
  simp [Instr.alloc, hzr, newVar, newRow, Cx.pushed, w']

set_option maxHeartbeats 4000000 in
theorem box_sound (h : Inv F E w0 c m) {ev : X → AV} {ρ : Operand → Value} (hev : Evs F c ev ρ) {x : X} (go : Oper) (hok : okOp F (.box x) go.op = true) {r : AV} {m' : Mem} (hd : denMove ev m (.box x) = some (r, m')) : Moved F E w0 c ρ go r m' := by
  rcases go with ⟨dst, op, type, pos, after, guard⟩
  dsimp only at hok
  unfold Moved execOp
  cases op <;> try (simp [okOp] at hok; done)
  dsimp only
  rename_i t x'
  simp only [okOp] at hok
  simp only [denMove] at hd
  split at hd <;> try (cases hd; done)
  rename_i cs hcs
  split at hd <;> try (cases hd; done)
  rename_i hfl
  simp only [Option.some.injEq, Prod.mk.injEq] at hd
  obtain ⟨rfl, rfl⟩ := hd
  have hcv := cells_sound hcs (hev _ _ hok)
  have hl := Rs_length hcv
  let w' : World := { c.w with heap := c.w.heap.push (.cells (ρ x').cells t) }
  have hh : w'.heap = c.w.heap.push (.cells (ρ x').cells t (0, 0)) := rfl
  simp only [Array.length_toList] at hl
  obtain ⟨he, hinv⟩ := fresh_cells h (w' := w') hh (nofz_zero _) ⟨rfl, rfl, rfl⟩ (set_ok.mpr hfl) (by omega) (by
    rw [hl, ← Array.length_toList, List.take_length]; exact hcv)
  refine ⟨_, _, .value (.pointer (some ⟨c.w.heap.size, 0, none⟩)), ?_, .inl rfl, he, hinv, ptr_pushed h⟩
  simp [Instr.box, newVar, newRow, Cx.pushed, w']

theorem flatten_length {n : Nat} : ∀ {rows : List (List PV)}, (∀ r ∈ rows, r.length = n) → rows.flatten.length = rows.length * n
  | [], _ => by simp
  | r :: rows, h => by
    simp only [List.flatten_cons, List.length_append, h r (by simp), flatten_length (rows := rows) (fun r' hr' => h r' (by simp [hr'])), List.length_cons, Nat.add_mul]; omega

theorem replicate_cells {zero : List PV} {zs : List Value} (h : RPs F c zero zs) : ∀ (k : Nat), RPs F c (List.replicate k zero).flatten (List.replicate k zs).flatten
  | 0 => by simp [RPs]
  | k + 1 => by
    simp only [List.replicate_succ, List.flatten_cons]
    exact RPs_append h (replicate_cells h k)

theorem range_cells (zs : Array Value) (hz : zs.size ≠ 0) (k : Nat) : ((Array.range (k * zs.size)).map (zs[· % zs.size]!)).toList = (List.replicate k zs.toList).flatten := by
  apply List.ext_getElem
  · simp [List.length_flatten]
  · intro j h1 h2
    simp only [Array.toList_map, Array.toList_range, List.getElem_map, List.getElem_range]
    have hj : j < k * zs.size := by simpa using h1
    have : ∀ (k : Nat) (j : Nat) (h : j < (List.replicate k zs.toList).flatten.length), j < k * zs.size → zs[j % zs.size]! = (List.replicate k zs.toList).flatten[j] := by
      intro k
      induction k with
      | zero => intro j h hj; simp at hj
      | succ k ih =>
        intro j h hj
        simp only [List.replicate_succ, List.flatten_cons]
        rw [List.getElem_append]
        split
        · rename_i hl
          have hl' : j < zs.size := by simpa using hl
          rw [Nat.mod_eq_of_lt hl']
          simp [hl']
        · rename_i hl
          have hl' : zs.size ≤ j := by simpa using hl
          simp only [Nat.add_mul, Nat.one_mul] at hj
          rw [Nat.mod_eq_sub_mod hl']
          rw [ih (j - zs.size) (by simp [List.length_flatten]; omega) (by omega)]
          simp
    exact this k j h2 hj

set_option maxHeartbeats 4000000 in
theorem rowLit_sound (h : Inv F E w0 c m) {ev : X → AV} {ρ : Operand → Value} (hev : Evs F c ev ρ) {own : Bool} {n len : Nat} {zero : List PV} {parts : List (Nat × Nat × X)} (go : Oper) (hok : okOp F (.rowLit own n len zero parts) go.op = true) {r : AV} {m' : Mem} (hd : denMove ev m (.rowLit own n len zero parts) = some (r, m')) : Moved F E w0 c ρ go r m' := by
  rcases go with ⟨dst, op, type, pos, after, guard⟩
  dsimp only at hok
  unfold Moved execOp
  cases op <;> try (simp [okOp] at hok; done)
  dsimp only
  rename_i t len' parts'
  simp only [okOp, Bool.and_eq_true, decide_eq_true_eq] at hok
  obtain ⟨⟨⟨rfl, hsm⟩, hn0⟩, h2⟩ := hok
  split at h2 <;> try (cases h2; done)
  rename_i e hu
  simp only [Bool.and_eq_true, decide_eq_true_eq] at h2
  obtain ⟨⟨⟨h3, h4⟩, h5⟩, h6⟩ := h2
  obtain ⟨i, z, hi, hz, hzr, hzp⟩ := zero_run h4
  have hzl := RPs_length (hzp c)
  simp only [Array.length_toList] at hzl
  simp only [denMove] at hd
  split at hd <;> try (cases hd; done)
  rename_i cs hcs
  split at hd <;> try (cases hd; done)
  rename_i hcond
  obtain ⟨hfl, hlen⟩ := hcond
  have hz0 : z.cells.size ≠ 0 := by omega
  have harr := range_cells z.cells hz0 len
  have hzs : z.cells.size = n := by omega
  have hR0 : Rs F c ((List.replicate len zero).flatten.map .p) ((Array.range (len * n)).map (z.cells[· % z.cells.size]!)).toList := by
    rw [← hzs, harr]
    exact Rs_p (replicate_cells (hzp c) len)
  obtain ⟨arr', k1, k2, k3⟩ := fill_sound hev parts parts'.toList _ cs _ h5 hcs hR0
  have hl2 := Rs_length k2
  simp only [Array.length_toList] at hl2
  have hrun : ∀ {β : Type} (K : Value → Sem β) (w1 : World), w1 = { c.w with heap := c.w.heap.push (.cells arr' e) } →
      (do let v ← Instr.buildSlice t len (Array.map (fun x => (x.fst, ρ x.snd)) parts'); K v : Sem β).run F.P c.w = (K (.slice (some ⟨c.w.heap.size, 0, none⟩) len len)).run F.P w1 := by
    intro β K w1 hw1
    subst hw1
    have hnz : ¬ (len * n > 2 ^ 24) := by omega
    unfold Instr.buildSlice
    simp only [Sem.run_bind, run_underlying hu, Result.andThen_ok, run_size h3, if_neg hnz]
    have hfill : Instr.fill (fun i => some (i * n, n)) (Array.map (fun x => z.cells[x % z.cells.size]!) (Array.range (len * n))) (Array.map (fun x => (x.fst, ρ x.snd)) parts').toList = some arr' := by
      rw [Array.toList_map]; exact k1
    by_cases hln : len * n = 0
    · have h0 : len = 0 := by
        rcases Nat.mul_eq_zero.mp hln with h | h
        · exact h
        · exact absurd h hn0
      subst h0
      simp only [Nat.zero_mul] at hfill
      have he : (Array.map (fun x => (#[] : Array Value)[x % (#[] : Array Value).size]!) (Array.range 0)) = Array.map (fun x => z.cells[x % z.cells.size]!) (Array.range 0) := by simp
      simp only [Nat.zero_mul, if_true, Sem.run_pure, Result.andThen_ok, he, hfill, newRow, Sem.run_bind, run_newObj]
    · simp only [if_neg hln, Sem.run_bind, hzr, Result.andThen_ok, Sem.run_pure, hfill, newRow, run_newObj]
  let w' : World := { c.w with heap := c.w.heap.push (.cells arr' e) }
  have hh : w'.heap = c.w.heap.push (.cells arr' e (0, 0)) := rfl
  split at hd
  · simp only [Option.some.injEq, Prod.mk.injEq] at hd
    obtain ⟨rfl, rfl⟩ := hd
    obtain ⟨he, hinv⟩ := fresh_cells h (w' := w') hh (nofz_zero _) ⟨rfl, rfl, rfl⟩ (set_ok.mpr hfl) (by omega) (by
      rw [hl2, ← Array.length_toList, List.take_length]; exact k2)
    refine ⟨_, _, .value (.slice (some ⟨c.w.heap.size, 0, none⟩) len len), ?_, .inl rfl, he, hinv, own_pushed h hh (Nat.le_refl _) (by omega)⟩
    rw [hrun _ w' rfl]
    simp [Cx.pushed]
  · split at hd <;> try (cases hd; done)
    rename_i ps hps
    simp only [newTok, Option.some.injEq, Prod.mk.injEq] at hd
    obtain ⟨rfl, rfl⟩ := hd
    obtain ⟨q1, q2⟩ := toPs_sound hps k2
    have hpl : ps.length = len * n := by have := RPs_length q1; simp only [Array.length_toList] at this; omega
    obtain ⟨c', j1, j2, j3, j4⟩ := fresh_tok h (w' := w') hh (nofz_zero _) ⟨rfl, rfl, rfl⟩ (n := n) (cap := len) (rows := chunks n len ps) (chunks_rows _ _ _ hpl)
      (by rw [chunks_flatten _ _ _ hpl]; exact q2 (set_ok.mpr hfl)) (by rw [chunks_length]; exact Nat.le_refl _) (by omega) (ys := arr'.toList) (by rw [chunks_flatten _ _ _ hpl]; exact q1) (by intro j v hv; simpa using hv)
    refine ⟨c', _, .value (.slice (some ⟨c.w.heap.size, 0, none⟩) len len), ?_, .inl rfl, j2, j3, ?_⟩
    · rw [hrun _ w' rfl, j1]
      simp
    · rw [chunks_length] at j4; exact j4
set_option maxHeartbeats 4000000 in
theorem rowVals_sound (h : Inv F E w0 c m) {ev : X → AV} {ρ : Operand → Value} (hev : Evs F c ev ρ) {n len : Nat} {zero : List PV} {parts : List (Nat × Nat × X)} (go : Oper) (hok : okOp F (.rowVals n len zero parts) go.op = true) {r : AV} {m' : Mem} (hd : denMove ev m (.rowVals n len zero parts) = some (r, m')) : Moved F E w0 c ρ go r m' := by
  rcases go with ⟨dst, op, type, pos, after, guard⟩
  dsimp only at hok
  unfold Moved execOp
  cases op <;> try (simp [okOp] at hok; done)
  dsimp only
  rename_i t len' parts'
  simp only [okOp, Bool.and_eq_true, decide_eq_true_eq] at hok
  obtain ⟨⟨⟨rfl, hsm⟩, hn0⟩, h2⟩ := hok
  split at h2 <;> try (cases h2; done)
  rename_i e hu
  simp only [Bool.and_eq_true, decide_eq_true_eq] at h2
  obtain ⟨⟨⟨h3, h4⟩, h5⟩, h6⟩ := h2
  obtain ⟨i, z, hi, hz, hzr, hzp⟩ := zero_run h4
  have hzl := RPs_length (hzp c)
  simp only [Array.length_toList] at hzl
  simp only [denMove] at hd
  split at hd <;> try (cases hd; done)
  rename_i cs hcs
  split at hd <;> try (cases hd; done)
  rename_i hcond
  obtain ⟨hfl, hlen⟩ := hcond
  have hz0 : z.cells.size ≠ 0 := by omega
  have harr := range_cells z.cells hz0 len
  have hzs : z.cells.size = n := by omega
  have hR0 : Rs F c ((List.replicate len zero).flatten.map .p) ((Array.range (len * n)).map (z.cells[· % z.cells.size]!)).toList := by
    rw [← hzs, harr]
    exact Rs_p (replicate_cells (hzp c) len)
  obtain ⟨arr', k1, k2, k3⟩ := fill_sound hev parts parts'.toList _ cs _ h5 hcs hR0
  have hl2 := Rs_length k2
  simp only [Array.length_toList] at hl2
  have hrun : ∀ {β : Type} (K : Value → Sem β) (w1 : World), w1 = { c.w with heap := c.w.heap.push (.cells arr' e) } →
      (do let v ← Instr.buildSlice t len (Array.map (fun x => (x.fst, ρ x.snd)) parts'); K v : Sem β).run F.P c.w = (K (.slice (some ⟨c.w.heap.size, 0, none⟩) len len)).run F.P w1 := by
    intro β K w1 hw1
    subst hw1
    have hnz : ¬ (len * n > 2 ^ 24) := by omega
    unfold Instr.buildSlice
    simp only [Sem.run_bind, run_underlying hu, Result.andThen_ok, run_size h3, if_neg hnz]
    have hfill : Instr.fill (fun i => some (i * n, n)) (Array.map (fun x => z.cells[x % z.cells.size]!) (Array.range (len * n))) (Array.map (fun x => (x.fst, ρ x.snd)) parts').toList = some arr' := by
      rw [Array.toList_map]; exact k1
    by_cases hln : len * n = 0
    · have h0 : len = 0 := by
        rcases Nat.mul_eq_zero.mp hln with h | h
        · exact h
        · exact absurd h hn0
      subst h0
      simp only [Nat.zero_mul] at hfill
      have he : (Array.map (fun x => (#[] : Array Value)[x % (#[] : Array Value).size]!) (Array.range 0)) = Array.map (fun x => z.cells[x % z.cells.size]!) (Array.range 0) := by simp
      simp only [Nat.zero_mul, if_true, Sem.run_pure, Result.andThen_ok, he, hfill, newRow, Sem.run_bind, run_newObj]
    · simp only [if_neg hln, Sem.run_bind, hzr, Result.andThen_ok, Sem.run_pure, hfill, newRow, run_newObj]
  let w' : World := { c.w with heap := c.w.heap.push (.cells arr' e) }
  have hh : w'.heap = c.w.heap.push (.cells arr' e (0, 0)) := rfl
  split at hd <;> try (cases hd; done)
  rename_i ps hps
  simp only [Option.some.injEq, Prod.mk.injEq] at hd
  obtain ⟨rfl, rfl⟩ := hd
  obtain ⟨q1, q2⟩ := toPs_sound hps k2
  have hpl : ps.length = len * n := by have := RPs_length q1; simp only [Array.length_toList] at this; omega
  obtain ⟨c', j1, j2, j3, j4⟩ := fresh_vals h (w' := w') hh (nofz_zero _) ⟨rfl, rfl, rfl⟩ (n := n) (cap := len) (rows := chunks n len ps) (chunks_rows _ _ _ hpl)
    (by rw [chunks_flatten _ _ _ hpl]; exact q2 (set_ok.mpr hfl)) (by rw [chunks_length]; exact Nat.le_refl _) (by omega) (ys := arr'.toList) (by rw [chunks_flatten _ _ _ hpl]; exact q1) (by intro j v hv; simpa using hv)
  refine ⟨c', _, .value (.slice (some ⟨c.w.heap.size, 0, none⟩) len len), ?_, .inl rfl, j2, j3, ?_⟩
  · rw [hrun _ w' rfl, j1]
    simp
  · rw [chunks_length] at j4; exact j4
end
end Hx
