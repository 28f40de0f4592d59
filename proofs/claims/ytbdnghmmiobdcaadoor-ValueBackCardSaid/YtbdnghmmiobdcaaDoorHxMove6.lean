/-
  HxMove6: append.
-/
import Derived.Test.YtbdnghmmiobdcaaDoorHxMem
import Derived.Laws.AppendOwn
import Derived.Laws.MakeOwn
import Derived.Laws.OwnMore
namespace Hx
open Go Go.RowKit
set_option linter.unusedSimpArgs false
set_option linter.unusedVariables false

section
variable {P : Program}
theorem storeCells_run (b : Nat) (T : TypeId) (fz : Nat × Nat) : ∀ (vs : List Value) (o i : Nat) (arr : Array Value) (w : World), w.heap[b]? = some (.cells arr T fz) → nofz arr.size fz → o + i + vs.length ≤ arr.size → (∀ v ∈ vs, v.oneCell' = true) →
    ∃ w' arr', (storeCells ⟨b, o, none⟩ vs i).run P w = .ok () w' ∧ SameBut w w' ∧ w'.heap = w.heap.setIfInBounds b (.cells arr' T fz) ∧ arr'.size = arr.size ∧ arr'.toList = arr.toList.take (o + i) ++ vs ++ arr.toList.drop (o + i + vs.length)
  | [], o, i, arr, w, hg, hz, hl, _ => by
    refine ⟨w, arr, by simp [storeCells], ⟨rfl, rfl, rfl⟩, ?_, rfl, by simp⟩
    have hlt : b < w.heap.size := (Array.getElem?_eq_some_iff.1 hg).1
    apply Array.ext
    · simp
    · intro k h1 h2
      rw [Array.getElem_setIfInBounds h1]
      split
      · rename_i hk; subst hk; exact (Array.getElem?_eq_some_iff.1 hg).2
      · rfl
  | v :: vs, o, i, arr, w, hg, hz, hl, h1 => by
    simp only [List.length_cons] at hl
    have hi : o + i < arr.size := by omega
    have hadd : (⟨b, o, none⟩ : Addr).add i = ⟨b, o + i, none⟩ := addr_add rfl i
    have hcell : w.cell? ⟨b, o + i, none⟩ = some arr[o + i] := by simp [World.cell?, hg, hi]
    have hfro : w.frozen? ⟨b, o + i, none⟩ = false := by
      have := hz.not (o + i) hi
      simp only [World.frozen?, hg]
      by_cases h1 : fz.1 ≤ o + i <;> by_cases h2 : o + i < fz.2 <;> simp [h1, h2]
      exact this ⟨h1, h2⟩
    have hst : (store ((⟨b, o, none⟩ : Addr).add i) v).run P w = .ok () (w.setCell ⟨b, o + i, none⟩ v) := by
      rw [hadd, run_store P w _ v _ (h1 v (by simp)), hcell]
      simp [hfro]
    have hheap : (w.setCell ⟨b, o + i, none⟩ v).heap = w.heap.setIfInBounds b (.cells (arr.setIfInBounds (o + i) v) T fz) := by
      have hlt : b < w.heap.size := (Array.getElem?_eq_some_iff.1 hg).1
      have hv : w.heap[b] = .cells arr T fz := (Array.getElem?_eq_some_iff.1 hg).2
      simp only [World.setCell]
      apply Array.ext
      · simp
      · intro k h1 h2
        rw [Array.getElem_modify, Array.getElem_setIfInBounds (by simpa using h1)]
        by_cases hk : b = k
        · subst hk; simp [hv]
        · simp [hk]
    obtain ⟨w', arr', k1, k2, k3, k4, k5⟩ := storeCells_run b T fz vs o (i + 1) (arr.setIfInBounds (o + i) v) (w.setCell ⟨b, o + i, none⟩ v)
      (by rw [hheap]; have hlt : b < w.heap.size := (Array.getElem?_eq_some_iff.1 hg).1; simp [hlt]) (by simpa using hz) (by simp; omega) (fun x hx => h1 x (by simp [hx]))
    refine ⟨w', arr', ?_, ⟨k2.os, k2.tape, k2.output⟩, ?_, by simpa using k4, ?_⟩
    · simp only [storeCells, Sem.run_bind, hst, Result.andThen_ok, k1]
    · rw [k3, hheap]
      apply Array.ext
      · simp
      · intro k h1 h2
        rw [Array.getElem_setIfInBounds (by simpa using h1), Array.getElem_setIfInBounds (by simpa using h1), Array.getElem_setIfInBounds (by simpa using h1)]
        split <;> rfl
    · rw [k5]
      simp only [Array.toList_setIfInBounds, List.length_cons]
      rw [List.take_set, List.drop_set_of_lt (by omega)]
      rw [show o + (i + 1) = (o + i) + 1 by omega]
      rw [List.take_succ_eq_append_getElem (by simp; omega), List.set_append_right _ _ (by simp; omega)]
      simp only [List.length_take, Array.length_toList]
      rw [show o + i - min (o + i) arr.size = 0 by omega]
      simp only [List.set_cons_zero, List.append_assoc, List.singleton_append, List.cons_append, List.nil_append]
      rw [show o + i + 1 + vs.length = o + i + (vs.length + 1) by omega]
end

section
variable {F : Fix} {E : Env} {w0 : Base} {c c' : Cx} {m : Mem}

theorem flat_one {x : AV} (hf : x.flat = true) {v : Value} (h : R F c x v) : v.oneCell' = true := by
  cases x with
  | p x => cases x <;> simp [AV.flat, PV.flat] at hf <;> simp only [R, RP] at h <;> first
      | (subst h; rfl)
      | (obtain ⟨_, _, rfl, _⟩ := h; rfl)
      | (obtain ⟨_, rfl, _⟩ := h; rfl)
  | unk => simp [AV.flat] at hf
  | agg _ => simp [AV.flat] at hf
  | tup _ => simp [AV.flat] at hf
  | dat _ => simp [AV.flat] at hf
  | ty t x =>
    cases x <;> simp [AV.flat] at hf <;> simp only [R] at h
    · obtain ⟨⟨⟨_, _, rfl, _⟩, _⟩, _⟩ := h; rfl
    · obtain ⟨⟨_, rfl⟩, _⟩ := h; rfl
  | _ =>
    simp only [R] at h
    first
      | (obtain ⟨⟨_, _, rfl, _⟩, _⟩ := h; rfl)
      | (obtain ⟨_, _, _, rfl, _⟩ := h; rfl)
      | (obtain ⟨_, rfl, _⟩ := h; rfl)
      | (obtain ⟨_, rfl⟩ := h; rfl)
theorem flat_ones : ∀ {xs : List AV} {ys : List Value}, (∀ x ∈ xs, x.flat = true) → Rs F c xs ys → ∀ v ∈ ys, v.oneCell' = true
  | [], ys, _, h, v, hv => by simp only [Rs] at h; subst h; simp at hv
  | x :: xs, ys, hf, h, v, hv => by
    simp only [Rs] at h
    obtain ⟨y, r, rfl, h1, h2⟩ := h
    simp only [List.mem_cons] at hv
    rcases hv with rfl | hv
    · exact flat_one (hf x (by simp)) h1
    · exact flat_ones (fun z hz => hf z (by simp [hz])) h2 v hv
theorem pflat_one {x : PV} (hf : x.flat = true) {v : Value} (h : RP F c x v) : v.oneCell' = true := flat_one (x := .p x) hf (by simpa only [R] using h)

/-- A store into a block of cells: what is known turns so. -/
theorem stored (h : Inv F E w0 c m) {id : Nat} {cs cs' : List AV} (hm : m[id]? = some (.cells cs)) {w' : World} {arr arr' : Array Value} {T : TypeId} {fz : Nat × Nat}
    (ha : c.w.heap[(c.ρ id).1]? = some (.cells arr T fz)) (hz : nofz arr.size fz) (hs : SameBut c.w w') (hh : w'.heap = c.w.heap.setIfInBounds (c.ρ id).1 (.cells arr' T fz)) (hsz : arr'.size = arr.size)
    (hl : cs'.length = cs.length) (hf : ∀ x ∈ cs', x.flat = true) (hr : Rs F c cs' (arr'.toList.take cs'.length)) :
    Ext c { c with w := w' } ∧ Inv F E w0 { c with w := w' } (m.set id (.cells cs')) := by
  have hB := h.blk id _ hm
  simp only [RB] at hB
  obtain ⟨h1, h2, h3, h4, arr0, h5, h6, h7⟩ := hB
  have hlt := cellsAt_lt h5
  have hoth : ∀ b, b ≠ (c.ρ id).1 → w'.heap[b]? = c.w.heap[b]? := by
    intro b hb
    rw [hh, Array.getElem?_setIfInBounds, if_neg (fun e => hb e.symm)]
  have hself : w'.heap[(c.ρ id).1]? = some (.cells arr' T fz) := by
    rw [hh, Array.getElem?_setIfInBounds, if_pos rfl, if_pos hlt]
  have he : Ext c { c with w := w' } := by
    refine ⟨by simp [hh], ?_, ?_, Nat.le_refl _, fun _ _ => rfl, fun t ht e' he' => ⟨e', he', .inl rfl⟩⟩
    · intro b o ⟨k1, k2⟩
      have hne : b ≠ (c.ρ id).1 := by
        intro e; subst e
        have := k2 0 h2; omega
      refine ⟨⟨by simp [hh]; exact k1, k2⟩, ?_⟩
      simp only [World.cell?, hoth b hne]
    · intro b hb
      by_cases hbe : b = (c.ρ id).1
      · subst hbe
        simp only [cinfo, hself, ha, hsz]
      · simp only [cinfo, hoth b hbe]
  have hown : ∀ i, ownB { c with w := w' } (m.set id (.cells cs')) i = ownB c m i := by
    intro i
    unfold ownB
    by_cases hi : id = i
    · subst hi
      have hlt' : id < m.length := by
        rcases Nat.lt_or_ge id m.length with hl | hl
        · exact hl
        · rw [List.getElem?_eq_none hl] at hm; cases hm
      rw [List.getElem?_set_self hlt', hm]
    · rw [List.getElem?_set_ne hi]
  have hlow := h.low id _ (by unfold ownB; rw [hm])
  refine ⟨he, ?_, by simpa using h.N, ?_, h.old, fun i b hb => h.low i b (by rw [← hown]; exact hb), ?_, ?_, fun g => RPcells_mono he.keeps _ _ _ (h.gl g)⟩
  · refine h.below.trans ⟨hs.os, hs.tape, hs.output, he.size, fun b hb => hoth b ?_⟩
    omega
  · intro b k hk
    have := h.K b k hk
    simpa [hh] using this
  · intro i x hx
    by_cases hi : id = i
    · subst hi
      rw [List.getElem?_set_self' ] at hx
      simp [hm] at hx
      subst hx
      simp only [RB]
      exact ⟨h1, h2, h3, hf, arr', ⟨T, fz, hself, by rw [hsz]; exact hz⟩, by
        have : arr0 = arr := by obtain ⟨T0, fz0, k1, _⟩ := h5; rw [k1] at ha; injection ha with ha; injection ha
        rw [hl, hsz, ← this]; exact h6, Rs_mono he _ _ hr⟩
    · rw [List.getElem?_set_ne hi] at hx
      refine RB_mono he (h.blk i x hx) rfl rfl ?_
      intro b hb
      have hb' : ownB c m i = some b := by
        unfold ownB
        rw [hx]
        cases x <;> first | exact hb | (simp at hb)
      refine ⟨rfl, hoth b ?_⟩
      intro e
      subst e
      exact hi (h.inj id i _ (by unfold ownB; rw [hm]) hb')
  · intro i j b hi hj
    rw [hown] at hi hj
    exact h.inj i j b hi hj

theorem rows_flat {n : Nat} {a : Addr} : ∀ {rows : List (List PV)} {i : Nat}, RProws F c n (some a) i rows → RPcells F c a.block (a.off + i * n) rows.flatten ∧ (∀ r ∈ rows, r.length = n) ∧ (rows ≠ [] → a.spot = none)
  | [], i, _ => by simp [RPcells]
  | r :: rows, i, h => by
    simp only [RProws] at h
    obtain ⟨⟨h1, a', h2, h3, h4⟩, h5⟩ := h
    obtain rfl := Option.some.inj h2
    obtain ⟨k1, k2, k3⟩ := rows_flat h5
    refine ⟨?_, ?_, fun _ => h3⟩
    · have : ∀ {xs ys : List PV} {o : Nat}, RPcells F c a.block o xs → RPcells F c a.block (o + xs.length) ys → RPcells F c a.block o (xs ++ ys) := by
        intro xs
        induction xs with
        | nil => intro ys o _ h; simpa using h
        | cons x xs ih =>
          intro ys o h1 h2
          simp only [RPcells, List.cons_append] at h1 ⊢
          refine ⟨h1.1, ih h1.2 ?_⟩
          rw [show o + 1 + xs.length = o + (x :: xs).length by simp; omega]
          exact h2
      rw [List.flatten_cons]
      refine this h4 ?_
      rw [h1, show a.off + i * n + n = a.off + (i + 1) * n by rw [Nat.add_mul]; omega]
      exact k1
    · intro r' hr'
      simp only [List.mem_cons] at hr'
      rcases hr' with rfl | hr'
      · exact h1
      · exact k2 r' hr'
theorem RPcells_split {b : Nat} : ∀ {xs ys : List PV} {o : Nat}, RPcells F c b o (xs ++ ys) → RPcells F c b o xs ∧ RPcells F c b (o + xs.length) ys
  | [], ys, o, h => by simpa [RPcells] using h
  | x :: xs, ys, o, h => by
    simp only [RPcells, List.cons_append] at h ⊢
    obtain ⟨k1, k2⟩ := RPcells_split h.2
    exact ⟨⟨h.1, k1⟩, by rw [show o + (x :: xs).length = o + 1 + xs.length by simp; omega]; exact k2⟩
theorem flat_rows {n b o : Nat} : ∀ {rows : List (List PV)} {i : Nat}, (∀ r ∈ rows, r.length = n) → RPcells F c b (o + i * n) rows.flatten → RProws F c n (some ⟨b, o, none⟩) i rows
  | [], i, _, _ => by simp [RProws]
  | r :: rows, i, hl, h => by
    rw [List.flatten_cons] at h
    obtain ⟨k1, k2⟩ := RPcells_split h
    simp only [RProws]
    have hr := hl r (by simp)
    refine ⟨⟨hr, _, rfl, rfl, k1⟩, flat_rows (fun r' hr' => hl r' (by simp [hr'])) ?_⟩
    rw [hr] at k2
    rw [Nat.add_mul]
    rw [show o + (i * n + 1 * n) = o + i * n + n by omega]
    exact k2
theorem RPcells_of {b : Nat} : ∀ {xs : List PV} {ys : List Value} {o : Nat}, RPs F c xs ys → (∀ x ∈ xs, x.flat = true) → (∀ j, j < xs.length → c.safe b (o + j)) → (∀ j v, ys[j]? = some v → c.w.cell? ⟨b, o + j, none⟩ = some v) → RPcells F c b o xs
  | [], ys, o, _, _, _, _ => by simp [RPcells]
  | x :: xs, ys, o, h, hf, hs, hc => by
    simp only [RPs] at h
    obtain ⟨y, r, rfl, h1, h2⟩ := h
    simp only [RPcells]
    refine ⟨⟨by simpa using hs 0 (by simp), hf x (by simp), y, by simpa using hc 0 y (by simp), h1⟩, RPcells_of h2 (fun z hz => hf z (by simp [hz])) ?_ ?_⟩
    · intro j hj
      have := hs (j + 1) (by simp; omega)
      rwa [show o + (j + 1) = o + 1 + j by omega] at this
    · intro j v hv
      have := hc (j + 1) v (by simpa using hv)
      rwa [show o + (j + 1) = o + 1 + j by omega] at this
theorem RPcells_flat {b : Nat} : ∀ {xs : List PV} {o : Nat}, RPcells F c b o xs → ∀ x ∈ xs, x.flat = true
  | [], _, _, x, hx => by simp at hx
  | z :: xs, o, h, x, hx => by
    simp only [RPcells] at h
    simp only [List.mem_cons] at hx
    rcases hx with rfl | hx
    · exact h.1.2.1
    · exact RPcells_flat h.2 x hx
end
end Hx

namespace Hx
open Go Go.RowKit
set_option linter.unusedSimpArgs false
set_option linter.unusedVariables false

section
variable {F : Fix} {E : Env} {w0 : Base} {c : Cx} {m : Mem}

def Moved (F : Fix) (E : Env) (w0 : Base) (c : Cx) (ρ : Operand → Value) (go : Oper) (r : AV) (m' : Mem) : Prop :=
  ∃ c' y nx, (execOp ρ go).run F.P c.w = .ok nx c'.w ∧ (nx = .value y ∨ nx = .skip ∧ y = undef) ∧ Ext c c' ∧ Inv F E w0 c' m' ∧ R F c' r y

theorem chunks_flatten (n : Nat) : ∀ (k : Nat) (cs : List PV), cs.length = k * n → (chunks n k cs).flatten = cs
  | 0, cs, h => by simp at h; subst h; simp [chunks]
  | k + 1, cs, h => by
    simp only [chunks, List.flatten_cons]
    rw [chunks_flatten n k (cs.drop n) (by simp [h, Nat.add_mul]), List.take_append_drop]
theorem chunks_length (n : Nat) : ∀ (k : Nat) (cs : List PV), (chunks n k cs).length = k
  | 0, cs => by simp [chunks]
  | k + 1, cs => by simp [chunks, chunks_length n k]
theorem chunks_rows (n : Nat) : ∀ (k : Nat) (cs : List PV), cs.length = k * n → ∀ r ∈ chunks n k cs, r.length = n
  | 0, cs, h, r, hr => by simp [chunks] at hr
  | k + 1, cs, h, r, hr => by
    simp only [chunks, List.mem_cons] at hr
    rcases hr with rfl | hr
    · simp [h, Nat.add_mul]
    · exact chunks_rows n k (cs.drop n) (by simp [h, Nat.add_mul]) r hr

theorem toP_sound {x : AV} {p : PV} (h : toP x = some p) {v : Value} (hv : R F c x v) : RP F c p v ∧ (x.flat = true → p.flat = true) := by
  unfold toP at h
  split at h
  · obtain rfl := Option.some.inj h
    exact ⟨by simpa only [R] using hv, fun hf => hf⟩
  · obtain rfl := Option.some.inj h
    simp only [R] at hv
    obtain ⟨⟨base, cap, rfl, hle, hr⟩, _⟩ := hv
    exact ⟨by simp only [RP]; exact ⟨base, cap, rfl, hle, hr⟩, fun _ => rfl⟩
  · cases h
theorem toPs_sound : ∀ {xs : List AV} {ps : List PV}, toPs xs = some ps → ∀ {vs : List Value}, Rs F c xs vs → RPs F c ps vs ∧ ((∀ x ∈ xs, x.flat = true) → ∀ p ∈ ps, p.flat = true)
  | [], ps, h, vs, hv => by
    simp [toPs] at h; subst h
    simp only [Rs] at hv; subst hv
    simp [RPs]
  | x :: xs, ps, h, vs, hv => by
    simp only [toPs] at h
    split at h <;> try (cases h; done)
    rename_i p l hp hl
    obtain rfl := Option.some.inj h
    simp only [Rs] at hv
    obtain ⟨y, r, rfl, h1, h2⟩ := hv
    obtain ⟨k1, k2⟩ := toP_sound hp h1
    obtain ⟨k3, k4⟩ := toPs_sound hl h2
    refine ⟨by simp only [RPs]; exact ⟨y, r, rfl, k1, k3⟩, ?_⟩
    intro hf q hq
    simp only [List.mem_cons] at hq
    rcases hq with rfl | hq
    · exact k2 (hf x (by simp))
    · exact k4 (fun z hz => hf z (by simp [hz])) q hq

theorem cells_of (h : Inv F E w0 c m) {id : Nat} {cs : List AV} (hm : m[id]? = some (.cells cs)) :
    (c.ρ id).2 = 0 ∧ c.K (c.ρ id).1 = some 0 ∧ (∀ x ∈ cs, x.flat = true) ∧ ∃ arr T fz, c.w.heap[(c.ρ id).1]? = some (.cells arr T fz) ∧ nofz arr.size fz ∧ cs.length ≤ arr.size ∧ Rs F c cs (arr.toList.take cs.length) := by
  have hB := h.blk id _ hm
  simp only [RB] at hB
  obtain ⟨h1, h2, h3, h4, arr, ⟨T, fz, h5, h5'⟩, h6, h7⟩ := hB
  exact ⟨h3, h2, h4, arr, T, fz, h5, h5', h6, h7⟩

/-- The values of n cells of a block. -/
theorem run_cells {P : Program} {w : World} {b : Nat} {arr : Array Value} {T : TypeId} {fz : Nat × Nat} (hb : w.heap[b]? = some (.cells arr T fz)) (o n : Nat) (hl : o + n ≤ arr.size) :
    (loadCells ⟨b, o, none⟩ n).run P w = .ok ((arr.toList.drop o).take n).toArray w := by
  have hlen : n = ((arr.toList.drop o).take n).length := by simp; omega
  conv => lhs; rw [hlen]
  apply run_loadCells_list
  intro j v hj
  rw [addr_add rfl]
  rw [List.getElem?_take] at hj
  split at hj
  · simp only [World.cell?, hb]
    simpa using hj
  · cases hj

/-- A slice that is read, also one of the call's own. -/
theorem rowsOf_sound (h : Inv F E w0 c m) {n : Nat} {x : AV} {rows : List (List PV)} (hr : rowsOf n m x = some rows) {v : Value} (hv : R F c x v) :
    ∃ news : List Value, RPs F c rows.flatten news ∧ (∀ r ∈ rows, r.length = n) ∧ (∀ p ∈ rows.flatten, p.flat = true) ∧ (∀ w1 : World, (Builtin.lenOf v).run F.P w1 = .ok rows.length w1) ∧
      (∀ w1 : World, w1.heap = c.w.heap → (Builtin.firstCells n rows.length v).run F.P w1 = .ok news.toArray w1) := by
  have key : ∀ (base : Option Addr) (cap : Nat), v = .slice base rows.length cap → RProws F c n base 0 rows → ∃ news : List Value, RPs F c rows.flatten news ∧ (∀ r ∈ rows, r.length = n) ∧ (∀ p ∈ rows.flatten, p.flat = true) ∧ (∀ w1 : World, (Builtin.lenOf v).run F.P w1 = .ok rows.length w1) ∧
      (∀ w1 : World, w1.heap = c.w.heap → (Builtin.firstCells n rows.length v).run F.P w1 = .ok news.toArray w1) := by
    intro base cap he hrw
    subst he
    cases base with
    | none =>
      cases rows with
      | nil => exact ⟨[], by simp [RPs], by simp, by simp, by simp [Builtin.lenOf], by simp [Builtin.firstCells]⟩
      | cons r rows =>
        simp only [RProws] at hrw
        obtain ⟨⟨_, a, h2, _⟩, _⟩ := hrw
        cases h2
    | some a =>
      obtain ⟨k1, k2, k3⟩ := rows_flat hrw
      obtain ⟨news, k4, k5⟩ := cells_vals k1
      refine ⟨news, k4, k2, RPcells_flat k1, by simp [Builtin.lenOf], ?_⟩
      intro w1 hw
      have hlen : news.length = rows.length * n := by
        rw [← RPs_length k4]
        clear k1 k3 k4 k5 hrw hr hv
        induction rows with
        | nil => simp
        | cons r rows ih => simp only [List.flatten_cons, List.length_append, k2 r (by simp), ih (fun r' hr' => k2 r' (by simp [hr'])), List.length_cons, Nat.add_mul]; omega
      refine run_firstCells_some w1 n rows.length a rows.length cap news hlen ?_
      intro j u hj
      have hne : rows ≠ [] := by
        intro e; subst e
        have : news = [] := by cases news <;> simp at hlen ⊢
        subst this; simp at hj
      rw [addr_add (k3 hne)]
      have := k5 j u hj
      simp only [World.cell?, hw] at this ⊢
      simpa using this
  unfold rowsOf at hr
  split at hr
  · obtain rfl := Option.some.inj hr
    simp only [R, RP] at hv
    exact key none 0 (by simpa using hv) (by simp [RProws])
  · split at hr <;> try (cases hr; done)
    rename_i hn; subst hn
    obtain rfl := Option.some.inj hr
    simp only [R, RP] at hv
    obtain ⟨base, cap, he, _, hrw⟩ := hv
    exact key base cap he hrw
  · split at hr <;> try (cases hr; done)
    rename_i hn; subst hn
    obtain rfl := Option.some.inj hr
    simp only [R] at hv
    obtain ⟨⟨base, cap, he, _, hrw⟩, _⟩ := hv
    exact key base cap he hrw
  · split at hr <;> try (cases hr; done)
    rename_i s hn
    subst hn
    obtain rfl := Option.some.inj hr
    have hv' := R_str hv
    subst hv'
    have hfl : (byteRows s).flatten = s.map fun b => .int .u8 b.toNat := by
      clear hr hv key
      induction s with
      | nil => simp [byteRows]
      | cons b s ih => simp only [byteRows, List.map_cons, List.flatten_cons] at ih ⊢; rw [ih]; simp [byteRow]
    refine ⟨s.map fun b => .int .u8 b.toNat, ?_, ?_, ?_, ?_, ?_⟩
    · rw [hfl]
      clear hr hv key hfl
      induction s with
      | nil => simp [RPs]
      | cons b s ih => simp only [List.map_cons, RPs]; exact ⟨_, _, rfl, by simp [RP], ih⟩
    · intro r hr'
      simp only [byteRows, List.mem_map] at hr'
      obtain ⟨b, _, rfl⟩ := hr'
      rfl
    · intro p hp
      rw [hfl] at hp
      simp only [List.mem_map] at hp
      obtain ⟨b, _, rfl⟩ := hp
      rfl
    · intro w1; simp [Builtin.lenOf, size_bytes, byteRows]
    · intro w1 _
      simp only [Builtin.firstCells, Sem.run_pure, byteRows, List.length_map]
      congr 1
      rw [extract_bytes]
      simp
  · rename_i n' id off len
    split at hr <;> try (cases hr; done)
    rename_i hn; subst hn
    split at hr <;> try (cases hr; done)
    rename_i cs hm
    split at hr <;> try (cases hr; done)
    rename_i hle
    split at hr <;> try (cases hr; done)
    rename_i ps hps
    obtain rfl := Option.some.inj hr
    simp only [R] at hv
    obtain ⟨hid, a, cap, rfl, hlc, ha, hc⟩ := hv
    obtain ⟨h3, h2, h4, arr, T, fz, h5, h5', h6, h7⟩ := cells_of h hm
    have hsub := Rs_take (len * n') (Rs_drop off h7)
    obtain ⟨k1, k2⟩ := toPs_sound hps hsub
    have hpl : ps.length = len * n' := by
      have := RPs_length k1
      simp at this
      omega
    rw [chunks_length]
    rw [chunks_flatten _ _ _ hpl]
    refine ⟨_, k1, chunks_rows _ _ _ hpl, k2 (fun x hx => h4 x ?_), by simp [Builtin.lenOf], ?_⟩
    · exact List.mem_of_mem_drop (List.mem_of_mem_take hx)
    · intro w1 hw
      rcases hc with ⟨rfl, _⟩ | hc
      · simp only [Builtin.firstCells]
        rw [h3, Nat.zero_add]
        rw [← hw] at h5
        rw [run_cells h5 off (len * n') (by omega)]
        congr 2
        rw [List.drop_take, List.take_take]
        rw [show min (len * n') (cs.length - off) = len * n' by omega]
      · have : len = 0 := by omega
        subst this
        simp [Builtin.firstCells, loadCells, loadCellsFrom]
  · cases hr
end
end Hx

namespace Hx
open Go Go.RowKit
set_option linter.unusedSimpArgs false
set_option linter.unusedVariables false

section
variable {F : Fix} {E : Env} {w0 : Base} {c : Cx} {m : Mem}

/-- A new block of cells. -/
theorem fresh_cells (h : Inv F E w0 c m) {w' : World} {arr : Array Value} {T : TypeId} {fz : Nat × Nat} (hh : w'.heap = c.w.heap.push (.cells arr T fz)) (hz : nofz arr.size fz) (hs : SameBut c.w w')
    {cs : List AV} (hf : ∀ x ∈ cs, x.flat = true) (hl : cs.length ≤ arr.size) (hr : Rs F c cs (arr.toList.take cs.length)) :
    Ext c (c.pushed w' 0 none) ∧ Inv F E w0 (c.pushed w' 0 none) (m ++ [.cells cs]) := by
  have he : Ext c (c.pushed w' 0 none) := Ext_pushed h.K hh
  refine ⟨he, Inv_pushed h hh hs ?_ ?_⟩
  · simp only [RB, Cx.pushed, if_true]
    refine ⟨trivial, trivial, trivial, hf, arr, ⟨T, fz, ?_, hz⟩, hl, ?_⟩
    · simp [hh]
    · exact Rs_mono he _ _ hr
  · intro b hb
    unfold ownB at hb
    rw [h.N] at hb
    simp [Cx.pushed, h.N] at hb
    exact hb.symm
theorem ptr_pushed {w' : World} {k : Nat} {e} (h : Inv F E w0 c m) : R F (c.pushed w' k e) (.ptr m.length 0) (.pointer (some ⟨c.w.heap.size, 0, none⟩)) := by
  simp only [R, Cx.pushed, ← h.N, if_true]
  exact ⟨by omega, by first | rfl | trivial⟩
theorem own_pushed {w' : World} {k : Nat} {e} (h : Inv F E w0 c m) {n len cap : Nat} {arr : Array Value} {T : TypeId} {fz : Nat × Nat} (hh : w'.heap = c.w.heap.push (.cells arr T fz)) (hl : len ≤ cap) (hc : cap * n ≤ arr.size) :
    R F (c.pushed w' k e) (.own n m.length 0 len) (.slice (some ⟨c.w.heap.size, 0, none⟩) len cap) := by
  simp only [R, Cx.pushed, ← h.N, if_true]
  refine ⟨by omega, _, cap, rfl, hl, rfl, .inl ⟨rfl, ?_⟩⟩
  simp [csize, cinfo, hh]
  exact hc

/-- A new slice with a right to grow. -/
theorem fresh_tok (h : Inv F E w0 c m) {w' : World} {arr : Array Value} {T : TypeId} {fz : Nat × Nat} (hh : w'.heap = c.w.heap.push (.cells arr T fz)) (hz : nofz arr.size fz) (hs : SameBut c.w w')
    {n cap : Nat} {rows : List (List PV)} (hn : ∀ r ∈ rows, r.length = n) (hf : ∀ p ∈ rows.flatten, p.flat = true) (hl : rows.length ≤ cap) (hc : cap * n ≤ arr.size)
    {ys : List Value} (hr : RPs F c rows.flatten ys) (hy : ∀ (j : Nat) (v : Value), ys[j]? = some v → arr[j]? = some v) :
    ∃ c', c'.w = w' ∧ Ext c c' ∧ Inv F E w0 c' (m ++ [.tok n rows.length]) ∧ R F c' (.tv n rows m.length) (.slice (some ⟨c.w.heap.size, 0, none⟩) rows.length cap) := by
  refine ⟨c.pushed w' (rows.length * n) (some (rows.length, some (c.w.heap.size, 0), cap)), rfl, ?_⟩
  have he := Ext_pushed (e := some (rows.length, some (c.w.heap.size, 0), cap)) (k := rows.length * n) h.K hh
  have hcell : cellsAt w' c.w.heap.size arr := ⟨T, fz, by simp [hh], hz⟩
  refine ⟨he, Inv_pushed h hh hs ?_ ?_, ?_⟩
  · simp only [RB, Cx.pushed, if_true]
    refine ⟨_, _, rfl, hl, ?_⟩
    simp only [if_true, Nat.zero_add]
    exact ⟨trivial, arr, hcell, hc⟩
  · intro b hb
    unfold ownB at hb
    rw [h.N] at hb
    simp [Cx.pushed, h.N] at hb
    exact hb.symm
  · simp only [R]
    have hlen : rows.flatten.length = rows.length * n := by
      clear hr hy hf hl he
      induction rows with
      | nil => simp
      | cons r rows ih => simp only [List.flatten_cons, List.length_append, hn r (by simp), ih (fun r' hr' => hn r' (by simp [hr'])), List.length_cons, Nat.add_mul]; omega
    refine ⟨⟨_, cap, rfl, hl, ?_⟩, ?_, ?_⟩
    · apply flat_rows hn
      rw [Nat.zero_add]
      rw [Nat.zero_mul]
      refine RPcells_of (RPs_mono he.keeps _ _ hr) hf ?_ ?_
      · intro j hj
        refine ⟨by simp [Cx.pushed, hh], fun k hk => ?_⟩
        simp only [Cx.pushed, if_true] at hk
        obtain rfl := Option.some.inj hk
        omega
      · intro j v hv
        simp only [Cx.pushed, Nat.zero_add]
        rw [cellsAt_cell hcell]
        exact hy j v hv
    · simp [Cx.pushed, h.N]
    · intro len base cap' ht
      simp only [Cx.pushed, h.N, if_true] at ht
      injection ht with ht
      injection ht with h1 h2
      injection h2 with h2 h3
      subst h1 h2 h3
      exact ⟨Nat.le_refl _, fun _ => rfl⟩

/-- A new block of the abstract memory without one of the world. -/
def Cx.more (c : Cx) (e : Option (Nat × Option (Nat × Nat) × Nat)) : Cx := { c with N := c.N + 1, tok := fun t => if t = c.N then e else c.tok t }
theorem Ext_more (c : Cx) (e) : Ext c (c.more e) :=
  ⟨Nat.le_refl _, fun _ _ h => ⟨h, rfl⟩, fun _ _ => rfl, by simp [Cx.more], fun _ _ => rfl, fun t ht e' he' => by simp only [Cx.more, if_neg (by omega : t ≠ c.N)] at he'; exact ⟨e', he', .inl rfl⟩⟩
theorem nil_tok (h : Inv F E w0 c m) (n : Nat) : Ext c (c.more (some (0, none, 0))) ∧ Inv F E w0 (c.more (some (0, none, 0))) (m ++ [.tok n 0]) ∧ R F (c.more (some (0, none, 0))) (.tv n [] m.length) (.slice none 0 0) := by
  have he := Ext_more c (some (0, none, 0))
  refine ⟨he, ⟨h.below, by simp [Cx.more, h.N], h.K, h.old, ?_, ?_, ?_, fun g => RPcells_mono he.keeps _ _ _ (h.gl g)⟩, ?_⟩
  · intro i b hb
    refine h.low i b ?_
    unfold ownB at hb ⊢
    rcases Nat.lt_or_ge i m.length with hi | hi
    · rw [List.getElem?_append_left hi] at hb
      have hne : i ≠ c.N := by rw [h.N]; omega
      simpa only [Cx.more, if_neg hne] using hb
    · have : i = m.length := by
        rcases Nat.lt_or_ge m.length i with h1 | h1
        · rw [List.getElem?_eq_none (by simp; omega)] at hb; cases hb
        · omega
      subst this
      simp [Cx.more, h.N] at hb
  · intro i x hx
    rcases Nat.lt_or_ge i m.length with hi | hi
    · rw [List.getElem?_append_left hi] at hx
      have hne : i ≠ c.N := by rw [h.N]; omega
      exact RB_mono he (h.blk i x hx) (by simp only [Cx.more, if_neg hne]) rfl (fun b _ => ⟨rfl, rfl⟩)
    · have : i = m.length := by
        rcases Nat.lt_or_ge m.length i with h1 | h1
        · rw [List.getElem?_eq_none (by simp; omega)] at hx; cases hx
        · omega
      subst this
      simp at hx
      subst hx
      simp only [RB, Cx.more, h.N, if_true]
      exact ⟨none, 0, rfl, Nat.le_refl _, rfl⟩
  · intro i j b hi hj
    have hr : ∀ i b, ownB (c.more (some (0, none, 0))) (m ++ [.tok n 0]) i = some b → ownB c m i = some b := by
      intro i b hb
      unfold ownB at hb ⊢
      rcases Nat.lt_or_ge i m.length with hi | hi
      · rw [List.getElem?_append_left hi] at hb
        have hne : i ≠ c.N := by rw [h.N]; omega
        simpa only [Cx.more, if_neg hne] using hb
      · have : i = m.length := by
          rcases Nat.lt_or_ge m.length i with h1 | h1
          · rw [List.getElem?_eq_none (by simp; omega)] at hb; cases hb
          · omega
        subst this
        simp [Cx.more, h.N] at hb
    exact h.inj i j b (hr i b hi) (hr j b hj)
  · simp only [R]
    refine ⟨⟨none, 0, rfl, Nat.le_refl _, by simp [RProws]⟩, by simp [Cx.more, h.N], ?_⟩
    intro len base cap ht
    simp only [Cx.more, h.N, if_true] at ht
    injection ht with ht
    injection ht with h1 h2
    injection h2 with h2 h3
    subst h1 h2 h3
    exact ⟨Nat.le_refl _, fun _ => rfl⟩

/-- A right to grow that grows where it is. -/
theorem grown_here (h : Inv F E w0 c m) {t n len : Nat} {b o cap : Nat} (hm : m[t]? = some (.tok n len)) (ht : c.tok t = some (len, some (b, o), cap)) {k : Nat} (hk : len + k ≤ cap)
    {w' : World} {arr arr' : Array Value} {T : TypeId} {fz : Nat × Nat} (ha : c.w.heap[b]? = some (.cells arr T fz)) (hz : nofz arr.size fz) (hs : SameBut c.w w') (hh : w'.heap = c.w.heap.setIfInBounds b (.cells arr' T fz)) (hsz : arr'.size = arr.size)
    (hold : ∀ j, j < o + len * n → arr'[j]? = arr[j]?) :
    ∃ c', c'.w = w' ∧ Ext c c' ∧ Inv F E w0 c' (m.set t (.tok n (len + k))) ∧ c'.tok t = some (len + k, some (b, o), cap) ∧ c'.K b = some (o + (len + k) * n) ∧ c'.N = c.N ∧ cellsAt w' b arr' := by
  have hB := h.blk t _ hm
  simp only [RB] at hB
  obtain ⟨base, cap0, h1, h2, h3⟩ := hB
  rw [ht] at h1
  injection h1 with h1
  injection h1 with _ h1
  injection h1 with h1 h1'
  subst h1 h1'
  simp only at h3
  obtain ⟨h4, arr0, h5, h6⟩ := h3
  have harr : arr0 = arr := by
    obtain ⟨T0, fz0, k1, _⟩ := h5; rw [k1] at ha; injection ha with ha; injection ha
  subst harr
  have hlt := cellsAt_lt h5
  have hoth : ∀ b', b' ≠ b → w'.heap[b']? = c.w.heap[b']? := by
    intro b' hb
    rw [hh, Array.getElem?_setIfInBounds, if_neg (fun e => hb e.symm)]
  have hself : w'.heap[b]? = some (.cells arr' T fz) := by
    rw [hh, Array.getElem?_setIfInBounds, if_pos rfl, if_pos hlt]
  have htm : t < m.length := by
    rcases Nat.lt_or_ge t m.length with hl | hl
    · exact hl
    · rw [List.getElem?_eq_none hl] at hm; cases hm
  let c' : Cx := { c with w := w', K := fun b' => if b' = b then some (o + (len + k) * n) else c.K b', tok := fun t' => if t' = t then some (len + k, some (b, o), cap) else c.tok t' }
  have hmul : len * n ≤ (len + k) * n := Nat.mul_le_mul_right _ (by omega)
  have he : Ext c c' := by
    refine ⟨by simp [c', hh], ?_, ?_, Nat.le_refl _, fun _ _ => rfl, ?_⟩
    · intro b' o' ⟨k1, k2⟩
      refine ⟨⟨by simp [c', hh]; exact k1, fun k' hk' => ?_⟩, ?_⟩
      · simp only [c'] at hk'
        split at hk'
        · rename_i hb; subst hb
          obtain rfl := Option.some.inj hk'
          have := k2 _ h4
          omega
        · exact k2 k' hk'
      · by_cases hb : b' = b
        · subst hb
          have := k2 _ h4
          simp only [c', World.cell?, hself, ha]
          simpa using hold o' this
        · simp only [c', World.cell?, hoth b' hb]
    · intro b' hb'
      by_cases hbe : b' = b
      · subst hbe
        simp only [c', cinfo, hself, ha, hsz]
      · simp only [c', cinfo, hoth b' hbe]
    · intro t' _ e' he'
      simp only [c'] at he'
      split at he'
      · rename_i htt; subst htt
        obtain rfl := Option.some.inj he'
        refine ⟨_, ht, ?_⟩
        rcases Nat.eq_zero_or_pos k with hk0 | hk0
        · subst hk0; exact .inl rfl
        · exact .inr (by simp; omega)
      · exact ⟨e', he', .inl rfl⟩
  have hown : ∀ i, ownB c' (m.set t (.tok n (len + k))) i = ownB c m i := by
    intro i
    unfold ownB
    by_cases hi : t = i
    · subst hi
      rw [List.getElem?_set_self htm, hm]
      simp [c', ht]
    · rw [List.getElem?_set_ne hi]
      simp only [c', if_neg (fun e => hi (Eq.symm e))]
  have hlow := h.low t b (by unfold ownB; rw [hm, ht])
  refine ⟨c', rfl, he, ⟨?_, by simpa [c'] using h.N, ?_, ?_, fun i b' hb => h.low i b' (by rw [← hown]; exact hb), ?_, ?_, fun g => RPcells_mono he.keeps _ _ _ (h.gl g)⟩, by simp [c'], by simp [c'], rfl, ⟨T, fz, hself, by rw [hsz]; exact hz⟩⟩
  · refine h.below.trans ⟨hs.os, hs.tape, hs.output, he.size, fun b' hb => hoth b' ?_⟩
    omega
  · intro b' k' hk'
    simp only [c'] at hk' ⊢
    split at hk'
    · rename_i hb; subst hb
      have := h.K _ _ h4
      simpa [hh] using this
    · have := h.K b' k' hk'
      simpa [hh] using this
  · intro b' hb'
    simp only [c', if_neg (by omega : b' ≠ b)]
    exact h.old b' hb'
  · intro i x hx
    by_cases hi : t = i
    · subst hi
      rw [List.getElem?_set_self htm] at hx
      obtain rfl := Option.some.inj hx
      simp only [RB]
      refine ⟨some (b, o), cap, by simp [c'], hk, ?_⟩
      simp only
      refine ⟨by simp [c'], arr', ⟨T, fz, hself, by rw [hsz]; exact hz⟩, by omega⟩
    · rw [List.getElem?_set_ne hi] at hx
      have hti : c'.tok i = c.tok i := by simp only [c', if_neg (fun e => hi (Eq.symm e))]
      refine RB_mono he (h.blk i x hx) hti rfl ?_
      intro b' hb
      have hb' : ownB c m i = some b' := by
        unfold ownB
        rw [hx]
        cases x <;> first | exact hb | (simp at hb)
      have hbne : b' ≠ b := by
        intro e
        subst e
        exact hi (h.inj t i _ (by unfold ownB; rw [hm, ht]) hb')
      exact ⟨by simp only [c', if_neg hbne], hoth b' hbne⟩
  · intro i j b' hi hj
    rw [hown] at hi hj
    exact h.inj i j b' hi hj

/-- A right to grow that moves to a new block. -/
theorem grown_away (h : Inv F E w0 c m) {t n len : Nat} {e0} (hm : m[t]? = some (.tok n len)) (ht : c.tok t = some (len, e0)) {k newCap : Nat} (hk0 : 0 < k) (hk : len + k ≤ newCap)
    {w' : World} {arr : Array Value} {T : TypeId} {fz : Nat × Nat} (hh : w'.heap = c.w.heap.push (.cells arr T fz)) (hz : nofz arr.size fz) (hs : SameBut c.w w') (hc : newCap * n ≤ arr.size) :
    ∃ c', c'.w = w' ∧ Ext c c' ∧ Inv F E w0 c' (m.set t (.tok n (len + k))) ∧ c'.tok t = some (len + k, some (c.w.heap.size, 0), newCap) ∧ c'.K c.w.heap.size = some ((len + k) * n) ∧ c'.N = c.N ∧ cellsAt w' c.w.heap.size arr := by
  have htm : t < m.length := by
    rcases Nat.lt_or_ge t m.length with hl | hl
    · exact hl
    · rw [List.getElem?_eq_none hl] at hm; cases hm
  have hK : ∀ b k, c.K b = some k → b < c.w.heap.size := h.K
  have hoth : ∀ b', b' ≠ c.w.heap.size → w'.heap[b']? = c.w.heap[b']? := by
    intro b' hb
    rw [hh, Array.getElem?_push, if_neg hb]
  have hcell : cellsAt w' c.w.heap.size arr := ⟨T, fz, by simp [hh], hz⟩
  let c' : Cx := { c with w := w', K := fun b' => if b' = c.w.heap.size then some ((len + k) * n) else c.K b', tok := fun t' => if t' = t then some (len + k, some (c.w.heap.size, 0), newCap) else c.tok t' }
  have he : Ext c c' := by
    refine ⟨by simp [c', hh], ?_, ?_, Nat.le_refl _, fun _ _ => rfl, ?_⟩
    · intro b' o' ⟨k1, k2⟩
      have hne : b' ≠ c.w.heap.size := by omega
      refine ⟨⟨by simp [c', hh]; omega, fun k' hk' => ?_⟩, ?_⟩
      · simp only [c', if_neg hne] at hk'; exact k2 k' hk'
      · simp only [c', World.cell?, hoth b' hne]
    · intro b' hb'
      simp only [c', cinfo, hoth b' (by omega)]
    · intro t' _ e' he'
      simp only [c'] at he'
      split at he'
      · rename_i htt; subst htt
        obtain rfl := Option.some.inj he'
        exact ⟨_, ht, .inr (by simp; omega)⟩
      · exact ⟨e', he', .inl rfl⟩
  have hlt : ∀ i b, ownB c m i = some b → b < c.w.heap.size := fun i b hb => by
    obtain ⟨k, hk⟩ := ownB_K h hb
    exact hK b k hk
  have hown : ∀ i, i ≠ t → ownB c' (m.set t (.tok n (len + k))) i = ownB c m i := by
    intro i hi
    unfold ownB
    rw [List.getElem?_set_ne (fun e => hi e.symm)]
    simp only [c', if_neg hi]
  have hownt : ownB c' (m.set t (.tok n (len + k))) t = some c.w.heap.size := by
    unfold ownB
    rw [List.getElem?_set_self htm]
    simp [c']
  refine ⟨c', rfl, he, ⟨?_, by simpa [c'] using h.N, ?_, ?_, ?_, ?_, ?_, fun g => RPcells_mono he.keeps _ _ _ (h.gl g)⟩, by simp [c'], by simp [c'], rfl, hcell⟩
  · refine h.below.trans ⟨hs.os, hs.tape, hs.output, he.size, fun b' hb => hoth b' ?_⟩
    have := h.below.size
    omega
  · intro b' k' hk'
    simp only [c'] at hk' ⊢
    rw [hh]
    split at hk'
    · rename_i hb; subst hb; simp
    · have := h.K b' k' hk'; simp; omega
  · intro b' hb'
    have := h.below.size
    simp only [c', if_neg (by omega : b' ≠ c.w.heap.size)]
    exact h.old b' hb'
  · intro i b' hb'
    by_cases hi : i = t
    · subst hi
      rw [hownt] at hb'
      obtain rfl := Option.some.inj hb'
      exact h.below.size
    · rw [hown i hi] at hb'
      exact h.low i b' hb'
  · intro i x hx
    by_cases hi : t = i
    · subst hi
      rw [List.getElem?_set_self htm] at hx
      obtain rfl := Option.some.inj hx
      simp only [RB]
      refine ⟨some (c.w.heap.size, 0), newCap, by simp [c'], hk, ?_⟩
      simp only
      exact ⟨by simp [c'], arr, hcell, by omega⟩
    · rw [List.getElem?_set_ne hi] at hx
      have hti : c'.tok i = c.tok i := by simp only [c', if_neg (fun e => hi (Eq.symm e))]
      refine RB_mono he (h.blk i x hx) hti rfl ?_
      intro b' hb
      have hb' : ownB c m i = some b' := by
        unfold ownB
        rw [hx]
        cases x <;> first | exact hb | (simp at hb)
      have hbne : b' ≠ c.w.heap.size := by have := hlt i b' hb'; omega
      exact ⟨by simp only [c', if_neg hbne], hoth b' hbne⟩
  · intro i j b' hi hj
    by_cases h1 : i = t <;> by_cases h2 : j = t
    · rw [h1, h2]
    · subst h1
      rw [hownt] at hi
      rw [hown j h2] at hj
      obtain rfl := Option.some.inj hi
      have := hlt _ _ hj; omega
    · subst h2
      rw [hownt] at hj
      rw [hown i h1] at hi
      obtain rfl := Option.some.inj hj
      have := hlt _ _ hi; omega
    · rw [hown i h1] at hi
      rw [hown j h2] at hj
      exact h.inj i j b' hi hj
end
end Hx

namespace Hx
open Go Go.RowKit
set_option linter.unusedSimpArgs false
set_option linter.unusedVariables false

section
variable {F : Fix} {E : Env} {w0 : Base} {c : Cx} {m : Mem}

theorem zero_run {t : TypeId} {zero : List PV} (h : okZero F.P zero t = true) : ∃ i z, F.P.info? t = some i ∧ i.zero = some z ∧ (∀ w, (zeroValue t).run F.P w = .ok z w) ∧ ∀ c, RPs F c zero z.cells.toList := by
  unfold okZero zeroO at h
  cases hi : F.P.info? t with
  | none => simp [hi] at h
  | some i =>
    simp only [hi, Option.bind_some] at h
    cases hz : i.zero with
    | none => simp [hz] at h
    | some z =>
      simp only [hz] at h
      exact ⟨i, z, rfl, hz, fun w => by simp [zeroValue, typeInfo, hi, hz], fun c => okVs_sound (F := F) (c := c) _ _ h⟩

theorem all_flat {xs : List PV} (h : xs.all PV.flat = true) : ∀ x ∈ xs.map AV.p, x.flat = true := by
  intro x hx
  simp only [List.mem_map] at hx
  obtain ⟨p, hp, rfl⟩ := hx
  exact List.all_eq_true.mp h p hp

theorem nofz_zero (n : Nat) : nofz n (0, 0) := .inl rfl

theorem RPs_append {xs : List PV} : ∀ {ys : List Value} {xs' : List PV} {ys' : List Value}, RPs F c xs ys → RPs F c xs' ys' → RPs F c (xs ++ xs') (ys ++ ys') := by
  induction xs with
  | nil => intro ys xs' ys' h k; simp only [RPs] at h; subst h; simpa using k
  | cons x xs ih =>
    intro ys xs' ys' h k
    simp only [RPs] at h
    obtain ⟨y, r, rfl, h1, h2⟩ := h
    simp only [List.cons_append, RPs]
    exact ⟨y, _, rfl, h1, ih h2 k⟩

theorem set_ok {xs : List AV} : (∀ x ∈ xs, AV.flat x = true) ↔ xs.all AV.flat = true := by
  rw [List.all_eq_true]

theorem take_mid {α : Type} (l us : List α) (off k : Nat) (h : off + us.length ≤ k) (hk : k ≤ l.length) :
    (l.take off ++ us ++ l.drop (off + us.length)).take k = (l.take k).take off ++ us ++ (l.take k).drop (off + us.length) := by
  apply List.ext_getElem?
  intro j
  simp only [List.getElem?_take, List.getElem?_append, List.length_take, List.getElem?_drop, List.length_append]
  rw [show min off l.length = off by omega, show min off (min k l.length) = off by omega]
  by_cases hj : j < k
  · by_cases h1 : j < off + us.length
    · by_cases h2 : j < off
      · simp [hj, h1, h2]
      · simp [hj, h1, h2]
    · simp [hj, h1, show off + us.length + (j - (off + us.length)) < k by omega]
  · by_cases h1 : j < off + us.length
    · omega
    · simp [hj, h1, show ¬ (off + us.length + (j - (off + us.length)) < k) by omega]

set_option maxHeartbeats 4000000 in
theorem load_sound (h : Inv F E w0 c m) {ev : X → AV} {ρ : Operand → Value} (hev : Evs F c ev ρ) {n : Nat} {agg : Bool} {x : X} (go : Oper) (hok : okOp F (.load n agg x) go.op = true) {r : AV} {m' : Mem} (hd : denMove ev m (.load n agg x) = some (r, m')) : Moved F E w0 c ρ go r m' := by
  rcases go with ⟨dst, op, type, pos, after, guard⟩
  dsimp only at hok
  unfold Moved execOp
  cases op <;> try (simp [okOp] at hok; done)
  dsimp only
  simp only [okOp, Bool.and_eq_true, decide_eq_true_eq] at hok
  obtain ⟨⟨h1, h2⟩, h3⟩ := hok
  simp only [denMove] at hd
  split at hd <;> try (cases hd; done)
  rename_i id off hx
  split at hd <;> try (cases hd; done)
  rename_i cs hm
  split at hd <;> try (cases hd; done)
  rename_i hcond
  split at hd <;> try (cases hd; done)
  rename_i v hv
  simp only [Option.some.injEq, Prod.mk.injEq] at hd
  obtain ⟨rfl, rfl⟩ := hd
  have hR := hev _ _ h3
  rw [hx] at hR
  simp only [R] at hR
  obtain ⟨k3, k2, k4, arr, T, fz, k5, k6, k7, k8⟩ := cells_of h hm
  obtain ⟨hid, hp⟩ := hR
  rw [hp, k3, Nat.zero_add]
  unfold partV at hv
  cases agg with
  | true =>
    simp only [if_true] at hv
    obtain rfl := Option.some.inj hv
    simp only [true_and, Bool.true_eq_false, or_false] at hcond
    refine ⟨c, .agg ((arr.toList.drop off).take n).toArray, .value (.agg ((arr.toList.drop off).take n).toArray), ?_, .inl rfl, Ext.refl c, h, ?_⟩
    · simp only [Instr.loadAt, Instr.sureAddr, loadVar, Sem.run_bind, Sem.run_pure, Result.andThen_ok, run_agg h1, if_true, run_size h2, run_cells k5 off n (by omega)]
    · have := R_mkAgg (Rs_take n (Rs_drop off k8))
      rw [List.drop_take, List.take_take, show min n (cs.length - off) = n by omega] at this
      exact this
  | false =>
    simp only [Bool.false_eq_true, if_false] at hv
    obtain ⟨y, h4, h5⟩ := Rs_get k8 hv
    refine ⟨c, y, .value y, ?_, .inl rfl, Ext.refl c, h, h5⟩
    have hoff : off < cs.length := by
      rw [List.getElem?_eq_some_iff] at hv; exact hv.1
    rw [List.getElem?_take_of_lt hoff] at h4
    have h6 : c.w.cell? ⟨(c.ρ id).1, off, none⟩ = some y := by
      simp only [World.cell?, k5]
      simpa using h4
    simp only [Instr.loadAt, Instr.sureAddr, loadVar, Sem.run_bind, Sem.run_pure, Result.andThen_ok, run_agg h1, Bool.false_eq_true, if_false, run_load, h6]

set_option maxHeartbeats 4000000 in
theorem store_sound (h : Inv F E w0 c m) {ev : X → AV} {ρ : Operand → Value} (hev : Evs F c ev ρ) {n : Nat} {x v : X} (go : Oper) (hok : okOp F (.store n x v) go.op = true) {r : AV} {m' : Mem} (hd : denMove ev m (.store n x v) = some (r, m')) : Moved F E w0 c ρ go r m' := by
  rcases go with ⟨dst, op, type, pos, after, guard⟩
  dsimp only at hok
  unfold Moved execOp
  cases op <;> try (simp [okOp] at hok; done)
  dsimp only
  rename_i t x' v'
  simp only [okOp, Bool.and_eq_true, decide_eq_true_eq] at hok
  obtain ⟨⟨h1, h2⟩, h3⟩ := hok
  simp only [denMove] at hd
  split at hd <;> try (cases hd; done)
  rename_i id off vs hx hvs
  split at hd <;> try (cases hd; done)
  rename_i cs hm
  split at hd <;> try (cases hd; done)
  rename_i hcond
  obtain ⟨hn, hle, hfl⟩ := hcond
  simp only [Option.some.injEq, Prod.mk.injEq] at hd
  obtain ⟨rfl, rfl⟩ := hd
  have hR := hev _ _ h2
  rw [hx] at hR
  simp only [R] at hR
  obtain ⟨hid, hp⟩ := hR
  obtain ⟨k3, k2, k4, arr, T, fz, k5, k6, k7, k8⟩ := cells_of h hm
  have hcv := cells_sound hvs (hev _ _ h3)
  have hlv := Rs_length hcv
  have hones := flat_ones (set_ok.mpr hfl) hcv
  obtain ⟨w', arr', j1, j2, j3, j4, j5⟩ := storeCells_run (P := F.P) (c.ρ id).1 T fz (ρ v').cells.toList off 0 arr c.w k5 k6 (by omega) hones
  simp only [Nat.add_zero] at j5
  have hcs : (setAt cs off vs).length = cs.length := setAt_length (by omega)
  have hnew : Rs F c (setAt cs off vs) (arr'.toList.take (setAt cs off vs).length) := by
    have hq := Rs_setAt (off := off) k8 hcv
    rw [hcs, j5]
    have := take_mid arr.toList (ρ v').cells.toList off cs.length (by omega) (by simpa using k7)
    rw [this]
    exact hq
  have hfall : ∀ y ∈ setAt cs off vs, AV.flat y = true := by
    intro y hy
    simp only [setAt, List.mem_append] at hy
    rcases hy with (hy | hy) | hy
    · exact k4 y (List.mem_of_mem_take hy)
    · exact set_ok.mpr hfl y hy
    · exact k4 y (List.mem_of_mem_drop hy)
  obtain ⟨he, hi⟩ := stored h hm k5 k6 j2 j3 j4 hcs hfall hnew
  refine ⟨_, undef, .skip, ?_, .inr ⟨rfl, rfl⟩, he, hi, by simp only [R]⟩
  rw [hp, k3, Nat.zero_add]
  have hsz : ¬ ((ρ v').cells.size ≠ n) := by
    simp only [Array.length_toList] at hlv; omega
  simp only [Instr.storeAt, Instr.sureAddr, storeVar, Sem.run_bind, Sem.run_pure, Result.andThen_ok, run_size h1, if_neg hsz, Sem.run_ite, j1]

set_option maxHeartbeats 4000000 in
theorem alloc_sound (h : Inv F E w0 c m) {ev : X → AV} {ρ : Operand → Value} (hev : Evs F c ev ρ) {zero : List PV} (go : Oper) (hok : okOp F (.alloc zero) go.op = true) {r : AV} {m' : Mem} (hd : denMove ev m (.alloc zero) = some (r, m')) : Moved F E w0 c ρ go r m' := by
  rcases go with ⟨dst, op, type, pos, after, guard⟩
  dsimp only at hok
  unfold Moved execOp
  cases op <;> try (simp [okOp] at hok; done)
  dsimp only
  simp only [okOp] at hok
  obtain ⟨i, z, hi, hz, hzr, hzp⟩ := zero_run hok
  simp only [denMove] at hd
  split at hd <;> try (cases hd; done)
  rename_i hfl
  simp only [Option.some.injEq, Prod.mk.injEq] at hd
  obtain ⟨rfl, rfl⟩ := hd
  rename_i t
  let w' : World := { c.w with heap := c.w.heap.push (.cells z.cells t) }
  have hh : w'.heap = c.w.heap.push (.cells z.cells t (0, 0)) := rfl
  have hl := RPs_length (hzp c)
  simp only [Array.length_toList] at hl
  obtain ⟨he, hinv⟩ := fresh_cells h (w' := w') hh (nofz_zero _) ⟨rfl, rfl, rfl⟩ (all_flat hfl) (by simp; omega) (by
    rw [List.length_map, hl, ← Array.length_toList, List.take_length]; exact Rs_p (hzp c))
  refine ⟨_, _, .value (.pointer (some ⟨c.w.heap.size, 0, none⟩)), ?_, .inl rfl, he, hinv, ptr_pushed h⟩
  simp [Instr.alloc, hzr, newVar, newRow, Cx.pushed, w']

set_option maxHeartbeats 4000000 in
theorem box_sound (h : Inv F E w0 c m) {ev : X → AV} {ρ : Operand → Value} (hev : Evs F c ev ρ) {x : X} (go : Oper) (hok : okOp F (.box x) go.op = true) {r : AV} {m' : Mem} (hd : denMove ev m (.box x) = some (r, m')) : Moved F E w0 c ρ go r m' := by
  rcases go with ⟨dst, op, type, pos, after, guard⟩
  dsimp only at hok
  unfold Moved execOp
  cases op <;> try (simp [okOp] at hok; done)
  dsimp only
  rename_i t x'
  simp only [okOp] at hok
  simp only [denMove] at hd
  split at hd <;> try (cases hd; done)
  rename_i cs hcs
  split at hd <;> try (cases hd; done)
  rename_i hfl
  simp only [Option.some.injEq, Prod.mk.injEq] at hd
  obtain ⟨rfl, rfl⟩ := hd
  have hcv := cells_sound hcs (hev _ _ hok)
  have hl := Rs_length hcv
  let w' : World := { c.w with heap := c.w.heap.push (.cells (ρ x').cells t) }
  have hh : w'.heap = c.w.heap.push (.cells (ρ x').cells t (0, 0)) := rfl
  simp only [Array.length_toList] at hl
  obtain ⟨he, hinv⟩ := fresh_cells h (w' := w') hh (nofz_zero _) ⟨rfl, rfl, rfl⟩ (set_ok.mpr hfl) (by omega) (by
    rw [hl, ← Array.length_toList, List.take_length]; exact hcv)
  refine ⟨_, _, .value (.pointer (some ⟨c.w.heap.size, 0, none⟩)), ?_, .inl rfl, he, hinv, ptr_pushed h⟩
  simp [Instr.box, newVar, newRow, Cx.pushed, w']

theorem flatten_length {n : Nat} : ∀ {rows : List (List PV)}, (∀ r ∈ rows, r.length = n) → rows.flatten.length = rows.length * n
  | [], _ => by simp
  | r :: rows, h => by
    simp only [List.flatten_cons, List.length_append, h r (by simp), flatten_length (rows := rows) (fun r' hr' => h r' (by simp [hr'])), List.length_cons, Nat.add_mul]; omega

theorem replicate_cells {zero : List PV} {zs : List Value} (h : RPs F c zero zs) : ∀ (k : Nat), RPs F c (List.replicate k zero).flatten (List.replicate k zs).flatten
  | 0 => by simp [RPs]
  | k + 1 => by
    simp only [List.replicate_succ, List.flatten_cons]
    exact RPs_append h (replicate_cells h k)

/-- n copies of some cells, as the model lays them. -/
theorem range_cells (zs : Array Value) (hz : zs.size ≠ 0) (k : Nat) : ((Array.range (k * zs.size)).map (zs[· % zs.size]!)).toList = (List.replicate k zs.toList).flatten := by
  apply List.ext_getElem
  · simp [List.length_flatten]
  · intro j h1 h2
    simp only [Array.toList_map, Array.toList_range, List.getElem_map, List.getElem_range]
    have hj : j < k * zs.size := by simpa using h1
    have : ∀ (k : Nat) (j : Nat) (h : j < (List.replicate k zs.toList).flatten.length), j < k * zs.size → zs[j % zs.size]! = (List.replicate k zs.toList).flatten[j] := by
      intro k
      induction k with
      | zero => intro j h hj; simp at hj
      | succ k ih =>
        intro j h hj
        simp only [List.replicate_succ, List.flatten_cons]
        rw [List.getElem_append]
        split
        · rename_i hl
          have hl' : j < zs.size := by simpa using hl
          rw [Nat.mod_eq_of_lt hl']
          simp [hl']
        · rename_i hl
          have hl' : zs.size ≤ j := by simpa using hl
          simp only [Nat.add_mul, Nat.one_mul] at hj
          rw [Nat.mod_eq_sub_mod hl']
          rw [ih (j - zs.size) (by simp [List.length_flatten]; omega) (by omega)]
          simp
    exact this k j h2 hj

set_option maxHeartbeats 4000000 in
theorem rowLit_sound (h : Inv F E w0 c m) {ev : X → AV} {ρ : Operand → Value} (hev : Evs F c ev ρ) {own : Bool} {n len : Nat} {zero : List PV} {parts : List (Nat × Nat × X)} (go : Oper) (hok : okOp F (.rowLit own n len zero parts) go.op = true) {r : AV} {m' : Mem} (hd : denMove ev m (.rowLit own n len zero parts) = some (r, m')) : Moved F E w0 c ρ go r m' := by
  rcases go with ⟨dst, op, type, pos, after, guard⟩
  dsimp only at hok
  unfold Moved execOp
  cases op <;> try (simp [okOp] at hok; done)
  dsimp only
  rename_i t len' parts'
  simp only [okOp, Bool.and_eq_true, decide_eq_true_eq] at hok
  obtain ⟨⟨⟨rfl, hsm⟩, hn0⟩, h2⟩ := hok
  split at h2 <;> try (cases h2; done)
  rename_i e hu
  simp only [Bool.and_eq_true, decide_eq_true_eq] at h2
  obtain ⟨⟨⟨h3, h4⟩, h5⟩, h6⟩ := h2
  obtain ⟨i, z, hi, hz, hzr, hzp⟩ := zero_run h4
  have hzl := RPs_length (hzp c)
  simp only [Array.length_toList] at hzl
  simp only [denMove] at hd
  split at hd <;> try (cases hd; done)
  rename_i cs hcs
  split at hd <;> try (cases hd; done)
  rename_i hcond
  obtain ⟨hfl, hlen⟩ := hcond
  have hz0 : z.cells.size ≠ 0 := by omega
  have harr := range_cells z.cells hz0 len
  have hzs : z.cells.size = n := by omega
  have hR0 : Rs F c ((List.replicate len zero).flatten.map .p) ((Array.range (len * n)).map (z.cells[· % z.cells.size]!)).toList := by
    rw [← hzs, harr]
    exact Rs_p (replicate_cells (hzp c) len)
  obtain ⟨arr', k1, k2, k3⟩ := fill_sound hev parts parts'.toList _ cs _ h5 hcs hR0
  have hl2 := Rs_length k2
  simp only [Array.length_toList] at hl2
  have hrun : ∀ {β : Type} (K : Value → Sem β) (w1 : World), w1 = { c.w with heap := c.w.heap.push (.cells arr' e) } →
      (do let v ← Instr.buildSlice t len (Array.map (fun x => (x.fst, ρ x.snd)) parts'); K v : Sem β).run F.P c.w = (K (.slice (some ⟨c.w.heap.size, 0, none⟩) len len)).run F.P w1 := by
    intro β K w1 hw1
    subst hw1
    have hnz : ¬ (len * n > 2 ^ 24) := by omega
    unfold Instr.buildSlice
    simp only [Sem.run_bind, run_underlying hu, Result.andThen_ok, run_size h3, if_neg hnz]
    have hfill : Instr.fill (fun i => some (i * n, n)) (Array.map (fun x => z.cells[x % z.cells.size]!) (Array.range (len * n))) (Array.map (fun x => (x.fst, ρ x.snd)) parts').toList = some arr' := by
      rw [Array.toList_map]; exact k1
    by_cases hln : len * n = 0
    · have h0 : len = 0 := by
        rcases Nat.mul_eq_zero.mp hln with h | h
        · exact h
        · exact absurd h hn0
      subst h0
      simp only [Nat.zero_mul] at hfill
      have he : (Array.map (fun x => (#[] : Array Value)[x % (#[] : Array Value).size]!) (Array.range 0)) = Array.map (fun x => z.cells[x % z.cells.size]!) (Array.range 0) := by simp
      simp only [Nat.zero_mul, if_true, Sem.run_pure, Result.andThen_ok, he, hfill, newRow, Sem.run_bind, run_newObj]
    · simp only [if_neg hln, Sem.run_bind, hzr, Result.andThen_ok, Sem.run_pure, hfill, newRow, run_newObj]
  let w' : World := { c.w with heap := c.w.heap.push (.cells arr' e) }
  have hh : w'.heap = c.w.heap.push (.cells arr' e (0, 0)) := rfl
  split at hd
  · simp only [Option.some.injEq, Prod.mk.injEq] at hd
    obtain ⟨rfl, rfl⟩ := hd
    obtain ⟨he, hinv⟩ := fresh_cells h (w' := w') hh (nofz_zero _) ⟨rfl, rfl, rfl⟩ (set_ok.mpr hfl) (by omega) (by
      rw [hl2, ← Array.length_toList, List.take_length]; exact k2)
    refine ⟨_, _, .value (.slice (some ⟨c.w.heap.size, 0, none⟩) len len), ?_, .inl rfl, he, hinv, own_pushed h hh (Nat.le_refl _) (by omega)⟩
    rw [hrun _ w' rfl]
    simp [Cx.pushed]
  · split at hd <;> try (cases hd; done)
    rename_i ps hps
    simp only [newTok, Option.some.injEq, Prod.mk.injEq] at hd
    obtain ⟨rfl, rfl⟩ := hd
    obtain ⟨q1, q2⟩ := toPs_sound hps k2
    have hpl : ps.length = len * n := by have := RPs_length q1; simp only [Array.length_toList] at this; omega
    obtain ⟨c', j1, j2, j3, j4⟩ := fresh_tok h (w' := w') hh (nofz_zero _) ⟨rfl, rfl, rfl⟩ (n := n) (cap := len) (rows := chunks n len ps) (chunks_rows _ _ _ hpl)
      (by rw [chunks_flatten _ _ _ hpl]; exact q2 (set_ok.mpr hfl)) (by rw [chunks_length]; exact Nat.le_refl _) (by omega) (ys := arr'.toList) (by rw [chunks_flatten _ _ _ hpl]; exact q1) (by intro j v hv; simpa using hv)
    refine ⟨c', _, .value (.slice (some ⟨c.w.heap.size, 0, none⟩) len len), ?_, .inl rfl, j2, j3, ?_⟩
    · rw [hrun _ w' rfl, j1]
      simp
    · rw [chunks_length] at j4; exact j4
end
end Hx

namespace Hx
open Go Go.RowKit
set_option linter.unusedSimpArgs false
set_option linter.unusedVariables false

section
variable {F : Fix} {E : Env} {w0 : Base} {c : Cx} {m : Mem}

set_option maxHeartbeats 4000000 in
theorem mkRow_sound (h : Inv F E w0 c m) {ev : X → AV} {ρ : Operand → Value} (hev : Evs F c ev ρ) {own : Bool} {n bytes : Nat} {zero : List PV} {l cc : X} (go : Oper) (hok : okOp F (.mkRow own n bytes zero l cc) go.op = true) {r : AV} {m' : Mem} (hd : denMove ev m (.mkRow own n bytes zero l cc) = some (r, m')) : Moved F E w0 c ρ go r m' := by
  rcases go with ⟨dst, op, type, pos, after, guard⟩
  dsimp only at hok
  unfold Moved execOp
  cases op <;> try (simp [okOp] at hok; done)
  dsimp only
  rename_i t l' c'
  simp only [okOp, Bool.and_eq_true, decide_eq_true_eq] at hok
  obtain ⟨⟨⟨h2, h3⟩, h4⟩, hn0⟩ := hok
  split at h2 <;> try (cases h2; done)
  rename_i e hu
  simp only [Bool.and_eq_true] at h2
  obtain ⟨h5, h6⟩ := h2
  obtain ⟨i, z, hi, hz, hzr, hzp⟩ := zero_run h6
  rw [hi] at h5
  simp only [Bool.and_eq_true, decide_eq_true_eq] at h5
  obtain ⟨rfl, rfl⟩ := h5
  have hzl := RPs_length (hzp c)
  simp only [Array.length_toList] at hzl
  simp only [denMove] at hd
  split at hd <;> try (cases hd; done)
  rename_i ln cn hl hc
  split at hd <;> try (cases hd; done)
  rename_i hcond
  obtain ⟨hlc, hby, hc63, hfl, hzn⟩ := hcond
  obtain ⟨kl, hkl⟩ := R_asNat (hev _ _ h3) hl
  obtain ⟨kc, hkc⟩ := R_asNat (hev _ _ h4) hc
  have hz0 : z.cells.size ≠ 0 := by omega
  have hzs : z.cells.size = i.size := by omega
  let arr : Array Value := madeCells z.cells (cn * i.size)
  have harr : arr.toList = (List.replicate cn z.cells.toList).flatten := by
    have := range_cells z.cells hz0 cn
    simp only [arr, madeCells, ← hzs]; exact this
  have hsz : arr.size = cn * i.size := size_madeCells _ _
  let w' : World := c.w.alloc (.cells arr e)
  have hh : w'.heap = c.w.heap.push (.cells arr e (0, 0)) := rfl
  have hb' : (i.bytes : Int) * (cn : Int) ≤ 281474976710656 := by
    have h1 : ((cn * i.bytes : Nat) : Int) ≤ ((room : Nat) : Int) := by exact_mod_cast hby
    have hr : ((room : Nat) : Int) = 70368744177664 := by decide
    rw [Int.natCast_mul, Int.mul_comm] at h1
    omega
  have hrun : (do let v ← Instr.makeSlice t (ρ l') (ρ c'); pure (Next.value v) : Sem Next).run F.P c.w = .ok (.value (.slice (some ⟨c.w.heap.size, 0, none⟩) ln cn)) w' := by
    rw [hkl, hkc]
    have := run_make (P := F.P) c.w t e i z hu hi hz kl kc ln cn (by omega) (by omega) hb' (by omega)
    simp only [Int.toNat_natCast] at this
    simp only [Sem.run_bind, this, Result.andThen_ok, Sem.run_pure]
    rfl
  have hzall := List.all_eq_true.mp hfl
  have hrep : ∀ k, ∀ p ∈ (List.replicate k zero).flatten, p.flat = true := by
    intro k p hp
    simp only [List.mem_flatten, List.mem_replicate] at hp
    obtain ⟨l, ⟨_, rfl⟩, hp⟩ := hp
    exact hzall p hp
  split at hd
  · simp only [Option.some.injEq, Prod.mk.injEq] at hd
    obtain ⟨rfl, rfl⟩ := hd
    have hRs : Rs F c ((List.replicate cn zero).flatten.map .p) arr.toList := by rw [harr]; exact Rs_p (replicate_cells (hzp c) cn)
    have hll := Rs_length hRs
    simp only [Array.length_toList] at hll
    obtain ⟨he, hinv⟩ := fresh_cells h (w' := w') hh (nofz_zero _) ⟨rfl, rfl, rfl⟩ (cs := (List.replicate cn zero).flatten.map .p) (by
      intro x hx
      simp only [List.mem_map] at hx
      obtain ⟨p, hp, rfl⟩ := hx
      exact hrep cn p hp) (by omega) (by rw [hll, ← Array.length_toList, List.take_length]; exact hRs)
    exact ⟨_, _, .value (.slice (some ⟨c.w.heap.size, 0, none⟩) ln cn), hrun, .inl rfl, he, hinv, own_pushed h hh hlc (by omega)⟩
  · simp only [newTok, List.length_replicate, Option.some.injEq, Prod.mk.injEq] at hd
    obtain ⟨rfl, rfl⟩ := hd
    obtain ⟨c'', j1, j2, j3, j4⟩ := fresh_tok h (w' := w') hh (nofz_zero _) ⟨rfl, rfl, rfl⟩ (n := i.size) (cap := cn) (rows := List.replicate ln zero) (by
      intro r hr; simp only [List.mem_replicate] at hr; rw [hr.2]; exact hzn) (hrep ln) (by simpa using hlc) (by omega) (ys := (List.replicate ln z.cells.toList).flatten) (replicate_cells (hzp c) ln) (by
      intro j v hv
      rw [← Array.getElem?_toList, harr]
      obtain ⟨d, rfl⟩ : ∃ d, cn = ln + d := ⟨cn - ln, by omega⟩
      rw [← List.replicate_append_replicate, List.flatten_append, List.getElem?_append_left (by rw [List.getElem?_eq_some_iff] at hv; exact hv.1)]
      exact hv)
    simp only [List.length_replicate] at j3 j4
    exact ⟨c'', _, .value (.slice (some ⟨c.w.heap.size, 0, none⟩) ln cn), by rw [hrun, j1], .inl rfl, j2, j3, j4⟩

set_option maxHeartbeats 4000000 in
theorem cutArr_sound (h : Inv F E w0 c m) {ev : X → AV} {ρ : Operand → Value} (hev : Evs F c ev ρ) {len n : Nat} {x : X} {lo hi : Option X} (go : Oper) (hok : okOp F (.cutArr len n x lo hi) go.op = true) {r : AV} {m' : Mem} (hd : denMove ev m (.cutArr len n x lo hi) = some (r, m')) : Moved F E w0 c ρ go r m' := by
  rcases go with ⟨dst, op, type, pos, after, guard⟩
  dsimp only at hok
  unfold Moved execOp
  cases op <;> try (simp [okOp] at hok; done)
  dsimp only
  rename_i t x' lo' hi' mx
  cases mx <;> try (simp [okOp] at hok; done)
  simp only [okOp, Bool.and_eq_true] at hok
  obtain ⟨⟨⟨h1, h2⟩, h3⟩, h4⟩ := hok
  split at h1 <;> try (cases h1; done)
  rename_i len' e hu
  simp only [Bool.and_eq_true, decide_eq_true_eq] at h1
  obtain ⟨rfl, h5⟩ := h1
  simp only [denMove] at hd
  split at hd <;> try (cases hd; done)
  rename_i id off hx
  split at hd <;> try (cases hd; done)
  rename_i cs hm
  split at hd <;> try (cases hd; done)
  rename_i hle
  split at hd <;> try (cases hd; done)
  rename_i l hh hb
  simp only [Option.some.injEq, Prod.mk.injEq] at hd
  obtain ⟨rfl, rfl⟩ := hd
  have hR := hev _ _ h2
  rw [hx] at hR
  simp only [R] at hR
  obtain ⟨hid, hp⟩ := hR
  obtain ⟨k3, k2, k4, arr, T, fz, k5, k6, k7, k8⟩ := cells_of h hm
  obtain ⟨q1, q2, q3⟩ := run_bounds hev h3 h4 hb (Nat.le_refl _) false c.w
  refine ⟨c, _, .value (.slice (some (if len = l then ⟨(c.ρ id).1, (c.ρ id).2 + off, none⟩ else (⟨(c.ρ id).1, (c.ρ id).2 + off, none⟩ : Addr).add (l * n))) (hh - l) (len - l)), ?_, .inl rfl, Ext.refl c, h, ?_⟩
  · rw [hp]
    simp only [Instr.sliceAt, Sem.run_bind, run_underlying hu, Result.andThen_ok, Instr.sureAddr, Sem.run_pure, Option.map_none, q1, run_size h5]
  · simp only [R]
    by_cases hll : len = l
    · simp only [if_pos hll]
      exact ⟨hid, _, _, rfl, by omega, rfl, .inr (by omega)⟩
    · simp only [if_neg hll]
      refine ⟨hid, _, _, rfl, by omega, by rw [addr_add rfl], .inl ⟨by rw [addr_add rfl, Nat.add_assoc], ?_⟩⟩
      have hcs : csize c.w (c.ρ id).1 = arr.size := by simp [csize, cinfo, k5]
      rw [hcs, k3]
      have : l * n + (len - l) * n = len * n := by rw [← Nat.add_mul]; congr 1; omega
      omega

theorem unBytes_ints : ∀ {rows : List (List PV)} {s : List UInt8} {news : List Value}, unBytes rows = some s → RPs F c rows.flatten news → ∃ ns : List Int, news = ns.map (Value.int .u8) ∧ s = ns.map fun n => UInt8.ofNat n.toNat
  | [], s, news, h, hr => by
    simp [unBytes] at h; subst h
    simp only [List.flatten_nil, RPs] at hr; subst hr
    exact ⟨[], rfl, rfl⟩
  | r :: rows, s, news, h, hr => by
    simp only [unBytes] at h
    split at h <;> try (cases h; done)
    rename_i b l hb hl
    obtain rfl := Option.some.inj h
    unfold unByte at hb
    split at hb <;> try (cases hb; done)
    rename_i n
    obtain rfl := Option.some.inj hb
    simp only [List.flatten_cons, List.cons_append, List.nil_append, RPs, RP] at hr
    obtain ⟨y, r', rfl, rfl, h2⟩ := hr
    obtain ⟨ns, rfl, rfl⟩ := unBytes_ints hl h2
    exact ⟨n :: ns, rfl, rfl⟩

set_option maxHeartbeats 4000000 in
theorem toStr_sound (h : Inv F E w0 c m) {ev : X → AV} {ρ : Operand → Value} (hev : Evs F c ev ρ) {x : X} (go : Oper) (hok : okOp F (.toStr x) go.op = true) {r : AV} {m' : Mem} (hd : denMove ev m (.toStr x) = some (r, m')) : Moved F E w0 c ρ go r m' := by
  rcases go with ⟨dst, op, type, pos, after, guard⟩
  dsimp only at hok
  unfold Moved execOp
  cases op <;> try (simp [okOp] at hok; done)
  dsimp only
  rename_i src d x'
  simp only [okOp, Bool.and_eq_true] at hok
  obtain ⟨⟨h1, h2⟩, h3⟩ := hok
  split at h2 <;> try (cases h2; done)
  rename_i e hsl
  unfold isIntK at h2
  split at h2 <;> try (cases h2; done)
  rename_i k'' he
  simp only [decide_eq_true_eq] at h2; subst h2
  unfold isStr at h1
  split at h1 <;> try (cases h1; done)
  rename_i hdd
  simp only [denMove] at hd
  split at hd <;> try (cases hd; done)
  rename_i n id off len hx
  split at hd <;> try (cases hd; done)
  rename_i rows hrows
  split at hd <;> try (cases hd; done)
  rename_i s hs
  simp only [Option.some.injEq, Prod.mk.injEq] at hd
  obtain ⟨rfl, rfl⟩ := hd
  have hR := hev _ _ h3
  rw [hx] at hR
  obtain ⟨news, k1, k2, k3, k4, k5⟩ := rowsOf_sound h hrows hR
  obtain ⟨ns, rfl, rfl⟩ := unBytes_ints hs k1
  simp only [R] at hR
  obtain ⟨hid, a, cap, hv, _⟩ := hR
  have hlen := k4 c.w
  rw [hv] at hlen
  simp only [Builtin.lenOf, Sem.run_pure] at hlen
  injection hlen with hlen
  have hld := k5 c.w rfl
  rw [hv] at hld
  simp only [Builtin.firstCells, Nat.mul_one] at hld
  rw [← hlen] at hld
  refine ⟨c, _, .value (.string ⟨(ns.map fun n => UInt8.ofNat n.toNat).toArray⟩), ?_, .inl rfl, Ext.refl c, h, by simp [R, RP]⟩
  rw [hv]
  simp only [Sem.run_bind, run_convert_bytes_string c.w _ _ e (some a) _ cap hsl he hdd, run_bytesToString c.w a len cap ns hld, Result.andThen_ok, Sem.run_pure]
  congr 3
  have : ∀ (ns : List Int) (b : ByteArray), ns.foldl (fun r n => r.push (UInt8.ofNat n.toNat)) b = ⟨(b.data.toList ++ ns.map fun n => UInt8.ofNat n.toNat).toArray⟩ := by
    intro ns
    induction ns with
    | nil => intro b; cases b; simp
    | cons n ns ih => intro b; simp only [List.foldl_cons, ih]; simp [ByteArray.push]
  rw [this]; simp

theorem byteRows_RPs : ∀ (s : List UInt8), RPs F c (byteRows s).flatten (s.map fun b => Value.int .u8 b.toNat)
  | [] => by simp [byteRows, RPs]
  | b :: s => by
    have ih := byteRows_RPs s
    simp only [byteRows, List.map_cons, List.flatten_cons, byteRow, List.cons_append, List.nil_append, RPs, RP] at ih ⊢
    exact ⟨_, _, rfl, rfl, ih⟩
theorem byteRows_flatten : ∀ (s : List UInt8), (byteRows s).flatten = s.map fun b => PV.int .u8 b.toNat
  | [] => by simp [byteRows]
  | b :: s => by
    have ih := byteRows_flatten s
    simp only [byteRows, List.map_cons, List.flatten_cons] at ih ⊢; rw [ih]; simp [byteRow]

set_option maxHeartbeats 4000000 in
theorem toBytes_sound (h : Inv F E w0 c m) {ev : X → AV} {ρ : Operand → Value} (hev : Evs F c ev ρ) {own : Bool} {x : X} (go : Oper) (hok : okOp F (.toBytes own x) go.op = true) {r : AV} {m' : Mem} (hd : denMove ev m (.toBytes own x) = some (r, m')) : Moved F E w0 c ρ go r m' := by
  rcases go with ⟨dst, op, type, pos, after, guard⟩
  dsimp only at hok
  unfold Moved execOp
  cases op <;> try (simp [okOp] at hok; done)
  dsimp only
  rename_i src d x'
  simp only [okOp, Bool.and_eq_true] at hok
  obtain ⟨⟨h1, h2⟩, h3⟩ := hok
  split at h2 <;> try (cases h2; done)
  rename_i e hsl
  unfold isIntK at h2
  split at h2 <;> try (cases h2; done)
  rename_i k'' he
  simp only [decide_eq_true_eq] at h2; subst h2
  obtain ⟨ds, hds⟩ := Option.isSome_iff_exists.mp h1
  simp only [denMove] at hd
  split at hd <;> try (cases hd; done)
  rename_i s hx
  have hR := hev _ _ h3
  rw [hx] at hR
  have hv := R_str hR
  let cap := grownCap c.w s.length 0 e
  have hcap : s.length ≤ cap := grownCap_ge _ _ _ _
  let arr : Array Value := (s.toArray.map fun b => Value.int .u8 b.toNat) ++ Array.replicate (cap - s.length) (.int .u8 0)
  have hsz : arr.size = cap := by simp [arr]; omega
  let w' : World := { c.w with heap := c.w.heap.push (.cells arr e (cap, cap + 1)), drawn := c.w.drawn + 1 }
  have hh : w'.heap = c.w.heap.push (.cells arr e (cap, cap + 1)) := rfl
  have hnz : nofz arr.size (cap, cap + 1) := .inr (by simp [hsz])
  have hrun : (do let v ← convert src d (ρ x'); pure (Next.value v) : Sem Next).run F.P c.w = .ok (.value (.slice (some ⟨c.w.heap.size, 0, none⟩) s.length cap)) w' := by
    rw [hv]
    let w1 : World := { c.w with heap := c.w.heap.push (.cells arr e), drawn := c.w.drawn + 1 }
    have hmark : (markStringish ⟨c.w.heap.size, 0, none⟩).run F.P w1 = .ok () w' := by
      have hshape : w1.shape? c.w.heap.size = some (e, cap) := by
        simp only [w1, World.shape?, Array.getElem?_push_size]
        rw [hsz]
      have hfr : w1.freeze ⟨c.w.heap.size, cap, none⟩ 1 = w' := by
        simp only [World.freeze, Nat.one_ne_zero, if_false, w1, w']
        congr 1
        apply Array.ext
        · simp
        · intro k h1 h2
          rw [Array.getElem_modify]
          simp only [Array.getElem_push]
          by_cases hk : c.w.heap.size = k
          · subst hk; simp
          · have : k < c.w.heap.size := by simp at h2; omega
            simp [hk, this]
      unfold markStringish
      simp only [Sem.run_bind, run_shape, hshape, Result.andThen_ok, run_freeze, hfr]
    have hc : ∀ (K : Value → Sem Next), (do let v ← convert src d (.string ⟨s.toArray⟩); K v : Sem Next).run F.P c.w = ((markStringish ⟨c.w.heap.size, 0, none⟩).run F.P w1).andThen fun _ w2 => (K (.slice (some ⟨c.w.heap.size, 0, none⟩) s.length cap)).run F.P w2 := by
      intro K
      unfold convert Conv.stringToBytes
      simp only [Sem.run_bind, run_underlying hds, run_underlying hsl, run_underlying he, Result.andThen_ok, run_choose, Question.forced, size_bytes, newRow, run_newObj, Sem.run_pure, Bool.false_eq_true, if_false]
      simp only [w1, arr, cap, grownCap]
      cases (markStringish { block := c.w.heap.size, off := 0 }).run F.P { heap := c.w.heap.push (Obj.cells (Array.map (fun b => Value.int IntKind.u8 ↑b.toNat) s.toArray ++ Array.replicate ((Question.appendCap s.length 0 e).cut (c.w.tape c.w.drawn (Question.appendCap s.length 0 e)) - s.length) (Value.int IntKind.u8 0)) e), tape := c.w.tape, drawn := c.w.drawn + 1, os := c.w.os, output := c.w.output } <;> rfl
    rw [hc, hmark]
    simp
  have hpre : ∀ (j : Nat) (v : Value), (s.map fun b => Value.int .u8 b.toNat)[j]? = some v → arr[j]? = some v := by
    intro j v hj
    simp only [arr]
    rw [Array.getElem?_append_left (by rw [List.getElem?_eq_some_iff] at hj; have := hj.1; simpa using this)]
    simpa using hj
  have hps : RPs F c (byteRows s).flatten (s.map fun b => Value.int .u8 b.toNat) := byteRows_RPs s
  have hfl := byteRows_flatten s
  split at hd
  · simp only [Option.some.injEq, Prod.mk.injEq] at hd
    obtain ⟨rfl, rfl⟩ := hd
    have hmm : (s.map fun b => AV.p (.int .u8 b.toNat)) = ((byteRows s).flatten).map .p := by rw [hfl]; simp
    rw [hmm]
    have hlen : (((byteRows s).flatten).map AV.p).length = s.length := by rw [← hmm]; simp
    obtain ⟨he', hinv⟩ := fresh_cells h (w' := w') hh hnz ⟨rfl, rfl, rfl⟩ (cs := ((byteRows s).flatten).map .p) (by
      intro y hy; rw [← hmm] at hy; simp only [List.mem_map] at hy; obtain ⟨b, _, rfl⟩ := hy; rfl) (by omega) (by
      rw [hlen]
      have : arr.toList.take s.length = s.map fun b => Value.int .u8 b.toNat := by simp [arr]
      rw [this]
      exact Rs_p hps)
    exact ⟨_, _, .value (.slice (some ⟨c.w.heap.size, 0, none⟩) s.length cap), hrun, .inl rfl, he', hinv, own_pushed h hh hcap (by omega)⟩
  · simp only [newTok, Option.some.injEq, Prod.mk.injEq] at hd
    obtain ⟨rfl, rfl⟩ := hd
    have hbl : (byteRows s).length = s.length := by simp [byteRows]
    obtain ⟨c'', j1, j2, j3, j4⟩ := fresh_tok h (w' := w') hh hnz ⟨rfl, rfl, rfl⟩ (n := 1) (cap := cap) (rows := byteRows s) (by
      intro r hr; simp only [byteRows, List.mem_map] at hr; obtain ⟨b, _, rfl⟩ := hr; rfl) (by
      intro p hp; rw [hfl] at hp; simp only [List.mem_map] at hp; obtain ⟨b, _, rfl⟩ := hp; rfl) (by omega) (by omega) hps hpre
    rw [hbl] at j4
    exact ⟨c'', _, .value (.slice (some ⟨c.w.heap.size, 0, none⟩) s.length cap), by rw [hrun, j1], .inl rfl, j2, j3, j4⟩
end
end Hx

namespace Hx
open Go Go.RowKit
set_option linter.unusedSimpArgs false
set_option linter.unusedVariables false

section
variable {P : Program}

theorem notInt_matches {d : TypeDesc} (h : isInt (some d) = false) : (match d with | .int _ => true | _ => false) = false := by
  cases d <;> simp [isInt] at h ⊢

theorem append_fits (w : World) {argTypes : Array TypeId} {t u e ty : TypeId} {i : TypeInfo} {d : TypeDesc} (h0 : argTypes[0]? = some t) (h1 : argTypes[1]? = some u) (ht : P.underlying t = some (.slice e)) (hu : P.underlying u = some d) (hd : isInt (some d) = false)
    (hi : P.info? e = some i) (base : Option Addr) (sLen sCap k : Nat) (y : Value) (news : List Value) (hlen : ∀ w1 : World, (Builtin.lenOf y).run P w1 = .ok k w1) (hfirst : ∀ w1 : World, w1.heap = w.heap → (Builtin.firstCells i.size k y).run P w1 = .ok news.toArray w1) (hfit : sLen + k ≤ sCap) :
    (Builtin.append_ argTypes ty #[.slice base sLen sCap, y]).run P w = match base with
      | some a => ((storeCells (a.add (sLen * i.size)) news).run P w).andThen fun _ w' => .ok (.slice base (sLen + k) sCap) w'
      | none => .ok (.slice none (sLen + k) sCap) w := by
  have hf := hfirst w rfl
  unfold Builtin.append_
  cases d <;> try (simp [isInt] at hd; done)
  all_goals
    simp only [h0, h1, List.getElem?_toArray, List.getElem?_cons_zero, List.getElem?_cons_succ, Sem.run_bind, run_underlying ht, run_underlying hu, Result.andThen_ok, Go.sizeOf, typeInfo, run_program, hi, Sem.run_pure]
    simp only [Bool.false_eq_true, if_false, hlen, Result.andThen_ok, hfit, if_true, Bool.not_false, Sem.run_bind, hf]
    cases base <;> simp

theorem append_grows (w : World) {argTypes : Array TypeId} {t u e ty : TypeId} {i : TypeInfo} {d : TypeDesc} {z : Value} (h0 : argTypes[0]? = some t) (h1 : argTypes[1]? = some u) (ht : P.underlying t = some (.slice e)) (hu : P.underlying u = some d) (hd : isInt (some d) = false)
    (hi : P.info? e = some i) (hz : i.zero = some z) (hzs : z.cells.size = i.size) (base : Option Addr) (sLen sCap k : Nat) (y : Value) (olds news : List Value) (hlen : ∀ w1 : World, (Builtin.lenOf y).run P w1 = .ok k w1) (hfirst : ∀ w1 : World, w1.heap = w.heap → (Builtin.firstCells i.size k y).run P w1 = .ok news.toArray w1)
    (hold : ∀ w1 : World, w1.heap = w.heap → (Builtin.firstCells i.size sLen (.slice base sLen sCap)).run P w1 = .ok olds.toArray w1) (hno : sCap < sLen + k) (hby : (sLen + k) * i.bytes ≤ room) (hrm : sLen + k ≤ room) (hol : olds.length = sLen * i.size) (hnl : news.length = k * i.size) :
    ∃ newCap arr, sLen + k ≤ newCap ∧ arr.size = newCap * i.size ∧ (∀ (j : Nat) (v : Value), (olds ++ news)[j]? = some v → arr[j]? = some v) ∧
      (Builtin.append_ argTypes ty #[.slice base sLen sCap, y]).run P w = .ok (.slice (some ⟨w.heap.size, 0, none⟩) (sLen + k) newCap) { w with heap := w.heap.push (.cells arr e), drawn := w.drawn + 1 } := by
  have hw1 : ∀ (H : Array Obj) (T D O Q), ({ heap := H, tape := T, drawn := D, os := O, output := Q } : World).heap = H := fun _ _ _ _ _ => rfl
  let w1 : World := { w with drawn := w.drawn + 1 }
  have hf := hfirst w1 rfl
  have ho := hold w1 rfl
  have hcap := grownCap_ge w (sLen + k) sCap e
  refine ⟨grownCap w (sLen + k) sCap e, (olds.toArray ++ news.toArray ++ Builtin.zeroCells z.cells (grownCap w (sLen + k) sCap e - (sLen + k))), hcap, ?_, ?_, ?_⟩
  · simp only [Array.size_append, List.size_toArray, size_zeroCells, hol, hnl, hzs]
    rw [← Nat.add_mul, ← Nat.add_mul]
    congr 1
    omega
  · intro j v hv
    have hjl : j < (olds ++ news).length := by rw [List.getElem?_eq_some_iff] at hv; exact hv.1
    rw [Array.getElem?_append_left (by simpa using hjl)]
    simpa using hv
  · have hnf : ¬ (sLen + k ≤ sCap) := by omega
    have hmax : ¬ (((sLen + k : Nat) : Int) > IntKind.i64.max ∧ (False ∨ i.bytes = 0)) := by
      have : IntKind.i64.max = 9223372036854775807 := by decide
      rw [this]
      unfold room at hrm
      omega
    have hbig : ¬ (Builtin.nextslicecap (sLen + k) sCap * i.bytes > 2 ^ 48) := by
      have := growslice_fits (need := sLen + k) (old := sCap) (bytes := i.bytes) (by omega) (by unfold room at hby; omega)
      omega
    unfold Builtin.append_
    simp only [w1] at hf ho
    cases d <;> try (simp [isInt] at hd; done)
    all_goals
      simp only [h0, h1, List.getElem?_toArray, List.getElem?_cons_zero, List.getElem?_cons_succ, Sem.run_bind, run_underlying ht, run_underlying hu, Result.andThen_ok, Go.sizeOf, typeInfo, run_program, hi, Sem.run_pure]
      simp only [Bool.false_eq_true, if_false, hlen, Result.andThen_ok, hnf, Bool.not_false, Sem.run_bind, Sem.run_ite, hmax, run_program, hi, hbig, run_choose, Question.forced, run_askRoom, zeroValue, typeInfo, hz, Sem.run_pure, newRow, run_newObj, ho, hf, if_true]
      rfl
end
end Hx
