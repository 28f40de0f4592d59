/-
  HxMove3: new blocks.
-/
import Derived.Test.YtfobhbameffplaaHxMove
namespace Hx
open Go Go.RowKit
set_option linter.unusedSimpArgs false
set_option linter.unusedVariables false

section
variable {F : Fix} {E : Env} {w0 : Base} {c : Cx} {m : Mem}

def Moved (F : Fix) (E : Env) (w0 : Base) (c : Cx) (ρ : Operand → Value) (go : Oper) (r : AV) (m' : Mem) : Prop :=
  ∃ c' y nx, (execOp ρ go).run F.P c.w = .ok nx c'.w ∧ (nx = .value y ∨ nx = .skip ∧ y = undef) ∧ Ext c c' ∧ Inv F E w0 c' m' ∧ R F c' r y

theorem chunks_flatten (n : Nat) : ∀ (k : Nat) (cs : List PV), cs.length = k * n → (chunks n k cs).flatten = cs
  | 0, cs, h => by simp at h; subst h; simp [chunks]
  | k + 1, cs, h => by
    simp only [chunks, List.flatten_cons]
    rw [chunks_flatten n k (cs.drop n) (by simp [h, Nat.add_mul]), List.take_append_drop]
theorem chunks_length (n : Nat) : ∀ (k : Nat) (cs : List PV), (chunks n k cs).length = k
  | 0, cs => by simp [chunks]
  | k + 1, cs => by simp [chunks, chunks_length n k]
theorem chunks_rows (n : Nat) : ∀ (k : Nat) (cs : List PV), cs.length = k * n → ∀ r ∈ chunks n k cs, r.length = n
  | 0, cs, h, r, hr => by simp [chunks] at hr
  | k + 1, cs, h, r, hr => by
    simp only [chunks, List.mem_cons] at hr
    rcases hr with rfl | hr
    · simp [h, Nat.add_mul]
    · exact chunks_rows n k (cs.drop n) (by simp [h, Nat.add_mul]) r hr

theorem toP_sound {x : AV} {p : PV} (h : toP x = some p) {v : Value} (hv : R F c x v) : RP F c p v ∧ (x.flat = true → p.flat = true) := by
  unfold toP at h
  split at h
  · obtain rfl := Option.some.inj h
    exact ⟨by simpa only [R] using hv, fun hf => hf⟩
  · obtain rfl := Option.some.inj h
    simp only [R] at hv
    obtain ⟨⟨base, cap, rfl, hle, hr⟩, _⟩ := hv
    exact ⟨by simp only [RP]; exact ⟨base, cap, rfl, hle, hr⟩, fun _ => rfl⟩
  · cases h
theorem toPs_sound : ∀ {xs : List AV} {ps : List PV}, toPs xs = some ps → ∀ {vs : List Value}, Rs F c xs vs → RPs F c ps vs ∧ ((∀ x ∈ xs, x.flat = true) → ∀ p ∈ ps, p.flat = true)
  | [], ps, h, vs, hv => by
    simp [toPs] at h; subst h
    simp only [Rs] at hv; subst hv
    simp [RPs]
  | x :: xs, ps, h, vs, hv => by
    simp only [toPs] at h
    split at h <;> try (cases h; done)
    rename_i p l hp hl
    obtain rfl := Option.some.inj h
    simp only [Rs] at hv
    obtain ⟨y, r, rfl, h1, h2⟩ := hv
    obtain ⟨k1, k2⟩ := toP_sound hp h1
    obtain ⟨k3, k4⟩ := toPs_sound hl h2
    refine ⟨by simp only [RPs]; exact ⟨y, r, rfl, k1, k3⟩, ?_⟩
    intro hf q hq
    simp only [List.mem_cons] at hq
    rcases hq with rfl | hq
    · exact k2 (hf x (by simp))
    · exact k4 (fun z hz => hf z (by simp [hz])) q hq

theorem cells_of (h : Inv F E w0 c m) {id : Nat} {cs : List AV} (hm : m[id]? = some (.cells cs)) :
    (c.ρ id).2 = 0 ∧ c.K (c.ρ id).1 = some 0 ∧ (∀ x ∈ cs, x.flat = true) ∧ ∃ arr T fz, c.w.heap[(c.ρ id).1]? = some (.cells arr T fz) ∧ nofz arr.size fz ∧ cs.length ≤ arr.size ∧ Rs F c cs (arr.toList.take cs.length) := by
  have hB := h.blk id _ hm
  simp only [RB] at hB
  obtain ⟨h1, h2, h3, h4, arr, ⟨T, fz, h5, h5'⟩, h6, h7⟩ := hB
  exact ⟨h3, h2, h4, arr, T, fz, h5, h5', h6, h7⟩

theorem run_cells {P : Program} {w : World} {b : Nat} {arr : Array Value} {T : TypeId} {fz : Nat × Nat} (hb : w.heap[b]? = some (.cells arr T fz)) (o n : Nat) (hl : o + n ≤ arr.size) :
    (loadCells ⟨b, o, none⟩ n).run P w = .ok ((arr.toList.drop o).take n).toArray w := by
  have hlen : n = ((arr.toList.drop o).take n).length := by simp; omega
  conv => lhs; rw [hlen]
  apply run_loadCells_list
  intro j v hj
  rw [addr_add rfl]
  rw [List.getElem?_take] at hj
  split at hj
  · simp only [World.cell?, hb]
    simpa using hj
  · cases hj

theorem rowsOf_sound (h : Inv F E w0 c m) {n : Nat} {x : AV} {rows : List (List PV)} (hr : rowsOf n m x = some rows) {v : Value} (hv : R F c x v) :
    ∃ news : List Value, RPs F c rows.flatten news ∧ (∀ r ∈ rows, r.length = n) ∧ (∀ p ∈ rows.flatten, p.flat = true) ∧ (∀ w1 : World, (Builtin.lenOf v).run F.P w1 = .ok rows.length w1) ∧
      (∀ w1 : World, w1.heap = c.w.heap → (Builtin.firstCells n rows.length v).run F.P w1 = .ok news.toArray w1) := by
  have key : ∀ (base : Option Addr) (cap : Nat), v = .slice base rows.length cap → (RProws F c n base 0 rows ∨ rows = []) → ∃ news : List Value, RPs F c rows.flatten news ∧ (∀ r ∈ rows, r.length = n) ∧ (∀ p ∈ rows.flatten, p.flat = true) ∧ (∀ w1 : World, (Builtin.lenOf v).run F.P w1 = .ok rows.length w1) ∧
      (∀ w1 : World, w1.heap = c.w.heap → (Builtin.firstCells n rows.length v).run F.P w1 = .ok news.toArray w1) := by
    intro base cap he hrw
    subst he
    cases base with
    | none =>
      cases rows with
      | nil => exact ⟨[], by simp [RPs], by simp, by simp, by simp [Builtin.lenOf], by simp [Builtin.firstCells]⟩
      | cons r rows =>
        rcases hrw with hrw | hrw
        · exact absurd rfl (RProws_ne hrw)
        · cases hrw
    | some a =>
      replace hrw : RProws F c n (some a) 0 rows := hrw.elim id (by rintro rfl; simp [RProws])
      obtain ⟨k1, k2, k3⟩ := rows_flat hrw
      obtain ⟨news, k4, k5⟩ := cells_vals k1
      refine ⟨news, k4, k2, RPcells_flat k1, by simp [Builtin.lenOf], ?_⟩
      intro w1 hw
      have hlen : news.length = rows.length * n := by
        rw [← RPs_length k4]
        clear k1 k3 k4 k5 hrw hr hv
        induction rows with
        | nil => simp
        | cons r rows ih => simp only [List.flatten_cons, List.length_append, k2 r (by simp), ih (fun r' hr' => k2 r' (by simp [hr'])), List.length_cons, Nat.add_mul]; omega
      refine run_firstCells_some w1 n rows.length a rows.length cap news hlen ?_
      intro j u hj
      have hne : rows ≠ [] := by
        intro e; subst e
        have : news = [] := by cases news <;> simp at hlen ⊢
        subst this; simp at hj
      rw [addr_add (k3 hne)]
      have := k5 j u hj
      simp only [World.cell?, hw] at this ⊢
      simpa using this
  unfold rowsOf at hr
  split at hr
  · obtain rfl := Option.some.inj hr
    simp only [R, RP] at hv
    exact key none 0 (by simpa using hv) (.inr rfl)
  · split at hr <;> try (cases hr; done)
    rename_i hn; subst hn
    obtain rfl := Option.some.inj hr
    simp only [R, RP] at hv
    obtain ⟨base, cap, he, _, hrw⟩ := hv
    exact key base cap he (.inl hrw)
  · split at hr <;> try (cases hr; done)
    rename_i hn; subst hn
    obtain rfl := Option.some.inj hr
    simp only [R] at hv
    obtain ⟨⟨base, cap, he, _, hrw⟩, _⟩ := hv
    exact key base cap he (.inl hrw)
  · split at hr <;> try (cases hr; done)
    rename_i s hn
    subst hn
    obtain rfl := Option.some.inj hr
    have hv' := R_str hv
    subst hv'
    have hfl : (byteRows s).flatten = s.map fun b => .int .u8 b.toNat := by
      clear hr hv key
      induction s with
      | nil => simp [byteRows]
      | cons b s ih => simp only [byteRows, List.map_cons, List.flatten_cons] at ih ⊢; rw [ih]; simp [byteRow]
    refine ⟨s.map fun b => .int .u8 b.toNat, ?_, ?_, ?_, ?_, ?_⟩
    · rw [hfl]
      clear hr hv key hfl
      induction s with
      | nil => simp [RPs]
      | cons b s ih => simp only [List.map_cons, RPs]; exact ⟨_, _, rfl, by simp [RP], ih⟩
    · intro r hr'
      simp only [byteRows, List.mem_map] at hr'
      obtain ⟨b, _, rfl⟩ := hr'
      rfl
    · intro p hp
      rw [hfl] at hp
      simp only [List.mem_map] at hp
      obtain ⟨b, _, rfl⟩ := hp
      rfl
    · intro w1; simp [Builtin.lenOf, size_bytes, byteRows]
    · intro w1 _
      simp only [Builtin.firstCells, Sem.run_pure, byteRows, List.length_map]
      congr 1
      rw [extract_bytes]
      simp
  · rename_i n' id off len
    split at hr <;> try (cases hr; done)
    rename_i hn; subst hn
    split at hr <;> try (cases hr; done)
    rename_i cs hm
    split at hr <;> try (cases hr; done)
    rename_i hle
    split at hr <;> try (cases hr; done)
    rename_i ps hps
    obtain rfl := Option.some.inj hr
    simp only [R] at hv
    obtain ⟨hid, a, cap, rfl, hlc, ha, hc⟩ := hv
    obtain ⟨h3, h2, h4, arr, T, fz, h5, h5', h6, h7⟩ := cells_of h hm
    have hsub := Rs_take (len * n') (Rs_drop off h7)
    obtain ⟨k1, k2⟩ := toPs_sound hps hsub
    have hpl : ps.length = len * n' := by
      have := RPs_length k1
      simp at this
      omega
    rw [chunks_length]
    rw [chunks_flatten _ _ _ hpl]
    refine ⟨_, k1, chunks_rows _ _ _ hpl, k2 (fun x hx => h4 x ?_), by simp [Builtin.lenOf], ?_⟩
    · exact List.mem_of_mem_drop (List.mem_of_mem_take hx)
    · intro w1 hw
      rcases hc with ⟨rfl, _⟩ | hc
      · simp only [Builtin.firstCells]
        rw [h3, Nat.zero_add]
        rw [← hw] at h5
        rw [run_cells h5 off (len * n') (by omega)]
        congr 2
        rw [List.drop_take, List.take_take]
        rw [show min (len * n') (cs.length - off) = len * n' by omega]
      · have : len = 0 := by omega
        subst this
        simp [Builtin.firstCells, loadCells, loadCellsFrom]
  · cases hr
end
end Hx

namespace Hx
open Go Go.RowKit
set_option linter.unusedSimpArgs false
set_option linter.unusedVariables false

section
variable {F : Fix} {E : Env} {w0 : Base} {c : Cx} {m : Mem}

theorem fresh_cells (h : Inv F E w0 c m) {w' : World} {arr : Array Value} {T : TypeId} {fz : Nat × Nat} (hh : w'.heap = c.w.heap.push (.cells arr T fz)) (hz : nofz arr.size fz) (hs : SameBut c.w w')
    {cs : List AV} (hf : ∀ x ∈ cs, x.flat = true) (hl : cs.length ≤ arr.size) (hr : Rs F c cs (arr.toList.take cs.length)) :
    Ext c (c.pushed w' 0 none) ∧ Inv F E w0 (c.pushed w' 0 none) (m ++ [.cells cs]) := by
  have he : Ext c (c.pushed w' 0 none) := Ext_pushed h.K hh
  refine ⟨he, Inv_pushed h hh hs ?_ ?_⟩
  · simp only [RB, Cx.pushed, if_true]
    refine ⟨trivial, trivial, trivial, hf, arr, ⟨T, fz, ?_, hz⟩, hl, ?_⟩
    · simp [hh]
    · exact Rs_mono he _ _ hr
  · intro b hb
    unfold ownB at hb
    rw [h.N] at hb
    simp [Cx.pushed, h.N] at hb
    exact hb.symm
theorem ptr_pushed {w' : World} {k : Nat} {e} (h : Inv F E w0 c m) : R F (c.pushed w' k e) (.ptr m.length 0) (.pointer (some ⟨c.w.heap.size, 0, none⟩)) := by
  simp only [R, Cx.pushed, ← h.N, if_true]
  exact ⟨by omega, by first | rfl | trivial⟩
theorem own_pushed {w' : World} {k : Nat} {e} (h : Inv F E w0 c m) {n len cap : Nat} {arr : Array Value} {T : TypeId} {fz : Nat × Nat} (hh : w'.heap = c.w.heap.push (.cells arr T fz)) (hl : len ≤ cap) (hc : cap * n ≤ arr.size) :
    R F (c.pushed w' k e) (.own n m.length 0 len) (.slice (some ⟨c.w.heap.size, 0, none⟩) len cap) := by
  simp only [R, Cx.pushed, ← h.N, if_true]
  refine ⟨by omega, _, cap, rfl, hl, rfl, .inl ⟨rfl, ?_⟩⟩
  simp [csize, cinfo, hh]
  exact hc

theorem fresh_tok (h : Inv F E w0 c m) {w' : World} {arr : Array Value} {T : TypeId} {fz : Nat × Nat} (hh : w'.heap = c.w.heap.push (.cells arr T fz)) (hz : nofz arr.size fz) (hs : SameBut c.w w')
    {n cap : Nat} {rows : List (List PV)} (hn : ∀ r ∈ rows, r.length = n) (hf : ∀ p ∈ rows.flatten, p.flat = true) (hl : rows.length ≤ cap) (hc : cap * n ≤ arr.size)
    {ys : List Value} (hr : RPs F c rows.flatten ys) (hy : ∀ (j : Nat) (v : Value), ys[j]? = some v → arr[j]? = some v) :
    ∃ c', c'.w = w' ∧ Ext c c' ∧ Inv F E w0 c' (m ++ [.tok n rows.length]) ∧ R F c' (.tv n rows m.length) (.slice (some ⟨c.w.heap.size, 0, none⟩) rows.length cap) := by
  refine ⟨c.pushed w' (rows.length * n) (some (rows.length, some (c.w.heap.size, 0), cap)), rfl, ?_⟩
  have he := Ext_pushed (e := some (rows.length, some (c.w.heap.size, 0), cap)) (k := rows.length * n) h.K hh
  have hcell : cellsAt w' c.w.heap.size arr := ⟨T, fz, by simp [hh], hz⟩
  refine ⟨he, Inv_pushed h hh hs ?_ ?_, ?_⟩
  · simp only [RB, Cx.pushed, if_true]
    refine ⟨_, _, rfl, hl, ?_⟩
    simp only [if_true, Nat.zero_add]
    exact ⟨trivial, arr, hcell, hc⟩
  · intro b hb
    unfold ownB at hb
    rw [h.N] at hb
    simp [Cx.pushed, h.N] at hb
    exact hb.symm
  · simp only [R]
    have hlen : rows.flatten.length = rows.length * n := by
      clear hr hy hf hl he
      induction rows with
      | nil => simp
      | cons r rows ih => simp only [List.flatten_cons, List.length_append, hn r (by simp), ih (fun r' hr' => hn r' (by simp [hr'])), List.length_cons, Nat.add_mul]; omega
    refine ⟨⟨_, cap, rfl, hl, ?_⟩, ?_, ?_⟩
    · apply flat_rows hn
      rw [Nat.zero_add]
      rw [Nat.zero_mul]
      refine RPcells_of (RPs_mono he.keeps _ _ hr) hf ?_ ?_
      · intro j hj
        refine ⟨by simp [Cx.pushed, hh], fun k hk => ?_⟩
        simp only [Cx.pushed, if_true] at hk
        obtain rfl := Option.some.inj hk
        omega
      · intro j v hv
        simp only [Cx.pushed, Nat.zero_add]
        rw [cellsAt_cell hcell]
        exact hy j v hv
    · simp [Cx.pushed, h.N]
    · intro len base cap' ht
      simp only [Cx.pushed, h.N, if_true] at ht
      injection ht with ht
      injection ht with h1 h2
      injection h2 with h2 h3
      subst h1 h2 h3
      exact ⟨Nat.le_refl _, fun _ => rfl⟩

theorem Ext_world (c : Cx) (hK : ∀ b k, c.K b = some k → b < c.w.heap.size) {w' : World} {ob : Obj} (hh : w'.heap = c.w.heap.push ob) : Ext c { c with w := w' } where
  size := by simp [hh]
  safe := fun b o ⟨h1, h2⟩ => by
    have hne : b ≠ c.w.heap.size := by omega
    refine ⟨⟨by simp [hh]; omega, fun k' hk' => h2 k' hk'⟩, ?_⟩
    simp only [World.cell?, hh, Array.getElem?_push, if_neg hne]
  csz := fun b hb => by
    have hne : b ≠ c.w.heap.size := by omega
    simp only [cinfo, hh, Array.getElem?_push, if_neg hne]
  N := Nat.le_refl _
  ρ := fun i hi => rfl
  tok := fun t ht e' he' => ⟨e', he', .inl rfl⟩
theorem fresh_vals (h : Inv F E w0 c m) {w' : World} {arr : Array Value} {T : TypeId} {fz : Nat × Nat} (hh : w'.heap = c.w.heap.push (.cells arr T fz)) (hz : nofz arr.size fz) (hs : SameBut c.w w')
    {n cap : Nat} {rows : List (List PV)} (hn : ∀ r ∈ rows, r.length = n) (hf : ∀ p ∈ rows.flatten, p.flat = true) (hl : rows.length ≤ cap) (hc : cap * n ≤ arr.size)
    {ys : List Value} (hr : RPs F c rows.flatten ys) (hy : ∀ (j : Nat) (v : Value), ys[j]? = some v → arr[j]? = some v) :
    ∃ c', c'.w = w' ∧ Ext c c' ∧ Inv F E w0 c' m ∧ R F c' (.p (.vals n rows)) (.slice (some ⟨c.w.heap.size, 0, none⟩) rows.length cap) := by
  have he := Ext_world c h.K hh
  refine ⟨{ c with w := w' }, rfl, he, ?_, ?_⟩
  · have hlt : ∀ i b, ownB c m i = some b → b < c.w.heap.size := fun i b hb => by
      obtain ⟨k, hk⟩ := ownB_K h hb
      exact h.K b k hk
    refine ⟨?_, h.N, ?_, h.old, h.low, ?_, h.inj, fun g => RPcells_mono he.keeps _ _ _ (h.gl g)⟩
    · refine h.below.trans ⟨hs.os, hs.tape, hs.output, he.size, fun b hb => ?_⟩
      have := h.below.size
      simp only [hh, Array.getElem?_push, if_neg (by omega : b ≠ c.w.heap.size)]
    · intro b k' hk
      have := h.K b k' hk
      simp only [hh, Array.size_push]; omega
    · intro i y hy
      refine RB_mono he (h.blk i y hy) rfl rfl ?_
      intro b hb
      have hb' : ownB c m i = some b := by
        unfold ownB
        rw [hy]
        cases y <;> first | exact hb | (simp at hb)
      have := hlt i b hb'
      have hne' : b ≠ c.w.heap.size := by omega
      simp only [hh, Array.getElem?_push, if_neg hne']
      exact ⟨trivial, trivial⟩
  · simp only [R, RP]
    refine ⟨_, cap, rfl, hl, ?_⟩
    apply flat_rows hn
    rw [Nat.zero_add, Nat.zero_mul]
    refine RPcells_of (RPs_mono he.keeps _ _ hr) hf ?_ ?_
    · intro j hj
      refine ⟨by simp [hh], fun k hk => ?_⟩
      have := h.K _ k hk
      omega
    · intro j v hv
      rw [Nat.zero_add]
      have hcell : cellsAt w' c.w.heap.size arr := ⟨T, fz, by simp [hh], hz⟩
      rw [cellsAt_cell hcell]
      exact hy j v hv

def Cx.more (c : Cx) (e : Option (Nat × Option (Nat × Nat) × Nat)) : Cx := { c with N := c.N + 1, tok := fun t => if t = c.N then e else c.tok t }
theorem grown_here (h : Inv F E w0 c m) {t n len : Nat} {b o cap : Nat} (hm : m[t]? = some (.tok n len)) (ht : c.tok t = some (len, some (b, o), cap)) {k : Nat} (hk : len + k ≤ cap)
    {w' : World} {arr arr' : Array Value} {T : TypeId} {fz : Nat × Nat} (ha : c.w.heap[b]? = some (.cells arr T fz)) (hz : nofz arr.size fz) (hs : SameBut c.w w') (hh : w'.heap = c.w.heap.setIfInBounds b (.cells arr' T fz)) (hsz : arr'.size = arr.size)
    (hold : ∀ j, j < o + len * n → arr'[j]? = arr[j]?) :
    ∃ c', c'.w = w' ∧ Ext c c' ∧ Inv F E w0 c' (m.set t (.tok n (len + k))) ∧ c'.tok t = some (len + k, some (b, o), cap) ∧ c'.K b = some (o + (len + k) * n) ∧ c'.N = c.N ∧ cellsAt w' b arr' := by
  have hB := h.blk t _ hm
  simp only [RB] at hB
  obtain ⟨base, cap0, h1, h2, h3⟩ := hB
  rw [ht] at h1
  injection h1 with h1
  injection h1 with _ h1
  injection h1 with h1 h1'
  subst h1 h1'
  simp only at h3
  obtain ⟨h4, arr0, h5, h6⟩ := h3
  have harr : arr0 = arr := by
    obtain ⟨T0, fz0, k1, _⟩ := h5; rw [k1] at ha; injection ha with ha; injection ha
  subst harr
  have hlt := cellsAt_lt h5
  have hoth : ∀ b', b' ≠ b → w'.heap[b']? = c.w.heap[b']? := by
    intro b' hb
    rw [hh, Array.getElem?_setIfInBounds, if_neg (fun e => hb e.symm)]
  have hself : w'.heap[b]? = some (.cells arr' T fz) := by
    rw [hh, Array.getElem?_setIfInBounds, if_pos rfl, if_pos hlt]
  have htm : t < m.length := by
    rcases Nat.lt_or_ge t m.length with hl | hl
    · exact hl
    · rw [List.getElem?_eq_none hl] at hm; cases hm
  let c' : Cx := { c with w := w', K := fun b' => if b' = b then some (o + (len + k) * n) else c.K b', tok := fun t' => if t' = t then some (len + k, some (b, o), cap) else c.tok t' }
  have hmul : len * n ≤ (len + k) * n := Nat.mul_le_mul_right _ (by omega)
  have he : Ext c c' := by
    refine ⟨by simp [c', hh], ?_, ?_, Nat.le_refl _, fun _ _ => rfl, ?_⟩
    · intro b' o' ⟨k1, k2⟩
      refine ⟨⟨by simp [c', hh]; exact k1, fun k' hk' => ?_⟩, ?_⟩
      · simp only [c'] at hk'
        split at hk'
        · rename_i hb; subst hb
          obtain rfl := Option.some.inj hk'
          have := k2 _ h4
          omega
        · exact k2 k' hk'
      · by_cases hb : b' = b
        · subst hb
          have := k2 _ h4
          simp only [c', World.cell?, hself, ha]
          simpa using hold o' this
        · simp only [c', World.cell?, hoth b' hb]
    · intro b' hb'
      by_cases hbe : b' = b
      · subst hbe
        simp only [c', cinfo, hself, ha, hsz]
      · simp only [c', cinfo, hoth b' hbe]
    · intro t' _ e' he'
      simp only [c'] at he'
      split at he'
      · rename_i htt; subst htt
        obtain rfl := Option.some.inj he'
        refine ⟨_, ht, ?_⟩
        rcases Nat.eq_zero_or_pos k with hk0 | hk0
        · subst hk0; exact .inl rfl
        · exact .inr (by simp; omega)
      · exact ⟨e', he', .inl rfl⟩
  have hown : ∀ i, ownB c' (m.set t (.tok n (len + k))) i = ownB c m i := by
    intro i
    unfold ownB
    by_cases hi : t = i
    · subst hi
      rw [List.getElem?_set_self htm, hm]
      simp [c', ht]
    · rw [List.getElem?_set_ne hi]
      simp only [c', if_neg (fun e => hi (Eq.symm e))]
  have hlow := h.low t b (by unfold ownB; rw [hm, ht])
  refine ⟨c', rfl, he, ⟨?_, by simpa [c'] using h.N, ?_, ?_, fun i b' hb => h.low i b' (by rw [← hown]; exact hb), ?_, ?_, fun g => RPcells_mono he.keeps _ _ _ (h.gl g)⟩, by simp [c'], by simp [c'], rfl, ⟨T, fz, hself, by rw [hsz]; exact hz⟩⟩
  · refine h.below.trans ⟨hs.os, hs.tape, hs.output, he.size, fun b' hb => hoth b' ?_⟩
    omega
  · intro b' k' hk'
    simp only [c'] at hk' ⊢
    split at hk'
    · rename_i hb; subst hb
      have := h.K _ _ h4
      simpa [hh] using this
    · have := h.K b' k' hk'
      simpa [hh] using this
  · intro b' hb'
    simp only [c', if_neg (by omega : b' ≠ b)]
    exact h.old b' hb'
  · intro i x hx
    by_cases hi : t = i
    · subst hi
      rw [List.getElem?_set_self htm] at hx
      obtain rfl := Option.some.inj hx
      simp only [RB]
      refine ⟨some (b, o), cap, by simp [c'], hk, ?_⟩
      simp only
      refine ⟨by simp [c'], arr', ⟨T, fz, hself, by rw [hsz]; exact hz⟩, by omega⟩
    · rw [List.getElem?_set_ne hi] at hx
      have hti : c'.tok i = c.tok i := by simp only [c', if_neg (fun e => hi (Eq.symm e))]
      refine RB_mono he (h.blk i x hx) hti rfl ?_
      intro b' hb
      have hb' : ownB c m i = some b' := by
        unfold ownB
        rw [hx]
        cases x <;> first | exact hb | (simp at hb)
      have hbne : b' ≠ b := by
        intro e
        subst e
        exact hi (h.inj t i _ (by unfold ownB; rw [hm, ht]) hb')
      exact ⟨by simp only [c', if_neg hbne], hoth b' hbne⟩
  · intro i j b' hi hj
    rw [hown] at hi hj
    exact h.inj i j b' hi hj

theorem grown_away (h : Inv F E w0 c m) {t n len : Nat} {e0} (hm : m[t]? = some (.tok n len)) (ht : c.tok t = some (len, e0)) {k newCap : Nat} (hk0 : 0 < k) (hk : len + k ≤ newCap)
    {w' : World} {arr : Array Value} {T : TypeId} {fz : Nat × Nat} (hh : w'.heap = c.w.heap.push (.cells arr T fz)) (hz : nofz arr.size fz) (hs : SameBut c.w w') (hc : newCap * n ≤ arr.size) :
    ∃ c', c'.w = w' ∧ Ext c c' ∧ Inv F E w0 c' (m.set t (.tok n (len + k))) ∧ c'.tok t = some (len + k, some (c.w.heap.size, 0), newCap) ∧ c'.K c.w.heap.size = some ((len + k) * n) ∧ c'.N = c.N ∧ cellsAt w' c.w.heap.size arr := by
  have htm : t < m.length := by
    rcases Nat.lt_or_ge t m.length with hl | hl
    · exact hl
    · rw [List.getElem?_eq_none hl] at hm; cases hm
  have hK : ∀ b k, c.K b = some k → b < c.w.heap.size := h.K
  have hoth : ∀ b', b' ≠ c.w.heap.size → w'.heap[b']? = c.w.heap[b']? := by
    intro b' hb
    rw [hh, Array.getElem?_push, if_neg hb]
  have hcell : cellsAt w' c.w.heap.size arr := ⟨T, fz, by simp [hh], hz⟩
  let c' : Cx := { c with w := w', K := fun b' => if b' = c.w.heap.size then some ((len + k) * n) else c.K b', tok := fun t' => if t' = t then some (len + k, some (c.w.heap.size, 0), newCap) else c.tok t' }
  have he : Ext c c' := by
    refine ⟨by simp [c', hh], ?_, ?_, Nat.le_refl _, fun _ _ => rfl, ?_⟩
    · intro b' o' ⟨k1, k2⟩
      have hne : b' ≠ c.w.heap.size := by omega
      refine ⟨⟨by simp [c', hh]; omega, fun k' hk' => ?_⟩, ?_⟩
      · simp only [c', if_neg hne] at hk'; exact k2 k' hk'
      · simp only [c', World.cell?, hoth b' hne]
    · intro b' hb'
      simp only [c', cinfo, hoth b' (by omega)]
    · intro t' _ e' he'
      simp only [c'] at he'
      split at he'
      · rename_i htt; subst htt
        obtain rfl := Option.some.inj he'
        exact ⟨_, ht, .inr (by simp; omega)⟩
      · exact ⟨e', he', .inl rfl⟩
  have hlt : ∀ i b, ownB c m i = some b → b < c.w.heap.size := fun i b hb => by
    obtain ⟨k, hk⟩ := ownB_K h hb
    exact hK b k hk
  have hown : ∀ i, i ≠ t → ownB c' (m.set t (.tok n (len + k))) i = ownB c m i := by
    intro i hi
    unfold ownB
    rw [List.getElem?_set_ne (fun e => hi e.symm)]
    simp only [c', if_neg hi]
  have hownt : ownB c' (m.set t (.tok n (len + k))) t = some c.w.heap.size := by
    unfold ownB
    rw [List.getElem?_set_self htm]
    simp [c']
  refine ⟨c', rfl, he, ⟨?_, by simpa [c'] using h.N, ?_, ?_, ?_, ?_, ?_, fun g => RPcells_mono he.keeps _ _ _ (h.gl g)⟩, by simp [c'], by simp [c'], rfl, hcell⟩
  · refine h.below.trans ⟨hs.os, hs.tape, hs.output, he.size, fun b' hb => hoth b' ?_⟩
    have := h.below.size
    omega
  · intro b' k' hk'
    simp only [c'] at hk' ⊢
    rw [hh]
    split at hk'
    · rename_i hb; subst hb; simp
    · have := h.K b' k' hk'; simp; omega
  · intro b' hb'
    have := h.below.size
    simp only [c', if_neg (by omega : b' ≠ c.w.heap.size)]
    exact h.old b' hb'
  · intro i b' hb'
    by_cases hi : i = t
    · subst hi
      rw [hownt] at hb'
      obtain rfl := Option.some.inj hb'
      exact h.below.size
    · rw [hown i hi] at hb'
      exact h.low i b' hb'
  · intro i x hx
    by_cases hi : t = i
    · subst hi
      rw [List.getElem?_set_self htm] at hx
      obtain rfl := Option.some.inj hx
      simp only [RB]
      refine ⟨some (c.w.heap.size, 0), newCap, by simp [c'], hk, ?_⟩
      simp only
      exact ⟨by simp [c'], arr, hcell, by omega⟩
    · rw [List.getElem?_set_ne hi] at hx
      have hti : c'.tok i = c.tok i := by simp only [c', if_neg (fun e => hi (Eq.symm e))]
      refine RB_mono he (h.blk i x hx) hti rfl ?_
      intro b' hb
      have hb' : ownB c m i = some b' := by
        unfold ownB
        rw [hx]
        cases x <;> first | exact hb | (simp at hb)
      have hbne : b' ≠ c.w.heap.size := by have := hlt i b' hb'; omega
      exact ⟨by simp only [c', if_neg hbne], hoth b' hbne⟩
  · intro i j b' hi hj
    by_cases h1 : i = t <;> by_cases h2 : j = t
    · rw [h1, h2]
    · subst h1
      rw [hownt] at hi
      rw [hown j h2] at hj
      obtain rfl := Option.some.inj hi
      have := hlt _ _ hj; omega
    · subst h2
      rw [hownt] at hj
      rw [hown i h1] at hi
      obtain rfl := Option.some.inj hj
      have := hlt _ _ hi; omega
    · rw [hown i h1] at hi
      rw [hown j h2] at hj
      exact h.inj i j b' hi hj
end
end Hx
