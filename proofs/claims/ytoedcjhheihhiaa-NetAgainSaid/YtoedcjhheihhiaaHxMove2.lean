/-
  HxMove2: the operations that read or write the call's own memory.
-/
import Derived.Test.YtoedcjhheihhiaaHxMove
namespace Hx
open Go Go.RowKit
set_option linter.unusedSimpArgs false
set_option linter.unusedVariables false

section
variable {F : Fix} {E : Env} {w0 : Base} {c : Cx} {m : Mem}

def Moved (F : Fix) (E : Env) (w0 : Base) (c : Cx) (ρ : Operand → Value) (go : Oper) (r : AV) (m' : Mem) : Prop :=
  ∃ c' y nx, (execOp ρ go).run F.P c.w = .ok nx c'.w ∧ (nx = .value y ∨ nx = .skip ∧ y = undef) ∧ Ext c c' ∧ Inv F E w0 c' m' ∧ R F c' r y

theorem chunks_flatten (n : Nat) : ∀ (k : Nat) (cs : List PV), cs.length = k * n → (chunks n k cs).flatten = cs
  | 0, cs, h => by simp at h; subst h; simp [chunks]
  | k + 1, cs, h => by
    simp only [chunks, List.flatten_cons]
    rw [chunks_flatten n k (cs.drop n) (by simp [h, Nat.add_mul]), List.take_append_drop]
theorem chunks_length (n : Nat) : ∀ (k : Nat) (cs : List PV), (chunks n k cs).length = k
  | 0, cs => by simp [chunks]
  | k + 1, cs => by simp [chunks, chunks_length n k]
theorem chunks_rows (n : Nat) : ∀ (k : Nat) (cs : List PV), cs.length = k * n → ∀ r ∈ chunks n k cs, r.length = n
  | 0, cs, h, r, hr => by simp [chunks] at hr
  | k + 1, cs, h, r, hr => by
    simp only [chunks, List.mem_cons] at hr
    rcases hr with rfl | hr
    · simp [h, Nat.add_mul]
    · exact chunks_rows n k (cs.drop n) (by simp [h, Nat.add_mul]) r hr

theorem toP_sound {x : AV} {p : PV} (h : toP x = some p) {v : Value} (hv : R F c x v) : RP F c p v ∧ (x.flat = true → p.flat = true) := by
  unfold toP at h
  split at h
  · obtain rfl := Option.some.inj h
    exact ⟨by simpa only [R] using hv, fun hf => hf⟩
  · obtain rfl := Option.some.inj h
    simp only [R] at hv
    obtain ⟨⟨base, cap, rfl, hle, hr⟩, _⟩ := hv
    exact ⟨by simp only [RP]; exact ⟨base, cap, rfl, hle, hr⟩, fun _ => rfl⟩
  · cases h
theorem toPs_sound : ∀ {xs : List AV} {ps : List PV}, toPs xs = some ps → ∀ {vs : List Value}, Rs F c xs vs → RPs F c ps vs ∧ ((∀ x ∈ xs, x.flat = true) → ∀ p ∈ ps, p.flat = true)
  | [], ps, h, vs, hv => by
    simp [toPs] at h; subst h
    simp only [Rs] at hv; subst hv
    simp [RPs]
  | x :: xs, ps, h, vs, hv => by
    simp only [toPs] at h
    split at h <;> try (cases h; done)
    rename_i p l hp hl
    obtain rfl := Option.some.inj h
    simp only [Rs] at hv
    obtain ⟨y, r, rfl, h1, h2⟩ := hv
    obtain ⟨k1, k2⟩ := toP_sound hp h1
    obtain ⟨k3, k4⟩ := toPs_sound hl h2
    refine ⟨by simp only [RPs]; exact ⟨y, r, rfl, k1, k3⟩, ?_⟩
    intro hf q hq
    simp only [List.mem_cons] at hq
    rcases hq with rfl | hq
    · exact k2 (hf x (by simp))
    · exact k4 (fun z hz => hf z (by simp [hz])) q hq

theorem cells_of (h : Inv F E w0 c m) {id : Nat} {cs : List AV} (hm : m[id]? = some (.cells cs)) :
    (c.ρ id).2 = 0 ∧ c.K (c.ρ id).1 = some 0 ∧ (∀ x ∈ cs, x.flat = true) ∧ ∃ arr T fz, c.w.heap[(c.ρ id).1]? = some (.cells arr T fz) ∧ nofz arr.size fz ∧ cs.length ≤ arr.size ∧ Rs F c cs (arr.toList.take cs.length) := by
  have hB := h.blk id _ hm
  simp only [RB] at hB
  obtain ⟨h1, h2, h3, h4, arr, ⟨T, fz, h5, h5'⟩, h6, h7⟩ := hB
  exact ⟨h3, h2, h4, arr, T, fz, h5, h5', h6, h7⟩

theorem run_cells {P : Program} {w : World} {b : Nat} {arr : Array Value} {T : TypeId} {fz : Nat × Nat} (hb : w.heap[b]? = some (.cells arr T fz)) (o n : Nat) (hl : o + n ≤ arr.size) :
    (loadCells ⟨b, o, none⟩ n).run P w = .ok ((arr.toList.drop o).take n).toArray w := by
  have hlen : n = ((arr.toList.drop o).take n).length := by simp; omega
  conv => lhs; rw [hlen]
  apply run_loadCells_list
  intro j v hj
  rw [addr_add rfl]
  rw [List.getElem?_take] at hj
  split at hj
  · simp only [World.cell?, hb]
    simpa using hj
  · cases hj

theorem rowsOf_sound (h : Inv F E w0 c m) {n : Nat} {x : AV} {rows : List (List PV)} (hr : rowsOf n m x = some rows) {v : Value} (hv : R F c x v) :
    ∃ news : List Value, RPs F c rows.flatten news ∧ (∀ r ∈ rows, r.length = n) ∧ (∀ p ∈ rows.flatten, p.flat = true) ∧ (∀ w1 : World, (Builtin.lenOf v).run F.P w1 = .ok rows.length w1) ∧
      (∀ w1 : World, w1.heap = c.w.heap → (Builtin.firstCells n rows.length v).run F.P w1 = .ok news.toArray w1) := by
  have key : ∀ (base : Option Addr) (cap : Nat), v = .slice base rows.length cap → (RProws F c n base 0 rows ∨ rows = []) → ∃ news : List Value, RPs F c rows.flatten news ∧ (∀ r ∈ rows, r.length = n) ∧ (∀ p ∈ rows.flatten, p.flat = true) ∧ (∀ w1 : World, (Builtin.lenOf v).run F.P w1 = .ok rows.length w1) ∧
      (∀ w1 : World, w1.heap = c.w.heap → (Builtin.firstCells n rows.length v).run F.P w1 = .ok news.toArray w1) := by
    intro base cap he hrw
    subst he
    cases base with
    | none =>
      cases rows with
      | nil => exact ⟨[], by simp [RPs], by simp, by simp, by simp [Builtin.lenOf], by simp [Builtin.firstCells]⟩
      | cons r rows =>
        rcases hrw with hrw | hrw
        · exact absurd rfl (RProws_ne hrw)
        · cases hrw
    | some a =>
      replace hrw : RProws F c n (some a) 0 rows := hrw.elim id (by rintro rfl; simp [RProws])
      obtain ⟨k1, k2, k3⟩ := rows_flat hrw
      obtain ⟨news, k4, k5⟩ := cells_vals k1
      refine ⟨news, k4, k2, RPcells_flat k1, by simp [Builtin.lenOf], ?_⟩
      intro w1 hw
      have hlen : news.length = rows.length * n := by
        rw [← RPs_length k4]
        clear k1 k3 k4 k5 hrw hr hv
        induction rows with
        | nil => simp
        | cons r rows ih => simp only [List.flatten_cons, List.length_append, k2 r (by simp), ih (fun r' hr' => k2 r' (by simp [hr'])), List.length_cons, Nat.add_mul]; omega
      refine run_firstCells_some w1 n rows.length a rows.length cap news hlen ?_
      intro j u hj
      have hne : rows ≠ [] := by
        intro e; subst e
        have : news = [] := by cases news <;> simp at hlen ⊢
        subst this; simp at hj
      rw [addr_add (k3 hne)]
      have := k5 j u hj
      simp only [World.cell?, hw] at this ⊢
      simpa using this
  unfold rowsOf at hr
  split at hr
  · obtain rfl := Option.some.inj hr
    simp only [R, RP] at hv
    exact key none 0 (by simpa using hv) (.inr rfl)
  · split at hr <;> try (cases hr; done)
    rename_i hn; subst hn
    obtain rfl := Option.some.inj hr
    simp only [R, RP] at hv
    obtain ⟨base, cap, he, _, hrw⟩ := hv
    exact key base cap he (.inl hrw)
  · split at hr <;> try (cases hr; done)
    rename_i hn; subst hn
    obtain rfl := Option.some.inj hr
    simp only [R] at hv
    obtain ⟨⟨base, cap, he, _, hrw⟩, _⟩ := hv
    exact key base cap he (.inl hrw)
  · split at hr <;> try (cases hr; done)
    rename_i s hn
    subst hn
    obtain rfl := Option.some.inj hr
    have hv' := R_str hv
    subst hv'
    have hfl : (byteRows s).flatten = s.map fun b => .int .u8 b.toNat := by
      clear hr hv key
      induction s with
      | nil => simp [byteRows]
      | cons b s ih => simp only [byteRows, List.map_cons, List.flatten_cons] at ih ⊢; rw [ih]; simp [byteRow]
    refine ⟨s.map fun b => .int .u8 b.toNat, ?_, ?_, ?_, ?_, ?_⟩
    · rw [hfl]
      clear hr hv key hfl
      induction s with
      | nil => simp [RPs]
      | cons b s ih => simp only [List.map_cons, RPs]; exact ⟨_, _, rfl, by simp [RP], ih⟩
    · intro r hr'
      simp only [byteRows, List.mem_map] at hr'
      obtain ⟨b, _, rfl⟩ := hr'
      rfl
    · intro p hp
      rw [hfl] at hp
      simp only [List.mem_map] at hp
      obtain ⟨b, _, rfl⟩ := hp
      rfl
    · intro w1; simp [Builtin.lenOf, size_bytes, byteRows]
    · intro w1 _
      simp only [Builtin.firstCells, Sem.run_pure, byteRows, List.length_map]
      congr 1
      rw [extract_bytes]
      simp
  · rename_i n' id off len
    split at hr <;> try (cases hr; done)
    rename_i hn; subst hn
    split at hr <;> try (cases hr; done)
    rename_i cs hm
    split at hr <;> try (cases hr; done)
    rename_i hle
    split at hr <;> try (cases hr; done)
    rename_i ps hps
    obtain rfl := Option.some.inj hr
    simp only [R] at hv
    obtain ⟨hid, a, cap, rfl, hlc, ha, hc⟩ := hv
    obtain ⟨h3, h2, h4, arr, T, fz, h5, h5', h6, h7⟩ := cells_of h hm
    have hsub := Rs_take (len * n') (Rs_drop off h7)
    obtain ⟨k1, k2⟩ := toPs_sound hps hsub
    have hpl : ps.length = len * n' := by
      have := RPs_length k1
      simp at this
      omega
    rw [chunks_length]
    rw [chunks_flatten _ _ _ hpl]
    refine ⟨_, k1, chunks_rows _ _ _ hpl, k2 (fun x hx => h4 x ?_), by simp [Builtin.lenOf], ?_⟩
    · exact List.mem_of_mem_drop (List.mem_of_mem_take hx)
    · intro w1 hw
      rcases hc with ⟨rfl, _⟩ | hc
      · simp only [Builtin.firstCells]
        rw [h3, Nat.zero_add]
        rw [← hw] at h5
        rw [run_cells h5 off (len * n') (by omega)]
        congr 2
        rw [List.drop_take, List.take_take]
        rw [show min (len * n') (cs.length - off) = len * n' by omega]
      · have : len = 0 := by omega
        subst this
        simp [Builtin.firstCells, loadCells, loadCellsFrom]
  · cases hr
end
end Hx
