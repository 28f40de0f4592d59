/-
  HxMove: stores, growth: how the world turns and how what is known of it turns.
-/
import Derived.Test.YtfobhbameffplaaHxStill3
import Derived.Laws.AppendOwn
import Derived.Laws.MakeOwn
import Derived.Laws.OwnMore
namespace Hx
open Go Go.RowKit
set_option linter.unusedSimpArgs false

def nofz (n : Nat) (fz : Nat × Nat) : Prop := fz.1 = fz.2 ∨ n ≤ fz.1
theorem nofz.not {n : Nat} {fz : Nat × Nat} (h : nofz n fz) : ∀ o, o < n → ¬ (fz.1 ≤ o ∧ o < fz.2) := by
  intro o ho
  rcases h with h | h <;> omega
def cellsAt (w : World) (b : Nat) (arr : Array Value) : Prop := ∃ T fz, w.heap[b]? = some (.cells arr T fz) ∧ nofz arr.size fz

def REs (F : Fix) (c : Cx) : List (PV × AV) → List MapEntry → Prop
  | [], l => l = []
  | (k, v) :: r, l => ∃ e l', l = e :: l' ∧ RP F c k e.key ∧ R F c v e.val ∧ REs F c r l'
theorem REs_mono {F : Fix} {c c' : Cx} (h : Ext c c') : ∀ {es : List (PV × AV)} {l : List MapEntry}, REs F c es l → REs F c' es l
  | [], _, hv => by simpa only [REs] using hv
  | (k, v) :: r, l, hv => by
    simp only [REs] at hv ⊢
    obtain ⟨e, l', rfl, h1, h2, h3⟩ := hv
    exact ⟨e, l', rfl, RP_mono h.keeps _ _ h1, R_mono h _ _ h2, REs_mono h h3⟩

def RB (F : Fix) (c : Cx) (i : Nat) : Blk → Prop
  | .dead => c.tok i = none
  | .tok n len => ∃ base cap, c.tok i = some (len, base, cap) ∧ len ≤ cap ∧
      match base with
      | none => cap = 0
      | some (b, o) => c.K b = some (o + len * n) ∧ ∃ arr, cellsAt c.w b arr ∧ o + cap * n ≤ arr.size
  | .cells cs => c.tok i = none ∧ c.K (c.ρ i).1 = some 0 ∧ (c.ρ i).2 = 0 ∧ (∀ x ∈ cs, x.flat = true) ∧ ∃ arr, cellsAt c.w (c.ρ i).1 arr ∧ cs.length ≤ arr.size ∧ Rs F c cs (arr.toList.take cs.length)
  | .map es => c.tok i = none ∧ c.K (c.ρ i).1 = some 0 ∧ ∃ ents clock, c.w.heap[(c.ρ i).1]? = some (.map ents clock) ∧ REs F c es ents.toList

def ownB (c : Cx) (m : Mem) (i : Nat) : Option Nat := match m[i]? with
  | some (.tok _ _) => match c.tok i with | some (_, some (b, _), _) => some b | _ => none
  | some (.cells _) => some (c.ρ i).1
  | some (.map _) => some (c.ρ i).1
  | _ => none

structure Base where
  w : World
  K : Nat → Option Nat

structure Inv (F : Fix) (E : Env) (w0 : Base) (c : Cx) (m : Mem) : Prop where
  below : Below w0.w.heap.size w0.w c.w
  N : c.N = m.length
  K : ∀ b k, c.K b = some k → b < c.w.heap.size
  old : ∀ b, b < w0.w.heap.size → c.K b = w0.K b
  low : ∀ i b, ownB c m i = some b → w0.w.heap.size ≤ b
  blk : ∀ i x, m[i]? = some x → RB F c i x
  inj : ∀ i j b, ownB c m i = some b → ownB c m j = some b → i = j
  gl : ∀ g, RPcells F c (F.gnum g) 0 (E.gl g)

section
variable {F : Fix} {E : Env} {w0 : Base} {c c' : Cx} {m : Mem}

theorem ownB_K (h : Inv F E w0 c m) {i b : Nat} (hb : ownB c m i = some b) : ∃ k, c.K b = some k := by
  unfold ownB at hb
  split at hb
  · rename_i n len hm
    have hr := h.blk i _ hm
    simp only [RB] at hr
    obtain ⟨base, cap, h1, h2, h3⟩ := hr
    rw [h1] at hb
    cases base with
    | none => simp at hb
    | some p =>
      obtain ⟨b', o⟩ := p
      simp only [Option.some.injEq] at hb
      subst hb
      exact ⟨_, h3.1⟩
  · rename_i cs hm
    have hr := h.blk i _ hm
    simp only [RB] at hr
    obtain rfl := Option.some.inj hb
    exact ⟨_, hr.2.1⟩
  · rename_i es hm
    have hr := h.blk i _ hm
    simp only [RB] at hr
    obtain rfl := Option.some.inj hb
    exact ⟨_, hr.2.1⟩
  · cases hb

theorem cellsAt_lt {w : World} {b : Nat} {arr : Array Value} (h : cellsAt w b arr) : b < w.heap.size := by
  obtain ⟨T, fz, h, _⟩ := h
  rcases Nat.lt_or_ge b w.heap.size with hl | hl
  · exact hl
  · rw [Array.getElem?_eq_none hl] at h; cases h
theorem cellsAt_eq {w w' : World} {b : Nat} {arr : Array Value} (h : cellsAt w b arr) (he : w'.heap[b]? = w.heap[b]?) : cellsAt w' b arr := by
  obtain ⟨T, fz, h1, h2⟩ := h
  exact ⟨T, fz, he.trans h1, h2⟩
theorem cellsAt_cell {w : World} {b o : Nat} {arr : Array Value} (h : cellsAt w b arr) : w.cell? ⟨b, o, none⟩ = arr[o]? := by
  obtain ⟨T, fz, h1, h2⟩ := h
  simp [World.cell?, h1]

theorem RB_mono (he : Ext c c') {i : Nat} {x : Blk} (h : RB F c i x) (ht : c'.tok i = c.tok i) (hρ : c'.ρ i = c.ρ i)
    (hb : ∀ b, (match x with | .tok _ _ => (match c.tok i with | some (_, some (b, _), _) => some b | _ => none) | .cells _ => some (c.ρ i).1 | .map _ => some (c.ρ i).1 | _ => none) = some b → c'.K b = c.K b ∧ c'.w.heap[b]? = c.w.heap[b]?) : RB F c' i x := by
  cases x with
  | dead => simp only [RB] at h ⊢; rw [ht]; exact h
  | tok n len =>
    simp only [RB] at h ⊢
    obtain ⟨base, cap, h1, h2, h3⟩ := h
    refine ⟨base, cap, ht.trans h1, h2, ?_⟩
    cases base with
    | none => exact h3
    | some p =>
      obtain ⟨b, o⟩ := p
      obtain ⟨h4, arr, h5, h6⟩ := h3
      obtain ⟨k1, k2⟩ := hb b (by simp [h1])
      exact ⟨k1.trans h4, arr, cellsAt_eq h5 k2, h6⟩
  | cells cs =>
    simp only [RB] at h ⊢
    obtain ⟨h1, h2, h3, h4, arr, h5, h6, h7⟩ := h
    obtain ⟨k1, k2⟩ := hb _ rfl
    rw [hρ]
    exact ⟨ht.trans h1, k1.trans h2, h3, h4, arr, cellsAt_eq h5 k2, h6, Rs_mono he _ _ h7⟩
  | map es =>
    simp only [RB] at h ⊢
    obtain ⟨h1, h2, ents, clock, h5, h6⟩ := h
    obtain ⟨k1, k2⟩ := hb _ rfl
    rw [hρ]
    exact ⟨ht.trans h1, k1.trans h2, ents, clock, k2.trans h5, REs_mono he h6⟩

def Cx.pushed (c : Cx) (w' : World) (k : Nat) (e : Option (Nat × Option (Nat × Nat) × Nat)) : Cx where
  w := w'
  K := fun b => if b = c.w.heap.size then some k else c.K b
  N := c.N + 1
  ρ := fun i => if i = c.N then (c.w.heap.size, 0) else c.ρ i
  tok := fun t => if t = c.N then e else c.tok t

structure SameBut (w w' : World) : Prop where
  os : w'.os = w.os
  tape : w'.tape = w.tape
  output : w'.output = w.output

set_option linter.unusedVariables false in
theorem Ext_pushed {w' : World} {k : Nat} {e} {ob : Obj} (hK : ∀ b k, c.K b = some k → b < c.w.heap.size) (hh : w'.heap = c.w.heap.push ob) : Ext c (c.pushed w' k e) where
  size := by simp [Cx.pushed, hh]
  safe := fun b o ⟨h1, h2⟩ => by
    have hne : b ≠ c.w.heap.size := by omega
    refine ⟨⟨by simp [Cx.pushed, hh]; omega, fun k' hk' => ?_⟩, ?_⟩
    · simp only [Cx.pushed, if_neg hne] at hk'; exact h2 k' hk'
    · simp only [Cx.pushed, World.cell?, hh, Array.getElem?_push, if_neg hne]
  csz := fun b hb => by
    have hne : b ≠ c.w.heap.size := by omega
    simp only [Cx.pushed, cinfo, hh, Array.getElem?_push, if_neg hne]
  N := by simp [Cx.pushed]
  ρ := fun i hi => by simp only [Cx.pushed, if_neg (by omega : i ≠ c.N)]
  tok := fun t ht e' he' => by
    simp only [Cx.pushed, if_neg (by omega : t ≠ c.N)] at he'
    exact ⟨e', he', .inl rfl⟩

theorem Inv_pushed (h : Inv F E w0 c m) {w' : World} {k : Nat} {e} {ob : Obj} {x : Blk} (hh : w'.heap = c.w.heap.push ob) (hs : SameBut c.w w')
    (hx : RB F (c.pushed w' k e) c.N x) (ho : ∀ b, ownB (c.pushed w' k e) (m ++ [x]) c.N = some b → b = c.w.heap.size) : Inv F E w0 (c.pushed w' k e) (m ++ [x]) := by
  have hK : ∀ b k, c.K b = some k → b < c.w.heap.size := h.K
  have he : Ext c (c.pushed w' k e) := Ext_pushed hK hh
  have hold : ∀ i, i < m.length → ownB (c.pushed w' k e) (m ++ [x]) i = ownB c m i := by
    intro i hi
    have hne : i ≠ c.N := by rw [h.N]; omega
    simp only [ownB, Cx.pushed, if_neg hne, List.getElem?_append_left hi]
  have hlt : ∀ i b, ownB c m i = some b → b < c.w.heap.size := fun i b hb => by
    obtain ⟨k, hk⟩ := ownB_K h hb
    exact hK b k hk
  refine ⟨?_, by simp [Cx.pushed, h.N], ?_, ?_, ?_, ?_, ?_, fun g => RPcells_mono he.keeps _ _ _ (h.gl g)⟩
  · refine h.below.trans ⟨hs.os, hs.tape, hs.output, he.size, fun b hb => ?_⟩
    have := h.below.size
    simp only [Cx.pushed, hh, Array.getElem?_push, if_neg (by omega : b ≠ c.w.heap.size)]
  · intro b k' hk
    simp only [Cx.pushed] at hk ⊢
    rw [hh]
    split at hk
    · rename_i hb; subst hb; simp
    · have := h.K b k' hk; simp; omega
  · intro b hb
    have := h.below.size
    simp only [Cx.pushed, if_neg (by omega : b ≠ c.w.heap.size)]
    exact h.old b hb
  · intro i b hb
    rcases Nat.lt_or_ge i m.length with hi | hi
    · rw [hold i hi] at hb
      exact h.low i b hb
    · have : i = m.length := by
        rcases Nat.lt_or_ge m.length i with h1 | h1
        · unfold ownB at hb
          rw [List.getElem?_eq_none (by simp; omega)] at hb
          cases hb
        · omega
      subst this
      rw [← h.N] at hb
      rw [ho b hb]
      exact h.below.size
  · intro i y hy
    rcases Nat.lt_or_ge i m.length with hi | hi
    · rw [List.getElem?_append_left hi] at hy
      have hne : i ≠ c.N := by rw [h.N]; omega
      refine RB_mono he (h.blk i y hy) (by simp only [Cx.pushed, if_neg hne]) (by simp only [Cx.pushed, if_neg hne]) ?_
      intro b hb
      have hb' : ownB c m i = some b := by
        unfold ownB
        rw [hy]
        cases y <;> first | exact hb | (simp at hb)
      have := hlt i b hb'
      have hne' : b ≠ c.w.heap.size := by omega
      simp only [Cx.pushed, if_neg hne', hh, Array.getElem?_push]
      simp
    · have : i = m.length := by
        rcases Nat.lt_or_ge m.length i with h1 | h1
        · rw [List.getElem?_eq_none (by simp; omega)] at hy; cases hy
        · omega
      subst this
      simp at hy
      subst hy
      rw [← h.N]; exact hx
  · intro i j b hi hj
    have hr : ∀ i b, ownB (c.pushed w' k e) (m ++ [x]) i = some b → (i < m.length ∧ b < c.w.heap.size) ∨ (i = m.length ∧ b = c.w.heap.size) := by
      intro i b hb
      rcases Nat.lt_or_ge i m.length with hi | hi
      · rw [hold i hi] at hb
        exact .inl ⟨hi, hlt i b hb⟩
      · have : i = m.length := by
          rcases Nat.lt_or_ge m.length i with h1 | h1
          · unfold ownB at hb
            rw [List.getElem?_eq_none (by simp; omega)] at hb
            cases hb
          · omega
        subst this
        rw [← h.N] at hb
        exact .inr ⟨rfl, ho b hb⟩
    rcases hr i b hi with ⟨h1, h2⟩ | ⟨h1, h2⟩ <;> rcases hr j b hj with ⟨h3, h4⟩ | ⟨h3, h4⟩
    · rw [hold i h1] at hi; rw [hold j h3] at hj
      exact h.inj i j b hi hj
    · omega
    · omega
    · omega
end
end Hx

namespace Hx
open Go Go.RowKit
set_option linter.unusedSimpArgs false
set_option linter.unusedVariables false

section
variable {P : Program}
theorem storeCells_run (b : Nat) (T : TypeId) (fz : Nat × Nat) : ∀ (vs : List Value) (o i : Nat) (arr : Array Value) (w : World), w.heap[b]? = some (.cells arr T fz) → nofz arr.size fz → o + i + vs.length ≤ arr.size → (∀ v ∈ vs, v.oneCell' = true) →
    ∃ w' arr', (storeCells ⟨b, o, none⟩ vs i).run P w = .ok () w' ∧ SameBut w w' ∧ w'.heap = w.heap.setIfInBounds b (.cells arr' T fz) ∧ arr'.size = arr.size ∧ arr'.toList = arr.toList.take (o + i) ++ vs ++ arr.toList.drop (o + i + vs.length)
  | [], o, i, arr, w, hg, hz, hl, _ => by
    refine ⟨w, arr, by simp [storeCells], ⟨rfl, rfl, rfl⟩, ?_, rfl, by simp⟩
    have hlt : b < w.heap.size := (Array.getElem?_eq_some_iff.1 hg).1
    apply Array.ext
    · simp
    · intro k h1 h2
      rw [Array.getElem_setIfInBounds h1]
      split
      · rename_i hk; subst hk; exact (Array.getElem?_eq_some_iff.1 hg).2
      · rfl
  | v :: vs, o, i, arr, w, hg, hz, hl, h1 => by
    simp only [List.length_cons] at hl
    have hi : o + i < arr.size := by omega
    have hadd : (⟨b, o, none⟩ : Addr).add i = ⟨b, o + i, none⟩ := addr_add rfl i
    have hcell : w.cell? ⟨b, o + i, none⟩ = some arr[o + i] := by simp [World.cell?, hg, hi]
    have hfro : w.frozen? ⟨b, o + i, none⟩ = false := by
      have := hz.not (o + i) hi
      simp only [World.frozen?, hg]
      by_cases h1 : fz.1 ≤ o + i <;> by_cases h2 : o + i < fz.2 <;> simp [h1, h2]
      exact this ⟨h1, h2⟩
    have hst : (store ((⟨b, o, none⟩ : Addr).add i) v).run P w = .ok () (w.setCell ⟨b, o + i, none⟩ v) := by
      rw [hadd, run_store P w _ v _ (h1 v (by simp)), hcell]
      simp [hfro]
    have hheap : (w.setCell ⟨b, o + i, none⟩ v).heap = w.heap.setIfInBounds b (.cells (arr.setIfInBounds (o + i) v) T fz) := by
      have hlt : b < w.heap.size := (Array.getElem?_eq_some_iff.1 hg).1
      have hv : w.heap[b] = .cells arr T fz := (Array.getElem?_eq_some_iff.1 hg).2
      simp only [World.setCell]
      apply Array.ext
      · simp
      · intro k h1 h2
        rw [Array.getElem_modify, Array.getElem_setIfInBounds (by simpa using h1)]
        by_cases hk : b = k
        · subst hk; simp [hv]
        · simp [hk]
    obtain ⟨w', arr', k1, k2, k3, k4, k5⟩ := storeCells_run b T fz vs o (i + 1) (arr.setIfInBounds (o + i) v) (w.setCell ⟨b, o + i, none⟩ v)
      (by rw [hheap]; have hlt : b < w.heap.size := (Array.getElem?_eq_some_iff.1 hg).1; simp [hlt]) (by simpa using hz) (by simp; omega) (fun x hx => h1 x (by simp [hx]))
    refine ⟨w', arr', ?_, ⟨k2.os, k2.tape, k2.output⟩, ?_, by simpa using k4, ?_⟩
    · simp only [storeCells, Sem.run_bind, hst, Result.andThen_ok, k1]
    · rw [k3, hheap]
      apply Array.ext
      · simp
      · intro k h1 h2
        rw [Array.getElem_setIfInBounds (by simpa using h1), Array.getElem_setIfInBounds (by simpa using h1), Array.getElem_setIfInBounds (by simpa using h1)]
        split <;> rfl
    · rw [k5]
      simp only [Array.toList_setIfInBounds, List.length_cons]
      rw [List.take_set, List.drop_set_of_lt (by omega)]
      rw [show o + (i + 1) = (o + i) + 1 by omega]
      rw [List.take_succ_eq_append_getElem (by simp; omega), List.set_append_right _ _ (by simp; omega)]
      simp only [List.length_take, Array.length_toList]
      rw [show o + i - min (o + i) arr.size = 0 by omega]
      simp only [List.set_cons_zero, List.append_assoc, List.singleton_append, List.cons_append, List.nil_append]
      rw [show o + i + 1 + vs.length = o + i + (vs.length + 1) by omega]
end

section
variable {F : Fix} {E : Env} {w0 : Base} {c c' : Cx} {m : Mem}

theorem flat_one {x : AV} (hf : x.flat = true) {v : Value} (h : R F c x v) : v.oneCell' = true := by
  cases x with
  | p x => cases x <;> simp [AV.flat, PV.flat] at hf <;> simp only [R, RP] at h <;> first
      | (subst h; rfl)
      | (obtain ⟨_, _, rfl, _⟩ := h; rfl)
      | (obtain ⟨_, rfl, _⟩ := h; rfl)
  | unk => simp [AV.flat] at hf
  | agg _ => simp [AV.flat] at hf
  | tup _ => simp [AV.flat] at hf
  | dat _ => simp [AV.flat] at hf
  | ty t x =>
    cases x <;> simp [AV.flat] at hf <;> simp only [R] at h
    · obtain ⟨⟨⟨_, _, rfl, _⟩, _⟩, _⟩ := h; rfl
    · obtain ⟨⟨_, rfl⟩, _⟩ := h; rfl
  | _ =>
    simp only [R] at h
    first
      | (obtain ⟨⟨_, _, rfl, _⟩, _⟩ := h; rfl)
      | (obtain ⟨_, _, _, rfl, _⟩ := h; rfl)
      | (obtain ⟨_, rfl, _⟩ := h; rfl)
      | (obtain ⟨_, rfl⟩ := h; rfl)
theorem flat_ones : ∀ {xs : List AV} {ys : List Value}, (∀ x ∈ xs, x.flat = true) → Rs F c xs ys → ∀ v ∈ ys, v.oneCell' = true
  | [], ys, _, h, v, hv => by simp only [Rs] at h; subst h; simp at hv
  | x :: xs, ys, hf, h, v, hv => by
    simp only [Rs] at h
    obtain ⟨y, r, rfl, h1, h2⟩ := h
    simp only [List.mem_cons] at hv
    rcases hv with rfl | hv
    · exact flat_one (hf x (by simp)) h1
    · exact flat_ones (fun z hz => hf z (by simp [hz])) h2 v hv
theorem stored (h : Inv F E w0 c m) {id : Nat} {cs cs' : List AV} (hm : m[id]? = some (.cells cs)) {w' : World} {arr arr' : Array Value} {T : TypeId} {fz : Nat × Nat}
    (ha : c.w.heap[(c.ρ id).1]? = some (.cells arr T fz)) (hz : nofz arr.size fz) (hs : SameBut c.w w') (hh : w'.heap = c.w.heap.setIfInBounds (c.ρ id).1 (.cells arr' T fz)) (hsz : arr'.size = arr.size)
    (hl : cs'.length = cs.length) (hf : ∀ x ∈ cs', x.flat = true) (hr : Rs F c cs' (arr'.toList.take cs'.length)) :
    Ext c { c with w := w' } ∧ Inv F E w0 { c with w := w' } (m.set id (.cells cs')) := by
  have hB := h.blk id _ hm
  simp only [RB] at hB
  obtain ⟨h1, h2, h3, h4, arr0, h5, h6, h7⟩ := hB
  have hlt := cellsAt_lt h5
  have hoth : ∀ b, b ≠ (c.ρ id).1 → w'.heap[b]? = c.w.heap[b]? := by
    intro b hb
    rw [hh, Array.getElem?_setIfInBounds, if_neg (fun e => hb e.symm)]
  have hself : w'.heap[(c.ρ id).1]? = some (.cells arr' T fz) := by
    rw [hh, Array.getElem?_setIfInBounds, if_pos rfl, if_pos hlt]
  have he : Ext c { c with w := w' } := by
    refine ⟨by simp [hh], ?_, ?_, Nat.le_refl _, fun _ _ => rfl, fun t ht e' he' => ⟨e', he', .inl rfl⟩⟩
    · intro b o ⟨k1, k2⟩
      have hne : b ≠ (c.ρ id).1 := by
        intro e; subst e
        have := k2 0 h2; omega
      refine ⟨⟨by simp [hh]; exact k1, k2⟩, ?_⟩
      simp only [World.cell?, hoth b hne]
    · intro b hb
      by_cases hbe : b = (c.ρ id).1
      · subst hbe
        simp only [cinfo, hself, ha, hsz]
      · simp only [cinfo, hoth b hbe]
  have hown : ∀ i, ownB { c with w := w' } (m.set id (.cells cs')) i = ownB c m i := by
    intro i
    unfold ownB
    by_cases hi : id = i
    · subst hi
      have hlt' : id < m.length := by
        rcases Nat.lt_or_ge id m.length with hl | hl
        · exact hl
        · rw [List.getElem?_eq_none hl] at hm; cases hm
      rw [List.getElem?_set_self hlt', hm]
    · rw [List.getElem?_set_ne hi]
  have hlow := h.low id _ (by unfold ownB; rw [hm])
  refine ⟨he, ?_, by simpa using h.N, ?_, h.old, fun i b hb => h.low i b (by rw [← hown]; exact hb), ?_, ?_, fun g => RPcells_mono he.keeps _ _ _ (h.gl g)⟩
  · refine h.below.trans ⟨hs.os, hs.tape, hs.output, he.size, fun b hb => hoth b ?_⟩
    omega
  · intro b k hk
    have := h.K b k hk
    simpa [hh] using this
  · intro i x hx
    by_cases hi : id = i
    · subst hi
      rw [List.getElem?_set_self' ] at hx
      simp [hm] at hx
      subst hx
      simp only [RB]
      exact ⟨h1, h2, h3, hf, arr', ⟨T, fz, hself, by rw [hsz]; exact hz⟩, by
        have : arr0 = arr := by obtain ⟨T0, fz0, k1, _⟩ := h5; rw [k1] at ha; injection ha with ha; injection ha
        rw [hl, hsz, ← this]; exact h6, Rs_mono he _ _ hr⟩
    · rw [List.getElem?_set_ne hi] at hx
      refine RB_mono he (h.blk i x hx) rfl rfl ?_
      intro b hb
      have hb' : ownB c m i = some b := by
        unfold ownB
        rw [hx]
        cases x <;> first | exact hb | (simp at hb)
      refine ⟨rfl, hoth b ?_⟩
      intro e
      subst e
      exact hi (h.inj id i _ (by unfold ownB; rw [hm]) hb')
  · intro i j b hi hj
    rw [hown] at hi hj
    exact h.inj i j b hi hj

theorem rows_flat {n : Nat} {a : Addr} : ∀ {rows : List (List PV)} {i : Nat}, RProws F c n (some a) i rows → RPcells F c a.block (a.off + i * n) rows.flatten ∧ (∀ r ∈ rows, r.length = n) ∧ (rows ≠ [] → a.spot = none)
  | [], i, _ => by simp [RPcells]
  | r :: rows, i, h => by
    simp only [RProws] at h
    obtain ⟨⟨h1, a', h2, h3, h4⟩, h5⟩ := h
    obtain rfl := Option.some.inj h2
    obtain ⟨k1, k2, k3⟩ := rows_flat h5
    refine ⟨?_, ?_, fun _ => h3⟩
    · have : ∀ {xs ys : List PV} {o : Nat}, RPcells F c a.block o xs → RPcells F c a.block (o + xs.length) ys → RPcells F c a.block o (xs ++ ys) := by
        intro xs
        induction xs with
        | nil => intro ys o _ h; simpa using h
        | cons x xs ih =>
          intro ys o h1 h2
          simp only [RPcells, List.cons_append] at h1 ⊢
          refine ⟨h1.1, ih h1.2 ?_⟩
          rw [show o + 1 + xs.length = o + (x :: xs).length by simp; omega]
          exact h2
      rw [List.flatten_cons]
      refine this h4 ?_
      rw [h1, show a.off + i * n + n = a.off + (i + 1) * n by rw [Nat.add_mul]; omega]
      exact k1
    · intro r' hr'
      simp only [List.mem_cons] at hr'
      rcases hr' with rfl | hr'
      · exact h1
      · exact k2 r' hr'
theorem RPcells_split {b : Nat} : ∀ {xs ys : List PV} {o : Nat}, RPcells F c b o (xs ++ ys) → RPcells F c b o xs ∧ RPcells F c b (o + xs.length) ys
  | [], ys, o, h => by simpa [RPcells] using h
  | x :: xs, ys, o, h => by
    simp only [RPcells, List.cons_append] at h ⊢
    obtain ⟨k1, k2⟩ := RPcells_split h.2
    exact ⟨⟨h.1, k1⟩, by rw [show o + (x :: xs).length = o + 1 + xs.length by simp; omega]; exact k2⟩
theorem flat_rows {n b o : Nat} : ∀ {rows : List (List PV)} {i : Nat}, (∀ r ∈ rows, r.length = n) → RPcells F c b (o + i * n) rows.flatten → RProws F c n (some ⟨b, o, none⟩) i rows
  | [], i, _, _ => by simp [RProws]
  | r :: rows, i, hl, h => by
    rw [List.flatten_cons] at h
    obtain ⟨k1, k2⟩ := RPcells_split h
    simp only [RProws]
    have hr := hl r (by simp)
    refine ⟨⟨hr, _, rfl, rfl, k1⟩, flat_rows (fun r' hr' => hl r' (by simp [hr'])) ?_⟩
    rw [hr] at k2
    rw [Nat.add_mul]
    rw [show o + (i * n + 1 * n) = o + i * n + n by omega]
    exact k2
theorem RPcells_of {b : Nat} : ∀ {xs : List PV} {ys : List Value} {o : Nat}, RPs F c xs ys → (∀ x ∈ xs, x.flat = true) → (∀ j, j < xs.length → c.safe b (o + j)) → (∀ j v, ys[j]? = some v → c.w.cell? ⟨b, o + j, none⟩ = some v) → RPcells F c b o xs
  | [], ys, o, _, _, _, _ => by simp [RPcells]
  | x :: xs, ys, o, h, hf, hs, hc => by
    simp only [RPs] at h
    obtain ⟨y, r, rfl, h1, h2⟩ := h
    simp only [RPcells]
    refine ⟨⟨by simpa using hs 0 (by simp), hf x (by simp), y, by simpa using hc 0 y (by simp), h1⟩, RPcells_of h2 (fun z hz => hf z (by simp [hz])) ?_ ?_⟩
    · intro j hj
      have := hs (j + 1) (by simp; omega)
      rwa [show o + (j + 1) = o + 1 + j by omega] at this
    · intro j v hv
      have := hc (j + 1) v (by simpa using hv)
      rwa [show o + (j + 1) = o + 1 + j by omega] at this
theorem RPcells_flat {b : Nat} : ∀ {xs : List PV} {o : Nat}, RPcells F c b o xs → ∀ x ∈ xs, x.flat = true
  | [], _, _, x, hx => by simp at hx
  | z :: xs, o, h, x, hx => by
    simp only [RPcells] at h
    simp only [List.mem_cons] at hx
    rcases hx with rfl | hx
    · exact h.1.2.1
    · exact RPcells_flat h.2 x hx
end
end Hx
