/-
  HxMem: the memory of a call: what is known of each of its blocks (RB, Inv), and how a new block, a store and a growth keep it.
-/
import Derived.Test.YtoedcjhheihhiaaHxStill3
namespace Hx
open Go Go.RowKit
set_option linter.unusedSimpArgs false

def nofz (n : Nat) (fz : Nat × Nat) : Prop := fz.1 = fz.2 ∨ n ≤ fz.1
theorem nofz.not {n : Nat} {fz : Nat × Nat} (h : nofz n fz) : ∀ o, o < n → ¬ (fz.1 ≤ o ∧ o < fz.2) := by
  intro o ho
  rcases h with h | h <;> omega
def cellsAt (w : World) (b : Nat) (arr : Array Value) : Prop := ∃ T fz, w.heap[b]? = some (.cells arr T fz) ∧ nofz arr.size fz

def REs (F : Fix) (c : Cx) : List (PV × AV) → List MapEntry → Prop
  | [], l => l = []
  | (k, v) :: r, l => ∃ e l', l = e :: l' ∧ RP F c k e.key ∧ R F c v e.val ∧ REs F c r l'
theorem REs_mono {F : Fix} {c c' : Cx} (h : Ext c c') : ∀ {es : List (PV × AV)} {l : List MapEntry}, REs F c es l → REs F c' es l
  | [], _, hv => by simpa only [REs] using hv
  | (k, v) :: r, l, hv => by
    simp only [REs] at hv ⊢
    obtain ⟨e, l', rfl, h1, h2, h3⟩ := hv
    exact ⟨e, l', rfl, RP_mono h.keeps _ _ h1, R_mono h _ _ h2, REs_mono h h3⟩

def RB (F : Fix) (c : Cx) (i : Nat) : Blk → Prop
  | .dead => c.tok i = none
  | .tok n len => ∃ base cap, c.tok i = some (len, base, cap) ∧ len ≤ cap ∧
      match base with
      | none => cap = 0
      | some (b, o) => c.K b = some (o + len * n) ∧ ∃ arr, cellsAt c.w b arr ∧ o + cap * n ≤ arr.size
  | .cells cs => c.tok i = none ∧ c.K (c.ρ i).1 = some 0 ∧ (c.ρ i).2 = 0 ∧ (∀ x ∈ cs, x.flat = true) ∧ ∃ arr, cellsAt c.w (c.ρ i).1 arr ∧ cs.length ≤ arr.size ∧ Rs F c cs (arr.toList.take cs.length)
  | .map es => c.tok i = none ∧ c.K (c.ρ i).1 = some 0 ∧ ∃ ents clock, c.w.heap[(c.ρ i).1]? = some (.map ents clock) ∧ REs F c es ents.toList

def ownB (c : Cx) (m : Mem) (i : Nat) : Option Nat := match m[i]? with
  | some (.tok _ _) => match c.tok i with | some (_, some (b, _), _) => some b | _ => none
  | some (.cells _) => some (c.ρ i).1
  | some (.map _) => some (c.ρ i).1
  | _ => none

structure Base where
  w : World
  K : Nat → Option Nat

structure Inv (F : Fix) (E : Env) (w0 : Base) (c : Cx) (m : Mem) : Prop where
  below : Below w0.w.heap.size w0.w c.w
  N : c.N = m.length
  K : ∀ b k, c.K b = some k → b < c.w.heap.size
  old : ∀ b, b < w0.w.heap.size → c.K b = w0.K b
  low : ∀ i b, ownB c m i = some b → w0.w.heap.size ≤ b
  blk : ∀ i x, m[i]? = some x → RB F c i x
  inj : ∀ i j b, ownB c m i = some b → ownB c m j = some b → i = j
  gl : ∀ g, RPcells F c (F.gnum g) 0 (E.gl g)

section
variable {F : Fix} {E : Env} {w0 : Base} {c c' : Cx} {m : Mem}

theorem ownB_K (h : Inv F E w0 c m) {i b : Nat} (hb : ownB c m i = some b) : ∃ k, c.K b = some k := by
  unfold ownB at hb
  split at hb
  · rename_i n len hm
    have hr := h.blk i _ hm
    simp only [RB] at hr
    obtain ⟨base, cap, h1, h2, h3⟩ := hr
    rw [h1] at hb
    cases base with
    | none => simp at hb
    | some p =>
      obtain ⟨b', o⟩ := p
      simp only [Option.some.injEq] at hb
      subst hb
      exact ⟨_, h3.1⟩
  · rename_i cs hm
    have hr := h.blk i _ hm
    simp only [RB] at hr
    obtain rfl := Option.some.inj hb
    exact ⟨_, hr.2.1⟩
  · rename_i es hm
    have hr := h.blk i _ hm
    simp only [RB] at hr
    obtain rfl := Option.some.inj hb
    exact ⟨_, hr.2.1⟩
  · cases hb

theorem cellsAt_lt {w : World} {b : Nat} {arr : Array Value} (h : cellsAt w b arr) : b < w.heap.size := by
  obtain ⟨T, fz, h, _⟩ := h
  rcases Nat.lt_or_ge b w.heap.size with hl | hl
  · exact hl
  · rw [Array.getElem?_eq_none hl] at h; cases h
theorem cellsAt_eq {w w' : World} {b : Nat} {arr : Array Value} (h : cellsAt w b arr) (he : w'.heap[b]? = w.heap[b]?) : cellsAt w' b arr := by
  obtain ⟨T, fz, h1, h2⟩ := h
  exact ⟨T, fz, he.trans h1, h2⟩
theorem cellsAt_cell {w : World} {b o : Nat} {arr : Array Value} (h : cellsAt w b arr) : w.cell? ⟨b, o, none⟩ = arr[o]? := by
  obtain ⟨T, fz, h1, h2⟩ := h
  simp [World.cell?, h1]

theorem RB_mono (he : Ext c c') {i : Nat} {x : Blk} (h : RB F c i x) (ht : c'.tok i = c.tok i) (hρ : c'.ρ i = c.ρ i)
    (hb : ∀ b, (match x with | .tok _ _ => (match c.tok i with | some (_, some (b, _), _) => some b | _ => none) | .cells _ => some (c.ρ i).1 | .map _ => some (c.ρ i).1 | _ => none) = some b → c'.K b = c.K b ∧ c'.w.heap[b]? = c.w.heap[b]?) : RB F c' i x := by
  cases x with
  | dead => simp only [RB] at h ⊢; rw [ht]; exact h
  | tok n len =>
    simp only [RB] at h ⊢
    obtain ⟨base, cap, h1, h2, h3⟩ := h
    refine ⟨base, cap, ht.trans h1, h2, ?_⟩
    cases base with
    | none => exact h3
    | some p =>
      obtain ⟨b, o⟩ := p
      obtain ⟨h4, arr, h5, h6⟩ := h3
      obtain ⟨k1, k2⟩ := hb b (by simp [h1])
      exact ⟨k1.trans h4, arr, cellsAt_eq h5 k2, h6⟩
  | cells cs =>
    simp only [RB] at h ⊢
    obtain ⟨h1, h2, h3, h4, arr, h5, h6, h7⟩ := h
    obtain ⟨k1, k2⟩ := hb _ rfl
    rw [hρ]
    exact ⟨ht.trans h1, k1.trans h2, h3, h4, arr, cellsAt_eq h5 k2, h6, Rs_mono he _ _ h7⟩
  | map es =>
    simp only [RB] at h ⊢
    obtain ⟨h1, h2, ents, clock, h5, h6⟩ := h
    obtain ⟨k1, k2⟩ := hb _ rfl
    rw [hρ]
    exact ⟨ht.trans h1, k1.trans h2, ents, clock, k2.trans h5, REs_mono he h6⟩

def Cx.pushed (c : Cx) (w' : World) (k : Nat) (e : Option (Nat × Option (Nat × Nat) × Nat)) : Cx where
  w := w'
  K := fun b => if b = c.w.heap.size then some k else c.K b
  N := c.N + 1
  ρ := fun i => if i = c.N then (c.w.heap.size, 0) else c.ρ i
  tok := fun t => if t = c.N then e else c.tok t

structure SameBut (w w' : World) : Prop where
  os : w'.os = w.os
  tape : w'.tape = w.tape
  output : w'.output = w.output

set_option linter.unusedVariables false in
theorem Ext_pushed {w' : World} {k : Nat} {e} {ob : Obj} (hK : ∀ b k, c.K b = some k → b < c.w.heap.size) (hh : w'.heap = c.w.heap.push ob) : Ext c (c.pushed w' k e) where
  size := by simp [Cx.pushed, hh]
  safe := fun b o ⟨h1, h2⟩ => by
    have hne : b ≠ c.w.heap.size := by omega
    refine ⟨⟨by simp [Cx.pushed, hh]; omega, fun k' hk' => ?_⟩, ?_⟩
    · simp only [Cx.pushed, if_neg hne] at hk'; exact h2 k' hk'
    · simp only [Cx.pushed, World.cell?, hh, Array.getElem?_push, if_neg hne]
  csz := fun b hb => by
    have hne : b ≠ c.w.heap.size := by omega
    simp only [Cx.pushed, cinfo, hh, Array.getElem?_push, if_neg hne]
  N := by simp [Cx.pushed]
  ρ := fun i hi => by simp only [Cx.pushed, if_neg (by omega : i ≠ c.N)]
  tok := fun t ht e' he' => by
    simp only [Cx.pushed, if_neg (by omega : t ≠ c.N)] at he'
    exact ⟨e', he', .inl rfl⟩

theorem Inv_pushed (h : Inv F E w0 c m) {w' : World} {k : Nat} {e} {ob : Obj} {x : Blk} (hh : w'.heap = c.w.heap.push ob) (hs : SameBut c.w w')
    (hx : RB F (c.pushed w' k e) c.N x) (ho : ∀ b, ownB (c.pushed w' k e) (m ++ [x]) c.N = some b → b = c.w.heap.size) : Inv F E w0 (c.pushed w' k e) (m ++ [x]) := by
  have hK : ∀ b k, c.K b = some k → b < c.w.heap.size := h.K
  have he : Ext c (c.pushed w' k e) := Ext_pushed hK hh
  have hold : ∀ i, i < m.length → ownB (c.pushed w' k e) (m ++ [x]) i = ownB c m i := by
    intro i hi
    have hne : i ≠ c.N := by rw [h.N]; omega
    simp only [ownB, Cx.pushed, if_neg hne, List.getElem?_append_left hi]
  have hlt : ∀ i b, ownB c m i = some b → b < c.w.heap.size := fun i b hb => by
    obtain ⟨k, hk⟩ := ownB_K h hb
    exact hK b k hk
  refine ⟨?_, by simp [Cx.pushed, h.N], ?_, ?_, ?_, ?_, ?_, fun g => RPcells_mono he.keeps _ _ _ (h.gl g)⟩
  · refine h.below.trans ⟨hs.os, hs.tape, hs.output, he.size, fun b hb => ?_⟩
    have := h.below.size
    simp only [Cx.pushed, hh, Array.getElem?_push, if_neg (by omega : b ≠ c.w.heap.size)]
  · intro b k' hk
    simp only [Cx.pushed] at hk ⊢
    rw [hh]
    split at hk
    · rename_i hb; subst hb; simp
    · have := h.K b k' hk; simp; omega
  · intro b hb
    have := h.below.size
    simp only [Cx.pushed, if_neg (by omega : b ≠ c.w.heap.size)]
    exact h.old b hb
  · intro i b hb
    rcases Nat.lt_or_ge i m.length with hi | hi
    · rw [hold i hi] at hb
      exact h.low i b hb
    · have : i = m.length := by
        rcases Nat.lt_or_ge m.length i with h1 | h1
        · unfold ownB at hb
          rw [List.getElem?_eq_none (by simp; omega)] at hb
          cases hb
        · omega
      subst this
      rw [← h.N] at hb
      rw [ho b hb]
      exact h.below.size
  · intro i y hy
    rcases Nat.lt_or_ge i m.length with hi | hi
    · rw [List.getElem?_append_left hi] at hy
      have hne : i ≠ c.N := by rw [h.N]; omega
      refine RB_mono he (h.blk i y hy) (by simp only [Cx.pushed, if_neg hne]) (by simp only [Cx.pushed, if_neg hne]) ?_
      intro b hb
      have hb' : ownB c m i = some b := by
        unfold ownB
        rw [hy]
        cases y <;> first | exact hb | (simp at hb)
      have := hlt i b hb'
      have hne' : b ≠ c.w.heap.size := by omega
      simp only [Cx.pushed, if_neg hne', hh, Array.getElem?_push]
      simp
    · have : i = m.length := by
        rcases Nat.lt_or_ge m.length i with h1 | h1
        · rw [List.getElem?_eq_none (by simp; omega)] at hy; cases hy
        · omega
      subst this
      simp at hy
      subst hy
      rw [← h.N]; exact hx
  · intro i j b hi hj
    have hr : ∀ i b, ownB (c.pushed w' k e) (m ++ [x]) i = some b → (i < m.length ∧ b < c.w.heap.size) ∨ (i = m.length ∧ b = c.w.heap.size) := by
      intro i b hb
      rcases Nat.lt_or_ge i m.length with hi | hi
      · rw [hold i hi] at hb
        exact .inl ⟨hi, hlt i b hb⟩
      · have : i = m.length := by
          rcases Nat.lt_or_ge m.length i with h1 | h1
          · unfold ownB at hb
            rw [List.getElem?_eq_none (by simp; omega)] at hb
            cases hb
          · omega
        subst this
        rw [← h.N] at hb
        exact .inr ⟨rfl, ho b hb⟩
    rcases hr i b hi with ⟨h1, h2⟩ | ⟨h1, h2⟩ <;> rcases hr j b hj with ⟨h3, h4⟩ | ⟨h3, h4⟩
    · rw [hold i h1] at hi; rw [hold j h3] at hj
      exact h.inj i j b hi hj
    · omega
    · omega
    · omega
end
end Hx
