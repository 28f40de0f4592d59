/-
  HxU25e: what changes come to, as the document says.
-/
import Derived.Test.YtoedcjhheihhiaaHxM25b
namespace Hx
open Go
set_option linter.unusedSimpArgs false
set_option linter.unusedVariables false
def keyE : EqT := .struct [(0, 1, .str), (1, 3, .struct [(0, 1, .int), (1, 1, .int), (2, 1, .str)])]
def keyP (k : Key25) : PV := .agg [.str k.1, .int .i64 k.2.1, .int .i64 k.2.2.1, .str k.2.2.2]
theorem eq_key (a b : Key25) : eqTree keyE (keyP a) (keyP b) = some (decide (a = b)) := by
  obtain ⟨a1, a2, a3, a4⟩ := a
  obtain ⟨b1, b2, b3, b4⟩ := b
  simp [keyE, keyP, eqTree, eqFs, EqT.agg, partP, Bool.decide_and]
  grind
theorem same_key (k : Key25) : sameP (keyP k) (keyP k) = true := by simp [keyP, sameP, sameL]
def entsP {α : Type} (v : α → AV) (E : List (Key25 × α)) : List (PV × AV) := E.map fun e => (keyP e.1, v e.2)
def findK {α : Type} (k : Key25) : List (Key25 × α) → Option α
  | [] => none
  | e :: r => if e.1 = k then some e.2 else findK k r
def setK {α : Type} (k : Key25) (x : α) : List (Key25 × α) → List (Key25 × α)
  | [] => []
  | e :: r => if e.1 = k then (k, x) :: r else e :: setK k x r
theorem findM_none {α : Type} (v : α → AV) {k : Key25} : ∀ {E : List (Key25 × α)} (i : Nat), findK k E = none → findM keyE (keyP k) (entsP v E) i = some none
  | [], _, _ => rfl
  | e :: E, i, h => by
    simp only [findK] at h
    by_cases hk : e.1 = k
    · rw [if_pos hk] at h; cases h
    · rw [if_neg hk] at h
      have h2 := findM_none v (i + 1) h
      simp only [entsP, List.map_cons, findM, eq_key, decide_eq_false (fun h => hk (Eq.symm h) : ¬ k = e.1)]
      exact h2
theorem findM_some {α : Type} (v : α → AV) {k : Key25} : ∀ {E : List (Key25 × α)} {x : α} (i : Nat), findK k E = some x → ∃ j, findM keyE (keyP k) (entsP v E) i = some (some (i + j, keyP k, v x)) ∧ ∀ y, (entsP v E).set j (keyP k, v y) = entsP v (setK k y E)
  | e :: E, x, i, h => by
    simp only [findK] at h
    by_cases hk : e.1 = k
    · rw [if_pos hk] at h
      cases h
      refine ⟨0, ?_, ?_⟩
      · simp only [entsP, List.map_cons, findM, eq_key, hk, decide_true, Nat.add_zero]
      · intro y
        simp only [entsP, setK, hk, if_true, List.map_cons, List.set_cons_zero]
    · rw [if_neg hk] at h
      obtain ⟨j, h1, h2⟩ := findM_some v (i + 1) h
      refine ⟨j + 1, ?_, ?_⟩
      · simp only [entsP, List.map_cons, findM, eq_key, decide_eq_false (fun h => hk (Eq.symm h) : ¬ k = e.1)]
        have : i + (j + 1) = i + 1 + j := by omega
        rw [this]
        exact h1
      · intro y
        have := h2 y
        simp only [entsP, setK, if_neg hk, List.map_cons, List.set_cons_succ] at this ⊢
        rw [this]
theorem findK_E (k : Key25) (E : List En) : findK k E = findE k E := by
  induction E with
  | nil => rfl
  | cons e E ih => simp only [findK, findE, ih]
theorem setK_E (k : Key25) (c : Ch) {E : List En} {b : Ch × Ch} (h : findE k E = some b) : setK k (b.1, c) E = setE k c E := by
  induction E with
  | nil => rfl
  | cons e E ih =>
    simp only [findE] at h
    simp only [setK, setE]
    by_cases hk : e.1 = k
    · rw [if_pos hk] at h ⊢
      rw [if_pos hk]
      cases h; rfl
    · rw [if_neg hk] at h ⊢
      rw [if_neg hk, ih h]
end Hx

namespace Hx
open Go
set_option linter.unusedSimpArgs false
set_option linter.unusedVariables false
set_option maxHeartbeats 32000000
set_option maxRecDepth 20000
variable {E : Env}
attribute [-simp] List.getD_eq_getElem?_getD getElem?_pos
def chV (c : Ch) : List PV := [.int .i64 c.kind, .int .i64 c.lsn, .str c.table, .int .i64 c.kk, .int .i64 c.kn, .str c.ks, c.cs, .int .i64 c.d.op, .str c.d.table, .str c.d.column, .str c.d.to, .str c.d.key, .int .i64 c.d.kind, .int .i64 c.d.max, .bool c.d.null, .int .i64 c.d.dk, .int .i64 c.d.dn, .str c.d.ds, c.sl]
structure Cel where
  name : List UInt8
  kind : Int
  max : Int
  vk : Int
  vn : Int
  vs : List UInt8
def celP (c : Cel) : List PV := [.str c.name, .int .i64 c.kind, .int .i64 c.max, .int .i64 c.vk, .int .i64 c.vn, .str c.vs]
def CelQ (cs : PV) (rows : List Cel) : Prop := (rows = [] ∧ cs = .nils) ∨ cs = .vals 6 (rows.map celP)
theorem CelQ.flat {cs : PV} {rows : List Cel} (h : CelQ cs rows) : cs.flat = true := by rcases h with ⟨_, rfl⟩ | rfl <;> rfl
structure ChF (c : Ch) : Prop where
  cs : c.cs.flat = true
  sl : c.sl.flat = true
def LQ (sl : PV) (l : List Ch) : Prop := (l = [] ∧ sl = .nils) ∨ sl = .vals 19 (l.map chV)
end Hx

namespace Hx
open Go
set_option linter.unusedSimpArgs false
set_option linter.unusedVariables false
set_option maxHeartbeats 32000000
set_option maxRecDepth 20000
variable {E : Env}
attribute [-simp] List.getD_eq_getElem?_getD getElem?_pos
structure R25 (E : Env) : Prop where
  same : E.fn 187 = some Fn.f_haulageref25_same
  last : E.fn 168 = some Fn.f_haulageref25_last
  first : E.fn 184 = some Fn.f_haulageref25_first
  comes : E.fn 185 = some Fn.f_haulageref25_comes
  run : E.fn 165 = some Fn.f_haulageref25_run
  wrong : E.fn 166 = some Fn.f_haulageref25_wrong
end Hx

namespace Hx
open Go
set_option linter.unusedSimpArgs false
set_option linter.unusedVariables false
set_option maxHeartbeats 32000000
set_option maxRecDepth 20000
variable {E : Env}
attribute [-simp] List.getD_eq_getElem?_getD getElem?_pos
def OutAt (m : Mem) (out : List Ch) (av : AV) : Prop := (out = [] ∧ av = .p .nils) ∨ ∃ tok, av = .tv 19 (out.map chV) tok ∧ m[tok]? = some (.tok 19 out.length)
theorem OutAt.keep {m m' : Mem} {out : List Ch} {av : AV} (h : OutAt m out av) (hk : ∀ (t n : Nat), m[t]? = some (Blk.tok 19 n) → m'[t]? = some (Blk.tok 19 n)) : OutAt m' out av := by
  rcases h with h | ⟨tok, h1, h2⟩
  · exact .inl h
  · exact .inr ⟨tok, h1, hk _ _ h2⟩
theorem get_app {m l : Mem} {i : Nat} {b : Blk} (h : m[i]? = some b) : (m ++ l)[i]? = some b := by
  rw [List.getElem?_append_left]
  · exact h
  · exact (List.getElem?_eq_some_iff.1 h).1
theorem OutAt.strip {m : Mem} {out : List Ch} {av : AV} (h : OutAt m out av) : ∃ sl, stripV av = some (.p sl) ∧ LQ sl out := by
  rcases h with ⟨rfl, rfl⟩ | ⟨tok, rfl, _⟩
  · exact ⟨.nils, by simp, .inl ⟨rfl, rfl⟩⟩
  · exact ⟨.vals 19 (out.map chV), by simp, .inr rfl⟩
end Hx

namespace Hx
open Go
set_option linter.unusedSimpArgs false
set_option linter.unusedVariables false
set_option maxHeartbeats 64000000
set_option maxRecDepth 20000
variable {E : Env}
attribute [-simp] List.getD_eq_getElem?_getD getElem?_pos
end Hx
