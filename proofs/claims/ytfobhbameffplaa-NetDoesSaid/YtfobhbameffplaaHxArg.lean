/-
  HxArg: an argument of any plain type (truth values, integers, strings, structs of these, slices of these) as a value of the evaluator.
-/
import Derived.Test.YtfobhbameffplaaHxRow
import Derived.Deep.Slices
import Derived.WideShapes
namespace Hx
open Go Go.ChangeShapes Go.WideShapes Go.ChangeAt Go.RowKit

inductive Sh where
  | bool | int (k : IntKind) | str | slice (n : Nat) (row : List Sh)
mutual
def Conf : Sh → PV → Prop
  | .bool, v => ∃ b, v = .bool b
  | .int k, v => ∃ n : Int, v = .int k n ∧ k.min ≤ n ∧ n ≤ k.max
  | .str, v => ∃ s : List UInt8, v = .str s ∧ s.length ≤ 9223372036854775807
  | .slice n row, v => v = .nils ∨ ∃ rows : List (List PV), v = .vals n rows ∧ rows.length ≤ 9223372036854775807 ∧ ∀ r ∈ rows, Confs row r
def Confs : List Sh → List PV → Prop
  | [], xs => xs = []
  | s :: ss, xs => ∃ x r, xs = x :: r ∧ Conf s x ∧ Confs ss r
end
def shpFs (P : Program) (g : TypeId → Option (List Sh)) : List Field → Nat → Option (List Sh)
  | [], _ => some []
  | f :: fs, o => match g f.type with
    | some a => if f.offset = o ∧ P.cellsOf f.type = a.length then (match shpFs P g fs (o + a.length) with | some r => some (a ++ r) | none => none) else none
    | none => none
def shp (P : Program) : Nat → TypeId → Option (List Sh)
  | 0, _ => none
  | n + 1, t => match P.underlying t with
    | some .bool => some [.bool]
    | some (.int k) => some [.int k]
    | some .string => some [.str]
    | some (.slice e) => match shp P n e with
      | some row => if P.cellsOf e = row.length ∧ 0 < row.length then some [.slice row.length row] else none
      | none => none
    | some (.struct fs) => match shpFs P (shp P n) fs.toList 0 with
      | some ss => if P.cellsOf t = ss.length then some ss else none
      | none => none
    | _ => none

theorem Confs_length : ∀ {ss : List Sh} {xs : List PV}, Confs ss xs → xs.length = ss.length
  | [], _, h => by simp only [Confs] at h; subst h; rfl
  | s :: ss, _, h => by
    simp only [Confs] at h
    obtain ⟨x, r, rfl, _, h2⟩ := h
    simp [Confs_length h2]
theorem Confs_append : ∀ {ss ts : List Sh} {xs ys : List PV}, Confs ss xs → Confs ts ys → Confs (ss ++ ts) (xs ++ ys)
  | [], _, _, _, h, k => by simp only [Confs] at h; subst h; simpa using k
  | s :: ss, _, _, _, h, k => by
    simp only [Confs] at h
    obtain ⟨x, r, rfl, h1, h2⟩ := h
    simp only [List.cons_append, Confs]
    exact ⟨x, _, rfl, h1, Confs_append h2 k⟩
theorem Conf_flat {s : Sh} {x : PV} (h : Conf s x) : x.flat = true := by
  cases s <;> simp only [Conf] at h
  · obtain ⟨b, rfl⟩ := h; rfl
  · obtain ⟨b, rfl, _⟩ := h; rfl
  · obtain ⟨b, rfl, _⟩ := h; rfl
  · rcases h with rfl | ⟨b, rfl, _⟩ <;> rfl
theorem RPcells_conf {F : Fix} {W : World} {b : Nat} : ∀ {ss : List Sh} {xs : List PV} {ys : List Value} {o : Nat}, Confs ss xs → RPs F (cx0 W) xs ys → (∀ j, j < ys.length → W.cell? ⟨b, o + j, none⟩ = ys[j]?) → RPcells F (cx0 W) b o xs
  | [], _, _, _, h, _, _ => by simp only [Confs] at h; subst h; simp only [RPcells]
  | s :: ss, _, ys, o, h, k, hc => by
    simp only [Confs] at h
    obtain ⟨x, r, rfl, h1, h2⟩ := h
    simp only [RPs] at k
    obtain ⟨y, q, rfl, k1, k2⟩ := k
    have h0 := hc 0 (by simp)
    simp only [Nat.add_zero, List.getElem?_cons_zero] at h0
    simp only [RPcells]
    refine ⟨⟨cx0_safe.2 ?_, Conf_flat h1, y, h0, k1⟩, RPcells_conf h2 k2 fun j hj => ?_⟩
    · simp only [World.cell?] at h0
      cases hh : W.heap[b]? with
      | none => rw [hh] at h0; cases h0
      | some o => exact (Array.getElem?_eq_some_iff.1 hh).1
    · have := hc (j + 1) (by simpa using hj)
      rw [show o + 1 + j = o + (j + 1) by omega]
      simpa using this
theorem RProws_of {F : Fix} {c : Cx} {row : List Sh} {n : Nat} {a : Addr} : ∀ (k i : Nat), (∀ j, i ≤ j → j < i + k → ∃ r : List PV, r.length = n ∧ Confs row r ∧ a.spot = none ∧ RPcells F c a.block (a.off + j * n) r) →
    ∃ rows : List (List PV), rows.length = k ∧ (∀ r ∈ rows, Confs row r) ∧ RProws F c n (some a) i rows
  | 0, i, _ => ⟨[], rfl, by simp, by simp [RProws]⟩
  | k + 1, i, h => by
    obtain ⟨r, h1, h2, h3, h4⟩ := h i (Nat.le_refl _) (by omega)
    obtain ⟨rows, k1, k2, k3⟩ := RProws_of k (i + 1) fun j hj hl => h j (by omega) (by omega)
    refine ⟨r :: rows, by simp [k1], ?_, ?_⟩
    · intro q hq
      rcases List.mem_cons.1 hq with rfl | hq
      · exact h2
      · exact k2 q hq
    · simp only [RProws]
      exact ⟨⟨h1, a, rfl, h3, h4⟩, k3⟩

theorem add_add {a : Addr} (h : a.spot = none) (i j : Nat) : (a.add i).add j = ⟨a.block, a.off + i + j, none⟩ := by
  obtain ⟨b, o, s⟩ := a
  subst h
  unfold Addr.add
  split <;> split <;> simp_all
section
variable {H : Type} {enc : TypeId × Value → H} {F : Fix} {W : World} {spare : Nat → Bool} {held : Bool}
theorem trod_fs {g : TypeId → Option (List Sh)} {m : Nat} {cs : List Value}
    (hg : ∀ t ss, g t = some ss → ∀ cs x, DataW.trod enc F.P W 0 spare held m t cs = some x → ∃ xs, Confs ss xs ∧ RPs F (cx0 W) xs cs) :
    ∀ {fs : List Field} {o : Nat} {ss : List Sh}, shpFs F.P g fs o = some ss → cs.length = o + ss.length →
      (∀ (i : Nat) (f : Field), fs[i]? = some f → ∃ x, DataW.trod enc F.P W 0 spare held m f.type ((cs.drop f.offset).take (F.P.cellsOf f.type)) = some x) →
      ∃ xs, Confs ss xs ∧ RPs F (cx0 W) xs (cs.drop o)
  | [], o, ss, h, hl, _ => by
    simp only [shpFs, Option.some.injEq] at h
    subst h
    refine ⟨[], rfl, ?_⟩
    rw [List.drop_eq_nil_of_le (by simp at hl; omega)]
    rfl
  | f :: fs, o, ss, h, hl, hx => by
    simp only [shpFs] at h
    cases ha : g f.type with
    | none => rw [ha] at h; cases h
    | some a =>
      rw [ha] at h
      simp only at h
      split at h
      · rename_i hc
        obtain ⟨ho, hc⟩ := hc
        cases hr : shpFs F.P g fs (o + a.length) with
        | none => rw [hr] at h; cases h
        | some r =>
          rw [hr] at h
          simp only [Option.some.injEq] at h
          subst h
          obtain ⟨x, hx0⟩ := hx 0 f (by simp)
          obtain ⟨xs, h1, h2⟩ := hg _ _ ha _ _ hx0
          obtain ⟨ys, k1, k2⟩ := trod_fs hg hr (by simp only [List.length_append] at hl; omega) (fun i f' hf => hx (i + 1) f' (by simpa using hf))
          refine ⟨xs ++ ys, Confs_append h1 k1, ?_⟩
          have := RPs_append h2 k2
          rw [ho, hc] at this
          rw [show cs.drop (o + a.length) = (cs.drop o).drop a.length by rw [List.drop_drop]] at this
          rwa [List.take_append_drop] at this
      · cases h
theorem trod_shp : ∀ (n : Nat) {t : TypeId} {ss : List Sh}, shp F.P n t = some ss → ∀ {fuel : Nat} {cs : List Value} {x : DataW H × List MemPlace}, DataW.trod enc F.P W 0 spare held fuel t cs = some x → ∃ xs, Confs ss xs ∧ RPs F (cx0 W) xs cs
  | 0, _, _, h, _, _, _, _ => by cases h
  | n + 1, t, ss, h, fuel, cs, x, hx => by
    simp only [shp] at h
    split at h
    · rename_i ht
      cases h
      obtain ⟨b, rfl, rfl⟩ := DataW.trod_bool ht hx
      exact ⟨[.bool b], by simp [Confs, Conf], by simp [RPs, RP]⟩
    · rename_i k ht
      cases h
      obtain ⟨b, rfl, rfl, hw⟩ := DataW.trod_int ht hx
      simp only [Lit.wf, Bool.and_eq_true, decide_eq_true_eq] at hw
      exact ⟨[.int k b], by simpa [Confs, Conf] using hw, by simp [RPs, RP]⟩
    · rename_i ht
      cases h
      obtain ⟨s, rfl, rfl, hw⟩ := DataW.trod_string ht hx
      refine ⟨[.str s.data.toList], ?_, by simp [RPs, RP]⟩
      simp only [Confs, Conf]
      exact ⟨_, _, rfl, ⟨_, rfl, by simpa [maxLen] using hw⟩, rfl⟩
    · rename_i e ht
      cases hr : shp F.P n e with
      | none => rw [hr] at h; cases h
      | some row =>
        rw [hr] at h
        simp only at h
        split at h
        · rename_i hc
          obtain ⟨hc, hp⟩ := hc
          cases h
          rcases Go.Deep.open_slice ht hx with ⟨rfl, _⟩ | ⟨a, len, cap, m, n', D, Pl, rfl, _, hle, hmax, hm, _, hel⟩
          · exact ⟨[.nils], by simp [Confs, Conf], by simp [RPs, RP]⟩
          · have hlm : len ≤ m := by rw [hm]; split <;> omega
            have hsp0 : 0 < len → a.spot = none := fun hl => by
              obtain ⟨cs', h1, _⟩ := hel 0 (by omega)
              rw [hc] at h1
              obtain ⟨_, g1, g2⟩ := World.cells?_some h1
              have := g2 0 hp
              rw [List.getElem?_eq_getElem (by omega)] at this
              have := World.cell?_spot this
              simpa [Addr.add] using this
            obtain ⟨rows, r1, r2, r3⟩ := RProws_of (F := F) (c := cx0 W) (row := row) (n := row.length) (a := a) len 0 (fun j _ hj => by
              obtain ⟨cs', h1, h2⟩ := hel j (by omega)
              obtain ⟨xs, x1, x2⟩ := trod_shp n hr h2
              rw [hc] at h1
              obtain ⟨_, g1, g2⟩ := World.cells?_some h1
              have hsp : a.spot = none := hsp0 (by omega)
              refine ⟨xs, Confs_length x1, x1, hsp, RPcells_conf x1 x2 fun i hi => ?_⟩
              have := g2 i (by omega)
              rw [← this, add_add hsp])
            refine ⟨[.vals row.length rows], ?_, ?_⟩
            · simp only [Confs, Conf]
              refine ⟨_, _, rfl, .inr ⟨rows, rfl, ?_, r2⟩, rfl⟩
              rw [r1]
              exact Nat.le_trans hle (by simpa [maxLen] using hmax)
            · simp only [RPs, RP]
              exact ⟨_, _, rfl, ⟨some a, cap, by rw [r1], by rw [r1]; exact hle, r3⟩, rfl⟩
        · cases h
    · rename_i fs ht
      cases hr : shpFs F.P (shp F.P n) fs.toList 0 with
      | none => rw [hr] at h; cases h
      | some ss' =>
        rw [hr] at h
        simp only at h
        split at h
        · rename_i hc
          cases h
          obtain ⟨xs, m, rfl, rfl, hl, hxl, hf⟩ := DataW.trod_struct ht hx
          have := trod_fs (enc := enc) (F := F) (W := W) (spare := spare) (held := held) (g := shp F.P n) (m := m) (cs := cs) (fun t ss hs cs x hx => trod_shp n hs hx) hr (by rw [hl, hc]; omega) (fun i f hi => by
            have hi' : fs[i]? = some f := by simpa using hi
            rw [hf i f hi']
            have : i < fs.size := (Array.getElem?_eq_some_iff.1 hi').1
            exact ⟨_, List.getElem?_eq_getElem (by omega)⟩)
          simpa using this
        · cases h
    · cases h

def isStruct : Option TypeDesc → Bool
  | some (.struct _) => true
  | _ => false
theorem arg_one {n base : Nat} {t : TypeId} {s : Sh} {v : Value} {d : DataW H} {ps : List MemPlace} (hs : shp F.P n t = some [s]) (hne : isStruct (F.P.underlying t) = false)
    (hval : Value.okWide F.P W .any base t v) (hd : DataW.Trod enc F.P W 0 (fun _ => true) true t v d ps) : ∃ x, Conf s x ∧ R F (cx0 W) (.p x) v := by
  obtain ⟨fuel, hd⟩ := hd
  have hv : v.cells.toList = [v] := by
    cases n with
    | zero => cases hs
    | succ n =>
      simp only [shp] at hs
      split at hs
      · rename_i ht; obtain ⟨b, rfl⟩ := okWide_bool ht hval; rfl
      · rename_i ht; obtain ⟨b, rfl⟩ := okWide_int ht hval; rfl
      · rename_i ht; obtain ⟨b, rfl⟩ := okWide_string ht hval; rfl
      · rename_i ht; obtain ⟨b, c, d, rfl⟩ := okWide_slice ht hval; rfl
      · rename_i fs ht; rw [ht] at hne; cases hne
      · cases hs
  rw [hv] at hd
  obtain ⟨xs, h1, h2⟩ := trod_shp n hs hd
  simp only [Confs] at h1
  obtain ⟨x, r, rfl, h1, rfl⟩ := h1
  simp only [RPs] at h2
  obtain ⟨y, r, he, h2, _⟩ := h2
  cases he
  exact ⟨x, h1, by simpa only [R] using h2⟩
theorem arg_agg {n base : Nat} {t : TypeId} {ss : List Sh} {v : Value} {d : DataW H} {ps : List MemPlace} (hs : shp F.P n t = some ss) (hst : isStruct (F.P.underlying t) = true)
    (hval : Value.okWide F.P W .any base t v) (hd : DataW.Trod enc F.P W 0 (fun _ => true) true t v d ps) : ∃ xs, Confs ss xs ∧ R F (cx0 W) (.p (.agg xs)) v := by
  obtain ⟨fs, ht⟩ : ∃ fs, F.P.underlying t = some (.struct fs) := by
    cases h : F.P.underlying t with
    | none => rw [h] at hst; cases hst
    | some d => cases d with
      | struct fs => exact ⟨fs, rfl⟩
      | _ => rw [h] at hst; cases hst
  obtain ⟨fuel, hd⟩ := hd
  obtain ⟨cs, rfl, hc⟩ := okWide_struct ht hval
  obtain ⟨xs, h1, h2⟩ := trod_shp n hs hd
  exact ⟨xs, h1, by simp only [R, RP]; exact ⟨cs.toList, by simp, by simpa [Value.cells] using h2⟩⟩
end
end Hx
