/-
  HxStill2: every 'still' operation: one theorem.
-/
import Derived.Test.YtfobhbameffplaaHxStill
import Derived.Laws.BytesString
namespace Hx
open Go
set_option linter.unusedSimpArgs false
section
variable {F : Fix} {c : Cx}

def Still (F : Fix) (c : Cx) (ρ : Operand → Value) (go : Oper) (r : AV) : Prop := ∃ y, (execOp ρ go).run F.P c.w = .ok (.value y) c.w ∧ R F c r y

theorem okX_opt {ev : X → AV} {ρ : Operand → Value} (hev : Evs F c ev ρ) {lo : Option X} {lo' : Option Operand} (h : okXo F lo lo' = true) :
    (lo = none ∧ lo' = none) ∨ ∃ x y, lo = some x ∧ lo' = some y ∧ R F c (ev x) (ρ y) := by
  cases lo <;> cases lo' <;> simp [okXo] at h
  · exact .inl ⟨rfl, rfl⟩
  · exact .inr ⟨_, _, rfl, rfl, hev _ _ h⟩

theorem run_bounds {ev : X → AV} {ρ : Operand → Value} (hev : Evs F c ev ρ) {lo hi : Option X} {lo' hi' : Option Operand} (h1 : okXo F lo lo' = true) (h2 : okXo F hi hi' = true) {len cap l h : Nat}
    (hb : bounds len (lo.map ev) (hi.map ev) = some (l, h)) (hc : len ≤ cap) (sl : Bool) (w : World) :
    (Instr.sliceBounds sl len cap (lo'.map ρ) (hi'.map ρ) none).run F.P w = .ok (l, h, cap) w ∧ l ≤ h ∧ h ≤ len := by
  have hsb : ∀ (k : IntKind) (i y : Nat) (code : BoundsCode), i ≤ y → (Instr.sliceBound (.int k i) y code).run F.P w = .ok i w := by
    intro k i y code hi
    simp only [Instr.sliceBound, asIntOf, Sem.run_bind, Sem.run_pure, Result.andThen_ok]
    rw [if_pos (by omega)]
    simp
  unfold bounds at hb
  split at hb
  · cases hb
  · rename_i h0 hh
    split at hb
    · rename_i hle
      split at hb
      · cases hb
      · rename_i l0 hl
        split at hb
        · rename_i hll
          simp only [Option.some.injEq, Prod.mk.injEq] at hb
          obtain ⟨rfl, rfl⟩ := hb
          refine ⟨?_, hll, hle⟩
          simp only [Instr.sliceBounds]
          rcases okX_opt hev h2 with ⟨rfl, rfl⟩ | ⟨x, y, rfl, rfl, hxy⟩
          · simp only [Option.map_none, Option.some.injEq] at hh
            subst hh
            rcases okX_opt hev h1 with ⟨rfl, rfl⟩ | ⟨x', y', rfl, rfl, hxy'⟩
            · simp only [Option.map_none, Option.some.injEq] at hl
              subst hl
              simp
            · simp only [Option.map_some] at hl
              obtain ⟨k, hk⟩ := R_asNat hxy' hl
              simp only [Option.map_none, Option.map_some, hk, Sem.run_bind, Sem.run_pure, Result.andThen_ok, Option.isSome_none]
              rw [hsb _ _ _ _ hll]
              simp
          · simp only [Option.map_some] at hh
            obtain ⟨k, hk⟩ := R_asNat hxy hh
            rcases okX_opt hev h1 with ⟨rfl, rfl⟩ | ⟨x', y', rfl, rfl, hxy'⟩
            · simp only [Option.map_none, Option.some.injEq] at hl
              subst hl
              simp only [Option.map_none, Option.map_some, hk, Sem.run_bind, Sem.run_pure, Result.andThen_ok]
              rw [hsb _ _ _ _ (by omega)]
              simp
            · simp only [Option.map_some] at hl
              obtain ⟨k', hk'⟩ := R_asNat hxy' hl
              simp only [Option.map_some, hk, hk', Sem.run_bind, Sem.run_pure, Result.andThen_ok, Option.isSome_none]
              rw [hsb _ _ _ _ (by omega)]
              simp only [Result.andThen_ok]
              rw [hsb _ _ _ _ hll]
              simp
        · cases hb
    · cases hb

theorem extract_bytes (s : List UInt8) (l h : Nat) : ByteArray.extract ⟨s.toArray⟩ l h = ⟨((s.take h).drop l).toArray⟩ := by
  apply ByteArray.ext
  simp [List.extract_eq_take_drop, List.drop_take]

theorem unBytes_cells {a : Addr} : ∀ {rows : List (List PV)} {s : List UInt8} {i : Nat}, unBytes rows = some s → RProws F c 1 (some a) i rows →
    ∃ ns : List Int, ns.length = rows.length ∧ s = ns.map (fun n => UInt8.ofNat n.toNat) ∧ (rows ≠ [] → a.spot = none) ∧ ∀ j v, (ns.map (Value.int .u8))[j]? = some v → c.w.cell? ⟨a.block, a.off + i + j, none⟩ = some v
  | [], s, i, h, _ => by
    simp [unBytes] at h; subst h
    exact ⟨[], rfl, rfl, by simp, by simp⟩
  | r :: rows, s, i, h, hr => by
    simp only [unBytes] at h
    split at h <;> try (cases h; done)
    rename_i b l hb hl
    obtain rfl := Option.some.inj h
    simp only [RProws] at hr
    obtain ⟨⟨h1, a', h2, h3, h4⟩, h5⟩ := hr
    obtain rfl := Option.some.inj h2
    obtain ⟨ns, k1, k2, k3, k4⟩ := unBytes_cells hl h5
    unfold unByte at hb
    split at hb <;> try (cases hb; done)
    rename_i n
    obtain rfl := Option.some.inj hb
    simp only [RPcells, RP] at h4
    obtain ⟨⟨_, _, y, h6, rfl⟩, _⟩ := h4
    refine ⟨n :: ns, by simp [k1], by simp [k2], fun _ => h3, ?_⟩
    intro j v hj
    cases j with
    | zero => simp at hj; subst hj; simpa using h6
    | succ j => simp only [List.map_cons, List.getElem?_cons_succ] at hj; rw [← k4 j v hj]; congr 2; omega

theorem run_toStr {rows : List (List PV)} {s : List UInt8} {base : Option Addr} {cap : Nat} (h : unBytes rows = some s) (hr : RProws F c 1 base 0 rows ∨ rows = []) :
    (Conv.bytesToString (.slice base rows.length cap)).run F.P c.w = .ok (.string ⟨s.toArray⟩) c.w := by
  cases base with
  | none =>
    cases rows with
    | nil => simp [unBytes] at h; subst h; simp [Conv.bytesToString]; rfl
    | cons r rows =>
      rcases hr with hr | hr
      · exact absurd rfl (RProws_ne hr)
      · cases hr
  | some a =>
    have hr : RProws F c 1 (some a) 0 rows := hr.elim id (by rintro rfl; simp [RProws])
    obtain ⟨ns, k1, k2, k3, k4⟩ := unBytes_cells h hr
    rw [run_bytesToString c.w a rows.length cap ns]
    · congr 2
      subst k2
      have : ∀ (ns : List Int) (b : ByteArray), ns.foldl (fun r n => r.push (UInt8.ofNat n.toNat)) b = ⟨(b.data.toList ++ ns.map fun n => UInt8.ofNat n.toNat).toArray⟩ := by
        intro ns
        induction ns with
        | nil => intro b; cases b; simp
        | cons n ns ih => intro b; simp only [List.foldl_cons, ih]; simp [ByteArray.push]
      rw [this]; simp
    · have hl : rows.length = (ns.map (Value.int .u8)).length := by simp [k1]
      rw [hl]
      apply run_loadCells_list
      intro j v hj
      have hne : rows ≠ [] := by
        intro e; subst e
        have : ns = [] := by cases ns <;> simp at k1 ⊢
        subst this; simp at hj
      rw [addr_add (k3 hne)]
      have := k4 j v hj
      simpa using this

theorem rowsOf_still {n : Nat} {x : AV} {rows : List (List PV)} (h : rowsOf n [] x = some rows) {v : Value} (hv : R F c x v) :
    (∃ base cap, v = .slice base rows.length cap ∧ (RProws F c n base 0 rows ∨ rows = [])) ∨ (∃ s, x = .p (.str s) ∧ n = 1 ∧ rows = byteRows s) := by
  unfold rowsOf at h
  split at h
  · obtain rfl := Option.some.inj h
    simp only [R, RP] at hv
    exact .inl ⟨none, 0, by simpa using hv, .inr rfl⟩
  · split at h <;> try (cases h; done)
    rename_i hn; subst hn
    obtain rfl := Option.some.inj h
    simp only [R, RP] at hv
    obtain ⟨base, cap, rfl, _, hr⟩ := hv
    exact .inl ⟨base, cap, rfl, .inl hr⟩
  · split at h <;> try (cases h; done)
    rename_i hn; subst hn
    obtain rfl := Option.some.inj h
    simp only [R] at hv
    obtain ⟨⟨base, cap, rfl, _, hr⟩, _⟩ := hv
    exact .inl ⟨base, cap, rfl, .inl hr⟩
  · split at h <;> try (cases h; done)
    rename_i hn
    obtain rfl := Option.some.inj h
    exact .inr ⟨_, rfl, hn, rfl⟩
  · split at h <;> try (cases h; done)
  · cases h

theorem run_cutRow {sl : TypeId} {e : TypeId} {n : Nat} (ht : F.P.underlying sl = some (.slice e)) (hs : sizeO F.P e = some n) {base : Option Addr} {len cap l h : Nat} {lo hi : Option Value}
    (hb : (Instr.sliceBounds true len cap lo hi none).run F.P c.w = .ok (l, h, cap) c.w) :
    (Instr.sliceAt sl (.slice base len cap) lo hi none).run F.P c.w = .ok (.slice (if cap = l then base else base.map (·.add (l * n))) (h - l) (cap - l)) c.w := by
  unfold Instr.sliceAt
  simp only [Sem.run_bind, run_underlying ht, Result.andThen_ok, Instr.slice, hb, run_size hs, Sem.run_pure]

theorem rows_piece {n : Nat} {base : Option Addr} {rows : List (List PV)} {cap l h : Nat} (hr : RProws F c n base 0 rows) (hlh : l ≤ h) (hh : h ≤ rows.length) (hc : rows.length ≤ cap) :
    R F c (.p (.vals n ((rows.take h).drop l))) (.slice (if cap = l then base else base.map (·.add (l * n))) (h - l) (cap - l)) := by
  simp only [R, RP]
  have hlen : ((rows.take h).drop l).length = h - l := by simp; omega
  refine ⟨_, _, by rw [hlen], by rw [hlen]; omega, ?_⟩
  have h1 := RProws_drop l (RProws_take h hr)
  by_cases hz : (rows.take h).drop l = []
  · rw [hz]
    have := RProws_ne hr
    cases base with
    | none => exact absurd rfl this
    | some a => by_cases hcl : cap = l <;> simp [RProws, hcl]
  · have hlt : l < h := by
      rcases Nat.lt_or_ge l h with h2 | h2
      · exact h2
      · exfalso; apply hz; apply List.eq_nil_of_length_eq_zero; omega
    rw [if_neg (by omega)]
    generalize hq : (rows.take h).drop l = q at h1 hz
    cases q with
    | nil => exact absurd rfl hz
    | cons r q =>
      have h2 := h1
      simp only [RProws] at h2
      obtain ⟨⟨_, a, hb, ha, _⟩, _⟩ := h2
      subst hb
      exact RProws_shift ha l (by simpa using h1)
end
end Hx
