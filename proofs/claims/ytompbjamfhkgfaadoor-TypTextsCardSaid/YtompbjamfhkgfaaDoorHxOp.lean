/-
  HxOp: one theorem for every operation that is no call.
-/
import Derived.Test.YtompbjamfhkgfaaDoorHxMove6
namespace Hx
open Go Go.RowKit
set_option linter.unusedSimpArgs false
set_option linter.unusedVariables false

section
variable {F : Fix} {E : Env} {w0 : Base} {c : Cx} {m : Mem}

theorem rows_append_flat {rows new : List (List PV)} : (rows ++ new).flatten = rows.flatten ++ new.flatten := List.flatten_append

theorem resolve_append (ρ : Operand → Value) (x y : Operand) (argTypes : Array TypeId) (ty : TypeId) (P : Program) (w : World) :
    (do let d ← resolve ρ { callee := .builtin .append, args := #[x, y], argTypes } ty; invoke d.target d.args : Sem Next).run P w = ((Builtin.append_ argTypes ty #[ρ x, ρ y]).run P w).andThen fun v w' => .ok (.value v) w' := by
  have : Array.map ρ #[x, y] = #[ρ x, ρ y] := by simp
  simp only [resolve, invoke, builtin, Sem.run_bind, Sem.run_pure, Result.andThen_ok, this]

set_option maxHeartbeats 4000000 in
theorem append_sound (h : Inv F E w0 c m) {ev : X → AV} {ρ : Operand → Value} (hev : Evs F c ev ρ) {own : Bool} {n bytes : Nat} {x y : X} (go : Oper) (hok : okOp F (.append own n bytes x y) go.op = true) {r : AV} {m' : Mem} (hd : denMove ev m (.append own n bytes x y) = some (r, m')) : Moved F E w0 c ρ go r m' := by
  rcases go with ⟨dst, op, type, pos, after, guard⟩
  dsimp only at hok
  unfold Moved execOp
  cases op <;> try (simp [okOp] at hok; done)
  rename_i cl
  rcases cl with ⟨callee, args, argTypes⟩
  cases callee <;> try (simp [okOp] at hok; done)
  rename_i b
  cases b <;> try (simp [okOp] at hok; done)
  dsimp only
  cases own <;> simp only [denMove] at hd <;> try (cases hd; done)
  simp only [okOp, Bool.and_eq_true, decide_eq_true_eq] at hok
  obtain ⟨⟨⟨⟨h1, hn0⟩, hby1⟩, hby0⟩, h2⟩ := hok
  split at h1 <;> try (cases h1; done)
  rename_i x' y' hargs
  have hargs' : args = #[x', y'] := by apply Array.ext'; simpa using hargs
  subst hargs'
  simp only [Bool.and_eq_true] at h1
  split at h2 <;> try (cases h2; done)
  rename_i t u ht0 hu0
  simp only [Bool.and_eq_true] at h2
  obtain ⟨⟨h3, h4⟩, h5⟩ := h2
  split at h3 <;> try (cases h3; done)
  rename_i e hue
  split at h3 <;> try (cases h3; done)
  rename_i i hi
  simp only [Bool.and_eq_true, decide_eq_true_eq] at h3
  obtain ⟨⟨hin, hib⟩, hiz⟩ := h3
  subst hin hib
  split at hiz <;> try (cases hiz; done)
  rename_i z hz
  simp only [decide_eq_true_eq] at hiz
  obtain ⟨d, hud⟩ := Option.isSome_iff_exists.mp h4
  have hnd : isInt (some d) = false := by rw [← hud]; simpa using h5
  split at hd <;> try (cases hd; done)
  rename_i new hnew
  have hx := hev _ _ h1.1
  obtain ⟨news, n1, n2, n3, n4, n5⟩ := rowsOf_sound h hnew (hev _ _ h1.2)
  have hnl : news.length = new.length * i.size := by rw [← RPs_length n1, flatten_length n2]
  have hones : ∀ v ∈ news, v.oneCell' = true := by
    have : Rs F c (new.flatten.map .p) news := Rs_p n1
    exact flat_ones (by intro q hq; simp only [List.mem_map] at hq; obtain ⟨p, hp, rfl⟩ := hq; exact n3 p hp) this
  rw [resolve_append]
  split at hd <;> try (cases hd; done)
  · -- nil
    rename_i hxv
    split at hd <;> try (cases hd; done)
    rename_i hcond
    simp only [newTok, Option.some.injEq, Prod.mk.injEq] at hd
    obtain ⟨rfl, rfl⟩ := hd
    rw [hxv] at hx
    simp only [R, RP] at hx
    rw [hx]
    by_cases hk : new.length = 0
    · have hnil : new = [] := List.eq_nil_of_length_eq_zero hk
      subst hnil
      have hrun := append_fits (P := F.P) c.w (ty := type) ht0 hu0 hue hud hnd hi none 0 0 0 (ρ y') news n4 n5 (by omega)
      simp only [Nat.add_zero] at hrun
      obtain ⟨he, hinv, hR⟩ := nil_tok h i.size
      exact ⟨_, _, .value (.slice none 0 0), by rw [hrun]; rfl, .inl rfl, he, hinv, hR⟩
    · obtain ⟨newCap, arr, q1, q2, q3, q4⟩ := append_grows (P := F.P) c.w (ty := type) ht0 hu0 hue hud hnd hi hz hiz none 0 0 new.length (ρ y') [] news n4 n5 (by intro w1 _; simp [Builtin.firstCells]) (by omega) (by simpa using hcond.1) (by simpa using hcond.2) (by simp) hnl
      simp only [Nat.zero_add, List.nil_append] at q1 q3 q4
      obtain ⟨c'', j1, j2, j3, j4⟩ := fresh_tok h (w' := { c.w with heap := c.w.heap.push (.cells arr e), drawn := c.w.drawn + 1 }) (T := e) (fz := (0, 0)) rfl (nofz_zero _) ⟨rfl, rfl, rfl⟩ (n := i.size) (cap := newCap) (rows := new) n2 n3 q1 (by omega) n1 q3
      exact ⟨c'', _, .value (.slice (some ⟨c.w.heap.size, 0, none⟩) new.length newCap), by rw [q4, j1]; rfl, .inl rfl, j2, j3, j4⟩
  · -- a slice with a right to grow
    rename_i n' rows tok hxv
    split at hd <;> try (cases hd; done)
    rename_i n'' len hm
    split at hd <;> try (cases hd; done)
    rename_i hcond
    obtain ⟨hn1, hn2, hlen, hroom1, hroom2⟩ := hcond
    subst hn1
    subst hn2
    subst hlen
    simp only [Option.some.injEq, Prod.mk.injEq] at hd
    obtain ⟨rfl, rfl⟩ := hd
    rw [hxv] at hx
    simp only [R] at hx
    obtain ⟨⟨base1, cap1, hv1, hle1, hrows⟩, htN, hright⟩ := hx
    have hB := h.blk tok _ hm
    simp only [RB] at hB
    obtain ⟨base, cap, ht, hlc, hb⟩ := hB
    obtain ⟨_, hval⟩ := hright _ _ _ ht
    have hval := hval rfl
    rw [hval] at hv1
    injection hv1 with hv1 _ hv1'
    subst hv1'
    rw [hval]
    have hfin : ∀ (c' : Cx) (b o cp : Nat), Ext c c' → c'.tok tok = some (rows.length + new.length, some (b, o), cp) → c'.K b = some (o + (rows.length + new.length) * i.size) → c'.N = c.N → rows.length + new.length ≤ cp →
        (∃ arr, cellsAt c'.w b arr ∧ ∃ olds, RPs F c rows.flatten olds ∧ ∀ (j : Nat) (v : Value), (olds ++ news)[j]? = some v → arr[o + j]? = some v) → (∀ p ∈ rows.flatten, p.flat = true) → (∀ r ∈ rows, r.length = i.size) →
        R F c' (.tv i.size (rows ++ new) tok) (.slice (some ⟨b, o, none⟩) (rows.length + new.length) cp) := by
      intro c' b o cp he ht' hK' hN' hcp ⟨arr, hca, olds, hold, hcell⟩ hfl hrl
      simp only [R, List.length_append]
      have hall : ∀ r ∈ rows ++ new, r.length = i.size := by
        intro r hr
        simp only [List.mem_append] at hr
        rcases hr with hr | hr
        · exact hrl r hr
        · exact n2 r hr
      refine ⟨⟨_, cp, rfl, hcp, ?_⟩, by omega, ?_⟩
      · apply flat_rows hall
        rw [Nat.zero_mul, Nat.add_zero]
        refine RPcells_of (ys := olds ++ news) (by rw [rows_append_flat]; exact RPs_append (RPs_mono he.keeps _ _ hold) (RPs_mono he.keeps _ _ n1)) ?_ ?_ ?_
        · intro p hp
          rw [rows_append_flat, List.mem_append] at hp
          rcases hp with hp | hp
          · exact hfl p hp
          · exact n3 p hp
        · intro j hj
          rw [flatten_length hall, List.length_append] at hj
          refine ⟨cellsAt_lt hca, fun k hk => ?_⟩
          rw [hK'] at hk
          obtain rfl := Option.some.inj hk
          omega
        · intro j v hv
          rw [cellsAt_cell hca]
          exact hcell j v hv
      · intro l' b' c2 ht2
        rw [ht'] at ht2
        injection ht2 with ht2
        injection ht2 with e1 e2
        injection e2 with e2 e3
        subst e1 e2 e3
        exact ⟨Nat.le_refl _, fun _ => rfl⟩
    have hrl : (∀ r ∈ rows, r.length = i.size) ∧ (∀ p ∈ rows.flatten, p.flat = true) ∧ ∃ olds, RPs F c rows.flatten olds ∧ olds.length = rows.length * i.size ∧ (∀ (b o : Nat), base = some (b, o) → ∀ (j : Nat) (v : Value), olds[j]? = some v → c.w.cell? ⟨b, o + j, none⟩ = some v) := by
      cases base with
      | none =>
        have hcap : cap = 0 := hb
        have : rows = [] := List.eq_nil_of_length_eq_zero (by omega)
        subst this
        exact ⟨by simp, by simp, [], by simp [RPs], by simp, by simp⟩
      | some p =>
        obtain ⟨b, o⟩ := p
        simp only [slAddr, Option.map_some] at hv1
        rw [← hv1] at hrows
        obtain ⟨g1, g2, g3⟩ := rows_flat hrows
        obtain ⟨olds, g4, g5⟩ := cells_vals g1
        refine ⟨g2, RPcells_flat g1, olds, g4, by rw [← RPs_length g4, flatten_length g2], ?_⟩
        intro b' o' hbo j v hv
        simp only [Option.some.injEq, Prod.mk.injEq] at hbo
        obtain ⟨rfl, rfl⟩ := hbo
        have := g5 j v hv
        simpa using this
    obtain ⟨hrl1, hrl2, olds, ho1, ho2, ho3⟩ := hrl
    by_cases hfit : rows.length + new.length ≤ cap
    · -- it fits
      have hrun := append_fits (P := F.P) c.w (ty := type) ht0 hu0 hue hud hnd hi (slAddr base) rows.length cap new.length (ρ y') news n4 n5 hfit
      cases base with
      | none =>
        have hcap : cap = 0 := hb
        have h0 : rows = [] := List.eq_nil_of_length_eq_zero (by omega)
        have h1' : new = [] := List.eq_nil_of_length_eq_zero (by omega)
        subst h0 h1' hcap
        simp only [slAddr, Option.map_none, List.length_nil, Nat.add_zero] at hrun
        refine ⟨c, _, .value (.slice none 0 0), by simp only [slAddr, Option.map_none, List.length_nil]; rw [hrun]; rfl, .inl rfl, Ext.refl c, ?_, ?_⟩
        · have : m.set tok (.tok i.size (([] : List (List PV)).length + ([] : List (List PV)).length)) = m := by
            apply List.ext_getElem?
            intro j
            by_cases hj : tok = j
            · subst hj
              have htm : tok < m.length := by
                rcases Nat.lt_or_ge tok m.length with hl | hl
                · exact hl
                · rw [List.getElem?_eq_none hl] at hm; cases hm
              rw [List.getElem?_set_self htm, hm]; rfl
            · rw [List.getElem?_set_ne hj]
          rw [this]; exact h
        · simp only [R, List.append_nil]
          exact ⟨⟨none, 0, rfl, Nat.le_refl _, by simp [RProws]⟩, htN, by
            intro l' b' c2 ht2
            rw [ht] at ht2
            injection ht2 with ht2
            injection ht2 with e1 e2
            injection e2 with e2 e3
            subst e1 e2 e3
            exact ⟨Nat.le_refl _, fun _ => rfl⟩⟩
      | some p =>
        obtain ⟨b, o⟩ := p
        simp only at hb
        obtain ⟨hK, arr, ⟨T, fz, ha, hz'⟩, hsz⟩ := hb
        have hmul : (rows.length + new.length) * i.size ≤ cap * i.size := Nat.mul_le_mul_right _ hfit
        rw [Nat.add_mul] at hmul
        obtain ⟨w', arr', s1, s2, s3, s4, s5⟩ := storeCells_run (P := F.P) b T fz news (o + rows.length * i.size) 0 arr c.w ha hz' (by omega) hones
        simp only [Nat.add_zero] at s5
        have hsame : ∀ j, j < o + rows.length * i.size → arr'[j]? = arr[j]? := by
          intro j hj
          rw [← Array.getElem?_toList, s5, List.append_assoc, List.getElem?_append_left (by simp; omega), List.getElem?_take_of_lt hj, Array.getElem?_toList]
        obtain ⟨c', g1, g2, g3, g4, g5, g6, g7⟩ := grown_here h hm ht hfit ha hz' s2 s3 s4 hsame
        simp only [slAddr, Option.map_some] at hrun
        rw [addr_add rfl, s1] at hrun
        refine ⟨c', _, .value (.slice (some ⟨b, o, none⟩) (rows.length + new.length) cap), ?_, .inl rfl, g2, g3, hfin c' b o cap g2 g4 g5 g6 hfit ⟨arr', by rw [g1]; exact g7, olds, ho1, ?_⟩ hrl2 hrl1⟩
        · simp only [slAddr, Option.map_some]
          rw [hrun, g1]; rfl
        · intro j v hv
          rcases Nat.lt_or_ge j olds.length with hj | hj
          · rw [List.getElem?_append_left hj] at hv
            rw [hsame (o + j) (by omega)]
            have := ho3 b o rfl j v hv
            simpa [World.cell?, ha] using this
          · rw [List.getElem?_append_right hj] at hv
            have hjn : j - olds.length < news.length := by rw [List.getElem?_eq_some_iff] at hv; exact hv.1
            rw [← Array.getElem?_toList, s5]
            rw [List.getElem?_append_left (by simp; omega), List.getElem?_append_right (by simp; omega)]
            rw [← hv]
            congr 1
            simp
            omega
    · -- it does not fit
      have hold : ∀ w1 : World, w1.heap = c.w.heap → (Builtin.firstCells i.size rows.length (.slice (slAddr base) rows.length cap)).run F.P w1 = .ok olds.toArray w1 := by
        intro w1 hw
        cases base with
        | none =>
          have hcap : cap = 0 := hb
          have h0 : rows = [] := List.eq_nil_of_length_eq_zero (by omega)
          subst h0
          have : olds = [] := List.eq_nil_of_length_eq_zero (by simpa using ho2)
          subst this
          simp [Builtin.firstCells, slAddr]
        | some p =>
          obtain ⟨b, o⟩ := p
          simp only [slAddr, Option.map_some]
          refine run_firstCells_some w1 i.size rows.length ⟨b, o, none⟩ rows.length cap olds ho2 ?_
          intro j v hv
          rw [addr_add rfl]
          have := ho3 b o rfl j v hv
          simp only [World.cell?, hw] at this ⊢
          exact this
      obtain ⟨newCap, arr, q1, q2, q3, q4⟩ := append_grows (P := F.P) c.w (ty := type) ht0 hu0 hue hud hnd hi hz hiz (slAddr base) rows.length cap new.length (ρ y') olds news n4 n5 hold (by omega) hroom1 hroom2 ho2 hnl
      obtain ⟨c', g1, g2, g3, g4, g5, g6, g7⟩ := grown_away h hm ht (k := new.length) (newCap := newCap) (by omega) q1 (w' := { c.w with heap := c.w.heap.push (.cells arr e), drawn := c.w.drawn + 1 }) (arr := arr) (T := e) (fz := (0, 0)) rfl (nofz_zero _) ⟨rfl, rfl, rfl⟩ (by omega)
      refine ⟨c', _, .value (.slice (some ⟨c.w.heap.size, 0, none⟩) (rows.length + new.length) newCap), by rw [q4, g1]; rfl, .inl rfl, g2, g3, hfin c' c.w.heap.size 0 newCap g2 g4 (by rw [g5, Nat.zero_add]) g6 q1 ⟨arr, by rw [g1]; exact g7, olds, ho1, ?_⟩ hrl2 hrl1⟩
      intro j v hv
      rw [Nat.zero_add]
      exact q3 j v hv

theorem move_sound (h : Inv F E w0 c m) {ev : X → AV} {ρ : Operand → Value} (hev : Evs F c ev ρ) (o : XOp) (go : Oper) (hok : okOp F o go.op = true) {r : AV} {m' : Mem} (hd : denMove ev m o = some (r, m')) : Moved F E w0 c ρ go r m' := by
  cases o with
  | load n agg x => exact load_sound h hev go hok hd
  | store n x v => exact store_sound h hev go hok hd
  | alloc zero => exact alloc_sound h hev go hok hd
  | box x => exact box_sound h hev go hok hd
  | rowLit own n len zero parts => exact rowLit_sound h hev go hok hd
  | mkRow own n bytes zero l c => exact mkRow_sound h hev go hok hd
  | toStr x => exact toStr_sound h hev go hok hd
  | toBytes own x => exact toBytes_sound h hev go hok hd
  | cutArr len n x lo hi => exact cutArr_sound h hev go hok hd
  | append own n bytes x y => exact append_sound h hev go hok hd
  | _ => simp [denMove] at hd

theorem op_sound (h : Inv F E w0 c m) {ev : X → AV} {ρ : Operand → Value} (hev : Evs F c ev ρ) (hρ : ∀ v, ρ (.const v) = v) (o : XOp) (go : Oper) (hok : okOp F o go.op = true) {r : AV} {m' : Mem} (hd : denOp ev m o = some (r, m')) : Moved F E w0 c ρ go r m' := by
  unfold denOp at hd
  split at hd
  · rename_i v hv
    simp only [Option.some.injEq, Prod.mk.injEq] at hd
    obtain ⟨rfl, rfl⟩ := hd
    obtain ⟨y, k1, k2⟩ := still_sound (c := c) hev hρ o go hok hv
    exact ⟨c, y, .value y, k1, .inl rfl, Ext.refl c, h, k2⟩
  · exact move_sound h hev o go hok hd
end
end Hx
