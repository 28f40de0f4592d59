/-
  HxOp: one theorem for every operation that is no call.
-/
import Derived.Test.YtfobhbameffplaaHxMove6
import Derived.Test.YtfobhbameffplaaHxMoveM
namespace Hx
open Go Go.RowKit
set_option linter.unusedSimpArgs false
set_option linter.unusedVariables false

section
variable {F : Fix} {E : Env} {w0 : Base} {c : Cx} {m : Mem}

theorem rows_append_flat {rows new : List (List PV)} : (rows ++ new).flatten = rows.flatten ++ new.flatten := List.flatten_append

theorem resolve_append (ρ : Operand → Value) (x y : Operand) (argTypes : Array TypeId) (ty : TypeId) (P : Program) (w : World) :
    (do let d ← resolve ρ { callee := .builtin .append, args := #[x, y], argTypes } ty; invoke d.target d.args : Sem Next).run P w = ((Builtin.append_ argTypes ty #[ρ x, ρ y]).run P w).andThen fun v w' => .ok (.value v) w' := by
  have : Array.map ρ #[x, y] = #[ρ x, ρ y] := by simp
  simp only [resolve, invoke, builtin, Sem.run_bind, Sem.run_pure, Result.andThen_ok, this]

def appElem (P : Program) : Op → Option TypeId
  | .call { callee := _, args := _, argTypes } => match argTypes[0]? with
    | some t => match P.underlying t with | some (.slice e) => some e | _ => none
    | none => none
  | _ => none
def MovedT (F : Fix) (E : Env) (w0 : Base) (c : Cx) (ρ : Operand → Value) (go : Oper) (r : AV) (m' : Mem) (e : Option TypeId) (before : TypeId → Prop) : Prop :=
  ∃ c' y nx, (execOp ρ go).run F.P c.w = .ok nx c'.w ∧ (nx = .value y ∨ nx = .skip ∧ y = undef) ∧ Ext c c' ∧ Inv F E w0 c' m' ∧ R F c' r y ∧
    ∀ T, e = some T → before T → ∀ b, blockOf y = some b → ctype c'.w b = some T
set_option maxHeartbeats 4000000 in
theorem append_soundT (h : Inv F E w0 c m) {ev : X → AV} {ρ : Operand → Value} (hev : Evs F c ev ρ) {own : Bool} {n bytes : Nat} {x y : X} (go : Oper) (hok : okOp F (.append own n bytes x y) go.op = true) {r : AV} {m' : Mem} (hd : denMove ev m (.append own n bytes x y) = some (r, m')) : MovedT F E w0 c ρ go r m' (appElem F.P go.op) (fun T => ∀ x', okX F x x' = true → ∀ b, blockOf (ρ x') = some b → ctype c.w b = some T) := by
  rcases go with ⟨dst, op, type, pos, after, guard⟩
  dsimp only at hok
  unfold MovedT execOp
  cases op <;> try (simp [okOp] at hok; done)
  rename_i cl
  rcases cl with ⟨callee, args, argTypes⟩
  cases callee <;> try (simp [okOp] at hok; done)
  rename_i b
  cases b <;> try (simp [okOp] at hok; done)
  dsimp only
  cases own <;> simp only [denMove] at hd <;> try (cases hd; done)
  simp only [okOp, Bool.and_eq_true, decide_eq_true_eq] at hok
  obtain ⟨⟨⟨⟨h1, hn0⟩, hby1⟩, hby0⟩, h2⟩ := hok
  split at h1 <;> try (cases h1; done)
  rename_i x' y' hargs
  have hargs' : args = #[x', y'] := by apply Array.ext'; simpa using hargs
  subst hargs'
  simp only [Bool.and_eq_true] at h1
  split at h2 <;> try (cases h2; done)
  rename_i t u ht0 hu0
  simp only [Bool.and_eq_true] at h2
  obtain ⟨⟨h3, h4⟩, h5⟩ := h2
  split at h3 <;> try (cases h3; done)
  rename_i e hue
  split at h3 <;> try (cases h3; done)
  rename_i i hi
  simp only [Bool.and_eq_true, decide_eq_true_eq] at h3
  obtain ⟨⟨hin, hib⟩, hiz⟩ := h3
  subst hin hib
  split at hiz <;> try (cases hiz; done)
  rename_i z hz
  simp only [decide_eq_true_eq] at hiz
  obtain ⟨d, hud⟩ := Option.isSome_iff_exists.mp h4
  have hnd : isInt (some d) = false := by rw [← hud]; simpa using h5
  split at hd <;> try (cases hd; done)
  rename_i new hnew
  have hx := hev _ _ h1.1
  obtain ⟨news, n1, n2, n3, n4, n5⟩ := rowsOf_sound h hnew (hev _ _ h1.2)
  have hnl : news.length = new.length * i.size := by rw [← RPs_length n1, flatten_length n2]
  have hones : ∀ v ∈ news, v.oneCell' = true := by
    have : Rs F c (new.flatten.map .p) news := Rs_p n1
    exact flat_ones (by intro q hq; simp only [List.mem_map] at hq; obtain ⟨p, hp, rfl⟩ := hq; exact n3 p hp) this
  rw [resolve_append]
  split at hd <;> try (cases hd; done)
  · -- nil
    rename_i hxv
    split at hd <;> try (cases hd; done)
    rename_i hcond
    rw [hxv] at hx
    simp only [R, RP] at hx
    rw [hx]
    by_cases hk : new.length = 0
    · rw [if_pos (List.eq_nil_of_length_eq_zero hk)] at hd
      simp only [Option.some.injEq, Prod.mk.injEq] at hd
      obtain ⟨rfl, rfl⟩ := hd
      have hnil : new = [] := List.eq_nil_of_length_eq_zero hk
      subst hnil
      have hrun := append_fits (P := F.P) c.w (ty := type) ht0 hu0 hue hud hnd hi none 0 0 0 (ρ y') news n4 n5 (by omega)
      simp only [Nat.add_zero] at hrun
      exact ⟨_, _, .value (.slice none 0 0), by rw [hrun]; rfl, .inl rfl, Ext.refl c, h, by simp only [R, RP], fun T _ _ b hb => by simp [blockOf] at hb⟩
    · rw [if_neg (fun e => hk (by rw [e]; rfl))] at hd
      simp only [newTok, Option.some.injEq, Prod.mk.injEq] at hd
      obtain ⟨rfl, rfl⟩ := hd
      obtain ⟨newCap, arr, q1, q2, q3, q4⟩ := append_grows (P := F.P) c.w (ty := type) ht0 hu0 hue hud hnd hi hz hiz none 0 0 new.length (ρ y') [] news n4 n5 (by intro w1 _; simp [Builtin.firstCells]) (by omega) (by simpa using hcond.1) (by simpa using hcond.2) (by simp) hnl
      simp only [Nat.zero_add, List.nil_append] at q1 q3 q4
      obtain ⟨c'', j1, j2, j3, j4⟩ := fresh_tok h (w' := { c.w with heap := c.w.heap.push (.cells arr e), drawn := c.w.drawn + 1 }) (T := e) (fz := (0, 0)) rfl (nofz_zero _) ⟨rfl, rfl, rfl⟩ (n := i.size) (cap := newCap) (rows := new) n2 n3 q1 (by omega) n1 q3
      exact ⟨c'', _, .value (.slice (some ⟨c.w.heap.size, 0, none⟩) new.length newCap), by rw [q4, j1]; rfl, .inl rfl, j2, j3, j4, fun T hT _ b hb => by
        simp only [blockOf, Option.some.injEq] at hb
        simp only [appElem, ht0, hue, Option.some.injEq] at hT
        subst hb hT
        rw [j1]; simp [ctype, cinfo]⟩
  · -- a slice with a right to grow
    rename_i n' rows tok hxv
    split at hd <;> try (cases hd; done)
    rename_i n'' len hm
    split at hd <;> try (cases hd; done)
    rename_i hcond
    obtain ⟨hn1, hn2, hlen, hroom1, hroom2⟩ := hcond
    subst hn1
    subst hn2
    subst hlen
    simp only [Option.some.injEq, Prod.mk.injEq] at hd
    obtain ⟨rfl, rfl⟩ := hd
    rw [hxv] at hx
    simp only [R] at hx
    obtain ⟨⟨base1, cap1, hv1, hle1, hrows⟩, htN, hright⟩ := hx
    have hB := h.blk tok _ hm
    simp only [RB] at hB
    obtain ⟨base, cap, ht, hlc, hb⟩ := hB
    obtain ⟨_, hval⟩ := hright _ _ _ ht
    have hval := hval rfl
    rw [hval] at hv1
    injection hv1 with hv1 _ hv1'
    subst hv1'
    rw [hval]
    have hfin : ∀ (c' : Cx) (b o cp : Nat), Ext c c' → c'.tok tok = some (rows.length + new.length, some (b, o), cp) → c'.K b = some (o + (rows.length + new.length) * i.size) → c'.N = c.N → rows.length + new.length ≤ cp →
        (∃ arr, cellsAt c'.w b arr ∧ ∃ olds, RPs F c rows.flatten olds ∧ ∀ (j : Nat) (v : Value), (olds ++ news)[j]? = some v → arr[o + j]? = some v) → (∀ p ∈ rows.flatten, p.flat = true) → (∀ r ∈ rows, r.length = i.size) →
        R F c' (.tv i.size (rows ++ new) tok) (.slice (some ⟨b, o, none⟩) (rows.length + new.length) cp) := by
      intro c' b o cp he ht' hK' hN' hcp ⟨arr, hca, olds, hold, hcell⟩ hfl hrl
      simp only [R, List.length_append]
      have hall : ∀ r ∈ rows ++ new, r.length = i.size := by
        intro r hr
        simp only [List.mem_append] at hr
        rcases hr with hr | hr
        · exact hrl r hr
        · exact n2 r hr
      refine ⟨⟨_, cp, rfl, hcp, ?_⟩, by omega, ?_⟩
      · apply flat_rows hall
        rw [Nat.zero_mul, Nat.add_zero]
        refine RPcells_of (ys := olds ++ news) (by rw [rows_append_flat]; exact RPs_append (RPs_mono he.keeps _ _ hold) (RPs_mono he.keeps _ _ n1)) ?_ ?_ ?_
        · intro p hp
          rw [rows_append_flat, List.mem_append] at hp
          rcases hp with hp | hp
          · exact hfl p hp
          · exact n3 p hp
        · intro j hj
          rw [flatten_length hall, List.length_append] at hj
          refine ⟨cellsAt_lt hca, fun k hk => ?_⟩
          rw [hK'] at hk
          obtain rfl := Option.some.inj hk
          omega
        · intro j v hv
          rw [cellsAt_cell hca]
          exact hcell j v hv
      · intro l' b' c2 ht2
        rw [ht'] at ht2
        injection ht2 with ht2
        injection ht2 with e1 e2
        injection e2 with e2 e3
        subst e1 e2 e3
        exact ⟨Nat.le_refl _, fun _ => rfl⟩
    have hrl : (∀ r ∈ rows, r.length = i.size) ∧ (∀ p ∈ rows.flatten, p.flat = true) ∧ ∃ olds, RPs F c rows.flatten olds ∧ olds.length = rows.length * i.size ∧ (∀ (b o : Nat), base = some (b, o) → ∀ (j : Nat) (v : Value), olds[j]? = some v → c.w.cell? ⟨b, o + j, none⟩ = some v) := by
      cases base with
      | none =>
        have hcap : cap = 0 := hb
        have : rows = [] := List.eq_nil_of_length_eq_zero (by omega)
        subst this
        exact ⟨by simp, by simp, [], by simp [RPs], by simp, by simp⟩
      | some p =>
        obtain ⟨b, o⟩ := p
        simp only [slAddr, Option.map_some] at hv1
        rw [← hv1] at hrows
        obtain ⟨g1, g2, g3⟩ := rows_flat hrows
        obtain ⟨olds, g4, g5⟩ := cells_vals g1
        refine ⟨g2, RPcells_flat g1, olds, g4, by rw [← RPs_length g4, flatten_length g2], ?_⟩
        intro b' o' hbo j v hv
        simp only [Option.some.injEq, Prod.mk.injEq] at hbo
        obtain ⟨rfl, rfl⟩ := hbo
        have := g5 j v hv
        simpa using this
    obtain ⟨hrl1, hrl2, olds, ho1, ho2, ho3⟩ := hrl
    by_cases hfit : rows.length + new.length ≤ cap
    · -- it fits
      have hrun := append_fits (P := F.P) c.w (ty := type) ht0 hu0 hue hud hnd hi (slAddr base) rows.length cap new.length (ρ y') news n4 n5 hfit
      cases base with
      | none =>
        exfalso
        simp only [slAddr, Option.map_none] at hv1
        rw [← hv1] at hrows
        exact RProws_ne hrows rfl
      | some p =>
        obtain ⟨b, o⟩ := p
        simp only at hb
        obtain ⟨hK, arr, ⟨T, fz, ha, hz'⟩, hsz⟩ := hb
        have hmul : (rows.length + new.length) * i.size ≤ cap * i.size := Nat.mul_le_mul_right _ hfit
        rw [Nat.add_mul] at hmul
        obtain ⟨w', arr', s1, s2, s3, s4, s5⟩ := storeCells_run (P := F.P) b T fz news (o + rows.length * i.size) 0 arr c.w ha hz' (by omega) hones
        simp only [Nat.add_zero] at s5
        have hsame : ∀ j, j < o + rows.length * i.size → arr'[j]? = arr[j]? := by
          intro j hj
          rw [← Array.getElem?_toList, s5, List.append_assoc, List.getElem?_append_left (by simp; omega), List.getElem?_take_of_lt hj, Array.getElem?_toList]
        obtain ⟨c', g1, g2, g3, g4, g5, g6, g7⟩ := grown_here h hm ht hfit ha hz' s2 s3 s4 hsame
        simp only [slAddr, Option.map_some] at hrun
        rw [addr_add rfl, s1] at hrun
        refine ⟨c', _, .value (.slice (some ⟨b, o, none⟩) (rows.length + new.length) cap), ?_, .inl rfl, g2, g3, hfin c' b o cap g2 g4 g5 g6 hfit ⟨arr', by rw [g1]; exact g7, olds, ho1, ?_⟩ hrl2 hrl1, fun T hT hbef b' hb' => by
          simp only [blockOf, Option.some.injEq] at hb'
          subst hb'
          exact g2.ctype_eq (hbef x' h1.1 b (by rw [hval]; rfl))⟩
        · simp only [slAddr, Option.map_some]
          rw [hrun, g1]; rfl
        · intro j v hv
          rcases Nat.lt_or_ge j olds.length with hj | hj
          · rw [List.getElem?_append_left hj] at hv
            rw [hsame (o + j) (by omega)]
            have := ho3 b o rfl j v hv
            simpa [World.cell?, ha] using this
          · rw [List.getElem?_append_right hj] at hv
            have hjn : j - olds.length < news.length := by rw [List.getElem?_eq_some_iff] at hv; exact hv.1
            rw [← Array.getElem?_toList, s5]
            rw [List.getElem?_append_left (by simp; omega), List.getElem?_append_right (by simp; omega)]
            rw [← hv]
            congr 1
            simp
            omega
    · -- it does not fit
      have hold : ∀ w1 : World, w1.heap = c.w.heap → (Builtin.firstCells i.size rows.length (.slice (slAddr base) rows.length cap)).run F.P w1 = .ok olds.toArray w1 := by
        intro w1 hw
        cases base with
        | none =>
          have hcap : cap = 0 := hb
          have h0 : rows = [] := List.eq_nil_of_length_eq_zero (by omega)
          subst h0
          have : olds = [] := List.eq_nil_of_length_eq_zero (by simpa using ho2)
          subst this
          simp [Builtin.firstCells, slAddr]
        | some p =>
          obtain ⟨b, o⟩ := p
          simp only [slAddr, Option.map_some]
          refine run_firstCells_some w1 i.size rows.length ⟨b, o, none⟩ rows.length cap olds ho2 ?_
          intro j v hv
          rw [addr_add rfl]
          have := ho3 b o rfl j v hv
          simp only [World.cell?, hw] at this ⊢
          exact this
      obtain ⟨newCap, arr, q1, q2, q3, q4⟩ := append_grows (P := F.P) c.w (ty := type) ht0 hu0 hue hud hnd hi hz hiz (slAddr base) rows.length cap new.length (ρ y') olds news n4 n5 hold (by omega) hroom1 hroom2 ho2 hnl
      obtain ⟨c', g1, g2, g3, g4, g5, g6, g7⟩ := grown_away h hm ht (k := new.length) (newCap := newCap) (by omega) q1 (w' := { c.w with heap := c.w.heap.push (.cells arr e), drawn := c.w.drawn + 1 }) (arr := arr) (T := e) (fz := (0, 0)) rfl (nofz_zero _) ⟨rfl, rfl, rfl⟩ (by omega)
      refine ⟨c', _, .value (.slice (some ⟨c.w.heap.size, 0, none⟩) (rows.length + new.length) newCap), by rw [q4, g1]; rfl, .inl rfl, g2, g3, hfin c' c.w.heap.size 0 newCap g2 g4 (by rw [g5, Nat.zero_add]) g6 q1 ⟨arr, by rw [g1]; exact g7, olds, ho1, ?_⟩ hrl2 hrl1, fun T hT _ b hb => by
        simp only [blockOf, Option.some.injEq] at hb
        simp only [appElem, ht0, hue, Option.some.injEq] at hT
        subst hb hT
        rw [g1]; simp [ctype, cinfo]⟩
      intro j v hv
      rw [Nat.zero_add]
      exact q3 j v hv

theorem append_sound (h : Inv F E w0 c m) {ev : X → AV} {ρ : Operand → Value} (hev : Evs F c ev ρ) {own : Bool} {n bytes : Nat} {x y : X} (go : Oper) (hok : okOp F (.append own n bytes x y) go.op = true) {r : AV} {m' : Mem} (hd : denMove ev m (.append own n bytes x y) = some (r, m')) : Moved F E w0 c ρ go r m' := by
  obtain ⟨c', y', nx, h1, h2, h3, h4, h5, _⟩ := append_soundT h hev go hok hd
  exact ⟨c', y', nx, h1, h2, h3, h4, h5⟩

def unty : AV → AV
  | .ty _ v => v
  | v => v
theorem R_unty {v : AV} {y : Value} (h : R F c v y) : R F c (unty v) y := by
  cases v <;> first | exact h | (simp only [R] at h; exact h.1)
theorem rowsOf_unty {n : Nat} {v : AV} {rows : List (List PV)} (h : rowsOf n m v = some rows) : rowsOf n m (unty v) = some rows := by
  cases v <;> first | exact h | (simp [rowsOf] at h)
theorem appendT_sound (h : Inv F E w0 c m) {ev : X → AV} {ρ : Operand → Value} (hev : Evs F c ev ρ) {t n bytes : Nat} {x y : X} (go : Oper) (hok : okOp F (.appendT t n bytes x y) go.op = true) {r : AV} {m' : Mem} (hd : denMove ev m (.appendT t n bytes x y) = some (r, m')) : Moved F E w0 c ρ go r m' := by
  have hok' : okOp F (.append false n bytes x y) go.op = true ∧ appElem F.P go.op = some (F.tnum t) := by
    rcases go with ⟨dst, op, type, pos, after, guard⟩
    dsimp only at hok ⊢
    cases op <;> try (simp [okOp] at hok; done)
    rename_i cl
    rcases cl with ⟨callee, args, argTypes⟩
    cases callee <;> try (simp [okOp] at hok; done)
    rename_i b
    cases b <;> try (simp [okOp] at hok; done)
    simp only [okOp, appElem, Bool.and_eq_true] at hok ⊢
    obtain ⟨⟨⟨⟨k1, k2⟩, k3⟩, k4⟩, k5⟩ := hok
    split at k5 <;> try (cases k5; done)
    rename_i t' u ht hu
    simp only [Bool.and_eq_true] at k5
    obtain ⟨⟨k6, k7⟩, k8⟩ := k5
    split at k6 <;> try (cases k6; done)
    rename_i e he
    simp only [Bool.and_eq_true, decide_eq_true_eq] at k6
    obtain ⟨k6, rfl⟩ := k6
    refine ⟨⟨⟨⟨⟨k1, k2⟩, k3⟩, k4⟩, ?_⟩, ?_⟩
    · first
        | (simp only [Bool.and_eq_true]; exact ⟨⟨k6, k7⟩, k8⟩)
        | (simp only [ht, hu, he, Bool.and_eq_true]; exact ⟨⟨k6, k7⟩, k8⟩)
    · first | rfl | simp only [he] | simp only [ht, he]
  obtain ⟨hokA, hT⟩ := hok'
  have hev' : Evs F c (fun z => unty (ev z)) ρ := fun z w hz => R_unty (hev z w hz)
  have hd' : ∃ r0, denMove (fun z => unty (ev z)) m (.append false n bytes x y) = some (r0, m') ∧ r = .ty t r0 ∧ (∀ x', okX F x x' = true → ∀ b, blockOf (ρ x') = some b → ctype c.w b = some (F.tnum t)) := by
    simp only [denMove] at hd ⊢
    split at hd <;> try (cases hd; done)
    rename_i new hnew
    rw [rowsOf_unty hnew]
    split at hd <;> try (cases hd; done)
    · rename_i hx
      split at hd <;> try (cases hd; done)
      rename_i hc
      simp only [Option.some.injEq, Prod.mk.injEq] at hd
      obtain ⟨rfl, rfl⟩ := hd
      refine ⟨.tv n new m.length, ?_, rfl, ?_⟩
      · simp only [hx, unty, if_pos (show new.length * bytes ≤ room ∧ new.length ≤ room from ⟨hc.1, hc.2.1⟩), if_neg hc.2.2, newTok]
      · intro x' hxx b hb
        have := hev x x' hxx
        rw [hx] at this
        simp only [R, RP] at this
        rw [this] at hb
        simp [blockOf] at hb
    · rename_i t' n' rows tok hx
      split at hd <;> try (cases hd; done)
      rename_i n'' len hm
      split at hd <;> try (cases hd; done)
      rename_i hc
      obtain ⟨rfl, hc⟩ := hc
      simp only [Option.some.injEq, Prod.mk.injEq] at hd
      obtain ⟨rfl, rfl⟩ := hd
      refine ⟨.tv n (rows ++ new) tok, ?_, rfl, ?_⟩
      · simp only [hx, unty, hm, if_pos hc]
      · intro x' hxx b hb
        have := hev x x' hxx
        rw [hx] at this
        simp only [R] at this
        exact tyOk_exact (this.2 b hb) rfl
  obtain ⟨r0, hd0, rfl, hbef⟩ := hd'
  obtain ⟨c', y', nx, h1, h2, h3, h4, h5, h6⟩ := append_soundT h hev' go hokA hd0
  exact ⟨c', y', nx, h1, h2, h3, h4, by simp only [R]; exact ⟨h5, fun b hb => tyOk_of (h6 _ hT hbef b hb)⟩⟩

theorem allocT_sound (h : Inv F E w0 c m) {ev : X → AV} {ρ : Operand → Value} (hev : Evs F c ev ρ) {t : Nat} {zero : List PV} (go : Oper) (hok : okOp F (.allocT t zero) go.op = true) {r : AV} {m' : Mem} (hd : denMove ev m (.allocT t zero) = some (r, m')) : Moved F E w0 c ρ go r m' := by
  rcases go with ⟨dst, op, type, pos, after, guard⟩
  dsimp only at hok
  unfold Moved execOp
  cases op <;> try (simp [okOp] at hok; done)
  dsimp only
  simp only [okOp, Bool.and_eq_true, decide_eq_true_eq] at hok
  obtain ⟨rfl, hok⟩ := hok
  obtain ⟨i, z, hi, hz, hzr, hzp⟩ := zero_run hok
  simp only [denMove] at hd
  split at hd <;> try (cases hd; done)
  rename_i hfl
  simp only [Option.some.injEq, Prod.mk.injEq] at hd
  obtain ⟨rfl, rfl⟩ := hd
  let w' : World := { c.w with heap := c.w.heap.push (.cells z.cells (F.tnum t)) }
  have hh : w'.heap = c.w.heap.push (.cells z.cells (F.tnum t) (0, 0)) := rfl
  have hl := RPs_length (hzp c)
  simp only [Array.length_toList] at hl
  obtain ⟨he, hinv⟩ := fresh_cells h (w' := w') hh (nofz_zero _) ⟨rfl, rfl, rfl⟩ (all_flat hfl) (by simp; omega) (by
    rw [List.length_map, hl, ← Array.length_toList, List.take_length]; exact Rs_p (hzp c))
  refine ⟨_, _, .value (.pointer (some ⟨c.w.heap.size, 0, none⟩)), ?_, .inl rfl, he, hinv, ?_⟩
  · simp [Instr.alloc, hzr, newVar, newRow, Cx.pushed, w']
  · have hp := ptr_pushed (w' := w') (k := 0) (e := none) h
    simp only [R] at hp ⊢
    refine ⟨hp, ?_⟩
    intro b hb
    simp only [blockOf, Option.some.injEq] at hb
    subst hb
    have hg : (c.pushed w' 0 none).w.heap[c.w.heap.size]? = some (.cells z.cells (F.tnum t) (0, 0)) := by
      show w'.heap[c.w.heap.size]? = _
      rw [hh]; simp
    exact tyOk_of (by simp only [ctype, cinfo, hg])

theorem boxT_sound (h : Inv F E w0 c m) {ev : X → AV} {ρ : Operand → Value} (hev : Evs F c ev ρ) {t n : Nat} {x : X} (go : Oper) (hok : okOp F (.boxT t n x) go.op = true) {r : AV} {m' : Mem} (hd : denMove ev m (.boxT t n x) = some (r, m')) : Moved F E w0 c ρ go r m' := by
  rcases go with ⟨dst, op, type, pos, after, guard⟩
  dsimp only at hok
  unfold Moved execOp
  cases op <;> try (simp [okOp] at hok; done)
  dsimp only
  rename_i T x'
  simp only [okOp, Bool.and_eq_true] at hok
  obtain ⟨hok, hlies⟩ := hok
  simp only [denMove] at hd
  split at hd <;> try (cases hd; done)
  rename_i cs hcs
  split at hd <;> try (cases hd; done)
  rename_i hfl
  obtain ⟨hfl, hcn⟩ := hfl
  simp only [Option.some.injEq, Prod.mk.injEq] at hd
  obtain ⟨rfl, rfl⟩ := hd
  have hcv := cells_sound hcs (hev _ _ hok)
  have hl := Rs_length hcv
  let w' : World := { c.w with heap := c.w.heap.push (.cells (ρ x').cells T) }
  have hh : w'.heap = c.w.heap.push (.cells (ρ x').cells T (0, 0)) := rfl
  simp only [Array.length_toList] at hl
  obtain ⟨he, hinv⟩ := fresh_cells h (w' := w') hh (nofz_zero _) ⟨rfl, rfl, rfl⟩ (set_ok.mpr hfl) (by omega) (by
    rw [hl, ← Array.length_toList, List.take_length]; exact hcv)
  refine ⟨_, _, .value (.pointer (some ⟨c.w.heap.size, 0, none⟩)), ?_, .inl rfl, he, hinv, ?_⟩
  · simp [Instr.box, newVar, newRow, Cx.pushed, w']
  · have hp := ptr_pushed (w' := w') (k := 0) (e := none) h
    simp only [R] at hp ⊢
    refine ⟨hp, ?_⟩
    intro b hb
    simp only [blockOf, Option.some.injEq] at hb
    subst hb
    have hg : (c.pushed w' 0 none).w.heap[c.w.heap.size]? = some (.cells (ρ x').cells T (0, 0)) := by
      show w'.heap[c.w.heap.size]? = _
      rw [hh]; simp
    refine ⟨T, by simp only [ctype, cinfo, hg], .inr ⟨rfl, ?_⟩⟩
    have e4 : csize (c.pushed w' 0 none).w c.w.heap.size = (ρ x').cells.size := by simp only [csize, cinfo, hg]
    rw [e4, ← hl, hcn]
    exact hlies
theorem liesAt_self {P : Program} {e : TypeId} (hc : P.cellsOf e ≠ 0) (count n : Nat) (hn : n ≤ count) : liesAt P P.depth e count 0 e n = true := by
  have hd : P.depth = (2 * (P.types.size + Made.depth) + 1) + 1 := rfl
  rw [hd]
  simp only [liesAt, Bool.or_eq_true]
  left
  rw [hd]
  simp [rowAt, hc, hn, sameLayout]
theorem cast_sound (h : Inv F E w0 c m) {ev : X → AV} {ρ : Operand → Value} (hev : Evs F c ev ρ) {back : Bool} {t n : Nat} {x : X} (go : Oper) (hok : okOp F (.cast back t n x) go.op = true) {r : AV} {m' : Mem} (hd : denMove ev m (.cast back t n x) = some (r, m')) : Moved F E w0 c ρ go r m' := by
  rcases go with ⟨dst, op, type, pos, after, guard⟩
  dsimp only at hok
  unfold Moved execOp
  cases op <;> try (simp [okOp] at hok; done)
  dsimp only
  rename_i s d x'
  simp only [okOp, Bool.and_eq_true] at hok
  obtain ⟨h1, h2⟩ := hok
  simp only [denMove] at hd
  split at hd <;> try (cases hd; done)
  rename_i t' id hx
  split at hd <;> try (cases hd; done)
  rename_i cs hm
  split at hd <;> try (cases hd; done)
  rename_i hcond
  obtain ⟨rfl, hn0, hnl⟩ := hcond
  simp only [Option.some.injEq, Prod.mk.injEq] at hd
  obtain ⟨rfl, rfl⟩ := hd
  have hR := hev _ _ h2
  rw [hx] at hR
  have hR' := hR
  simp only [R] at hR'
  obtain ⟨⟨hid, hp⟩, hty⟩ := hR'
  obtain ⟨k3, k2, k4, arr, T, fz, k5, k6, k7, k8⟩ := cells_of h hm
  have hTT : T = F.tnum t' ∨ liesAt F.P F.P.depth T (arr.size / F.P.cellsOf T) 0 (F.tnum t') 1 = true := by
    obtain ⟨T', e1, e2⟩ := hty (c.ρ id).1 (by rw [hp]; rfl)
    have e3 : T = T' := by simpa [ctype, cinfo, k5] using e1
    subst e3
    have e4 : csize c.w (c.ρ id).1 = arr.size := by simp [csize, cinfo, k5]
    rw [e4] at e2
    exact e2.imp (fun h => h) And.right
  have hsh : c.w.shape? (c.ρ id).1 = some (T, arr.size) := by simp [World.shape?, k5]
  rw [k3] at hp
  refine ⟨c, ρ x', .value (ρ x'), ?_, .inl rfl, Ext.refl c, h, hR⟩
  cases back with
  | false =>
    simp only [cond_false] at h1
    split at h1 <;> try (cases h1; done)
    rename_i u hs hdd
    simp only [decide_eq_true_eq] at h1
    obtain ⟨j, hj, hjs⟩ := Option.map_eq_some_iff.1 h1
    rw [hp]
    have := Lib.run_to_unsafe (P := F.P) c.w ⟨(c.ρ id).1, 0, none⟩ hs hdd hj (by rw [hjs]; exact hn0) hsh (by simp; omega)
    simp only [Nat.add_zero, this, Sem.run_bind, Result.andThen_ok, Sem.run_pure]
  | true =>
    simp only [cond_true] at h1
    split at h1 <;> try (cases h1; done)
    rename_i u hs hdd
    simp only [Bool.and_eq_true, decide_eq_true_eq] at h1
    obtain ⟨rfl, h1⟩ := h1
    obtain ⟨j, hj, hjs⟩ := Option.map_eq_some_iff.1 h1
    rw [hp]
    have hco : F.P.cellsOf (F.tnum t') = n := by simp [Program.cellsOf, hj, hjs]
    have hlies : liesAt F.P F.P.depth T (arr.size / F.P.cellsOf T) 0 (F.tnum t') 1 = true := by
      rcases hTT with rfl | hTT
      · exact liesAt_self (by rw [hco]; exact hn0) _ _ (by rw [hco]; exact (Nat.le_div_iff_mul_le (by omega)).mpr (by omega))
      · exact hTT
    have := Lib.run_from_unsafe (P := F.P) c.w ⟨(c.ρ id).1, 0, none⟩ hs hdd hj hsh hlies
    simp only [Nat.add_zero, this, Sem.run_bind, Result.andThen_ok, Sem.run_pure]

theorem freeze_heap {w : World} {b : Nat} {arr : Array Value} {T : TypeId} {fz : Nat × Nat} (hb : w.heap[b]? = some (.cells arr T fz)) (o k : Nat) :
    ∃ fz', (w.freeze ⟨b, o, none⟩ k).heap[b]? = some (.cells arr T fz') ∧ (∀ b', b' ≠ b → (w.freeze ⟨b, o, none⟩ k).heap[b']? = w.heap[b']?) ∧ (w.freeze ⟨b, o, none⟩ k).heap.size = w.heap.size ∧
      (nofz arr.size fz → arr.size ≤ o → nofz arr.size fz') := by
  unfold World.freeze
  split
  · exact ⟨fz, hb, fun _ _ => rfl, rfl, fun h _ => h⟩
  · refine ⟨(if fz.1 == fz.2 then (o, o + k) else (min fz.1 o, max fz.2 (o + k))), by rw [Array.getElem?_modify, if_pos rfl, hb]; rfl, ?_, by simp, ?_⟩
    · intro b' hb'
      simp only [Array.getElem?_modify]
      rw [if_neg (fun e => hb' e.symm)]
    · intro h1 h2
      unfold nofz at h1 ⊢
      obtain ⟨lo, hi⟩ := fz
      dsimp only at h1 ⊢
      split
      · exact .inr h2
      · rename_i hne
        rcases h1 with h1 | h1
        · exact absurd (by simp [h1]) hne
        · exact .inr (by simp; omega)
theorem frozen_inv (h : Inv F E w0 c m) {tok n len : Nat} (hm : m[tok]? = some (.tok n len)) {b o cap : Nat} (ht : c.tok tok = some (len, some (b, o), cap)) {arr : Array Value} {T : TypeId} {fz : Nat × Nat} (hb : c.w.heap[b]? = some (.cells arr T fz)) (hz : nofz arr.size fz)
    (o' k : Nat) : Ext c { c with w := c.w.freeze ⟨b, o', none⟩ k } ∧ (arr.size ≤ o' → Inv F E w0 { c with w := c.w.freeze ⟨b, o', none⟩ k } m) ∧
      Ext c { c with w := c.w.freeze ⟨b, o', none⟩ k, tok := fun t => if t = tok then none else c.tok t } ∧ Inv F E w0 { c with w := c.w.freeze ⟨b, o', none⟩ k, tok := fun t => if t = tok then none else c.tok t } (m.set tok .dead) := by
  obtain ⟨fz', f1, f2, f3, f4⟩ := freeze_heap hb o' k
  have hcell : ∀ a, (c.w.freeze ⟨b, o', none⟩ k).cell? a = c.w.cell? a := by
    intro a
    simp only [World.cell?]
    by_cases ha : a.block = b
    · rw [ha, f1, hb]
    · rw [f2 _ ha]
  have hinfo : ∀ b', cinfo (c.w.freeze ⟨b, o', none⟩ k) b' = cinfo c.w b' := by
    intro b'
    unfold cinfo
    by_cases ha : b' = b
    · rw [ha, f1, hb]
    · rw [f2 _ ha]
  have he : Ext c { c with w := c.w.freeze ⟨b, o', none⟩ k } :=
    ⟨by simp only [f3]; exact Nat.le_refl _, fun b' o1 h1 => ⟨⟨by simp only [f3]; exact h1.1, h1.2⟩, hcell _⟩, fun b' _ => hinfo b', Nat.le_refl _, fun _ _ => rfl, fun t _ e' he' => ⟨e', he', .inl rfl⟩⟩
  have he2 : Ext c { c with w := c.w.freeze ⟨b, o', none⟩ k, tok := fun t => if t = tok then none else c.tok t } :=
    ⟨by simp only [f3]; exact Nat.le_refl _, fun b' o1 h1 => ⟨⟨by simp only [f3]; exact h1.1, h1.2⟩, hcell _⟩, fun b' _ => hinfo b', Nat.le_refl _, fun _ _ => rfl, fun t _ e' he' => by
      simp only at he'
      split at he'
      · cases he'
      · exact ⟨e', he', .inl rfl⟩⟩
  have hown : ownB c m tok = some b := by
    unfold ownB
    rw [hm]
    simp only [ht]
  have hlow := h.low tok b hown
  have hbel : RowKit.Below w0.w.heap.size w0.w (c.w.freeze ⟨b, o', none⟩ k) := Lib.below_freeze h.below (p := ⟨b, o', none⟩) hlow k
  have hown2 : ∀ i b', ownB { c with w := c.w.freeze ⟨b, o', none⟩ k, tok := fun t => if t = tok then none else c.tok t } (m.set tok .dead) i = some b' → i ≠ tok ∧ ownB c m i = some b' := by
    intro i b' hb'
    by_cases hi : tok = i
    · subst hi
      unfold ownB at hb'
      have htm : tok < m.length := by
        rcases Nat.lt_or_ge tok m.length with hl | hl
        · exact hl
        · rw [List.getElem?_eq_none hl] at hm; cases hm
      rw [List.getElem?_set_self htm] at hb'
      cases hb'
    · refine ⟨fun e => hi e.symm, ?_⟩
      unfold ownB at hb' ⊢
      rw [List.getElem?_set_ne hi] at hb'
      simp only [if_neg (fun e => hi e.symm : ¬ i = tok)] at hb'
      exact hb'
  refine ⟨he, ?_, he2, ?_⟩
  · intro ho
    refine ⟨hbel, h.N, ?_, h.old, h.low, ?_, h.inj, fun g => RPcells_mono he.keeps _ _ _ (h.gl g)⟩
    · intro b' k' hk'
      simp only [f3]
      exact h.K b' k' hk'
    · intro i x hx
      by_cases hi : tok = i
      · subst hi
        rw [hm] at hx
        obtain rfl := Option.some.inj hx
        have hB := h.blk tok _ hm
        simp only [RB] at hB ⊢
        obtain ⟨base, cap', q1, q2, q3⟩ := hB
        rw [ht] at q1
        injection q1 with q1
        injection q1 with q1 q1'
        injection q1' with q1' q1''
        subst q1' q1''
        obtain ⟨q4, arr1, ⟨T1, fz1, q5, q6⟩, q7⟩ := q3
        rw [hb] at q5
        injection q5 with q5
        injection q5 with q5 q5' q5''
        subst q5
        exact ⟨some (b, o), cap, ht, q2, q4, arr, ⟨T, fz', f1, f4 hz ho⟩, q7⟩
      · refine RB_mono he (h.blk i x hx) rfl rfl ?_
        intro b' hb'
        have hb2 : ownB c m i = some b' := by
          unfold ownB
          rw [hx]
          cases x <;> first | exact hb' | (simp at hb')
        refine ⟨rfl, f2 b' ?_⟩
        intro e
        subst e
        exact hi (h.inj tok i _ hown hb2)
  · refine ⟨hbel, by simpa using h.N, ?_, h.old, fun i b' hb' => h.low i b' (hown2 i b' hb').2, ?_, ?_, fun g => RPcells_mono he2.keeps _ _ _ (h.gl g)⟩
    · intro b' k' hk'
      simp only [f3]
      exact h.K b' k' hk'
    · intro i x hx
      by_cases hi : tok = i
      · subst hi
        have htm : tok < m.length := by
          rcases Nat.lt_or_ge tok m.length with hl | hl
          · exact hl
          · rw [List.getElem?_eq_none hl] at hm; cases hm
        rw [List.getElem?_set_self htm] at hx
        obtain rfl := Option.some.inj hx
        simp [RB]
      · rw [List.getElem?_set_ne hi] at hx
        refine RB_mono he2 (h.blk i x hx) (by simp only [if_neg (fun e => hi e.symm : ¬ i = tok)]) rfl ?_
        intro b' hb'
        have hb2 : ownB c m i = some b' := by
          unfold ownB
          rw [hx]
          cases x <;> first | exact hb' | (simp at hb')
        refine ⟨rfl, f2 b' ?_⟩
        intro e
        subst e
        exact hi (h.inj tok i _ hown hb2)
    · intro i j b' hi hj
      exact h.inj i j b' (hown2 i b' hi).2 (hown2 j b' hj).2

theorem tok_base (h : Inv F E w0 c m) {tok n len : Nat} (hm : m[tok]? = some (.tok n len)) {rows : List (List PV)} {v : Value} (hR : R F c (.tv n rows tok) v) (hlen : len = rows.length) (hne : rows ≠ []) :
    ∃ b o cap arr T fz, c.tok tok = some (len, some (b, o), cap) ∧ v = .slice (some ⟨b, o, none⟩) len cap ∧ c.w.heap[b]? = some (.cells arr T fz) ∧ nofz arr.size fz ∧ o + cap * n ≤ arr.size ∧ len ≤ cap ∧ RProws F c n (some ⟨b, o, none⟩) 0 rows := by
  simp only [R] at hR
  obtain ⟨⟨base0, cap0, hv, hle, hrows⟩, _, hright⟩ := hR
  have hB := h.blk tok _ hm
  simp only [RB] at hB
  obtain ⟨base, cap, ht, hlc, hb⟩ := hB
  have hval := (hright _ _ _ ht).2 hlen.symm
  rw [hval] at hv
  injection hv with hv hv1 hv2
  subst hv
  cases base with
  | none =>
    cases rows with
    | nil => exact absurd rfl hne
    | cons r rows =>
      simp only [RProws, slAddr, Option.map_none] at hrows
      obtain ⟨⟨_, a, h2, _⟩, _⟩ := hrows
      cases h2
  | some p =>
    obtain ⟨b, o⟩ := p
    obtain ⟨_, arr, ⟨T, fz, q5, q6⟩, q7⟩ := hb
    exact ⟨b, o, cap, arr, T, fz, ht, hval, q5, q6, q7, hlc, hrows⟩

theorem convS_sound (h : Inv F E w0 c m) {ev : X → AV} {ρ : Operand → Value} (hev : Evs F c ev ρ) {x : X} (go : Oper) (hok : okOp F (.convS x) go.op = true) {r : AV} {m' : Mem} (hd : denMove ev m (.convS x) = some (r, m')) : Moved F E w0 c ρ go r m' := by
  rcases go with ⟨dst, op, type, pos, after, guard⟩
  dsimp only at hok
  unfold Moved execOp
  cases op <;> try (simp [okOp] at hok; done)
  dsimp only
  rename_i s d x'
  simp only [okOp, Bool.and_eq_true, decide_eq_true_eq] at hok
  obtain ⟨⟨rfl, h1⟩, h2⟩ := hok
  split at h1 <;> try (cases h1; done)
  rename_i e hs
  unfold isIntK at h1
  split at h1 <;> try (cases h1; done)
  rename_i k hk
  simp only [decide_eq_true_eq] at h1
  subst h1
  simp only [denMove] at hd
  split at hd <;> try (cases hd; done)
  rename_i n rows tok hx
  split at hd <;> try (cases hd; done)
  rename_i n' len hm
  split at hd <;> try (cases hd; done)
  rename_i hcond
  obtain ⟨rfl, rfl, hlen, hne⟩ := hcond
  simp only [Option.some.injEq, Prod.mk.injEq] at hd
  obtain ⟨rfl, rfl⟩ := hd
  have hR := hev _ _ h2
  rw [hx] at hR
  obtain ⟨b, o, cap, arr, T, fz, ht, hv, hb, hz, hcap, hlc, hrows⟩ := tok_base h hm hR hlen hne
  obtain ⟨he, hinv, _, _⟩ := frozen_inv h hm ht hb hz arr.size 1
  refine ⟨{ c with w := c.w.freeze ⟨b, arr.size, none⟩ 1 }, ρ x', .value (ρ x'), ?_, .inl rfl, he, hinv (Nat.le_refl _), R_mono he _ _ hR⟩
  have hsh : c.w.shape? b = some (T, arr.size) := by simp [World.shape?, hb]
  rw [hv]
  simp [convert, run_underlying hs, run_underlying hk, markStringish, hsh]

theorem run_loadBytes_ints (P : Program) (w : World) : ∀ (ns : List Int) (a : Addr) (acc : ByteArray), (∀ j n, ns[j]? = some n → w.cell? (a.add j) = some (.int .u8 n)) →
    (loadBytes a acc ns.length).run P w = .ok ⟨acc.data ++ (ns.map fun n => UInt8.ofNat n.toNat).toArray⟩ w
  | [], a, acc, _ => by simp [loadBytes]
  | x :: l, a, acc, h => by
    have h0 : w.cell? a = some (.int .u8 x) := by
      have := h 0 x rfl
      simpa [Addr.add] using this
    have ih := run_loadBytes_ints P w l (a.add 1) (acc.push x.toNat.toUInt8) (fun j y hy => by
      have := h (j + 1) y (by simpa using hy)
      have e : (a.add 1).add j = a.add (j + 1) := by
        unfold Addr.add
        by_cases hj : j = 0
        · subst hj; simp
        · simp [hj]; omega
      rw [e]; exact this)
    simp only [List.length_cons, loadBytes, Sem.run_bind, run_load, h0, Result.andThen]
    rw [ih]
    congr 1
    apply ByteArray.ext
    simp [ByteArray.push]
theorem liesAt_at {P : Program} {e : TypeId} (hc : P.cellsOf e = 1) (count o n : Nat) (hn : o + n ≤ count) : liesAt P P.depth e count o e n = true := by
  have hd : P.depth = (2 * (P.types.size + Made.depth) + 1) + 1 := rfl
  rw [hd]
  simp only [liesAt, Bool.or_eq_true]
  left
  rw [hd]
  simp [rowAt, hc, hn, sameLayout, Nat.mod_one]
theorem run_strOf {P : Program} {w : World} (pt it ty e : TypeId) (hp : P.underlying pt = some (.pointer e)) (hc : P.cellsOf e = 1) (b o cells : Nat) (hsh : w.shape? b = some (e, cells)) (ns : List Int) (h0 : ns ≠ []) (hn : o + ns.length ≤ cells) (h63 : ns.length ≤ 9223372036854775807)
    (ats : Array TypeId) (hats : ats[0]? = some pt) (k : IntKind)
    (hcell : ∀ j n, ns[j]? = some n → w.cell? ((⟨b, o, none⟩ : Addr).add j) = some (.int .u8 n)) :
    (Builtin.unsafeString_ ats ty #[.pointer (some ⟨b, o, none⟩), .int k ns.length]).run P w = .ok (.string ⟨(ns.map fun n => UInt8.ofNat n.toNat).toArray⟩) (w.freeze ⟨b, o, none⟩ ns.length) := by
  have hl : ns.length ≠ 0 := by simpa using h0
  have hlb := run_loadBytes_ints P w ns ⟨b, o, none⟩ .empty hcell
  have hlies := liesAt_at (P := P) hc (cells / P.cellsOf e) o ns.length (by rw [hc]; simpa using hn)
  have h63' : ¬ (9223372036854775807 : Int) < (ns.length : Int) := by omega
  have hdef : Builtin.unsafeString_ ats ty #[.pointer (some ⟨b, o, none⟩), .int k ns.length] =
      (do
        let n ← Go.asInt (.int k ns.length)
        let some pt := ats[0]? | stuck "unsafe.String: no argument types"
        if n < 0 then runtimePanic (.error "unsafe.String: len out of range")
        if n > IntKind.i64.max then unsupported (.unsafePointer "String: a length above the largest int")
        if n = 0 then pure (.string .empty)
        else if ← variablesAt ⟨b, o, none⟩ (← elemOf pt) n.toNat then do
          let s ← loadBytes ⟨b, o, none⟩ .empty n.toNat
          freeze ⟨b, o, none⟩ n.toNat
          pure (.string s)
        else unsupported (.unsafePointer "String: not so many bytes at ptr")) := rfl
  rw [hdef]
  have hmax : IntKind.i64.max = 9223372036854775807 := rfl
  have hneg : ¬ (ns.length : Int) < 0 := by omega
  simp [hats, Go.asInt, asIntOf, hmax, h63', hneg, hl, variablesAt, hsh, elemOf, run_underlying hp, hlies, hlb]

theorem strOf_sound (h : Inv F E w0 c m) {ev : X → AV} {ρ : Operand → Value} (hev : Evs F c ev ρ) {t : Nat} {p l : X} (go : Oper) (hok : okOp F (.strOf t p l) go.op = true) {r : AV} {m' : Mem} (hd : denMove ev m (.strOf t p l) = some (r, m')) : Moved F E w0 c ρ go r m' := by
  rcases go with ⟨dst, op, type, pos, after, guard⟩
  dsimp only at hok
  unfold Moved execOp
  cases op <;> try (simp [okOp] at hok; done)
  rename_i cl
  rcases cl with ⟨callee, args, argTypes⟩
  cases callee <;> try (simp [okOp] at hok; done)
  rename_i bb
  cases bb <;> try (simp [okOp] at hok; done)
  dsimp only
  simp only [okOp, Bool.and_eq_true] at hok
  obtain ⟨h1, h2⟩ := hok
  split at h1 <;> try (cases h1; done)
  rename_i p' l' hargs
  have hargs' : args = #[p', l'] := by apply Array.ext'; simpa using hargs
  subst hargs'
  simp only [Bool.and_eq_true] at h1
  split at h2 <;> try (cases h2; done)
  rename_i pt hpt
  split at h2 <;> try (cases h2; done)
  rename_i e hpe
  simp only [Bool.and_eq_true, decide_eq_true_eq] at h2
  obtain ⟨rfl, hsz⟩ := h2
  simp only [denMove] at hd
  split at hd <;> try (cases hd; done)
  rename_i t' n rows tok k hxp hxl
  split at hd <;> try (cases hd; done)
  rename_i n' len s hm hs
  split at hd <;> try (cases hd; done)
  rename_i hcond
  obtain ⟨rfl, rfl, rfl, hlen, rfl, hk0, hkl⟩ := hcond
  simp only [Option.some.injEq, Prod.mk.injEq] at hd
  obtain ⟨rfl, rfl⟩ := hd
  have hRp := hev _ _ h1.1
  rw [hxp] at hRp
  simp only [R] at hRp
  obtain ⟨a, ln, cp, hpv, hRt, hty⟩ := hRp
  obtain ⟨kk, hlv⟩ := R_asNat (hev _ _ h1.2) hxl
  have hne : rows ≠ [] := by intro e; subst e; simp at hlen; omega
  obtain ⟨b, o, cap, arr, T, fz, ht, hv, hb, hz, hcap, hlc, hrows⟩ := tok_base h hm (by simp only [R]; exact hRt) hlen hne
  injection hv with hv hv1 hv2
  obtain rfl := Option.some.inj hv
  have hT : T = F.tnum t' := by
    have := tyOk_exact (hty b rfl) rfl
    simpa [ctype, cinfo, hb] using this
  subst hT
  obtain ⟨_, _, he, hinv⟩ := frozen_inv h hm ht hb hz o k
  obtain ⟨ns, q1, q2, q3, q4⟩ := unBytes_cells hs hrows
  have hsh : c.w.shape? b = some (F.tnum t', arr.size) := by simp [World.shape?, hb]
  have hlk : ns.length = k := by omega
  refine ⟨{ c with w := c.w.freeze ⟨b, o, none⟩ k, tok := fun t => if t = tok then none else c.tok t }, .string ⟨s.toArray⟩, .value (.string ⟨s.toArray⟩), ?_, .inl rfl, he, hinv, by simp [R, RP]⟩
  have hrun := run_strOf (P := F.P) (w := c.w) pt 0 type (F.tnum t') hpe (by
    unfold sizeO at hsz
    simp [Program.cellsOf, hsz]) b o arr.size hsh ns (by intro e; subst e; simp at hlk; omega) (by omega) (by unfold strLim at hkl; omega) argTypes hpt kk (by
    intro j n hj
    rw [addr_add rfl]
    have := q4 j (.int .u8 n) (by simp [hj])
    simpa using this)
  rw [hlk, ← q2] at hrun
  have h9 : Array.map ρ #[p', l'] = #[Value.pointer (some ⟨b, o, none⟩), .int kk k] := by simp [hpv, hlv]
  simp only [resolve, invoke, builtin, Sem.run_bind, Sem.run_pure, Result.andThen_ok, h9, hrun]

theorem move_sound (h : Inv F E w0 c m) {ev : X → AV} {ρ : Operand → Value} (hev : Evs F c ev ρ) (o : XOp) (go : Oper) (hok : okOp F o go.op = true) {r : AV} {m' : Mem} (hd : denMove ev m o = some (r, m')) : Moved F E w0 c ρ go r m' := by
  cases o with
  | load n agg x => exact load_sound h hev go hok hd
  | store n x v => exact store_sound h hev go hok hd
  | alloc zero => exact alloc_sound h hev go hok hd
  | box x => exact box_sound h hev go hok hd
  | rowLit own n len zero parts => exact rowLit_sound h hev go hok hd
  | rowVals n len zero parts => exact rowVals_sound h hev go hok hd
  | mkRow own n bytes zero l c => exact mkRow_sound h hev go hok hd
  | toStr x => exact toStr_sound h hev go hok hd
  | toBytes own x => exact toBytes_sound h hev go hok hd
  | cutArr len n x lo hi => exact cutArr_sound h hev go hok hd
  | append own n bytes x y => exact append_sound h hev go hok hd
  | appendT t n bytes x y => exact appendT_sound h hev go hok hd
  | allocT t zero => exact allocT_sound h hev go hok hd
  | cast back t n x => exact cast_sound h hev go hok hd
  | convS x => exact convS_sound h hev go hok hd
  | strOf t p l => exact strOf_sound h hev go hok hd
  | mkMap => exact mkMap_sound h hev go hok hd
  | boxT t n x => exact boxT_sound h hev go hok hd
  | lookup ok e zero agg x k => exact lookup_sound h hev go hok hd
  | mapSet e x k v => exact mapSet_sound h hev go hok hd
  | clearM x => exact clearM_sound h hev go hok hd
  | _ => simp [denMove] at hd

theorem op_sound (h : Inv F E w0 c m) {ev : X → AV} {ρ : Operand → Value} (hev : Evs F c ev ρ) (hρ : ∀ v, ρ (.const v) = v) (o : XOp) (go : Oper) (hok : okOp F o go.op = true) {r : AV} {m' : Mem} (hd : denOp ev m o = some (r, m')) : Moved F E w0 c ρ go r m' := by
  unfold denOp at hd
  split at hd
  · rename_i v hv
    simp only [Option.some.injEq, Prod.mk.injEq] at hd
    obtain ⟨rfl, rfl⟩ := hd
    obtain ⟨y, k1, k2⟩ := still_sound (c := c) hev hρ o go hok hv
    exact ⟨c, y, .value y, k1, .inl rfl, Ext.refl c, h, k2⟩
  · exact move_sound h hev o go hok hd
end
end Hx
