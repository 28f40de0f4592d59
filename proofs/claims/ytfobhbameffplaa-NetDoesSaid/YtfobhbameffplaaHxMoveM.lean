/-
  HxMoveM: maps: a new one, a look at an entry, an entry that is laid, a map that is emptied.
-/
import Derived.Test.YtfobhbameffplaaHxMove4
namespace Hx
open Go Go.RowKit
set_option linter.unusedSimpArgs false
set_option linter.unusedVariables false

section
variable {F : Fix} {E : Env} {w0 : Base} {c : Cx} {m : Mem}

theorem mstored (h : Inv F E w0 c m) {id : Nat} {es es' : List (PV × AV)} (hm : m[id]? = some (.map es)) {w' : World} {ents : Array MapEntry} {clock : Nat} {ents' : Array MapEntry} {clock' : Nat}
    (ha : c.w.heap[(c.ρ id).1]? = some (.map ents clock)) (hs : SameBut c.w w') (hh : w'.heap = c.w.heap.setIfInBounds (c.ρ id).1 (.map ents' clock')) (hr : REs F c es' ents'.toList) :
    Ext c { c with w := w' } ∧ Inv F E w0 { c with w := w' } (m.set id (.map es')) := by
  have hB := h.blk id _ hm
  simp only [RB] at hB
  obtain ⟨h1, h2, ents0, clock0, h5, h6⟩ := hB
  have hlt : (c.ρ id).1 < c.w.heap.size := by
    rcases Nat.lt_or_ge (c.ρ id).1 c.w.heap.size with hl | hl
    · exact hl
    · rw [Array.getElem?_eq_none hl] at ha; cases ha
  have hoth : ∀ b, b ≠ (c.ρ id).1 → w'.heap[b]? = c.w.heap[b]? := by
    intro b hb
    rw [hh, Array.getElem?_setIfInBounds, if_neg (fun e => hb e.symm)]
  have hself : w'.heap[(c.ρ id).1]? = some (.map ents' clock') := by
    rw [hh, Array.getElem?_setIfInBounds, if_pos rfl, if_pos hlt]
  have he : Ext c { c with w := w' } := by
    refine ⟨by simp [hh], ?_, ?_, Nat.le_refl _, fun _ _ => rfl, fun t ht e' he' => ⟨e', he', .inl rfl⟩⟩
    · intro b o ⟨k1, k2⟩
      have hne : b ≠ (c.ρ id).1 := by
        intro e; subst e
        have := k2 0 h2; omega
      refine ⟨⟨by simp [hh]; exact k1, k2⟩, ?_⟩
      simp only [World.cell?, hoth b hne]
    · intro b hb
      by_cases hbe : b = (c.ρ id).1
      · subst hbe
        simp only [cinfo, hself, ha]
      · simp only [cinfo, hoth b hbe]
  have hown : ∀ i, ownB { c with w := w' } (m.set id (.map es')) i = ownB c m i := by
    intro i
    unfold ownB
    by_cases hi : id = i
    · subst hi
      have hlt' : id < m.length := by
        rcases Nat.lt_or_ge id m.length with hl | hl
        · exact hl
        · rw [List.getElem?_eq_none hl] at hm; cases hm
      rw [List.getElem?_set_self hlt', hm]
    · rw [List.getElem?_set_ne hi]
  have hlow := h.low id _ (by unfold ownB; rw [hm])
  refine ⟨he, ?_, by simpa using h.N, ?_, h.old, fun i b hb => h.low i b (by rw [← hown]; exact hb), ?_, ?_, fun g => RPcells_mono he.keeps _ _ _ (h.gl g)⟩
  · refine h.below.trans ⟨hs.os, hs.tape, hs.output, he.size, fun b hb => hoth b ?_⟩
    omega
  · intro b k hk
    have := h.K b k hk
    simpa [hh] using this
  · intro i x hx
    by_cases hi : id = i
    · subst hi
      rw [List.getElem?_set_self' ] at hx
      simp [hm] at hx
      subst hx
      simp only [RB]
      exact ⟨h1, h2, ents', clock', hself, REs_mono he hr⟩
    · rw [List.getElem?_set_ne hi] at hx
      refine RB_mono he (h.blk i x hx) rfl rfl ?_
      intro b hb
      have hb' : ownB c m i = some b := by
        unfold ownB
        rw [hx]
        cases x <;> first | exact hb | (simp at hb)
      refine ⟨rfl, hoth b ?_⟩
      intro e
      subst e
      exact hi (h.inj id i _ (by unfold ownB; rw [hm]) hb')
  · intro i j b hi hj
    rw [hown] at hi hj
    exact h.inj i j b hi hj

theorem ents_of (h : Inv F E w0 c m) {id : Nat} {es : List (PV × AV)} (hm : m[id]? = some (.map es)) : ∃ ents clock, c.w.heap[(c.ρ id).1]? = some (.map ents clock) ∧ REs F c es ents.toList := by
  have hB := h.blk id _ hm
  simp only [RB] at hB
  exact hB.2.2


mutual
theorem checkKey_sound : ∀ (e : EqT) (d : Nat) (t : TypeId) (x : PV) (vx : Value) (r : Bool) (b : Bool), e.depth ≤ d → okEq F.P e t = true → eqTree e x x = some r → RP F c x vx →
    ∀ w, (Instr.checkKey b (d + 1) t vx).run F.P w = .ok () w
  | .int, d, t, x, vx, r, b, _, ho, h, hx, w => by
    simp only [okEq] at ho
    split at ho <;> try (cases ho; done)
    rename_i k ht
    cases x <;> try (simp [eqTree] at h; done)
    simp only [RP] at hx; subst hx
    simp [Instr.checkKey, run_underlying ht]
  | .bool, d, t, x, vx, r, b, _, ho, h, hx, w => by
    simp only [okEq] at ho
    split at ho <;> try (cases ho; done)
    rename_i ht
    cases x <;> try (simp [eqTree] at h; done)
    simp only [RP] at hx; subst hx
    simp [Instr.checkKey, run_underlying ht]
  | .str, d, t, x, vx, r, b, _, ho, h, hx, w => by
    simp only [okEq] at ho
    split at ho <;> try (cases ho; done)
    rename_i ht
    cases x <;> try (simp [eqTree] at h; done)
    simp only [RP] at hx; subst hx
    simp [Instr.checkKey, run_underlying ht]
  | .struct fs, d, t, x, vx, r, b, hd, ho, h, hx, w => by
    simp only [okEq] at ho
    split at ho <;> try (cases ho; done)
    rename_i fds ht
    simp only [Bool.and_eq_true, beq_iff_eq] at ho
    cases x <;> try (simp [eqTree] at h; done)
    rename_i xs
    simp only [eqTree] at h
    simp only [RP] at hx
    obtain ⟨us, rfl, hus⟩ := hx
    simp only [EqT.depth] at hd
    obtain ⟨d, rfl⟩ : ∃ d', d = d' + 1 := ⟨d - 1, by omega⟩
    rw [Instr.checkKey]
    simp only [Sem.run_bind, run_underlying ht, Result.andThen_ok]
    rw [← Array.forIn_toList]
    have := checkFs_sound fs d fds.toList xs us r b (by omega) ho.2 h hus w
    simp at this
    simp [this]
theorem checkFs_sound : ∀ (fs : List (Nat × Nat × EqT)) (d : Nat) (fds : List Field) (xs : List PV) (us : List Value) (r : Bool) (b : Bool), EqT.depths fs ≤ d → okEqFs F.P fs fds = true → eqFs fs xs xs = some r → RPs F c xs us →
    ∀ w, (forIn fds PUnit.unit fun f _ => (do
      if f.name ≠ "_" then Instr.checkKey b (d + 1) f.type (← part f.type us.toArray f.offset)
      pure (ForInStep.yield PUnit.unit) : Sem (ForInStep PUnit))).run F.P w = .ok PUnit.unit w
  | [], d, [], xs, us, r, b, _, _, h, _, w => by simp
  | [], _, _ :: _, _, _, _, _, _, ho, _, _, _ => by simp [okEqFs] at ho
  | _ :: _, _, [], _, _, _, _, _, ho, _, _, _ => by simp [okEqFs] at ho
  | (o, n, e) :: fs, d, f :: fds, xs, us, r, b, hd, ho, h, hx, w => by
    simp only [okEqFs, Bool.and_eq_true, decide_eq_true_eq] at ho
    obtain ⟨⟨⟨⟨⟨h1, h2⟩, h3⟩, h4⟩, h5⟩, h6⟩ := ho
    simp only [EqT.depths] at hd
    simp only [eqFs] at h
    split at h <;> try (cases h; done)
    rename_i x y hpx hpy
    split at h <;> try (cases h; done)
    rename_i b1 b2 hb hb'
    rw [hpx] at hpy
    obtain rfl := AV.p.inj (Option.some.inj hpy)
    obtain ⟨vx, k1, k2⟩ := run_partP hpx h4 h3 hx w
    simp only [R] at k2
    have k5 := checkKey_sound e d f.type x vx b1 b (by omega) h5 hb k2 w
    have k6 := checkFs_sound fs d fds xs us b2 b (by omega) h6 hb' hx w
    rw [List.forIn_cons]
    simp only [h1, ne_eq, not_false_eq_true, if_true, Sem.run_bind, h2, k1, k5, Result.andThen_ok, Sem.run_pure]
    exact k6
end

theorem sameNow_eq {e : EqT} {kt : TypeId} {kd : TypeDesc} (ho : okEq F.P e kt = true) (hk : F.P.underlying kt = some kd) {x y : PV} {vx vy : Value} {r : Bool} (h : eqTree e x y = some r) (hx : RP F c x vx) (hy : RP F c y vy) :
    Instr.sameNow kd vx vy = some r ∨ Instr.sameNow kd vx vy = none := by
  cases e with
  | int =>
    simp only [okEq, hk] at ho
    split at ho <;> try (cases ho; done)
    rename_i heq
    obtain rfl := Option.some.inj heq
    cases x <;> try (simp [eqTree] at h; done)
    cases y <;> try (simp [eqTree] at h; done)
    simp only [eqTree] at h
    simp only [RP] at hx hy; subst hx hy
    split at h <;> try (cases h; done)
    rename_i hkk
    obtain rfl := Option.some.inj h
    left
    simp [Instr.sameNow, hkk]
  | bool =>
    simp only [okEq, hk] at ho
    split at ho <;> try (cases ho; done)
    rename_i heq
    obtain rfl := Option.some.inj heq
    cases x <;> try (simp [eqTree] at h; done)
    cases y <;> try (simp [eqTree] at h; done)
    simp only [eqTree] at h
    simp only [RP] at hx hy; subst hx hy
    obtain rfl := Option.some.inj h
    left
    simp [Instr.sameNow]
  | str =>
    simp only [okEq, hk] at ho
    split at ho <;> try (cases ho; done)
    rename_i heq
    obtain rfl := Option.some.inj heq
    cases x <;> try (simp [eqTree] at h; done)
    cases y <;> try (simp [eqTree] at h; done)
    rename_i s1 s2
    simp only [eqTree] at h
    simp only [RP] at hx hy; subst hx hy
    obtain rfl := Option.some.inj h
    left
    simp only [Instr.sameNow, beq_toListBytes, toList_bytes]
  | struct fs =>
    simp only [okEq, hk] at ho
    split at ho <;> try (cases ho; done)
    rename_i fds heq
    obtain rfl := Option.some.inj heq
    cases x <;> try (simp [eqTree] at h; done)
    cases y <;> try (simp [eqTree] at h; done)
    simp only [RP] at hx hy
    obtain ⟨us, rfl, _⟩ := hx
    right
    simp [Instr.sameNow]

def Found (F : Fix) (c : Cx) (l : List MapEntry) (i0 : Nat) : Option (Nat × PV × AV) → Option (Nat × Value) → Prop
  | none, none => True
  | some (i, k', v), some (j, val) => i = j ∧ i0 ≤ i ∧ ∃ e, l[i - i0]? = some e ∧ e.val = val ∧ RP F c k' e.key ∧ R F c v val
  | _, _ => False
theorem Found_cons {e : MapEntry} {l : List MapEntry} {i0 : Nat} {r : Option (Nat × PV × AV)} {q : Option (Nat × Value)} (h : Found F c l (i0 + 1) r q) : Found F c (e :: l) i0 r q := by
  match r, q, h with
  | none, none, _ => trivial
  | some (i, k', v), some (j, val), h =>
    obtain ⟨h1, h2, e', h3, h4⟩ := h
    refine ⟨h1, by omega, e', ?_, h4⟩
    have : i - i0 = (i - (i0 + 1)) + 1 := by omega
    rw [this, List.getElem?_cons_succ]
    exact h3
theorem findNow_sound {e : EqT} {kt : TypeId} {kd : TypeDesc} (ho : okEq F.P e kt = true) (hk : F.P.underlying kt = some kd) {kp : PV} {vk : Value} (hkp : RP F c kp vk) :
    ∀ {es : List (PV × AV)} {l : List MapEntry} {i : Nat} {r : Option (Nat × PV × AV)} {q : Option (Nat × Value)}, REs F c es l → findM e kp es i = some r → Instr.findNow kd vk l i = some q → Found F c l i r q
  | [], l, i, r, q, hr, hf, hn => by
    simp only [REs] at hr; subst hr
    simp only [findM, Option.some.injEq] at hf
    simp only [Instr.findNow, Option.some.injEq] at hn
    subst hf hn
    trivial
  | (k', v) :: es, l, i, r, q, hr, hf, hn => by
    simp only [REs] at hr
    obtain ⟨en, l', rfl, h1, h2, h3⟩ := hr
    simp only [findM] at hf
    simp only [Instr.findNow] at hn
    cases hb : eqTree e kp k' with
    | none => rw [hb] at hf; cases hf
    | some b =>
      rw [hb] at hf
      rcases sameNow_eq ho hk hb hkp h1 with hs | hs
      · rw [hs] at hn
        cases b with
        | true =>
          simp only [Option.some.injEq] at hf hn
          subst hf hn
          exact ⟨rfl, Nat.le_refl _, en, by simp, rfl, h1, h2⟩
        | false =>
          simp only at hf hn
          exact Found_cons (findNow_sound ho hk hkp h3 hf hn)
      · rw [hs] at hn
        cases hn
theorem findAsking_sound {e : EqT} {kt : TypeId} (hd : e.depth ≤ 50) (ho : okEq F.P e kt = true) {kp : PV} {vk : Value} (hkp : RP F c kp vk) (w : World) :
    ∀ {es : List (PV × AV)} {l : List MapEntry} {i : Nat} {r : Option (Nat × PV × AV)}, REs F c es l → findM e kp es i = some r → ∃ q, (Instr.findAsking kt vk l i).run F.P w = .ok q w ∧ Found F c l i r q
  | [], l, i, r, hr, hf => by
    simp only [REs] at hr; subst hr
    simp only [findM, Option.some.injEq] at hf
    subst hf
    exact ⟨none, by simp [Instr.findAsking], trivial⟩
  | (k', v) :: es, l, i, r, hr, hf => by
    simp only [REs] at hr
    obtain ⟨en, l', rfl, h1, h2, h3⟩ := hr
    simp only [findM] at hf
    cases hb : eqTree e kp k' with
    | none => rw [hb] at hf; cases hf
    | some b =>
      rw [hb] at hf
      have hq := eqTree_sound (c := c) e 9999 kt kp k' vk en.key b (by omega) ho hb hkp h1 w
      have hq' : (Op.equal kt vk en.key).run F.P w = .ok b w := hq
      cases b with
      | true =>
        simp only [Option.some.injEq] at hf
        subst hf
        refine ⟨some (i, en.val), ?_, rfl, Nat.le_refl _, en, by simp, rfl, h1, h2⟩
        simp [Instr.findAsking, hq']
      | false =>
        simp only at hf
        obtain ⟨q, k1, k2⟩ := findAsking_sound hd ho hkp w h3 hf
        refine ⟨q, ?_, Found_cons k2⟩
        simp only [Instr.findAsking, Sem.run_bind, hq', Result.andThen_ok]
        simpa using k1
theorem findKey_sound {e : EqT} {kt : TypeId} (hd : e.depth ≤ 50) (ho : okEq F.P e kt = true) {kp : PV} {vk : Value} (hkp : RP F c kp vk) (w : World) {es : List (PV × AV)} {l : List MapEntry} {r : Option (Nat × PV × AV)} (hr : REs F c es l) (hf : findM e kp es 0 = some r) :
    ∃ q, (Instr.findKey kt vk l).run F.P w = .ok q w ∧ Found F c l 0 r q := by
  obtain ⟨kd, hkd⟩ : ∃ kd, F.P.underlying kt = some kd := by
    cases e <;> simp only [okEq] at ho <;> split at ho <;> first | (exact ⟨_, by assumption⟩) | (cases ho)
  unfold Instr.findKey
  simp only [Sem.run_bind, run_underlying hkd, Result.andThen_ok]
  cases hn : Instr.findNow kd vk l 0 with
  | some q => exact ⟨q, by simp, findNow_sound ho hkd hkp hr hf hn⟩
  | none => exact findAsking_sound hd ho hkp w hr hf
theorem check_sound {e : EqT} {kt : TypeId} (hd : e.depth ≤ 50) (ho : okEq F.P e kt = true) {kp : PV} {vk : Value} (hkp : RP F c kp vk) (hk : keyOk e kp = true) (b : Bool) (w : World) : (Instr.checkKey b 10000 kt vk).run F.P w = .ok () w := by
  unfold keyOk at hk
  split at hk <;> try (cases hk; done)
  rename_i r hr
  exact checkKey_sound e 9999 kt kp vk r b (by omega) ho hr hkp w

theorem run_getMap {P : Program} {w : World} {r : Nat} {es : Array MapEntry} {clock : Nat} (hb : w.heap[r]? = some (.map es clock)) : (getObj r).run P w = .ok (.map es clock) w := by simp [getObj, Sem.run, hb]
theorem run_setMap {P : Program} {w : World} {r : Nat} {es : Array MapEntry} {clock : Nat} (o : Obj) (hb : w.heap[r]? = some (.map es clock)) : (setObj r o).run P w = .ok () { w with heap := w.heap.setIfInBounds r o } := by simp [setObj, Sem.run, hb]

set_option maxHeartbeats 4000000 in
theorem mkMap_sound (h : Inv F E w0 c m) {ev : X → AV} {ρ : Operand → Value} (hev : Evs F c ev ρ) (go : Oper) (hok : okOp F .mkMap go.op = true) {r : AV} {m' : Mem} (hd : denMove ev m .mkMap = some (r, m')) : Moved F E w0 c ρ go r m' := by
  rcases go with ⟨dst, op, type, pos, after, guard⟩
  dsimp only at hok
  unfold Moved execOp
  cases op <;> try (simp [okOp] at hok; done)
  rename_i t res
  cases res <;> try (simp [okOp] at hok; done)
  dsimp only
  simp only [denMove, Option.some.injEq, Prod.mk.injEq] at hd
  obtain ⟨rfl, rfl⟩ := hd
  let w' : World := { c.w with heap := c.w.heap.push (.map #[] 0) }
  have hh : w'.heap = c.w.heap.push (.map #[] 0) := rfl
  have he : Ext c (c.pushed w' 0 none) := Ext_pushed h.K hh
  refine ⟨c.pushed w' 0 none, .map (some c.w.heap.size), .value (.map (some c.w.heap.size)), ?_, .inl rfl, he, Inv_pushed h hh ⟨rfl, rfl, rfl⟩ ?_ ?_, ?_⟩
  · simp [Instr.makeMap, newObj, Sem.run, Cx.pushed, w']
  · simp only [RB, Cx.pushed, if_true]
    exact ⟨trivial, trivial, #[], 0, by simp [hh], by simp [REs]⟩
  · intro b hb
    unfold ownB at hb
    rw [h.N] at hb
    simp [Cx.pushed, h.N] at hb
    exact hb.symm
  · simp only [R, Cx.pushed, ← h.N, if_true]
    exact ⟨by omega, by first | rfl | trivial⟩

set_option maxHeartbeats 4000000 in
theorem lookup_sound (h : Inv F E w0 c m) {ev : X → AV} {ρ : Operand → Value} (hev : Evs F c ev ρ) {ok : Bool} {e : EqT} {zero : List PV} {agg : Bool} {x k : X} (go : Oper) (hok : okOp F (.lookup ok e zero agg x k) go.op = true) {r : AV} {m' : Mem} (hd : denMove ev m (.lookup ok e zero agg x k) = some (r, m')) : Moved F E w0 c ρ go r m' := by
  rcases go with ⟨dst, op, type, pos, after, guard⟩
  dsimp only at hok
  unfold Moved execOp
  cases op <;> try (simp [okOp] at hok; done)
  rename_i t x' k' ok'
  dsimp only
  simp only [okOp, Bool.and_eq_true, beq_iff_eq] at hok
  obtain ⟨⟨⟨rfl, hty⟩, hx⟩, hk⟩ := hok
  split at hty <;> try (cases hty; done)
  rename_i kt et ht
  simp only [Bool.and_eq_true, decide_eq_true_eq] at hty
  obtain ⟨⟨⟨ho, hdep⟩, hz⟩, hagg⟩ := hty
  simp only [denMove] at hd
  split at hd <;> try (cases hd; done)
  rename_i kp es hkp hes
  split at hd <;> try (cases hd; done)
  rename_i hko
  have hRk := hev _ _ hk
  rw [hkp] at hRk
  simp only [R] at hRk
  have hRx := hev _ _ hx
  have hents : ∃ ents : Array MapEntry, REs F c es ents.toList ∧ ((ρ x' = .map none ∧ ents = #[]) ∨ ∃ b clock, ρ x' = .map (some b) ∧ c.w.heap[b]? = some (.map ents clock)) := by
    unfold entsOf at hes
    split at hes <;> try (cases hes; done)
    · rename_i hxx
      obtain rfl := Option.some.inj hes
      rw [hxx] at hRx
      simp only [R, RP] at hRx
      exact ⟨#[], by simp [REs], .inl ⟨hRx, rfl⟩⟩
    · rename_i id hxx
      split at hes <;> try (cases hes; done)
      rename_i es' hm
      obtain rfl := Option.some.inj hes
      rw [hxx] at hRx
      simp only [R] at hRx
      obtain ⟨ents, clock, h1, h2⟩ := ents_of h hm
      exact ⟨ents, h2, .inr ⟨_, clock, hRx.2, h1⟩⟩
  obtain ⟨ents, hre, hx2⟩ := hents
  have hchk := fun b => check_sound hdep ho hRk hko b c.w
  cases hf : findM e kp es 0 with
  | none => rw [hf] at hd; cases hd
  | some fr =>
    rw [hf] at hd
    obtain ⟨q, hq1, hq2⟩ := findKey_sound hdep ho hRk c.w hre hf
    obtain ⟨iz, z, hiz, hzz, hzr, hzp⟩ := zero_run hz
    have hans : ∃ (val : Value) (fb : Bool) (av : AV), R F c av val ∧ r = (bif ok then .tup [av, .p (.bool fb)] else av) ∧ m' = m ∧
        ((∃ j, q = some (j, val) ∧ fb = true) ∨ (q = none ∧ fb = false ∧ (zeroValue et).run F.P c.w = .ok val c.w)) := by
      match fr, q, hq2 with
      | none, none, _ =>
        simp only at hd
        split at hd <;> try (cases hd; done)
        rename_i zv hzv
        simp only [Option.some.injEq, Prod.mk.injEq] at hd
        refine ⟨z, false, zv, ?_, hd.1.symm, hd.2.symm, .inr ⟨rfl, rfl, hzr _⟩⟩
        unfold zeroV at hzv
        have hzc := hzp c
        unfold zeroAgg zeroO at hagg
        rw [hiz] at hagg
        simp only [Option.bind_some, hzz] at hagg
        cases agg with
        | true =>
          simp only [if_true, Option.some.injEq] at hzv
          subst hzv
          simp only [R, RP]
          cases z <;> try (simp at hagg; done)
          rename_i ys
          exact ⟨ys.toList, by simp, by simpa [Value.cells] using hzc⟩
        | false =>
          simp only [Bool.false_eq_true, if_false] at hzv
          split at hzv <;> try (cases hzv; done)
          rename_i z0
          obtain rfl := Option.some.inj hzv
          have hc1 : z.cells = #[z] := by cases z <;> first | rfl | (simp at hagg)
          rw [hc1] at hzc
          simp only [RPs] at hzc
          obtain ⟨y, r', h1, h2, h3⟩ := hzc
          simp at h1
          obtain ⟨rfl, rfl⟩ := h1
          simpa only [R] using h2
      | some (i, k', v), some (j, val), hq2 =>
        obtain ⟨_, _, en, _, rfl, _, h5⟩ := hq2
        simp only [Option.some.injEq, Prod.mk.injEq] at hd
        exact ⟨en.val, true, v, h5, hd.1.symm, hd.2.symm, .inl ⟨_, rfl, rfl⟩⟩
    obtain ⟨val, fb, av, hR, rfl, rfl, hrun⟩ := hans
    refine ⟨c, if ok then Value.tuple #[val, .bool fb] else val, .value (if ok then Value.tuple #[val, .bool fb] else val), ?_, .inl rfl, Ext.refl c, h, ?_⟩
    · have hl : (Instr.lookup t (ρ x') (ρ k') ok).run F.P c.w = .ok (if ok then Value.tuple #[val, .bool fb] else val) c.w := by
        unfold Instr.lookup
        rcases hx2 with ⟨h1, rfl⟩ | ⟨b, clock, h1, h2⟩
        · simp only [Sem.run_bind, run_underlying ht, Result.andThen_ok, h1, Sem.run_pure, hchk, hq1]
          rcases hrun with ⟨j, rfl, rfl⟩ | ⟨rfl, rfl, hz0⟩
          · simp
          · simp [hz0]
        · simp only [Sem.run_bind, run_underlying ht, Result.andThen_ok, h1, run_getMap h2, Sem.run_pure, hchk, hq1]
          rcases hrun with ⟨j, rfl, rfl⟩ | ⟨rfl, rfl, hz0⟩
          · simp
          · simp [hz0]
      simp only [Sem.run_bind, hl, Result.andThen_ok, Sem.run_pure]
    · cases ok with
      | true =>
        simp only [cond_true, if_true, R]
        refine ⟨[val, .bool fb], rfl, ?_⟩
        simp only [Rs]
        exact ⟨val, _, rfl, hR, .bool fb, [], rfl, by simp [R, RP], rfl⟩
      | false => simpa using hR


theorem sameL_bits (n : Nat) : ∀ {xs ys : List PV} {us vs : List Value}, sameL xs ys = true → RPs F c xs us → RPs F c ys vs → (us.zip vs).all (fun p => Instr.sameBits n p.1 p.2) = true ∧ us.length = vs.length
  | [], [], us, vs, _, hx, hy => by
    simp only [RPs] at hx hy; subst hx hy
    exact ⟨rfl, rfl⟩
  | [], _ :: _, _, _, h, _, _ => by simp [sameL] at h
  | x :: xs, [], _, _, h, _, _ => by cases x <;> simp [sameL] at h
  | x :: xs, y :: ys, us, vs, h, hx, hy => by
    simp only [RPs] at hx hy
    obtain ⟨u, us', rfl, hu, hus⟩ := hx
    obtain ⟨v, vs', rfl, hv, hvs⟩ := hy
    have key : ∀ b : Bool, sameL xs ys = true → Instr.sameBits n u v = true → ((u :: us').zip (v :: vs')).all (fun p => Instr.sameBits n p.1 p.2) = true ∧ (u :: us').length = (v :: vs').length := by
      intro b h1 h2
      obtain ⟨k1, k2⟩ := sameL_bits n h1 hus hvs
      simp only [List.zip_cons_cons, List.all_cons, h2, k1, Bool.and_self, List.length_cons, k2, and_self]
    cases x <;> cases y <;> try (simp [sameL] at h; done)
    · simp only [sameL, Bool.and_eq_true, beq_iff_eq] at h
      simp only [RP] at hu hv; subst hu hv
      exact key true h.2 (by cases n <;> simp [Instr.sameBits, h.1])
    · simp only [sameL, Bool.and_eq_true, beq_iff_eq, decide_eq_true_eq] at h
      simp only [RP] at hu hv; subst hu hv
      exact key true h.2 (by cases n <;> simp [Instr.sameBits, h.1.1, h.1.2])
    · simp only [sameL, Bool.and_eq_true, beq_iff_eq] at h
      simp only [RP] at hu hv; subst hu hv
      exact key true h.2 (by cases n <;> simp only [Instr.sameBits, beq_toListBytes, toList_bytes, h.1, beq_self_eq_true])
theorem sameP_bits {x y : PV} {u v : Value} (h : sameP x y = true) (hx : RP F c x u) (hy : RP F c y v) : Instr.sameBits 10000 u v = true := by
  unfold sameP at h
  split at h
  · rename_i xs ys
    simp only [RP] at hx hy
    obtain ⟨us, rfl, hus⟩ := hx
    obtain ⟨vs, rfl, hvs⟩ := hy
    obtain ⟨k1, k2⟩ := sameL_bits 9999 h hus hvs
    show (us.toArray.size == vs.toArray.size && (us.toArray.toList.zip vs.toArray.toList).all fun (x, y) => Instr.sameBits 9999 x y) = true
    simp only [List.size_toArray, k2, beq_self_eq_true, Bool.true_and]
    exact k1
  · obtain ⟨k1, _⟩ := sameL_bits (c := c) 10000 h (us := [u]) (vs := [v]) (by simp only [RPs]; exact ⟨u, [], rfl, hx, rfl⟩) (by simp only [RPs]; exact ⟨v, [], rfl, hy, rfl⟩)
    simpa using k1
theorem REs_push {es : List (PV × AV)} : ∀ {l : List MapEntry}, REs F c es l → ∀ {k : PV} {v : AV} {e : MapEntry}, RP F c k e.key → R F c v e.val → REs F c (es ++ [(k, v)]) (l ++ [e]) := by
  induction es with
  | nil =>
    intro l h k v e h1 h2
    simp only [REs] at h; subst h
    simp only [List.nil_append, REs]
    exact ⟨e, [], rfl, h1, h2, rfl⟩
  | cons p es ih =>
    intro l h k v e h1 h2
    obtain ⟨k', v'⟩ := p
    simp only [REs] at h
    obtain ⟨e', l', rfl, h3, h4, h5⟩ := h
    simp only [List.cons_append, REs]
    exact ⟨e', _, rfl, h3, h4, ih h5 h1 h2⟩
theorem REs_set : ∀ {es : List (PV × AV)} {l : List MapEntry}, REs F c es l → ∀ {i : Nat} {k : PV} {v : AV} {e : MapEntry}, RP F c k e.key → R F c v e.val → REs F c (es.set i (k, v)) (l.set i e)
  | [], l, h, i, k, v, e, h1, h2 => by
    simp only [REs] at h; subst h
    simp [REs]
  | (k', v') :: es, l, h, i, k, v, e, h1, h2 => by
    simp only [REs] at h
    obtain ⟨e', l', rfl, h3, h4, h5⟩ := h
    cases i with
    | zero =>
      simp only [List.set_cons_zero, REs]
      exact ⟨e, l', rfl, h1, h2, h5⟩
    | succ i =>
      simp only [List.set_cons_succ, REs]
      exact ⟨e', _, rfl, h3, h4, REs_set h5 h1 h2⟩

set_option maxHeartbeats 4000000 in
theorem mapSet_sound (h : Inv F E w0 c m) {ev : X → AV} {ρ : Operand → Value} (hev : Evs F c ev ρ) {e : EqT} {x k v : X} (go : Oper) (hok : okOp F (.mapSet e x k v) go.op = true) {r : AV} {m' : Mem} (hd : denMove ev m (.mapSet e x k v) = some (r, m')) : Moved F E w0 c ρ go r m' := by
  rcases go with ⟨dst, op, type, pos, after, guard⟩
  dsimp only at hok
  unfold Moved execOp
  cases op <;> try (simp [okOp] at hok; done)
  rename_i t x' k' v'
  dsimp only
  simp only [okOp, Bool.and_eq_true] at hok
  obtain ⟨⟨⟨hty, hx⟩, hk⟩, hv⟩ := hok
  split at hty <;> try (cases hty; done)
  rename_i kt et ht
  simp only [Bool.and_eq_true, decide_eq_true_eq] at hty
  obtain ⟨ho, hdep⟩ := hty
  simp only [denMove] at hd
  split at hd <;> try (cases hd; done)
  rename_i id kp hxx hkp
  split at hd <;> try (cases hd; done)
  rename_i es hm
  split at hd <;> try (cases hd; done)
  rename_i hko
  have hRk := hev _ _ hk
  rw [hkp] at hRk
  simp only [R] at hRk
  have hRv := hev _ _ hv
  have hRx := hev _ _ hx
  rw [hxx] at hRx
  simp only [R] at hRx
  obtain ⟨ents, clock, h1, h2⟩ := ents_of h hm
  have hchk := check_sound hdep ho hRk hko false c.w
  cases hf : findM e kp es 0 with
  | none => rw [hf] at hd; cases hd
  | some fr =>
    rw [hf] at hd
    obtain ⟨q, hq1, hq2⟩ := findKey_sound hdep ho hRk c.w h2 hf
    match fr, q, hq1, hq2 with
    | none, none, hq1, _ =>
      simp only [Option.some.injEq, Prod.mk.injEq] at hd
      obtain ⟨rfl, rfl⟩ := hd
      let en : MapEntry := { key := ρ k', val := ρ v', born := clock }
      let w' : World := { c.w with heap := c.w.heap.setIfInBounds (c.ρ id).1 (.map (ents.push en) (clock + 1)) }
      obtain ⟨he, hinv⟩ := mstored h hm (w' := w') h1 ⟨rfl, rfl, rfl⟩ rfl (es' := es ++ [(kp, ev v)]) (by rw [Array.toList_push]; exact REs_push h2 hRk hRv)
      refine ⟨{ c with w := w' }, undef, .skip, ?_, .inr ⟨rfl, rfl⟩, he, hinv, by simp only [R]⟩
      have hmu : (Instr.mapUpdate t (ρ x') (ρ k') (ρ v')).run F.P c.w = .ok () w' := by
        unfold Instr.mapUpdate
        simp only [Sem.run_bind, run_underlying ht, Result.andThen_ok, hRx.2, run_getMap h1, hchk, hq1, run_setMap _ h1]
        rfl
      simp only [Sem.run_bind, hmu, Result.andThen_ok, Sem.run_pure]
    | some (i, k0, v0), some (j, val), hq1, hq2 =>
      simp only at hd
      split at hd <;> try (cases hd; done)
      rename_i hsame
      simp only [Option.some.injEq, Prod.mk.injEq] at hd
      obtain ⟨rfl, rfl⟩ := hd
      obtain ⟨rfl, _, en0, hen, hval, hk0, _⟩ := hq2
      rw [Nat.sub_zero] at hen
      have hbits := sameP_bits hsame hk0 hRk
      let en : MapEntry := { en0 with key := ρ k', val := ρ v' }
      have hi : i < ents.size := by
        have := (List.getElem?_eq_some_iff.1 hen).1
        simpa using this
      let w' : World := { c.w with heap := c.w.heap.setIfInBounds (c.ρ id).1 (.map (ents.modify i fun e => { e with key := ρ k', val := ρ v' }) clock) }
      have hmod : (ents.modify i fun e => { e with key := ρ k', val := ρ v' }).toList = ents.toList.set i en := by
        have h0 : ents.toList[i]? = some en0 := hen
        apply List.ext_getElem?
        intro j
        rw [Array.getElem?_toList, Array.getElem?_modify, List.getElem?_set]
        by_cases hij : i = j
        · subst hij
          rw [Array.getElem?_toList] at h0
          simp [h0, hi, en]
          rw [(Array.getElem?_eq_some_iff.1 h0).2]
        · simp [hij]
      obtain ⟨he, hinv⟩ := mstored h hm (w' := w') h1 ⟨rfl, rfl, rfl⟩ rfl (es' := es.set i (kp, ev v)) (by rw [hmod]; exact REs_set h2 hRk hRv)
      refine ⟨{ c with w := w' }, undef, .skip, ?_, .inr ⟨rfl, rfl⟩, he, hinv, by simp only [R]⟩
      have hen' : ents[i]? = some en0 := by rw [← Array.getElem?_toList]; exact hen
      have hmu : (Instr.mapUpdate t (ρ x') (ρ k') (ρ v')).run F.P c.w = .ok () w' := by
        unfold Instr.mapUpdate
        simp only [Sem.run_bind, run_underlying ht, Result.andThen_ok, hRx.2, run_getMap h1, hchk, hq1, hen', Option.map_some, Option.getD_some, Instr.keyThatStays, hbits, if_true, Sem.run_pure, run_setMap _ h1]
        rfl
      simp only [Sem.run_bind, hmu, Result.andThen_ok, Sem.run_pure]

set_option maxHeartbeats 4000000 in
theorem clearM_sound (h : Inv F E w0 c m) {ev : X → AV} {ρ : Operand → Value} (hev : Evs F c ev ρ) {x : X} (go : Oper) (hok : okOp F (.clearM x) go.op = true) {r : AV} {m' : Mem} (hd : denMove ev m (.clearM x) = some (r, m')) : Moved F E w0 c ρ go r m' := by
  rcases go with ⟨dst, op, type, pos, after, guard⟩
  dsimp only at hok
  unfold Moved execOp
  cases op <;> try (simp [okOp] at hok; done)
  rename_i cl
  rcases cl with ⟨callee, args, argTypes⟩
  cases callee <;> try (simp [okOp] at hok; done)
  rename_i b
  cases b <;> try (simp [okOp] at hok; done)
  dsimp only
  simp only [okOp, Bool.and_eq_true] at hok
  obtain ⟨hargs, hty⟩ := hok
  split at hargs <;> try (cases hargs; done)
  rename_i x' hal
  split at hty <;> try (cases hty; done)
  rename_i t ht0
  split at hty <;> try (cases hty; done)
  rename_i kt et ht
  simp only [denMove] at hd
  split at hd <;> try (cases hd; done)
  rename_i id hxx
  split at hd <;> try (cases hd; done)
  rename_i es hm
  simp only [Option.some.injEq, Prod.mk.injEq] at hd
  obtain ⟨rfl, rfl⟩ := hd
  have hRx := hev _ _ hargs
  rw [hxx] at hRx
  simp only [R] at hRx
  obtain ⟨ents, clock, h1, h2⟩ := ents_of h hm
  let w' : World := { c.w with heap := c.w.heap.setIfInBounds (c.ρ id).1 (.map #[] clock) }
  obtain ⟨he, hinv⟩ := mstored h hm (w' := w') h1 ⟨rfl, rfl, rfl⟩ rfl (es' := []) (by simp [REs])
  have hargs' : args = #[x'] := by
    cases args with
    | mk l => simp at hal; rw [hal]
  refine ⟨{ c with w := w' }, .tuple #[], .value (.tuple #[]), ?_, .inl rfl, he, hinv, by simp only [R]⟩
  have hcl : (Builtin.clear_ argTypes type #[ρ x']).run F.P c.w = .ok (.tuple #[]) w' := by
    unfold Builtin.clear_
    rw [hRx.2]
    have h0 : (#[Value.map (some (c.ρ id).1)] : Array Value)[0]? = some (.map (some (c.ρ id).1)) := rfl
    simp only [ht0, h0, Sem.run_bind, run_underlying ht, Result.andThen_ok, run_getMap h1, run_setMap _ h1, Sem.run_pure]
    rfl
  have hmap : Array.map ρ args = #[ρ x'] := by rw [hargs']; simp
  simp only [resolve, invoke, builtin, Sem.run_bind, Sem.run_pure, Result.andThen_ok, hmap, hcl]
end
end Hx
