/-
  HxCall: calls of functions: THE THEOREM: what the evaluator says of a call, the model does.
-/
import Derived.Test.YtbdnghmmiobdcaaDoorHxCode
namespace Hx
open Go Go.RowKit
set_option linter.unusedSimpArgs false
set_option linter.unusedVariables false

def okRes (F : Fix) : List XRes → List ResultVar → Bool
  | [], [] => true
  | .tmp t :: r, .tmp t' :: r' => decide (t = t') && okRes F r r'
  | .cell t n agg :: r, .cell t' ty :: r' => decide (t = t') && decide (aggOf F.P ty = some agg) && decide (sizeO F.P ty = some n) && okRes F r r'
  | _, _ => false

/-- Is an XFunc a right reading of a function of the program? -/
def okFunc (F : Fix) (g : Nat) (xf : XFunc) : Bool := match F.P.funcs[F.num g]? with
  | some fn => match fn.body with
    | some body => !(fn.name == "runtime.NumGoroutine") && decide (fn.ntmps = xf.ntmps) && okRes F xf.res fn.results.toList && okCode F xf.body body
    | none => false
  | none => false

structure Link (F : Fix) (E : Env) : Prop where
  fn : ∀ g xf, E.fn g = some xf → okFunc F g xf = true

section
variable {F : Fix} {E : Env}

def resRun (tmps : Array Value) : ResultVar → Sem Value
  | .tmp t => pure (tmps.getD t undef)
  | .cell a t => do loadVar t (← asAddr (tmps.getD a undef))

theorem res_sound {w0 : Base} {c : Cx} {m : Mem} (h : Inv F E w0 c m) {ts : List AV} {tmps : Array Value} (ht : Rs F c ts tmps.toList) : ∀ {xs : List XRes} {rs : List ResultVar} {l : List AV}, okRes F xs rs = true → resAll m ts xs = some l →
    ∃ vs : List Value, Rs F c l vs ∧ (rs.mapM (resRun tmps)).run F.P c.w = .ok vs c.w
  | [], [], l, _, hl => by
    simp [resAll] at hl; subst hl
    exact ⟨[], by simp [Rs], by simp⟩
  | [], _ :: _, _, hok, _ => by simp [okRes] at hok
  | _ :: _, [], _, hok, _ => by simp [okRes] at hok
  | x :: xs, r :: rs, l, hok, hl => by
    simp only [resAll] at hl
    split at hl <;> try (cases hl; done)
    rename_i v l' hv hl'
    obtain rfl := Option.some.inj hl
    have hget : ∀ t, R F c (ts.getD t (.tup [])) (tmps.getD t undef) := by
      intro t
      have := evs_of (a := { tmps, defers := [] }) h ht (.tmp t) (.tmp t) (by simp [okX])
      simpa only [evX, Act.eval] using this
    have key : ∀ (y : Value) (s : Sem Value), s.run F.P c.w = .ok y c.w → R F c v y → ∀ vs, Rs F c l' vs → (rs.mapM (resRun tmps)).run F.P c.w = .ok vs c.w →
        ∃ us : List Value, Rs F c (v :: l') us ∧ (do let z ← s; let zs ← rs.mapM (resRun tmps); pure (z :: zs) : Sem (List Value)).run F.P c.w = .ok us c.w := by
      intro y s hs hR vs h1 h2
      refine ⟨y :: vs, by simp only [Rs]; exact ⟨y, vs, rfl, hR, h1⟩, ?_⟩
      simp only [Sem.run_bind, hs, Result.andThen_ok, h2, Sem.run_pure]
    rw [List.mapM_cons]
    cases x with
    | tmp t =>
      cases r <;> try (simp [okRes] at hok; done)
      simp only [okRes, Bool.and_eq_true, decide_eq_true_eq] at hok
      obtain ⟨rfl, hok⟩ := hok
      obtain ⟨vs, h1, h2⟩ := res_sound h ht hok hl'
      simp only [resOne, Option.some.injEq] at hv
      subst hv
      exact key (tmps.getD t undef) _ (by simp [resRun]) (hget t) vs h1 h2
    | cell t n agg =>
      cases r <;> try (simp [okRes] at hok; done)
      rename_i t' ty
      simp only [okRes, Bool.and_eq_true, decide_eq_true_eq] at hok
      obtain ⟨⟨⟨rfl, ha⟩, hn⟩, hok⟩ := hok
      obtain ⟨vs, h1, h2⟩ := res_sound h ht hok hl'
      simp only [resOne] at hv
      split at hv <;> try (cases hv; done)
      rename_i id off hp
      split at hv <;> try (cases hv; done)
      rename_i cs hm
      split at hv <;> try (cases hv; done)
      rename_i hcond
      have hR := hget t
      rw [hp] at hR
      simp only [R] at hR
      obtain ⟨k3, k2, k4, arr, T, fz, k5, k6, k7, k8⟩ := cells_of h hm
      obtain ⟨hid, hpt⟩ := hR
      rw [k3, Nat.zero_add] at hpt
      unfold partV at hv
      cases agg with
      | true =>
        simp only [if_true, Option.some.injEq] at hv
        subst hv
        simp only [true_and, Bool.true_eq_false, or_false] at hcond
        refine key (.agg ((arr.toList.drop off).take n).toArray) _ ?_ ?_ vs h1 h2
        · simp only [resRun, hpt, asAddr, Sem.run_bind, Sem.run_pure, Result.andThen_ok, loadVar, run_agg ha, if_true, run_size hn, run_cells k5 off n (by omega)]
        · have := R_mkAgg (Rs_take n (Rs_drop off k8))
          rw [List.drop_take, List.take_take, show min n (cs.length - off) = n by omega] at this
          exact this
      | false =>
        simp only [Bool.false_eq_true, if_false] at hv
        obtain ⟨y, h4, h5⟩ := Rs_get k8 hv
        refine key y _ ?_ h5 vs h1 h2
        have hoff : off < cs.length := by
          rw [List.getElem?_eq_some_iff] at hv; exact hv.1
        rw [List.getElem?_take_of_lt hoff] at h4
        have h6 : c.w.cell? ⟨(c.ρ id).1, off, none⟩ = some y := by
          simp only [World.cell?, k5]
          simpa using h4
        simp only [resRun, hpt, asAddr, Sem.run_bind, Sem.run_pure, Result.andThen_ok, loadVar, run_agg ha, Bool.false_eq_true, if_false, run_load, h6]

theorem results_sound {w0 : Base} {c : Cx} {m : Mem} (h : Inv F E w0 c m) {ts : List AV} {tmps : Array Value} (ht : Rs F c ts tmps.toList) {xs : List XRes} {fn : Func} {l : List AV} (hok : okRes F xs fn.results.toList = true) (hl : resAll m ts xs = some l) :
    ∃ v, (results fn tmps).run F.P c.w = .ok v c.w ∧ R F c (oneOr l) v := by
  obtain ⟨vs, h1, h2⟩ := res_sound h ht hok hl
  refine ⟨if h : vs.toArray.size = 1 then vs.toArray[0] else .tuple vs.toArray, ?_, ?_⟩
  · have hres : results fn tmps = (do let vs ← fn.results.mapM (resRun tmps); pure (if h : vs.size = 1 then vs[0] else .tuple vs)) := by
      unfold results
      congr 1
    rw [hres, Array.mapM_eq_mapM_toList]
    simp only [Sem.run_bind, Sem.run_map]
    rw [h2]
    simp
  · match l, vs, h1 with
    | [], vs, h1 => simp only [Rs] at h1; subst h1; simp [oneOr, R, Rs]
    | [x], vs, h1 =>
      simp only [Rs] at h1
      obtain ⟨y, r, rfl, h3, rfl⟩ := h1
      simpa [oneOr] using h3
    | x :: x' :: l, vs, h1 =>
      have hl := Rs_length h1
      have hne : ¬ (vs.toArray.size = 1) := by simp at hl ⊢; omega
      rw [dif_neg hne]
      simp only [oneOr, R]
      exact ⟨vs, rfl, h1⟩

theorem strip_sound {c c' : Cx} (hk : Keeps c c') : ∀ {x y : AV}, stripV x = some y → ∀ {v : Value}, R F c x v → R F c' y v := by
  intro x y h v hv
  unfold stripV at h
  split at h <;> try (cases h; done)
  · obtain rfl := Option.some.inj h
    simp only [R] at hv ⊢
    exact RP_mono hk _ _ hv
  · obtain rfl := Option.some.inj h
    simp only [R] at hv
    obtain ⟨⟨base, cap, rfl, hle, hr⟩, _⟩ := hv
    simp only [R, RP]
    exact ⟨base, cap, rfl, hle, RProws_mono hk _ _ _ _ hr⟩
  · obtain rfl := Option.some.inj h
    simp only [R] at hv ⊢
    obtain ⟨a, rfl, h1, h2⟩ := hv
    exact ⟨a, rfl, h1, RPcells_mono hk _ _ _ h2⟩
theorem strips_sound {c c' : Cx} (hk : Keeps c c') : ∀ {xs ys : List AV}, stripVs xs = some ys → ∀ {vs : List Value}, Rs F c xs vs → Rs F c' ys vs
  | [], ys, h, vs, hv => by simp [stripVs] at h; subst h; simpa only [Rs] using hv
  | x :: xs, ys, h, vs, hv => by
    simp only [stripVs] at h
    split at h <;> try (cases h; done)
    rename_i z l hz hl
    obtain rfl := Option.some.inj h
    simp only [Rs] at hv ⊢
    obtain ⟨y, r, rfl, h1, h2⟩ := hv
    exact ⟨y, r, rfl, strip_sound hk hz h1, strips_sound hk hl h2⟩
theorem stripR_sound {c c' : Cx} (hk : Keeps c c') {x y : AV} (h : stripR x = some y) {v : Value} (hv : R F c x v) : R F c' y v := by
  unfold stripR at h
  split at h
  · split at h <;> try (cases h; done)
    rename_i l hl
    obtain rfl := Option.some.inj h
    simp only [R] at hv ⊢
    obtain ⟨ys, rfl, hys⟩ := hv
    exact ⟨ys, rfl, strips_sound hk hl hys⟩
  · split at h <;> try (cases h; done)
    rename_i l hl
    obtain rfl := Option.some.inj h
    simp only [R] at hv
    obtain ⟨ys, rfl, hys⟩ := hv
    exact R_mkAgg (strips_sound hk hl hys)
  · exact strip_sound hk h hv

/-- The answer of a call. -/
def Answer (F : Fix) (c' : Cx) : Out → Ending → Prop
  | .ret v, .returned vv => R F c' v vv
  | .pan v, .panicked chain => ∃ vv, chain = [{ v := vv, recovered := false }] ∧ R F c' v vv
  | _, _ => False

theorem args_rs {c : Cx} {args : List AV} {argsV : List Value} (h : Rs F c args argsV) (n : Nat) : Rs F c (args ++ List.replicate (n - args.length) (.tup [])) (argsV.toArray ++ Array.replicate (n - argsV.toArray.size) undef).toList := by
  have hl := Rs_length h
  simp only [Array.toList_append, Array.toList_replicate, List.size_toArray]
  rw [← hl]
  refine Rs_append h ?_
  generalize n - args.length = k
  induction k with
  | zero => simp [Rs]
  | succ k ih =>
    simp only [List.replicate_succ, Rs]
    exact ⟨undef, _, rfl, by simp only [R]; exact ⟨[], rfl, by simp [Rs]⟩, ih⟩

/-- The body of a function. -/
theorem body_sound {w0 : Base} {call : Caller} (hc : CallOk F E w0 call) {n g : Nat} {xf : XFunc} (hok : okFunc F g xf = true) {c : Cx} {m : Mem} (hi : Inv F E w0 c m) {args : List AV} {argsV : List Value} (ha : Rs F c args argsV) {out : Out} {m' : Mem}
    (hd : leave xf (den E call n xf.body ⟨args ++ List.replicate (xf.ntmps - args.length) (.tup []), m, []⟩) = some (out, m')) :
    Calls F.P (F.num g) argsV.toArray c.w fun e w' => ∃ c', c'.w = w' ∧ Ext c c' ∧ Inv F E w0 c' m' ∧ Answer F c' out e := by
  unfold okFunc at hok
  split at hok <;> try (cases hok; done)
  rename_i fn hf
  split at hok <;> try (cases hok; done)
  rename_i body hb
  simp only [Bool.and_eq_true, decide_eq_true_eq] at hok
  obtain ⟨⟨⟨_, hnt⟩, hres⟩, hcode⟩ := hok
  refine calls_of_wp hf hb ?_
  cases hden : den E call n xf.body ⟨args ++ List.replicate (xf.ntmps - args.length) (.tup []), m, []⟩ with
  | none => rw [hden] at hd; simp [leave] at hd
  | some r =>
    obtain ⟨e, st⟩ := r
    rw [hden] at hd
    refine code_sound hc xf.body body hcode (c := c) (a := { tmps := argsV.toArray ++ Array.replicate (fn.ntmps - argsV.toArray.size) undef, defers := [] }) ⟨hi, by rw [hnt]; exact args_rs ha _, by simp [RDs]⟩ hden ?_
    intro c' a' he hs
    have hdef : st.ds = [] → a'.defers = [] := by
      intro h0
      have := hs.ds
      rw [h0] at this
      cases hh : a'.defers with
      | nil => rfl
      | cons d dl => rw [hh] at this; simp [RDs] at this
    cases e with
    | norm =>
      simp only [leave] at hd
      split at hd <;> try (cases hd; done)
      rename_i hds
      split at hd <;> try (cases hd; done)
      rename_i l hl
      simp only [Option.some.injEq, Prod.mk.injEq] at hd
      obtain ⟨rfl, rfl⟩ := hd
      obtain ⟨v, h1, h2⟩ := results_sound hs.inv hs.ts hres hl
      exact ⟨hdef hds, v, h1, c', rfl, he, hs.inv, h2⟩
    | ret =>
      simp only [leave] at hd
      split at hd <;> try (cases hd; done)
      rename_i hds
      split at hd <;> try (cases hd; done)
      rename_i l hl
      simp only [Option.some.injEq, Prod.mk.injEq] at hd
      obtain ⟨rfl, rfl⟩ := hd
      obtain ⟨v, h1, h2⟩ := results_sound hs.inv hs.ts hres hl
      exact ⟨hdef hds, v, h1, c', rfl, he, hs.inv, h2⟩
    | pan v =>
      simp only [leave] at hd
      split at hd <;> try (cases hd; done)
      rename_i hds
      simp only [Option.some.injEq, Prod.mk.injEq] at hd
      obtain ⟨rfl, rfl⟩ := hd
      intro vv hR
      exact ⟨hdef hds, c', rfl, he, hs.inv, vv, rfl, hR⟩
    | exit id => simp [leave] at hd

theorem call_enters {g : Nat} {xf : XFunc} (hok : okFunc F g xf = true) (argsV : Array Value) (w : World) : (callFunc (F.num g) argsV).run F.P w = .ok (.enter (F.num g) argsV) w := by
  unfold okFunc at hok
  split at hok <;> try (cases hok; done)
  rename_i fn hf
  split at hok <;> try (cases hok; done)
  rename_i body hb
  simp only [Bool.and_eq_true, Bool.not_eq_true'] at hok
  obtain ⟨⟨⟨hn, _⟩, _⟩, _⟩ := hok
  unfold callFunc
  simp only [Sem.run_bind, run_program, Result.andThen_ok, hf, hn, Bool.false_eq_true, if_false, hb, Option.isNone_some, Sem.run_pure]

/-- THE THEOREM. -/
theorem denF_sound (hl : Link F E) : ∀ (n : Nat) (w0 : Base), CallOk F E w0 (denF E n)
  | 0, w0 => by intro f args m out m' h; simp [denF] at h
  | n + 1, w0 => by
    intro f args m out m' hd
    simp only [denF] at hd
    split at hd <;> try (cases hd; done)
    rename_i xf hxf
    have hok := hl.fn f xf hxf
    refine ⟨fun argsV w => call_enters hok argsV w, ?_, ?_⟩
    · intro xf' hxf' hp
      rw [hxf] at hxf'
      obtain rfl := Option.some.inj hxf'
      rw [if_pos hp] at hd
      split at hd <;> try (cases hd; done)
      split at hd <;> try (cases hd; done)
      split at hd <;> try (cases hd; done)
      simp only [Option.some.injEq, Prod.mk.injEq] at hd
      exact hd.2.symm
    intro c argsV hi ha
    split at hd
    · -- a pure one
      split at hd <;> try (cases hd; done)
      rename_i args' hargs
      split at hd <;> try (cases hd; done)
      rename_i out1 m1 hlv
      split at hd <;> try (cases hd; done)
      rename_i out' hout
      simp only [Option.some.injEq, Prod.mk.injEq] at hd
      obtain ⟨rfl, rfl⟩ := hd
      let cc : Cx := { w := c.w, K := c.K, N := 0, ρ := c.ρ, tok := fun _ => none }
      have hkcc : Keeps c cc := fun b o h => ⟨h, rfl⟩
      have hicc : Inv F E ⟨c.w, c.K⟩ cc [] := by
        refine ⟨Below.refl _ _, rfl, hi.K, fun b _ => rfl, ?_, ?_, ?_, fun g => RPcells_mono hkcc _ _ _ (hi.gl g)⟩
        · intro i b hb; simp [ownB] at hb
        · intro i x hx; simp at hx
        · intro i j b hb; simp [ownB] at hb
      refine (body_sound (denF_sound hl n ⟨c.w, c.K⟩) hok hicc (strips_sound hkcc hargs ha) hlv).mono ?_
      rintro e w' ⟨c1, rfl, he1, hi1, hans⟩
      let c' : Cx := { w := c1.w, K := fun b => if b < c.w.heap.size then c.K b else none, N := c.N, ρ := c.ρ, tok := c.tok }
      have hsame : ∀ b, b < c.w.heap.size → c1.w.heap[b]? = c.w.heap[b]? := fun b hb => hi1.below.block b hb
      have he : Ext c c' := by
        refine ⟨hi1.below.size, ?_, ?_, Nat.le_refl _, fun _ _ => rfl, fun t ht e' he' => ⟨e', he', .inl rfl⟩⟩
        · rintro b o ⟨h1, h2⟩
          refine ⟨⟨Nat.lt_of_lt_of_le h1 hi1.below.size, fun k hk => ?_⟩, ?_⟩
          · simp only [c', if_pos h1] at hk
            exact h2 k hk
          · simp only [c', World.cell?, hsame b h1]
        · intro b hb
          simp only [c', cinfo, hsame b hb]
      have hk1 : Keeps c1 c' := by
        rintro b o ⟨h1, h2⟩
        refine ⟨⟨h1, fun k hk => ?_⟩, rfl⟩
        simp only [c'] at hk
        split at hk
        · rename_i hb
          refine h2 k ?_
          rw [hi1.old b hb]
          exact hk
        · cases hk
      have hinv : Inv F E w0 c' m := by
        have hown : ∀ i, ownB c' m i = ownB c m i := fun i => rfl
        refine ⟨hi.below.trans ?_, hi.N, ?_, ?_, hi.low, ?_, hi.inj, fun g => RPcells_mono he.keeps _ _ _ (hi.gl g)⟩
        · exact hi1.below.mono hi.below.size
        · intro b k hk
          simp only [c'] at hk ⊢
          split at hk
          · have : c.w.heap.size ≤ c1.w.heap.size := hi1.below.size
            omega
          · cases hk
        · intro b hb
          have := hi.below.size
          simp only [c', if_pos (by omega : b < c.w.heap.size)]
          exact hi.old b hb
        · intro i x hx
          refine RB_mono he (hi.blk i x hx) rfl rfl ?_
          intro b hb
          have hb' : ownB c m i = some b := by
            unfold ownB
            rw [hx]
            cases x <;> first | exact hb | (simp at hb)
          obtain ⟨k, hk⟩ := ownB_K hi hb'
          have hlt := hi.K b k hk
          exact ⟨by simp only [c', if_pos hlt], hsame b hlt⟩
      refine ⟨c', rfl, he, hinv, ?_⟩
      cases out1 with
      | ret v =>
        simp only [stripOut] at hout
        split at hout <;> try (cases hout; done)
        rename_i v' hv'
        obtain rfl := Option.some.inj hout
        cases e <;> simp only [Answer] at hans
        exact stripR_sound hk1 hv' hans
      | pan v =>
        simp only [stripOut] at hout
        split at hout <;> try (cases hout; done)
        rename_i v' hv'
        obtain rfl := Option.some.inj hout
        cases e <;> simp only [Answer] at hans
        obtain ⟨vv, h1, h2⟩ := hans
        exact ⟨vv, h1, stripR_sound hk1 hv' h2⟩
    · refine (body_sound (denF_sound hl n w0) hok hi ha hd).mono ?_
      rintro e w' ⟨c', h1, h2, h3, h4⟩
      refine ⟨c', h1, h2, h3, ?_⟩
      cases out <;> cases e <;> exact h4
end
end Hx
