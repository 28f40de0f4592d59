/-
  HxCall: calls of functions: THE THEOREM: what the evaluator says of a call, the model does.
-/
import Derived.Test.YtfobhbameffplaaHxCode
import Derived.Recover
namespace Hx
open Go Go.RowKit
set_option linter.unusedSimpArgs false
set_option linter.unusedVariables false

def okRes (F : Fix) : List XRes → List ResultVar → Bool
  | [], [] => true
  | .tmp t :: r, .tmp t' :: r' => decide (t = t') && okRes F r r'
  | .cell t n agg :: r, .cell t' ty :: r' => decide (t = t') && decide (aggOf F.P ty = some agg) && decide (sizeO F.P ty = some n) && okRes F r r'
  | _, _ => false

def okFunc (F : Fix) (g : Nat) (xf : XFunc) : Bool := match F.P.funcs[F.num g]? with
  | some fn => match fn.body with
    | some body => !(fn.name == "runtime.NumGoroutine") && decide (fn.ntmps = xf.ntmps) && okRes F xf.res fn.results.toList && okCode F xf.body body
    | none => false
  | none => false

structure Link (F : Fix) (E : Env) : Prop where
  fn : ∀ g xf, E.fn g = some xf → okFunc F g xf = true

section
variable {F : Fix} {E : Env}

def resRun (tmps : Array Value) : ResultVar → Sem Value
  | .tmp t => pure (tmps.getD t undef)
  | .cell a t => do loadVar t (← asAddr (tmps.getD a undef))

theorem res_sound {w0 : Base} {c : Cx} {m : Mem} (h : Inv F E w0 c m) {ts : List AV} {tmps : Array Value} (ht : Rs F c ts tmps.toList) : ∀ {xs : List XRes} {rs : List ResultVar} {l : List AV}, okRes F xs rs = true → resAll m ts xs = some l →
    ∃ vs : List Value, Rs F c l vs ∧ (rs.mapM (resRun tmps)).run F.P c.w = .ok vs c.w
  | [], [], l, _, hl => by
    simp [resAll] at hl; subst hl
    exact ⟨[], by simp [Rs], by simp⟩
  | [], _ :: _, _, hok, _ => by simp [okRes] at hok
  | _ :: _, [], _, hok, _ => by simp [okRes] at hok
  | x :: xs, r :: rs, l, hok, hl => by
    simp only [resAll] at hl
    split at hl <;> try (cases hl; done)
    rename_i v l' hv hl'
    obtain rfl := Option.some.inj hl
    have hget : ∀ t, R F c (ts.getD t (.tup [])) (tmps.getD t undef) := by
      intro t
      have := evs_of (a := { tmps, defers := [] }) h ht (.tmp t) (.tmp t) (by simp [okX])
      simpa only [evX, Act.eval] using this
    have key : ∀ (y : Value) (s : Sem Value), s.run F.P c.w = .ok y c.w → R F c v y → ∀ vs, Rs F c l' vs → (rs.mapM (resRun tmps)).run F.P c.w = .ok vs c.w →
        ∃ us : List Value, Rs F c (v :: l') us ∧ (do let z ← s; let zs ← rs.mapM (resRun tmps); pure (z :: zs) : Sem (List Value)).run F.P c.w = .ok us c.w := by
      intro y s hs hR vs h1 h2
      refine ⟨y :: vs, by simp only [Rs]; exact ⟨y, vs, rfl, hR, h1⟩, ?_⟩
      simp only [Sem.run_bind, hs, Result.andThen_ok, h2, Sem.run_pure]
    rw [List.mapM_cons]
    cases x with
    | tmp t =>
      cases r <;> try (simp [okRes] at hok; done)
      simp only [okRes, Bool.and_eq_true, decide_eq_true_eq] at hok
      obtain ⟨rfl, hok⟩ := hok
      obtain ⟨vs, h1, h2⟩ := res_sound h ht hok hl'
      simp only [resOne, Option.some.injEq] at hv
      subst hv
      exact key (tmps.getD t undef) _ (by simp [resRun]) (hget t) vs h1 h2
    | cell t n agg =>
      cases r <;> try (simp [okRes] at hok; done)
      rename_i t' ty
      simp only [okRes, Bool.and_eq_true, decide_eq_true_eq] at hok
      obtain ⟨⟨⟨rfl, ha⟩, hn⟩, hok⟩ := hok
      obtain ⟨vs, h1, h2⟩ := res_sound h ht hok hl'
      simp only [resOne] at hv
      split at hv <;> try (cases hv; done)
      rename_i id off hp
      split at hv <;> try (cases hv; done)
      rename_i cs hm
      split at hv <;> try (cases hv; done)
      rename_i hcond
      have hR := hget t
      rw [hp] at hR
      simp only [R] at hR
      obtain ⟨k3, k2, k4, arr, T, fz, k5, k6, k7, k8⟩ := cells_of h hm
      obtain ⟨hid, hpt⟩ := hR
      rw [k3, Nat.zero_add] at hpt
      unfold partV at hv
      cases agg with
      | true =>
        simp only [if_true, Option.some.injEq] at hv
        subst hv
        simp only [true_and, Bool.true_eq_false, or_false] at hcond
        refine key (.agg ((arr.toList.drop off).take n).toArray) _ ?_ ?_ vs h1 h2
        · simp only [resRun, hpt, asAddr, Sem.run_bind, Sem.run_pure, Result.andThen_ok, loadVar, run_agg ha, if_true, run_size hn, run_cells k5 off n (by omega)]
        · have := R_mkAgg (Rs_take n (Rs_drop off k8))
          rw [List.drop_take, List.take_take, show min n (cs.length - off) = n by omega] at this
          exact this
      | false =>
        simp only [Bool.false_eq_true, if_false] at hv
        obtain ⟨y, h4, h5⟩ := Rs_get k8 hv
        refine key y _ ?_ h5 vs h1 h2
        have hoff : off < cs.length := by
          rw [List.getElem?_eq_some_iff] at hv; exact hv.1
        rw [List.getElem?_take_of_lt hoff] at h4
        have h6 : c.w.cell? ⟨(c.ρ id).1, off, none⟩ = some y := by
          simp only [World.cell?, k5]
          simpa using h4
        simp only [resRun, hpt, asAddr, Sem.run_bind, Sem.run_pure, Result.andThen_ok, loadVar, run_agg ha, Bool.false_eq_true, if_false, run_load, h6]

theorem results_sound {w0 : Base} {c : Cx} {m : Mem} (h : Inv F E w0 c m) {ts : List AV} {tmps : Array Value} (ht : Rs F c ts tmps.toList) {xs : List XRes} {fn : Func} {l : List AV} (hok : okRes F xs fn.results.toList = true) (hl : resAll m ts xs = some l) :
    ∃ v, (results fn tmps).run F.P c.w = .ok v c.w ∧ R F c (oneOr l) v := by
  obtain ⟨vs, h1, h2⟩ := res_sound h ht hok hl
  refine ⟨if h : vs.toArray.size = 1 then vs.toArray[0] else .tuple vs.toArray, ?_, ?_⟩
  · have hres : results fn tmps = (do let vs ← fn.results.mapM (resRun tmps); pure (if h : vs.size = 1 then vs[0] else .tuple vs)) := by
      unfold results
      congr 1
    rw [hres, Array.mapM_eq_mapM_toList]
    simp only [Sem.run_bind, Sem.run_map]
    rw [h2]
    simp
  · match l, vs, h1 with
    | [], vs, h1 => simp only [Rs] at h1; subst h1; simp [oneOr, R, Rs]
    | [x], vs, h1 =>
      simp only [Rs] at h1
      obtain ⟨y, r, rfl, h3, rfl⟩ := h1
      simpa [oneOr] using h3
    | x :: x' :: l, vs, h1 =>
      have hl := Rs_length h1
      have hne : ¬ (vs.toArray.size = 1) := by simp at hl ⊢; omega
      rw [dif_neg hne]
      simp only [oneOr, R]
      exact ⟨vs, rfl, h1⟩

theorem strip0_sound {c c' : Cx} (hk : Keeps c c') : ∀ {x y : AV}, strip0 x = some y → ∀ {v : Value}, R F c x v → R F c' y v := by
  intro x y h v hv
  unfold strip0 at h
  split at h <;> try (cases h; done)
  · obtain rfl := Option.some.inj h
    simp only [R] at hv ⊢
    exact RP_mono hk _ _ hv
  · obtain rfl := Option.some.inj h
    simp only [R] at hv
    obtain ⟨⟨base, cap, rfl, hle, hr⟩, _⟩ := hv
    simp only [R, RP]
    exact ⟨base, cap, rfl, hle, RProws_mono hk _ _ _ _ hr⟩
  · obtain rfl := Option.some.inj h
    simp only [R] at hv ⊢
    obtain ⟨a, rfl, h1, h2⟩ := hv
    exact ⟨a, rfl, h1, RPcells_mono hk _ _ _ h2⟩
theorem strip0s_sound {c c' : Cx} (hk : Keeps c c') : ∀ {xs ys : List AV}, strip0s xs = some ys → ∀ {vs : List Value}, Rs F c xs vs → Rs F c' ys vs
  | [], ys, h, vs, hv => by simp [strip0s] at h; subst h; simpa only [Rs] using hv
  | x :: xs, ys, h, vs, hv => by
    simp only [strip0s] at h
    split at h <;> try (cases h; done)
    rename_i z l hz hl
    obtain rfl := Option.some.inj h
    simp only [Rs] at hv ⊢
    obtain ⟨y, r, rfl, h1, h2⟩ := hv
    exact ⟨y, r, rfl, strip0_sound hk hz h1, strip0s_sound hk hl h2⟩
theorem strip_sound {c c' : Cx} (hk : Keeps c c') : ∀ {x y : AV}, stripV x = some y → ∀ {v : Value}, R F c x v → R F c' y v := by
  intro x y h v hv
  unfold stripV at h
  split at h
  · split at h <;> try (cases h; done)
    rename_i l hl
    obtain rfl := Option.some.inj h
    simp only [R] at hv
    obtain ⟨ys, rfl, hys⟩ := hv
    exact R_mkAgg (strip0s_sound hk hl hys)
  · exact strip0_sound hk h hv
theorem strips_sound {c c' : Cx} (hk : Keeps c c') : ∀ {xs ys : List AV}, stripVs xs = some ys → ∀ {vs : List Value}, Rs F c xs vs → Rs F c' ys vs
  | [], ys, h, vs, hv => by simp [stripVs] at h; subst h; simpa only [Rs] using hv
  | x :: xs, ys, h, vs, hv => by
    simp only [stripVs] at h
    split at h <;> try (cases h; done)
    rename_i z l hz hl
    obtain rfl := Option.some.inj h
    simp only [Rs] at hv ⊢
    obtain ⟨y, r, rfl, h1, h2⟩ := hv
    exact ⟨y, r, rfl, strip_sound hk hz h1, strips_sound hk hl h2⟩
theorem stripR_sound {c c' : Cx} (hk : Keeps c c') {x y : AV} (h : stripR x = some y) {v : Value} (hv : R F c x v) : R F c' y v := by
  unfold stripR at h
  split at h
  · split at h <;> try (cases h; done)
    rename_i l hl
    obtain rfl := Option.some.inj h
    simp only [R] at hv ⊢
    obtain ⟨ys, rfl, hys⟩ := hv
    exact ⟨ys, rfl, strips_sound hk hl hys⟩
  · exact strip_sound hk h hv

def Answer (F : Fix) (c' : Cx) : Out → Ending → Prop
  | .ret v, .returned vv => R F c' v vv
  | .pan v, .panicked chain => ∃ vv, chain = [{ v := vv, recovered := false }] ∧ R F c' v vv
  | _, _ => False

theorem args_rs {c : Cx} {args : List AV} {argsV : List Value} (h : Rs F c args argsV) (n : Nat) : Rs F c (args ++ List.replicate (n - args.length) (.tup [])) (argsV.toArray ++ Array.replicate (n - argsV.toArray.size) undef).toList := by
  have hl := Rs_length h
  simp only [Array.toList_append, Array.toList_replicate, List.size_toArray]
  rw [← hl]
  refine Rs_append h ?_
  generalize n - args.length = k
  induction k with
  | zero => simp [Rs]
  | succ k ih =>
    simp only [List.replicate_succ, Rs]
    exact ⟨undef, _, rfl, by simp only [R]; exact ⟨[], rfl, by simp [Rs]⟩, ih⟩

theorem body_sound {w0 : Base} {call : Caller} (hc : CallOk F E w0 call) {n g : Nat} {xf : XFunc} (hok : okFunc F g xf = true) {c : Cx} {m : Mem} (hi : Inv F E w0 c m) {args : List AV} {argsV : List Value} (ha : Rs F c args argsV) {out : Out} {m' : Mem}
    (hd : leave xf (den E call n xf.body ⟨args ++ List.replicate (xf.ntmps - args.length) (.tup []), m, []⟩) = some (out, m')) :
    Calls F.P (F.num g) argsV.toArray c.w fun e w' => ∃ c', c'.w = w' ∧ Ext c c' ∧ Inv F E w0 c' m' ∧ Answer F c' out e := by
  unfold okFunc at hok
  split at hok <;> try (cases hok; done)
  rename_i fn hf
  split at hok <;> try (cases hok; done)
  rename_i body hb
  simp only [Bool.and_eq_true, decide_eq_true_eq] at hok
  obtain ⟨⟨⟨_, hnt⟩, hres⟩, hcode⟩ := hok
  refine calls_of_wp hf hb ?_
  cases hden : den E call n xf.body ⟨args ++ List.replicate (xf.ntmps - args.length) (.tup []), m, []⟩ with
  | none => rw [hden] at hd; simp [leave] at hd
  | some r =>
    obtain ⟨e, st⟩ := r
    rw [hden] at hd
    refine code_sound hc xf.body body hcode (c := c) (a := { tmps := argsV.toArray ++ Array.replicate (fn.ntmps - argsV.toArray.size) undef, defers := [] }) ⟨hi, by rw [hnt]; exact args_rs ha _, by simp [RDs]⟩ hden ?_
    intro c' a' he hs
    have hdef : st.ds = [] → a'.defers = [] := by
      intro h0
      have := hs.ds
      rw [h0] at this
      cases hh : a'.defers with
      | nil => rfl
      | cons d dl => rw [hh] at this; simp [RDs] at this
    cases e with
    | norm =>
      simp only [leave] at hd
      split at hd <;> try (cases hd; done)
      rename_i hds
      split at hd <;> try (cases hd; done)
      rename_i l hl
      simp only [Option.some.injEq, Prod.mk.injEq] at hd
      obtain ⟨rfl, rfl⟩ := hd
      obtain ⟨v, h1, h2⟩ := results_sound hs.inv hs.ts hres hl
      exact ⟨hdef hds, v, h1, c', rfl, he, hs.inv, h2⟩
    | ret =>
      simp only [leave] at hd
      split at hd <;> try (cases hd; done)
      rename_i hds
      split at hd <;> try (cases hd; done)
      rename_i l hl
      simp only [Option.some.injEq, Prod.mk.injEq] at hd
      obtain ⟨rfl, rfl⟩ := hd
      obtain ⟨v, h1, h2⟩ := results_sound hs.inv hs.ts hres hl
      exact ⟨hdef hds, v, h1, c', rfl, he, hs.inv, h2⟩
    | pan v =>
      simp only [leave] at hd
      split at hd <;> try (cases hd; done)
      rename_i hds
      simp only [Option.some.injEq, Prod.mk.injEq] at hd
      obtain ⟨rfl, rfl⟩ := hd
      intro vv hR
      exact ⟨hdef hds, c', rfl, he, hs.inv, vv, rfl, hR⟩
    | exit id => simp [leave] at hd

theorem call_enters {g : Nat} {xf : XFunc} (hok : okFunc F g xf = true) (argsV : Array Value) (w : World) : (callFunc (F.num g) argsV).run F.P w = .ok (.enter (F.num g) argsV) w := by
  unfold okFunc at hok
  split at hok <;> try (cases hok; done)
  rename_i fn hf
  split at hok <;> try (cases hok; done)
  rename_i body hb
  simp only [Bool.and_eq_true, Bool.not_eq_true'] at hok
  obtain ⟨⟨⟨hn, _⟩, _⟩, _⟩ := hok
  unfold callFunc
  simp only [Sem.run_bind, run_program, Result.andThen_ok, hf, hn, Bool.false_eq_true, if_false, hb, Option.isNone_some, Sem.run_pure]


theorem wpOpsS_of_wpOps {P : Program} {Q : Exit → Act → List Frame → World → Prop} {ops : Array Oper} {cs : List Frame} (hlet : ¬ LetsOut (fun e a w => Q e a cs w)) : ∀ (l : List Nat) (a : Act) (w : World), wpOps P ops (fun e a w => Q e a cs w) l a w → wpOpsS P ops Q l a cs w
  | [], a, w, h => by
    simp only [wpOps] at h
    simp only [wpOpsS]
    exact h
  | i :: rest, a, w, h => by
    simp only [wpOps] at h
    simp only [wpOpsS]
    have ih : ∀ a w, wpOps P ops (fun e a w => Q e a cs w) rest a w → wpOpsS P ops Q rest a cs w := fun a w => wpOpsS_of_wpOps hlet rest a w
    cases ho : ops[i]? with
    | none =>
      simp only [ho] at h
      exact ih a w h
    | some o =>
      simp only [ho] at h
      simp only
      split
      · rename_i hw
        simp only [hw, if_true] at h
        have h1 := h.resolve_right (fun hh => hlet hh.2)
        have h2 : o.wp P a w (fun a' w' => wpOpsS P ops Q rest a' cs w') (fun e a w => Q e a cs w) := Oper.wp_mono ih h1
        unfold Oper.wp at h1 h2
        split
        · rename_i w' hr
          rw [hr] at h1
          simp only [Oper.upon] at h1
        · exact h2
      · rename_i hw
        simp only [hw] at h
        exact ih _ _ h

section
variable {w0 : Base}
def PostS (F : Fix) (E : Env) (w0 : Base) (Q : Exit → Act → List Frame → World → Prop) (cs : List Frame) (c : Cx) (e : Ex) (st' : St) : Prop := Post F E w0 (fun e a w => Q e a cs w) c e st'
theorem denRec_sound {call : Caller} (hc : CallOk F E w0 call) {n : Nat} {pv : AV} {vv : Value} {cs1 cs2 : List Frame} (hrec : match recoverD cs1 with | some (v, cs') => v = vv ∧ cs' = cs2 | none => Value.nilIface = vv ∧ cs1 = cs2) :
    ∀ (x : XCode) (k : Code), okCode F x k = true → ∀ {c : Cx} {st : St} {a : Act} (hs : RSt F E w0 c st a) (hpv : R F c pv vv) {e : Ex} {st' : St} (hd : denRec E call n pv x st = some (e, st')) {Q : Exit → Act → List Frame → World → Prop} (hlet : ¬ LetsOut (fun e a w => Q e a cs2 w)) (hQ : PostS F E w0 Q cs2 c e st'), k.wpS F.P Q a cs1 c.w
  | .ops l, k, hok, c, st, a, hs, hpv, e, st', hd, Q, hlet, hQ => by
    cases k <;> try (simp [okCode] at hok; done)
    rename_i id ops draw
    cases draw <;> try (simp [okCode] at hok; done)
    simp only [okCode] at hok
    cases l with
    | nil => simp [denRec] at hd
    | cons x l' =>
      obtain ⟨dst, xop, guard, cl⟩ := x
      cases xop <;> try (simp [denRec] at hd; done)
      cases guard with
      | some g => simp [denRec] at hd
      | none =>
      have hd : denOpers E call none l' { st with ts := putT st.ts dst pv } = some (e, st') := hd
      obtain ⟨h1, h2⟩ := okOpers_get hok
      have hsz : ops.size = l'.length + 1 := by simp at h1; omega
      refine wpS_region ?_
      rw [hsz, List.range_succ_eq_map]
      obtain ⟨o, ho⟩ : ∃ o, ops[0]? = some o := ⟨ops[0], by simp [hsz]⟩
      have hoo := h2 0 _ o (by rfl) (by rw [Array.getElem?_toList]; exact ho)
      have hoo' := hoo
      simp only [okOper, Bool.and_eq_true, decide_eq_true_eq] at hoo'
      obtain ⟨⟨hdst, hop⟩, hg⟩ := hoo'
      simp only [wpOpsS, ho]
      have hw : Region.wanted o (yielded ops a.tmps) = true := by
        have := wants_sound (b := true) hs.ts hoo rfl
        exact this
      rw [if_pos hw]
      have hrun : (execOp a.eval o).run F.P c.w = .ok .recover c.w := by
        rcases o with ⟨odst, op, otype, opos, oafter, oguard⟩
        dsimp only at hop ⊢
        unfold execOp
        cases op <;> try (simp [okOp] at hop; done)
        rename_i cl
        rcases cl with ⟨callee, args, argTypes⟩
        cases callee <;> try (simp [okOp] at hop; done)
        rename_i b
        cases b <;> try (simp [okOp] at hop; done)
        simp [resolve, invoke, builtin]
      rw [hrun]
      simp only
      have hcont : ∀ v : Value, v = vv → wpOpsS F.P ops Q (List.map Nat.succ (List.range l'.length)) (a.put o.dst v) cs2 c.w := by
        rintro v rfl
        refine wpOpsS_of_wpOps hlet _ _ _ ?_
        refine opers_sound hc l' (List.map Nat.succ (List.range l'.length)) (by simp) ?_ (st := { st with ts := putT st.ts dst pv }) ⟨hs.inv, ?_, by rw [put_defers]; exact hs.ds⟩ hd hQ
        · intro k x i hx hi
          have hk : k < l'.length := by rw [List.getElem?_eq_some_iff] at hx; exact hx.1
          have : i = k + 1 := by
            rw [List.getElem?_map, List.getElem?_range hk] at hi
            exact (Option.some.inj hi).symm
          subst this
          have hk2 : k + 1 < ops.size := by omega
          exact ⟨ops[k + 1], by simp [hk2], h2 (k + 1) x ops[k + 1] (by simpa using hx) (by simp [hk2])⟩
        · rw [← hdst]
          exact Rs_put hs.ts _ hpv
      revert hrec
      cases recoverD cs1 with
      | none =>
        rintro ⟨h3, h4⟩
        subst h4
        exact hcont _ h3
      | some p =>
        obtain ⟨v, cs'⟩ := p
        rintro ⟨h3, h4⟩
        subst h4
        exact hcont _ h3
  | .seq x y, k, hok, c, st, a, hs, hpv, e, st', hd, Q, hlet, hQ => by
    cases k <;> try (simp [okCode] at hok; done)
    rename_i p q
    simp only [okCode, Bool.and_eq_true] at hok
    simp only [denRec] at hd
    cases hx : denRec E call n pv x st with
    | none => rw [hx] at hd; cases hd
    | some r =>
      obtain ⟨e1, st1⟩ := r
      rw [hx] at hd
      refine wpS_seq (denRec_sound hc hrec x p hok.1 hs hpv hx (fun ⟨a0, w0, h0⟩ => hlet ⟨a0, w0, h0⟩) ?_)
      cases e1 with
      | norm =>
        simp only at hd
        intro c' a' he hs'
        simp only [Exit.thenS]
        exact wpS_of_wp (code_sound hc y q hok.2 hs' hd (fun c'' a'' he' hs'' => hQ c'' a'' (he.trans he') hs''))
      | exit id =>
        simp only [Option.some.injEq, Prod.mk.injEq] at hd
        obtain ⟨rfl, rfl⟩ := hd
        exact fun c' a' he hs' => hQ c' a' he hs'
      | ret =>
        simp only [Option.some.injEq, Prod.mk.injEq] at hd
        obtain ⟨rfl, rfl⟩ := hd
        exact fun c' a' he hs' => hQ c' a' he hs'
      | pan v =>
        simp only [Option.some.injEq, Prod.mk.injEq] at hd
        obtain ⟨rfl, rfl⟩ := hd
        exact fun c' a' he hs' => hQ c' a' he hs'
  | .skip, _, _, _, _, _, _, _, _, _, hd, _, _, _ => by simp [denRec] at hd
  | .draw _ _, _, _, _, _, _, _, _, _, _, hd, _, _, _ => by simp [denRec] at hd
  | .drawK _ _ _, _, _, _, _, _, _, _, _, _, hd, _, _, _ => by simp [denRec] at hd
  | .drawS _ _ _, _, _, _, _, _, _, _, _, _, hd, _, _, _ => by simp [denRec] at hd
  | .cond _ _ _, _, _, _, _, _, _, _, _, _, hd, _, _, _ => by simp [denRec] at hd
  | .block _ _, _, _, _, _, _, _, _, _, _, hd, _, _, _ => by simp [denRec] at hd
  | .loop _ _, _, _, _, _, _, _, _, _, _, hd, _, _, _ => by simp [denRec] at hd
  | .exit _, _, _, _, _, _, _, _, _, _, hd, _, _, _ => by simp [denRec] at hd
  | .ret, _, _, _, _, _, _, _, _, _, hd, _, _, _ => by simp [denRec] at hd
  | .refuse, _, _, _, _, _, _, _, _, _, hd, _, _, _ => by simp [denRec] at hd
end

def modeOf : Option Value → FrameMode
  | none => .returning
  | some v => .panicking [{ v, recovered := false }]
theorem rec_mode (o : Option Value) (c0 : Frame) (cs : List Frame) (h : c0.mode = modeOf o) :
    ∃ u' : FrameMode, settle u' = .returning ∧ (match recoverD (c0 :: cs) with | some (v, cs') => v = o.getD .nilIface ∧ cs' = { c0 with mode := u' } :: cs | none => Value.nilIface = o.getD .nilIface ∧ c0 :: cs = { c0 with mode := u' } :: cs) := by
  cases o with
  | none =>
    refine ⟨.returning, rfl, ?_⟩
    simp only [modeOf] at h
    have : recoverD (c0 :: cs) = none := by simp [recoverD, h]
    rw [this]
    refine ⟨rfl, ?_⟩
    rw [← h]
  | some v =>
    refine ⟨.panicking [{ v, recovered := true }], by simp [settle], ?_⟩
    simp only [modeOf] at h
    have : recoverD (c0 :: cs) = some (v, { c0 with mode := .panicking [{ v, recovered := true }] } :: cs) := by simp [recoverD, h]
    rw [this]
    exact ⟨rfl, rfl⟩

theorem body_soundD (hl : Link F E) {w0 : Base} {call : Caller} (hc : CallOk F E w0 call) {n g : Nat} {xf : XFunc} (hok : okFunc F g xf = true) {c : Cx} {m : Mem} (hi : Inv F E w0 c m) {args : List AV} {argsV : List Value} (ha : Rs F c args argsV) {out : Out} {m' : Mem}
    (hd : leaveD E call n xf (den E call n xf.body ⟨args ++ List.replicate (xf.ntmps - args.length) (.tup []), m, []⟩) = some (out, m')) :
    Calls F.P (F.num g) argsV.toArray c.w fun e w' => ∃ c', c'.w = w' ∧ Ext c c' ∧ Inv F E w0 c' m' ∧ Answer F c' out e := by
  cases hden : den E call n xf.body ⟨args ++ List.replicate (xf.ntmps - args.length) (.tup []), m, []⟩ with
  | none => rw [hden] at hd; simp [leaveD] at hd
  | some r =>
    obtain ⟨e, st⟩ := r
    rw [hden] at hd
    unfold leaveD at hd
    split at hd <;> try (cases hd; done)
    rename_i e0 st0 heq
    obtain ⟨rfl, rfl⟩ := Prod.mk.inj (Option.some.inj heq)
    split at hd
    · refine body_sound hc hok hi ha (n := n) ?_
      rw [hden]
      exact hd
    · rename_i fv dargs hds
      split at hd <;> try (cases hd; done)
      rename_i dg caps pv hfn hpv
      split at hd <;> try (cases hd; done)
      rename_i xd hxd
      have hokd := hl.fn dg xd hxd
      have hokd2 := hokd
      have hfin : ∃ e1 sd l, denRec E call n pv xd.body ⟨dargs ++ caps ++ List.replicate (xd.ntmps - (dargs ++ caps).length) (.tup []), st.m, []⟩ = some (e1, sd) ∧ (e1 = .norm ∨ e1 = .ret) ∧ sd.ds = [] ∧ xd.res = [] ∧ resAll sd.m st.ts xf.res = some l ∧ out = .ret (oneOr l) ∧ m' = sd.m := by
        split at hd <;> try (cases hd; done)
        · rename_i sd hrec
          split at hd <;> try (cases hd; done)
          rename_i l q1 q2 q3
          simp only [Option.some.injEq, Prod.mk.injEq] at hd
          exact ⟨_, sd, l, hrec, .inl rfl, q1, q2, q3, hd.1.symm, hd.2.symm⟩
        · rename_i sd hrec
          split at hd <;> try (cases hd; done)
          rename_i l q1 q2 q3
          simp only [Option.some.injEq, Prod.mk.injEq] at hd
          exact ⟨_, sd, l, hrec, .inr rfl, q1, q2, q3, hd.1.symm, hd.2.symm⟩
      obtain ⟨e1, sd, l, hrec, he1, hsd, hxr, hres, rfl, rfl⟩ := hfin
      clear hd
      unfold okFunc at hok
      split at hok <;> try (cases hok; done)
      rename_i fn hf
      split at hok <;> try (cases hok; done)
      rename_i body hb
      simp only [Bool.and_eq_true, decide_eq_true_eq] at hok
      obtain ⟨⟨⟨_, hnt⟩, hres'⟩, hcode⟩ := hok
      unfold okFunc at hokd
      split at hokd <;> try (cases hokd; done)
      rename_i fd hfd
      split at hokd <;> try (cases hokd; done)
      rename_i bodyd hbd
      simp only [Bool.and_eq_true, decide_eq_true_eq] at hokd
      obtain ⟨⟨⟨_, hntd⟩, hresd⟩, hcoded⟩ := hokd
      refine calls_of_wp_defers hf hb ?_
      refine code_sound hc xf.body body hcode (c := c) (a := { tmps := argsV.toArray ++ Array.replicate (fn.ntmps - argsV.toArray.size) undef, defers := [] }) ⟨hi, by rw [hnt]; exact args_rs ha _, by simp [RDs]⟩ hden ?_
      intro c' a' he hs
      have main : ∀ o : Option Value, R F c' pv (o.getD .nilIface) → Leaves F.P fn a'.tmps (fun e w' => ∃ c', c'.w = w' ∧ Ext c c' ∧ Inv F E w0 c' sd.m ∧ Answer F c' (.ret (oneOr l)) e) a'.defers (modeOf o) c'.w := by
        intro o ho
        have hdl := hs.ds
        rw [hds] at hdl
        match hdd : a'.defers, hdl with
        | [], hdl => simp [RDs] at hdl
        | d :: d2 :: dl, hdl => simp [RDs] at hdl
        | [d], hdl =>
          simp only [RDs] at hdl
          obtain ⟨⟨f', caps', capsV, dargsV, h1, h2, h3, h4⟩, _⟩ := hdl
          rw [hfn] at h1
          obtain ⟨rfl, rfl⟩ := Prod.mk.inj (Option.some.inj h1)
          subst h2
          refine leaves_cons (f := F.num dg) (args := (dargsV ++ capsV).toArray) (by cases o <;> simp [modeOf]) ?_ ?_
          · have := call_enters hokd2 (dargsV.toArray ++ capsV.toArray) c'.w
            simp only [invoke]
            simpa using this
          · refine callsD_of_wpS hfd hbd ?_
            intro c0 cs hu
            obtain ⟨u', hset, hrm⟩ := rec_mode o c0 cs hu
            refine denRec_sound hc hrm xd.body bodyd hcoded (c := c') (st := ⟨dargs ++ caps ++ List.replicate (xd.ntmps - (dargs ++ caps).length) (.tup []), st.m, []⟩) (a := { tmps := (dargsV ++ capsV).toArray ++ Array.replicate (fd.ntmps - (dargsV ++ capsV).toArray.size) undef, defers := [] }) ⟨hs.inv, by rw [hntd]; exact args_rs (Rs_append h4 h3) _, by simp [RDs]⟩ ho hrec ?_ ?_
            · rintro ⟨a0, w1, u0, c1, h5, h6, h7, h8⟩
              simp only [Answer] at h8
            · intro c2 a2 he2 hs2
              have hd0 : a2.defers = [] := by
                have := hs2.ds
                rw [hsd] at this
                cases hh : a2.defers with
                | nil => rfl
                | cons d dl => rw [hh] at this; simp [RDs] at this
              obtain ⟨vd, hv1, _⟩ := results_sound (l := []) hs2.inv hs2.ts (xs := xd.res) (fn := fd) hresd (by rw [hxr]; rfl)
              obtain ⟨v, hv2, hv3⟩ := results_sound hs2.inv (Rs_mono he2 _ _ hs.ts) hres' hres
              have hgoal : a2.defers = [] ∧ ∃ u'', ({ c0 with mode := u' } : Frame) :: cs = { c0 with mode := u'' } :: cs ∧ ∃ v, (results fd a2.tmps).run F.P c2.w = .ok v c2.w ∧ Leaves F.P fn a'.tmps (fun e w' => ∃ c', c'.w = w' ∧ Ext c c' ∧ Inv F E w0 c' sd.m ∧ Answer F c' (.ret (oneOr l)) e) [] (settle u'') c2.w := by
                refine ⟨hd0, u', rfl, vd, hv1, ?_⟩
                rw [hset]
                exact ⟨v, hv2, c2, rfl, he.trans he2, hs2.inv, hv3⟩
              rcases he1 with rfl | rfl
              · exact hgoal
              · exact hgoal
      cases e with
      | norm =>
        simp only [pvOf, Option.some.injEq] at hpv
        subst hpv
        exact main none (by simp only [R, RP, Option.getD_none])
      | ret =>
        simp only [pvOf, Option.some.injEq] at hpv
        subst hpv
        exact main none (by simp only [R, RP, Option.getD_none])
      | pan v =>
        simp only [pvOf, Option.some.injEq] at hpv
        subst hpv
        intro vv hR
        exact main (some vv) (by simpa using hR)
      | exit id => simp [pvOf] at hpv
    · cases hd
theorem body_soundX (hl : Link F E) {w0 : Base} {call : Caller} (hc : CallOk F E w0 call) {n g : Nat} {xf : XFunc} (hok : okFunc F g xf = true) {c : Cx} {m : Mem} (hi : Inv F E w0 c m) {args : List AV} {argsV : List Value} (ha : Rs F c args argsV) {out : Out} {m' : Mem}
    (hd : leaveX E call n xf (den E call n xf.body ⟨args ++ List.replicate (xf.ntmps - args.length) (.tup []), m, []⟩) = some (out, m')) :
    Calls F.P (F.num g) argsV.toArray c.w fun e w' => ∃ c', c'.w = w' ∧ Ext c c' ∧ Inv F E w0 c' m' ∧ Answer F c' out e := by
  unfold leaveX at hd
  cases hdf : xf.dfr with
  | false => rw [hdf] at hd; exact body_sound hc hok hi ha hd
  | true => rw [hdf] at hd; exact body_soundD hl hc hok hi ha hd

theorem denF_sound (hl : Link F E) : ∀ (n : Nat) (w0 : Base), CallOk F E w0 (denF E n)
  | 0, w0 => by intro f args m out m' h; simp [denF] at h
  | n + 1, w0 => by
    intro f args m out m' hd
    simp only [denF] at hd
    split at hd <;> try (cases hd; done)
    rename_i xf hxf
    have hok := hl.fn f xf hxf
    refine ⟨fun argsV w => call_enters hok argsV w, ?_, ?_⟩
    · intro xf' hxf' hp
      rw [hxf] at hxf'
      obtain rfl := Option.some.inj hxf'
      rw [if_pos hp] at hd
      split at hd <;> try (cases hd; done)
      rename_i args' hargs
      split at hd <;> try (cases hd; done)
      rename_i out1 m1 hlv
      split at hd <;> try (cases hd; done)
      rename_i out' hout
      simp only [Option.some.injEq, Prod.mk.injEq] at hd
      obtain ⟨rfl, rfl⟩ := hd
      refine ⟨rfl, fun m2 => ?_⟩
      simp only [denF, hxf, hp, if_true, hargs, hlv, hout]
    intro c argsV hi ha
    split at hd
    · -- a pure one
      split at hd <;> try (cases hd; done)
      rename_i args' hargs
      split at hd <;> try (cases hd; done)
      rename_i out1 m1 hlv
      split at hd <;> try (cases hd; done)
      rename_i out' hout
      simp only [Option.some.injEq, Prod.mk.injEq] at hd
      obtain ⟨rfl, rfl⟩ := hd
      let cc : Cx := { w := c.w, K := c.K, N := 0, ρ := c.ρ, tok := fun _ => none }
      have hkcc : Keeps c cc := fun b o h => ⟨h, rfl⟩
      have hicc : Inv F E ⟨c.w, c.K⟩ cc [] := by
        refine ⟨Below.refl _ _, rfl, hi.K, fun b _ => rfl, ?_, ?_, ?_, fun g => RPcells_mono hkcc _ _ _ (hi.gl g)⟩
        · intro i b hb; simp [ownB] at hb
        · intro i x hx; simp at hx
        · intro i j b hb; simp [ownB] at hb
      refine (body_soundX hl (denF_sound hl n ⟨c.w, c.K⟩) hok hicc (strips_sound hkcc hargs ha) hlv).mono ?_
      rintro e w' ⟨c1, rfl, he1, hi1, hans⟩
      let c' : Cx := { w := c1.w, K := fun b => if b < c.w.heap.size then c.K b else none, N := c.N, ρ := c.ρ, tok := c.tok }
      have hsame : ∀ b, b < c.w.heap.size → c1.w.heap[b]? = c.w.heap[b]? := fun b hb => hi1.below.block b hb
      have he : Ext c c' := by
        refine ⟨hi1.below.size, ?_, ?_, Nat.le_refl _, fun _ _ => rfl, fun t ht e' he' => ⟨e', he', .inl rfl⟩⟩
        · rintro b o ⟨h1, h2⟩
          refine ⟨⟨Nat.lt_of_lt_of_le h1 hi1.below.size, fun k hk => ?_⟩, ?_⟩
          · simp only [c', if_pos h1] at hk
            exact h2 k hk
          · simp only [c', World.cell?, hsame b h1]
        · intro b hb
          simp only [c', cinfo, hsame b hb]
      have hk1 : Keeps c1 c' := by
        rintro b o ⟨h1, h2⟩
        refine ⟨⟨h1, fun k hk => ?_⟩, rfl⟩
        simp only [c'] at hk
        split at hk
        · rename_i hb
          refine h2 k ?_
          rw [hi1.old b hb]
          exact hk
        · cases hk
      have hinv : Inv F E w0 c' m := by
        have hown : ∀ i, ownB c' m i = ownB c m i := fun i => rfl
        refine ⟨hi.below.trans ?_, hi.N, ?_, ?_, hi.low, ?_, hi.inj, fun g => RPcells_mono he.keeps _ _ _ (hi.gl g)⟩
        · exact hi1.below.mono hi.below.size
        · intro b k hk
          simp only [c'] at hk ⊢
          split at hk
          · have : c.w.heap.size ≤ c1.w.heap.size := hi1.below.size
            omega
          · cases hk
        · intro b hb
          have := hi.below.size
          simp only [c', if_pos (by omega : b < c.w.heap.size)]
          exact hi.old b hb
        · intro i x hx
          refine RB_mono he (hi.blk i x hx) rfl rfl ?_
          intro b hb
          have hb' : ownB c m i = some b := by
            unfold ownB
            rw [hx]
            cases x <;> first | exact hb | (simp at hb)
          obtain ⟨k, hk⟩ := ownB_K hi hb'
          have hlt := hi.K b k hk
          exact ⟨by simp only [c', if_pos hlt], hsame b hlt⟩
      refine ⟨c', rfl, he, hinv, ?_⟩
      cases out1 with
      | ret v =>
        simp only [stripOut] at hout
        split at hout <;> try (cases hout; done)
        rename_i v' hv'
        obtain rfl := Option.some.inj hout
        cases e <;> simp only [Answer] at hans
        exact stripR_sound hk1 hv' hans
      | pan v =>
        simp only [stripOut] at hout
        split at hout <;> try (cases hout; done)
        rename_i v' hv'
        obtain rfl := Option.some.inj hout
        cases e <;> simp only [Answer] at hans
        obtain ⟨vv, h1, h2⟩ := hans
        exact ⟨vv, h1, stripR_sound hk1 hv' h2⟩
    · refine (body_soundX hl (denF_sound hl n w0) hok hi ha hd).mono ?_
      rintro e w' ⟨c', h1, h2, h3, h4⟩
      refine ⟨c', h1, h2, h3, ?_⟩
      cases out <;> cases e <;> exact h4
end
end Hx
