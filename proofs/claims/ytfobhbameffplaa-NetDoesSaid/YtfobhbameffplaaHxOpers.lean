/-
  HxOpers: the operations of a region, one behind the other.
-/
import Derived.Test.YtfobhbameffplaaHxOp
import Derived.Deep.LoopGhost
namespace Hx
open Go Go.RowKit
set_option linter.unusedSimpArgs false
set_option linter.unusedVariables false

def opX : XOp → List X
  | .recover | .mkMap => []
  | .lookup _ _ _ _ x k => [x, k]
  | .mapSet _ x k v => [x, k, v]
  | .clearM x => [x]
  | .mov x | .eqNil _ x | .un _ x | .toInt _ x | .strId x | .toStr x | .toBytes _ x | .load _ _ x | .box x | .field _ _ _ x | .fieldAddr _ x | .mkIface _ x | .assertT _ _ x | .extract x _ | .lenS x | .len x | .nilCheck x | .panic x | .nilPtr _ x | .nilS _ x | .boxT _ _ x | .fview _ x | .cast _ _ _ x | .sliceData x | .convS x => [x]
  | .pick c a b | .idxByte _ c a b => [c, a, b]
  | .bin _ x y | .eqB _ x y | .eqA _ _ x y | .store _ x y | .indexStr x y | .indexArr _ _ _ x y | .addrArr _ _ x y | .addrRow _ x y | .max2 x y | .min2 x y | .append _ _ _ x y | .appendT _ _ _ x y | .noEsc _ x y | .eqPtr _ x y | .strOf _ x y | .mkRow _ _ _ _ x y => [x, y]
  | .alloc _ | .allocT _ _ | .lenC _ => []
  | .build _ ps | .rowLit _ _ _ _ ps | .rowVals _ _ _ ps => ps.map fun p => p.2.2
  | .cutStr x lo hi | .cutRow _ x lo hi | .cutArr _ _ x lo hi => [x] ++ lo.toList ++ hi.toList
  | .mkFn _ caps => caps
  | .call f xs | .dfr f xs => f :: xs
def tX : X → List Nat
  | .tmp t => [t]
  | _ => []
def xtmps (o : XOp) : List Nat := (opX o).flatMap tX
def XOper.looks (x : XOper) : List Nat := xtmps x.op ++ (match x.guard with | some (t, _) => [t] | none => [])
def isLoad : XOp → Bool
  | .load _ _ _ | .toStr _ | .cutArr _ _ _ _ _ | .lookup _ _ _ _ _ _ | .rowVals _ _ _ _ => true
  | _ => false
def indep (x y : XOper) : Bool :=
  (match x.dst with | some d => !(y.looks.contains d) && !(y.dst == some d) | none => true) &&
  (match y.dst with | some d => !(x.looks.contains d) | none => true) &&
  (x.cls == 0 || y.cls == 0) && (!(y.cls == 2) || !isLoad x.op) && (!(x.cls == 2) || !isLoad y.op) &&
  decide (x.cls ≤ 4) && decide (y.cls ≤ 4)
def edgesOf (o : Oper) : List Nat := (o.after.toList.filter (Region.binds .any)).map (·.on)
def okAnc (es : List (List Nat)) (anc : List (List Nat)) : Bool :=
  (List.range es.length).all fun i => ((es.getD i []).all fun j => decide (j < i)) && (anc.getD i []).all fun j => (es.getD i []).any fun k => k == j || (anc.getD k []).contains j
def okPairs (l : List XOper) (anc : List (List Nat)) : Bool :=
  (List.range l.length).all fun i => (List.range i).all fun j => (anc.getD i []).contains j || indep (l.getD j default) (l.getD i default)
def okDraw (F : Fix) (l : List XOper) (anc : List (List Nat)) (ops : Array Oper) : Bool :=
  F.P.follows .mixedOrders && okOpers F ops l ops.toList && okAnc (ops.toList.map edgesOf) anc && okPairs l anc

def okCode (F : Fix) : XCode → Code → Bool
  | .skip, .skip => true
  | .skip, .label _ => true
  | .ops l, .region _ ops false => okOpers F ops l ops.toList
  | .draw l anc, .region _ ops true => okDraw F l anc ops
  | .drawS l anc _, .region _ ops true => okDraw F l anc ops
  | .drawK l anc _, .region _ ops true => okDraw F l anc ops
  | .seq a b, .seq a' b' => okCode F a a' && okCode F b b'
  | .cond c t e, .cond c' t' e' => okX F c c' && okCode F t t' && okCode F e e'
  | .block id b, .block id' b' => decide (id = id') && okCode F b b'
  | .loop _ b, .loop b' => okCode F b b'
  | .exit id, .exit id' => decide (id = id')
  | .ret, .ret => true
  | .refuse, .refuse _ => true
  | _, _ => false

section
variable {F : Fix} {E : Env} {w0 : Base}

def RDs (F : Fix) (c : Cx) : List (AV × List AV) → List Deferred → Prop
  | [], [] => True
  | (fv, args) :: ds, d :: dl => (∃ f caps capsV argsV, fnOf fv = some (f, caps) ∧ d = { target := .fn (.func (F.num f)) (List.toArray capsV), args := List.toArray argsV } ∧ Rs F c caps capsV ∧ Rs F c args argsV) ∧ RDs F c ds dl
  | _, _ => False
theorem RDs_mono {c c' : Cx} (h : Ext c c') : ∀ {ds : List (AV × List AV)} {dl : List Deferred}, RDs F c ds dl → RDs F c' ds dl
  | [], [], _ => trivial
  | [], _ :: _, h' => by simp [RDs] at h'
  | (_, _) :: _, [], h' => by simp [RDs] at h'
  | (fv, args) :: ds, d :: dl, h' => by
    simp only [RDs] at h' ⊢
    obtain ⟨⟨f, caps, capsV, argsV, h1, h2, h3, h4⟩, h5⟩ := h'
    exact ⟨⟨f, caps, capsV, argsV, h1, h2, Rs_mono h _ _ h3, Rs_mono h _ _ h4⟩, RDs_mono h h5⟩

structure RSt (F : Fix) (E : Env) (w0 : Base) (c : Cx) (st : St) (a : Act) : Prop where
  inv : Inv F E w0 c st.m
  ts : Rs F c st.ts a.tmps.toList
  ds : RDs F c st.ds a.defers

theorem Rs_set {c : Cx} : ∀ {xs : List AV} {ys : List Value} (d : Nat) {v : AV} {y : Value}, Rs F c xs ys → R F c v y → Rs F c (xs.set d v) (ys.set d y)
  | [], ys, d, v, y, h, _ => by simp only [Rs] at h; subst h; simp [Rs]
  | x :: xs, ys, d, v, y, h, hv => by
    simp only [Rs] at h
    obtain ⟨z, r, rfl, h1, h2⟩ := h
    cases d with
    | zero => simp only [List.set_cons_zero, Rs]; exact ⟨y, r, rfl, hv, h2⟩
    | succ d => simp only [List.set_cons_succ, Rs]; exact ⟨z, _, rfl, h1, Rs_set d h2 hv⟩
theorem Rs_put {c : Cx} {ts : List AV} {a : Act} (h : Rs F c ts a.tmps.toList) (dst : Option Nat) {v : AV} {y : Value} (hv : R F c v y) : Rs F c (putT ts dst v) (a.put dst y).tmps.toList := by
  cases dst with
  | none => simpa [putT, Act.put] using h
  | some d => simpa [putT, Act.put] using Rs_set d h hv
theorem put_defers (a : Act) (dst : Option Nat) (y : Value) : (a.put dst y).defers = a.defers := by cases dst <;> rfl

theorem evs_of {c : Cx} {m : Mem} {ts : List AV} {a : Act} (h : Inv F E w0 c m) (ht : Rs F c ts a.tmps.toList) : Evs F c (evX E ts) a.eval := by
  intro x y hxy
  cases x with
  | tmp t =>
    cases y <;> simp [okX] at hxy
    subst hxy
    simp only [evX, Act.eval]
    cases hx : ts[t]? with
    | some v =>
      obtain ⟨z, h1, h2⟩ := Rs_get ht hx
      simp only [List.getD, hx, Array.getD_eq_getD_getElem?, Option.getD_some]
      rw [Array.getElem?_toList] at h1
      rw [h1]
      exact h2
    | none =>
      have hl := Rs_length ht
      have : a.tmps[t]? = none := by
        rw [Array.getElem?_eq_none_iff]
        rw [List.getElem?_eq_none_iff] at hx
        simp at hl; omega
      simp only [List.getD, hx, Array.getD_eq_getD_getElem?, this, Option.getD_none]
      simp only [R]
      exact ⟨[], rfl, by simp [Rs]⟩
  | con v =>
    cases y <;> simp [okX] at hxy
    simp only [evX, Act.eval, R]
    exact okV_sound _ _ hxy
  | glob g =>
    cases y <;> simp [okX] at hxy
    subst hxy
    simp only [evX, Act.eval, R]
    exact ⟨_, rfl, rfl, h.gl g⟩
  | fn f =>
    cases y <;> simp [okX] at hxy
    subst hxy
    simp [evX, Act.eval, R, RP]

theorem wants_sound {c : Cx} {ts : List AV} {a : Act} (ht : Rs F c ts a.tmps.toList) {ops : Array Oper} {x : XOper} {o : Oper} (hok : okOper F ops x o = true) {b : Bool} (h : wants ts x.guard = some b) :
    Region.wanted o (yielded ops a.tmps) = b := by
  simp only [okOper, Bool.and_eq_true] at hok
  obtain ⟨_, hg⟩ := hok
  unfold Region.wanted
  cases hx : x.guard with
  | none =>
    cases ho : o.guard with
    | none => rw [hx] at h; simp [wants] at h; simp [h]
    | some p => rw [hx, ho] at hg; cases hg
  | some p =>
    obtain ⟨t, want⟩ := p
    cases ho : o.guard with
    | none => rw [hx, ho] at hg; cases hg
    | some q =>
      obtain ⟨j, want'⟩ := q
      rw [hx, ho] at hg
      simp only [Bool.and_eq_true, beq_iff_eq, decide_eq_true_eq] at hg
      obtain ⟨rfl, hj⟩ := hg
      rw [hx] at h
      simp only [wants] at h
      split at h <;> try (cases h; done)
      · rename_i b' hb'
        obtain rfl := Option.some.inj h
        obtain ⟨z, h1, h2⟩ := Rs_get ht hb'
        have h2 := R_bool h2
        subst h2
        rw [Array.getElem?_toList] at h1
        simp [yielded, hj, h1]
      · rename_i hb'
        obtain rfl := Option.some.inj h
        obtain ⟨z, h1, h2⟩ := Rs_get ht hb'
        simp only [R, Rs] at h2
        obtain ⟨ys, rfl, rfl⟩ := h2
        rw [Array.getElem?_toList] at h1
        simp [yielded, hj, h1]

def CallOk (F : Fix) (E : Env) (w0 : Base) (call : Caller) : Prop :=
  ∀ f args m out m', call f args m = some (out, m') →
    (∀ argsV w, (callFunc (F.num f) argsV).run F.P w = .ok (.enter (F.num f) argsV) w) ∧
    (∀ xf, E.fn f = some xf → xf.pure = true → m' = m ∧ ∀ m2, call f args m2 = some (out, m2)) ∧
    ∀ c argsV, Inv F E w0 c m → Rs F c args argsV → Calls F.P (F.num f) argsV.toArray c.w fun e w' => ∃ c', c'.w = w' ∧ Ext c c' ∧ Inv F E w0 c' m' ∧
      match out, e with
      | .ret v, .returned vv => R F c' v vv
      | .pan v, .panicked chain => ∃ vv, chain = [{ v := vv, recovered := false }] ∧ R F c' v vv
      | _, _ => False

def Post (F : Fix) (E : Env) (w0 : Base) (Q : Exit → Act → World → Prop) (c : Cx) (e : Ex) (st' : St) : Prop :=
  ∀ c' a', Ext c c' → RSt F E w0 c' st' a' → match e with
    | .norm => Q .normal a' c'.w
    | .exit id => Q (.exit id) a' c'.w
    | .ret => Q .ret a' c'.w
    | .pan v => ∀ vv, R F c' v vv → Q (.panic [{ v := vv, recovered := false }]) a' c'.w

theorem fnOf_sound {c : Cx} {x : AV} {f : Nat} {caps : List AV} (h : fnOf x = some (f, caps)) {v : Value} (hv : R F c x v) : ∃ capsV : List Value, v = .func (.func (F.num f)) #[] capsV.toArray ∧ Rs F c caps capsV := by
  unfold fnOf at h
  split at h <;> try (cases h; done)
  · simp only [Option.some.injEq, Prod.mk.injEq] at h
    obtain ⟨rfl, rfl⟩ := h
    simp only [R, RP] at hv
    exact ⟨[], hv, by simp [Rs]⟩
  · simp only [Option.some.injEq, Prod.mk.injEq] at h
    obtain ⟨rfl, rfl⟩ := h
    simp only [R] at hv
    exact hv

theorem run_resolve {c : Cx} {ev : X → AV} {ρ : Operand → Value} (hev : Evs F c ev ρ) {f : X} {args : List X} {f' : Operand} {args' : Array Operand} {argTypes : Array TypeId} (hf : okX F f f' = true) (ha : okXs F args args'.toList = true) {g : Nat} {caps : List AV} (hg : fnOf (ev f) = some (g, caps)) (ty : TypeId) (w : World) :
    ∃ capsV argsV, Rs F c caps capsV ∧ Rs F c (args.map ev) argsV ∧ (resolve ρ { callee := .value f', args := args', argTypes } ty).run F.P w = .ok { target := .fn (.func (F.num g)) (List.toArray capsV), args := List.toArray argsV } w := by
  obtain ⟨capsV, h1, h2⟩ := fnOf_sound hg (hev _ _ hf)
  refine ⟨capsV, args'.toList.map ρ, h2, hev.list _ _ ha, ?_⟩
  have : Array.map ρ args' = (args'.toList.map ρ).toArray := Array.ext' (by simp)
  simp [resolve, h1, Deferred.ofValue, this]

theorem denLoad_move {N0 : Dr} {ev : X → AV} {m : Mem} {o : XOp} {r : AV × Mem} (h : denLoad N0 ev m o = some r) : denMove ev m o = some r := by
  unfold denLoad at h
  split at h <;> try (cases h; done)
  all_goals
    first
    | exact h
    | (split at h <;> try (cases h; done)
       split at h <;> try (cases h; done)
       exact h)
theorem denStore_move {N0 : Dr} {ev : X → AV} {m : Mem} {o : XOp} {r : AV × Mem} (h : denStore N0 ev m o = some r) : denMove ev m o = some r := by
  unfold denStore at h
  split at h <;> try (cases h; done)
  split at h <;> try (cases h; done)
  split at h <;> try (cases h; done)
  exact h
theorem op'_sound {c : Cx} {m : Mem} (h : Inv F E w0 c m) {ev : X → AV} {ρ : Operand → Value} (hev : Evs F c ev ρ) (hρ : ∀ v, ρ (.const v) = v) {d : Option Dr} (x : XOper) (go : Oper) (hok : okOp F x.op go.op = true) {r : AV} {m' : Mem} (hd : denOp' d ev m x = some (r, m')) : Moved F E w0 c ρ go r m' := by
  unfold denOp' at hd
  split at hd
  · exact op_sound h hev hρ x.op go hok hd
  · split at hd
    · split at hd
      · rename_i v hv
        refine op_sound h hev hρ x.op go hok ?_
        unfold denOp
        rw [hv]
        exact hd
      · exact move_sound h hev x.op go hok (denLoad_move hd)
    · split at hd
      · split at hd <;> try (cases hd; done)
        exact move_sound h hev x.op go hok hd
      · split at hd
        · exact move_sound h hev x.op go hok (denStore_move hd)
        · split at hd <;> try (cases hd; done)
          exact op_sound h hev hρ x.op go hok hd

theorem oper_sound {call : Caller} (hc : CallOk F E w0 call) {Q : Exit → Act → World → Prop} {ops : Array Oper} {x : XOper} {i : Nat} {o : Oper} (ho : ops[i]? = some o) (hok : okOper F ops x o = true) {rest : List Nat} {c : Cx} {st : St} {a : Act} (hs : RSt F E w0 c st a)
    {e : Ex} {st' : St} {d : Option Dr} (hd : denOper E call d x st = some (e, st'))
    (hnext : ∀ c' a', Ext c c' → RSt F E w0 c' st' a' → match e with
      | .norm => wpOps F.P ops Q rest a' c'.w
      | .exit id => Q (.exit id) a' c'.w
      | .ret => Q .ret a' c'.w
      | .pan v => ∀ vv, R F c' v vv → Q (.panic [{ v := vv, recovered := false }]) a' c'.w) : wpOps F.P ops Q (i :: rest) a c.w := by
  simp only [wpOps, ho]
  have hok' := hok
  simp only [okOper, Bool.and_eq_true, decide_eq_true_eq] at hok'
  obtain ⟨⟨hdst, hop⟩, _⟩ := hok'
  have hev := evs_of hs.inv hs.ts
  unfold denOper at hd
  split at hd <;> try (cases hd; done)
  · rename_i hw
    rw [wants_sound hs.ts hok hw]
    simp only [Bool.false_eq_true, if_false]
    simp only [Option.some.injEq, Prod.mk.injEq] at hd
    obtain ⟨rfl, rfl⟩ := hd
    refine hnext c _ (Ext.refl c) ⟨hs.inv, ?_, by rw [put_defers]; exact hs.ds⟩
    rw [← hdst]
    exact Rs_put hs.ts _ (by simp only [R]; exact ⟨[], rfl, by simp [Rs]⟩)
  · rename_i hw
    rw [wants_sound hs.ts hok hw]
    simp only [if_true]
    refine .inl ?_
    unfold Oper.wp
    split at hd
    · -- call
      rename_i f args hx
      split at hd <;> try (cases hd; done)
      rename_i g caps hg
      cases hpure : okPure E d x.cls g <;> rw [hpure] at hd <;> simp only [Bool.cond_true, Bool.cond_false] at hd <;> try (cases hd; done)
      rw [hx] at hop
      have hexec : ∃ f' args' argTypes, o.op = .call { callee := .value f', args := args', argTypes } ∧ okX F f f' = true ∧ okXs F args args'.toList = true := by
        revert hop
        cases o.op with
        | call cl =>
          rcases cl with ⟨callee, args', argTypes⟩
          cases callee with
          | value f' => intro hop; simp only [okOp, Bool.and_eq_true] at hop; exact ⟨f', args', argTypes, rfl, hop.1, hop.2⟩
          | _ => intro hop; simp [okOp] at hop
        | _ => intro hop; simp [okOp] at hop
      obtain ⟨f', args', argTypes, hoo, hf, ha⟩ := hexec
      obtain ⟨capsV, argsV, h1, h2, h3⟩ := run_resolve (argTypes := argTypes) hev hf ha hg o.type c.w
      have hRs : Rs F c (args.map (evX E st.ts) ++ caps) (argsV ++ capsV) := Rs_append h2 h1
      split at hd <;> try (cases hd; done)
      · rename_i v m1 hcall
        cases hkb : keptB d x.cls st.m m1 <;> rw [hkb] at hd <;> simp only [Bool.cond_true, Bool.cond_false] at hd <;> try (cases hd; done)
        simp only [Option.some.injEq, Prod.mk.injEq] at hd
        obtain ⟨rfl, rfl⟩ := hd
        obtain ⟨k1, _, k2⟩ := hc _ _ _ _ _ hcall
        have hrun : (execOp a.eval o).run F.P c.w = .ok (.enter (F.num g) (argsV ++ capsV).toArray) c.w := by
          unfold execOp
          rw [hoo]
          simp only [Sem.run_bind, h3, Result.andThen_ok, invoke, k1]
          simp
        rw [hrun, Oper.upon_enter]
        refine (k2 c (argsV ++ capsV) hs.inv hRs).mono ?_
        rintro e w' ⟨c', rfl, he, hi, hm⟩
        cases e with
        | returned vv =>
          simp only at hm ⊢
          refine hnext c' _ he ⟨hi, ?_, by rw [put_defers]; exact RDs_mono he hs.ds⟩
          rw [← hdst]
          exact Rs_put (Rs_mono he _ _ hs.ts) _ hm
        | panicked chain => simp only at hm
        | outgrown => simp only at hm
      · rename_i v m1 hcall
        cases hds : d.isSome <;> rw [hds] at hd <;> simp only [Bool.cond_true, Bool.cond_false] at hd <;> try (cases hd; done)
        simp only [Option.some.injEq, Prod.mk.injEq] at hd
        obtain ⟨rfl, rfl⟩ := hd
        obtain ⟨k1, _, k2⟩ := hc _ _ _ _ _ hcall
        have hrun : (execOp a.eval o).run F.P c.w = .ok (.enter (F.num g) (argsV ++ capsV).toArray) c.w := by
          unfold execOp
          rw [hoo]
          simp only [Sem.run_bind, h3, Result.andThen_ok, invoke, k1]
          simp
        rw [hrun, Oper.upon_enter]
        refine (k2 c (argsV ++ capsV) hs.inv hRs).mono ?_
        rintro e w' ⟨c', rfl, he, hi, hm⟩
        cases e with
        | returned vv => simp only at hm
        | panicked chain =>
          simp only at hm ⊢
          obtain ⟨vv, rfl, hR⟩ := hm
          exact hnext c' a he ⟨hi, Rs_mono he _ _ hs.ts, RDs_mono he hs.ds⟩ vv hR
        | outgrown => simp only at hm
    · -- panic
      rename_i y hx
      rw [hx] at hop
      cases hds : d.isSome <;> rw [hds] at hd <;> simp only [Bool.cond_true, Bool.cond_false] at hd <;> try (cases hd; done)
      cases y <;> try (cases hop2 : o.op <;> simp [okOp, hop2] at hop; done)
      rename_i t0
      generalize hy0 : X.tmp t0 = y at *
      have hiface : ∀ v : Value, (∃ t z, v = .iface t z) → (∀ y' : Operand, okX F y y' = true → a.eval y' = v) → (execOp a.eval o).run F.P c.w = .halt (.panic v) c.w := by
        rintro v ⟨t, z, rfl⟩ hv
        revert hop
        unfold execOp
        cases o.op with
        | panic y' =>
          intro hop
          subst hy0
          simp only [okOp] at hop
          simp [hv y' hop, Instr.panic]
        | call cl =>
          rcases cl with ⟨callee, args', argTypes⟩
          cases callee with
          | builtin b =>
            cases b with
            | panic =>
              intro hop
              subst hy0
              simp only [okOp] at hop
              split at hop <;> try (cases hop; done)
              rename_i y' hargs
              have hargs' : args' = #[y'] := by apply Array.ext'; simpa using hargs
              subst hargs'
              simp [resolve, invoke, builtin, hv y' hop, Instr.panic]
            | _ => intro hop; subst hy0; simp [okOp] at hop
          | _ => intro hop; subst hy0; simp [okOp] at hop
        | _ => intro hop; subst hy0; simp [okOp] at hop
      have hyy : ∃ y', okX F y y' = true := by
        revert hop
        cases o.op with
        | panic y' => intro hop; subst hy0; simp only [okOp] at hop; exact ⟨y', hop⟩
        | call cl =>
          rcases cl with ⟨callee, args', argTypes⟩
          cases callee with
          | builtin b =>
            cases b with
            | panic =>
              intro hop
              subst hy0
              simp only [okOp] at hop
              split at hop <;> try (cases hop; done)
              exact ⟨_, hop⟩
            | _ => intro hop; subst hy0; simp [okOp] at hop
          | _ => intro hop; subst hy0; simp [okOp] at hop
        | _ => intro hop; subst hy0; simp [okOp] at hop
      obtain ⟨y', hy'⟩ := hyy
      have hR := hev _ _ hy'
      have hsame : ∀ y'' : Operand, okX F y y'' = true → a.eval y'' = a.eval y' := by
        intro y'' h''
        subst hy0
        cases y' <;> simp [okX] at hy'; cases y'' <;> simp [okX] at h''; rw [← hy', ← h'']
      split at hd <;> try (cases hd; done)
      · rename_i t v hv
        simp only [Option.some.injEq, Prod.mk.injEq] at hd
        obtain ⟨rfl, rfl⟩ := hd
        rw [hv] at hR
        have hR' := hR
        simp only [R, RP] at hR'
        obtain ⟨z, hz, _⟩ := hR'
        rw [hiface (a.eval y') ⟨_, z, hz⟩ hsame, Oper.upon_panic]
        exact hnext c a (Ext.refl c) hs _ hR
      · rename_i t v hv
        simp only [Option.some.injEq, Prod.mk.injEq] at hd
        obtain ⟨rfl, rfl⟩ := hd
        rw [hv] at hR
        have hR' := hR
        simp only [R] at hR'
        obtain ⟨z, hz, _⟩ := hR'
        rw [hiface (a.eval y') ⟨_, z, hz⟩ hsame, Oper.upon_panic]
        exact hnext c a (Ext.refl c) hs _ hR
    · -- defer
      rename_i f args hx
      cases hds : d.isSome <;> rw [hds] at hd <;> simp only [Bool.cond_true, Bool.cond_false] at hd <;> try (cases hd; done)
      split at hd <;> try (cases hd; done)
      rename_i p hg
      obtain ⟨g, caps⟩ := p
      simp only [Option.some.injEq, Prod.mk.injEq] at hd
      obtain ⟨rfl, rfl⟩ := hd
      rw [hx] at hop
      have hexec : ∃ f' args' argTypes, o.op = .defer { callee := .value f', args := args', argTypes } ∧ okX F f f' = true ∧ okXs F args args'.toList = true := by
        revert hop
        cases o.op with
        | defer cl =>
          rcases cl with ⟨callee, args', argTypes⟩
          cases callee with
          | value f' => intro hop; simp only [okOp, Bool.and_eq_true] at hop; exact ⟨f', args', argTypes, rfl, hop.1, hop.2⟩
          | _ => intro hop; simp [okOp] at hop
        | _ => intro hop; simp [okOp] at hop
      obtain ⟨f', args', argTypes, hoo, hf, ha⟩ := hexec
      obtain ⟨capsV, argsV, h1, h2, h3⟩ := run_resolve (argTypes := argTypes) hev hf ha hg o.type c.w
      have hrun : (execOp a.eval o).run F.P c.w = .ok (.defer { target := .fn (.func (F.num g)) (List.toArray capsV), args := List.toArray argsV }) c.w := by
        unfold execOp
        rw [hoo]
        simp only [Sem.run_bind, h3, Result.andThen_ok, Sem.run_pure]
      rw [hrun, Oper.upon_defer]
      refine hnext c _ (Ext.refl c) ⟨hs.inv, ?_, ?_⟩
      · rw [← hdst]
        exact Rs_put (a := { a with defers := _ :: a.defers }) hs.ts _ (by simp only [R]; exact ⟨[], rfl, by simp [Rs]⟩)
      · rw [put_defers]
        simp only [RDs]
        exact ⟨⟨g, caps, capsV, argsV, hg, rfl, h1, h2⟩, hs.ds⟩
    · -- the others
      split at hd <;> try (cases hd; done)
      rename_i v m1 hdo
      simp only [Option.some.injEq, Prod.mk.injEq] at hd
      obtain ⟨rfl, rfl⟩ := hd
      obtain ⟨c', y, nx, k1, k2, k3, k4, k5⟩ := op'_sound hs.inv hev (fun _ => rfl) x o hop hdo
      rw [k1]
      rcases k2 with rfl | ⟨rfl, rfl⟩
      · rw [Oper.upon_value]
        refine hnext c' _ k3 ⟨k4, ?_, by rw [put_defers]; exact RDs_mono k3 hs.ds⟩
        rw [← hdst]
        exact Rs_put (Rs_mono k3 _ _ hs.ts) _ k5
      · rw [Oper.upon_skip]
        refine hnext c' _ k3 ⟨k4, ?_, by rw [put_defers]; exact RDs_mono k3 hs.ds⟩
        rw [← hdst]
        exact Rs_put (Rs_mono k3 _ _ hs.ts) _ k5
end
end Hx

namespace Hx
open Go Go.RowKit
set_option linter.unusedSimpArgs false
set_option linter.unusedVariables false

section
variable {F : Fix} {E : Env} {w0 : Base}

theorem okOpers_get {ops : Array Oper} : ∀ {xs : List XOper} {os : List Oper}, okOpers F ops xs os = true → xs.length = os.length ∧ ∀ (i : Nat) (x : XOper) (o : Oper), xs[i]? = some x → os[i]? = some o → okOper F ops x o = true
  | [], [], _ => ⟨rfl, by simp⟩
  | [], _ :: _, h => by simp [okOpers] at h
  | _ :: _, [], h => by simp [okOpers] at h
  | x :: xs, o :: os, h => by
    simp only [okOpers, Bool.and_eq_true] at h
    obtain ⟨h1, h2⟩ := okOpers_get h.2
    refine ⟨by simp [h1], ?_⟩
    intro i x' o' hx ho
    cases i with
    | zero => simp at hx ho; subst hx ho; exact h.1
    | succ i => exact h2 i x' o' (by simpa using hx) (by simpa using ho)

theorem opers_sound {call : Caller} (hc : CallOk F E w0 call) {Q : Exit → Act → World → Prop} {ops : Array Oper} : ∀ (xs : List XOper) (is : List Nat) (hl : xs.length = is.length)
    (hok : ∀ (k : Nat) (x : XOper) (i : Nat), xs[k]? = some x → is[k]? = some i → ∃ o, ops[i]? = some o ∧ okOper F ops x o = true) {c : Cx} {st : St} {a : Act} (hs : RSt F E w0 c st a) {e : Ex} {st' : St} {d : Option Dr} (hd : denOpers E call d xs st = some (e, st')) (hQ : Post F E w0 Q c e st'), wpOps F.P ops Q is a c.w
  | [], [], _, _, c, st, a, hs, e, st', d, hd, hQ => by
    simp only [denOpers, Option.some.injEq, Prod.mk.injEq] at hd
    obtain ⟨rfl, rfl⟩ := hd
    simp only [wpOps]
    exact hQ c a (Ext.refl c) hs
  | [], _ :: _, hl, _, _, _, _, _, _, _, _, _, _ => by simp at hl
  | _ :: _, [], hl, _, _, _, _, _, _, _, _, _, _ => by simp at hl
  | x :: xs, i :: is, hl, hok, c, st, a, hs, e, st', d, hd, hQ => by
    obtain ⟨o, ho, hoo⟩ := hok 0 x i (by simp) (by simp)
    simp only [denOpers] at hd
    cases hx : denOper E call d x st with
    | none => rw [hx] at hd; cases hd
    | some r =>
      obtain ⟨e1, st1⟩ := r
      rw [hx] at hd
      cases e1 with
      | norm =>
        simp only at hd
        refine oper_sound hc ho hoo hs hx ?_
        intro c' a' he hs'
        refine opers_sound hc xs is (by simpa using hl) (fun k y j hy hj => hok (k + 1) y j (by simpa using hy) (by simpa using hj)) hs' hd ?_
        intro c'' a'' he' hs''
        exact hQ c'' a'' (he.trans he') hs''
      | exit id =>
        simp only [Option.some.injEq, Prod.mk.injEq] at hd
        obtain ⟨rfl, rfl⟩ := hd
        exact oper_sound hc ho hoo hs hx (fun c' a' he hs' => hQ c' a' he hs')
      | ret =>
        simp only [Option.some.injEq, Prod.mk.injEq] at hd
        obtain ⟨rfl, rfl⟩ := hd
        exact oper_sound hc ho hoo hs hx (fun c' a' he hs' => hQ c' a' he hs')
      | pan v =>
        simp only [Option.some.injEq, Prod.mk.injEq] at hd
        obtain ⟨rfl, rfl⟩ := hd
        exact oper_sound hc ho hoo hs hx (fun c' a' he hs' => hQ c' a' he hs')

end
end Hx
