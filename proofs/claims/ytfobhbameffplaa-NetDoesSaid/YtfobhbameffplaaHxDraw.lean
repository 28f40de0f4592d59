/-
  HxDraw: a region whose order is open: whatever order its edges allow, it comes to the same.
-/
import Derived.Test.YtfobhbameffplaaHxOpers
namespace Hx
open Go Go.RowKit
set_option linter.unusedSimpArgs false
set_option linter.unusedVariables false

section
variable {E : Env} {call : Caller}


theorem fillParts_congr {ev ev' : X → AV} : ∀ (ps : List (Nat × Nat × X)) (cs : List AV), (∀ x ∈ ps.map (fun p => p.2.2), ev x = ev' x) → fillParts ev cs ps = fillParts ev' cs ps
  | [], cs, _ => by simp [fillParts]
  | (off, size, x) :: ps, cs, h => by
    simp only [fillParts, h x (by simp)]
    split
    · split
      · exact fillParts_congr ps _ (fun y hy => h y (by simp at hy ⊢; exact .inr hy))
      · rfl
    · rfl
theorem map_congr_o {ev ev' : X → AV} (lo : Option X) (h : ∀ x ∈ lo.toList, ev x = ev' x) : lo.map ev = lo.map ev' := by
  cases lo with
  | none => rfl
  | some x => simp [h x (by simp)]
theorem denStill_congr {ev ev' : X → AV} (o : XOp) (h : ∀ x ∈ opX o, ev x = ev' x) : denStill ev o = denStill ev' o := by
  cases o <;> simp only [opX, List.mem_cons, List.not_mem_nil, or_false, forall_eq_or_imp, forall_eq] at h <;> (try simp only [denStill]) <;> (try simp only [h])
  case build zero ps => rw [fillParts_congr ps _ (by simpa using h)]
  case cutStr x lo hi =>
    have h1 := h x (by simp)
    rw [h1, map_congr_o lo (fun y hy => h y (by simp at hy ⊢; exact .inr (.inl hy))), map_congr_o hi (fun y hy => h y (by simp at hy ⊢; exact .inr (.inr hy)))]
  case cutRow n x lo hi =>
    have h1 := h x (by simp)
    rw [h1, map_congr_o lo (fun y hy => h y (by simp at hy ⊢; exact .inr (.inl hy))), map_congr_o hi (fun y hy => h y (by simp at hy ⊢; exact .inr (.inr hy)))]
  case mkFn f caps =>
    have : caps.map ev = caps.map ev' := List.map_congr_left h
    rw [this]
theorem denMove_congr {ev ev' : X → AV} (m : Mem) (o : XOp) (h : ∀ x ∈ opX o, ev x = ev' x) : denMove ev m o = denMove ev' m o := by
  cases o <;> simp only [opX, List.mem_cons, List.not_mem_nil, or_false, forall_eq_or_imp, forall_eq] at h <;> (try simp only [denMove]) <;> (try simp only [h])
  case rowLit own n len zero ps => rw [fillParts_congr ps _ (by simpa using h)]
  case rowVals n len zero ps => rw [fillParts_congr ps _ (by simpa using h)]
  case cutArr len n x lo hi =>
    have h1 := h x (by simp)
    rw [h1, map_congr_o lo (fun y hy => h y (by simp at hy ⊢; exact .inr (.inl hy))), map_congr_o hi (fun y hy => h y (by simp at hy ⊢; exact .inr (.inr hy)))]
  case append own n bytes x y => cases own <;> simp only [denMove, h]
theorem denLoad_congr {N0 : Dr} {ev ev' : X → AV} (m : Mem) (o : XOp) (h : ∀ x ∈ opX o, ev x = ev' x) : denLoad N0 ev m o = denLoad N0 ev' m o := by
  unfold denLoad
  cases o <;> try rfl
  all_goals
    have hm := denMove_congr m _ h
    simp only [hm]
    first
    | rw [h _ (by simp [opX])]
    | skip
theorem denStore_congr {N0 : Dr} {ev ev' : X → AV} (m : Mem) (o : XOp) (h : ∀ x ∈ opX o, ev x = ev' x) : denStore N0 ev m o = denStore N0 ev' m o := by
  unfold denStore
  cases o <;> try rfl
  all_goals
    have hm := denMove_congr m _ h
    simp only [hm]
    first
    | rw [h _ (by simp [opX])]
    | skip
theorem denOp'_congr {d : Option Dr} {ev ev' : X → AV} (m : Mem) (o : XOper) (h : ∀ x ∈ opX o.op, ev x = ev' x) : denOp' d ev m o = denOp' d ev' m o := by
  unfold denOp' denOp
  rw [denStill_congr o.op h, denMove_congr m o.op h]
  cases d with
  | none => rfl
  | some N0 => simp only [denLoad_congr m o.op h, denStore_congr m o.op h]

def eff (E : Env) (call : Caller) (N0 : Dr) (o : XOper) (ts : List AV) (m : Mem) : Option (AV × Mem) :=
  match wants ts o.guard with
  | none => none
  | some false => some (.tup [], m)
  | some true =>
    match o.op with
    | .call f args => match fnOf (evX E ts f) with
      | none => none
      | some (g, caps) => bif okPure E (some N0) o.cls g then (match call g (args.map (evX E ts) ++ caps) m with
        | some (.ret v, m') => bif keptB (some N0) o.cls m m' then some (v, m') else none
        | _ => none) else none
    | .panic _ => none
    | .dfr _ _ => none
    | _ => denOp' (some N0) (evX E ts) m o

theorem denOper_eff (N0 : Dr) (o : XOper) (st : St) : denOper E call (some N0) o st = (eff E call N0 o st.ts st.m).map fun p => (.norm, { st with ts := putT st.ts o.dst p.1, m := p.2 }) := by
  unfold denOper eff
  cases wants st.ts o.guard with
  | none => rfl
  | some b =>
    cases b with
    | false => rfl
    | true =>
      simp only
      cases o.op <;> simp only [Option.isSome_some, Bool.cond_true, Option.map_none]
      case call f args =>
        cases fnOf (evX E st.ts f) with
        | none => rfl
        | some p =>
          obtain ⟨g, caps⟩ := p
          simp only
          cases okPure E (some N0) o.cls g with
          | false => rfl
          | true =>
            simp only [Bool.cond_true]
            cases call g (args.map (evX E st.ts) ++ caps) st.m with
            | none => rfl
            | some r =>
              obtain ⟨out, m'⟩ := r
              cases out
              · simp only
                cases keptB (some N0) o.cls st.m m' <;> rfl
              · rfl
      all_goals
        cases denOp' (some N0) (evX E st.ts) st.m o with
        | none => rfl
        | some r => rfl

def Agree (ts ts' : List AV) (l : List Nat) : Prop := ∀ t ∈ l, ts[t]? = ts'[t]?
theorem evX_agree {ts ts' : List AV} {x : X} (h : Agree ts ts' (tX x)) : evX E ts x = evX E ts' x := by
  cases x with
  | tmp t => simp only [evX, List.getD]; rw [h t (by simp [tX])]
  | _ => rfl
theorem evX_agrees {ts ts' : List AV} {o : XOp} (h : Agree ts ts' (xtmps o)) : ∀ x ∈ opX o, evX E ts x = evX E ts' x :=
  fun x hx => evX_agree fun t ht => h t (List.mem_flatMap.mpr ⟨x, hx, ht⟩)
theorem wants_agree {ts ts' : List AV} {g : Option (Nat × Bool)} (h : Agree ts ts' (match g with | some (t, _) => [t] | none => [])) : wants ts g = wants ts' g := by
  cases g with
  | none => rfl
  | some p =>
    obtain ⟨t, w⟩ := p
    simp only [wants]
    rw [h t (by simp)]
theorem eff_agree {N0 : Dr} {o : XOper} {ts ts' : List AV} {m : Mem} (h : Agree ts ts' o.looks) : eff E call N0 o ts m = eff E call N0 o ts' m := by
  have h1 : Agree ts ts' (xtmps o.op) := fun t ht => h t (by simp only [XOper.looks, List.mem_append]; exact .inl ht)
  have h2 : wants ts o.guard = wants ts' o.guard := wants_agree fun t ht => h t (by simp only [XOper.looks, List.mem_append]; exact .inr ht)
  have h3 := evX_agrees (E := E) h1
  unfold eff
  rw [h2]
  cases wants ts' o.guard with
  | none => rfl
  | some b =>
    cases b with
    | false => rfl
    | true =>
      simp only
      cases ho : o.op <;> simp only
      case call f args =>
        rw [ho] at h3
        simp only [opX] at h3
        rw [h3 f (by simp)]
        have : args.map (evX E ts) = args.map (evX E ts') := List.map_congr_left fun x hx => h3 x (by simp [hx])
        rw [this]
      all_goals exact denOp'_congr m o (by rw [ho] at h3 ⊢; exact h3)
theorem agree_put {ts : List AV} {dst : Option Nat} {v : AV} {l : List Nat} (h : ∀ d, dst = some d → d ∉ l) : Agree (putT ts dst v) ts l := by
  intro t ht
  cases dst with
  | none => rfl
  | some d =>
    simp only [putT]
    refine List.getElem?_set_ne (fun e => h d rfl ?_)
    rw [e]; exact ht
theorem put_put {ts : List AV} {d d' : Option Nat} {v v' : AV} (h : ∀ x, d = some x → d' ≠ some x) : putT (putT ts d v) d' v' = putT (putT ts d' v') d v := by
  cases d with
  | none => rfl
  | some x =>
    cases d' with
    | none => rfl
    | some y =>
      simp only [putT]
      exact List.set_comm _ _ (fun e => h x rfl (by rw [e]))


def Blk.still : Blk → Bool
  | .cells _ | .map _ => true
  | _ => false
def SameCells (N0 : Dr) (m m' : Mem) : Prop := ∀ id, N0.ok id = true → ∀ b : Blk, b.still = true → (m[id]? = some b ↔ m'[id]? = some b)

theorem denLoad_same {N0 : Dr} {ev : X → AV} {m m' : Mem} {o : XOp} {v : AV} {m1 : Mem} (h : denLoad N0 ev m o = some (v, m1)) : m1 = m ∧ (SameCells N0 m m' → denLoad N0 ev m' o = some (v, m')) := by
  have key : ∀ (id : Nat), N0.ok id = true → ∀ cs, m[id]? = some (.cells cs) → SameCells N0 m m' → m'[id]? = some (.cells cs) := fun id hid cs hm hs => (hs id hid _ rfl).mp hm
  unfold denLoad at h ⊢
  cases o <;> simp only at h <;> try (cases h; done)
  case load n agg x =>
    split at h <;> try (cases h; done)
    rename_i id off hx
    split at h <;> try (cases h; done)
    rename_i hid
    simp only [denMove, hx] at h
    split at h <;> try (cases h; done)
    rename_i cs hm
    have hk := key id hid cs hm
    split at h <;> try (cases h; done)
    rename_i hc
    split at h <;> try (cases h; done)
    rename_i v' hv
    simp only [Option.some.injEq, Prod.mk.injEq] at h
    obtain ⟨rfl, rfl⟩ := h
    refine ⟨rfl, fun hs => ?_⟩
    simp only [hx, hid, if_true, denMove, hk hs, hv]
    rw [if_pos hc]
  case toStr x =>
    split at h <;> try (cases h; done)
    rename_i n id off len hx
    split at h <;> try (cases h; done)
    rename_i hid
    simp only [denMove, hx, rowsOf] at h
    split at h <;> try (cases h; done)
    rename_i rows hr
    split at hr <;> try (cases hr; done)
    rename_i hn
    split at hr <;> try (cases hr; done)
    rename_i cs hm
    have hk := key id hid cs hm
    split at h <;> try (cases h; done)
    rename_i s hs'
    simp only [Option.some.injEq, Prod.mk.injEq] at h
    obtain ⟨rfl, rfl⟩ := h
    refine ⟨rfl, fun hs => ?_⟩
    simp only [hx, hid, if_true, denMove, rowsOf, hk hs, if_pos hn, hr, hs']
  case cutArr len n x lo hi =>
    split at h <;> try (cases h; done)
    rename_i id off hx
    split at h <;> try (cases h; done)
    rename_i hid
    simp only [denMove, hx] at h
    split at h <;> try (cases h; done)
    rename_i cs hm
    have hk := key id hid cs hm
    split at h <;> try (cases h; done)
    rename_i hc
    split at h <;> try (cases h; done)
    rename_i l hh hb
    simp only [Option.some.injEq, Prod.mk.injEq] at h
    obtain ⟨rfl, rfl⟩ := h
    refine ⟨rfl, fun hs => ?_⟩
    simp only [hx, hid, if_true, denMove, hk hs, hb]
    rw [if_pos hc]
  case lookup ok e zero agg x k =>
    split at h <;> try (cases h; done)
    rename_i id hx
    split at h <;> try (cases h; done)
    rename_i hid
    have hents : m1 = m ∧ (entsOf m (.map id) = entsOf m' (.map id) → denMove ev m' (.lookup ok e zero agg x k) = some (v, m')) := by
      simp only [denMove, hx] at h ⊢
      split at h <;> try (cases h; done)
      rename_i kp es hk he
      split at h <;> try (cases h; done)
      rename_i hko
      split at h <;> try (cases h; done)
      · rename_i hf
        simp only [Option.some.injEq, Prod.mk.injEq] at h
        obtain ⟨rfl, rfl⟩ := h
        refine ⟨rfl, fun hq => ?_⟩
        rw [← hq]
        simp only [hk, he, hko, if_true, hf]
      · rename_i hf
        split at h <;> try (cases h; done)
        rename_i z hz
        simp only [Option.some.injEq, Prod.mk.injEq] at h
        obtain ⟨rfl, rfl⟩ := h
        refine ⟨rfl, fun hq => ?_⟩
        rw [← hq]
        simp only [hk, he, hko, if_true, hf, hz]
    refine ⟨hents.1, fun hs => ?_⟩
    simp only [hx, hid, if_true]
    refine hents.2 ?_
    cases hm : m[id]? with
    | none =>
      simp only [entsOf, hm]
      cases hm' : m'[id]? with
      | none => rfl
      | some b =>
        cases b <;> try rfl
        rw [(hs id hid _ rfl).mpr hm'] at hm; cases hm
    | some b =>
      cases b with
      | map es => simp only [entsOf, hm, (hs id hid _ rfl).mp hm]
      | _ =>
        simp only [entsOf, hm]
        cases hm' : m'[id]? with
        | none => rfl
        | some b =>
          cases b <;> try rfl
          rw [(hs id hid _ rfl).mpr hm'] at hm; cases hm
  case rowVals n len zero ps =>
    simp only [denMove] at h ⊢
    split at h <;> try (cases h; done)
    rename_i cs hcs
    split at h <;> try (cases h; done)
    rename_i hc
    split at h <;> try (cases h; done)
    rename_i qs hq
    simp only [Option.some.injEq, Prod.mk.injEq] at h
    obtain ⟨rfl, rfl⟩ := h
    refine ⟨rfl, fun _ => ?_⟩
    rw [if_pos hc]

theorem denLoad_isLoad {N0 : Dr} {ev : X → AV} {m : Mem} {o : XOp} (h : isLoad o = false) : denLoad N0 ev m o = none := by
  cases o <;> simp [isLoad] at h <;> rfl

def PureOk (E : Env) (call : Caller) : Prop := ∀ f args m out m', call f args m = some (out, m') → ∀ xf, E.fn f = some xf → xf.pure = true → m' = m ∧ ∀ m2, call f args m2 = some (out, m2)

theorem eff_float {N0 : Dr} (hp : PureOk E call) {o : XOper} (hc : o.cls = 0) {ts : List AV} {m m' : Mem} {v : AV} {m1 : Mem} (h : eff E call N0 o ts m = some (v, m1)) : m1 = m ∧ (SameCells N0 m m' ∨ isLoad o.op = false → eff E call N0 o ts m' = some (v, m')) := by
  unfold eff at h ⊢
  cases hw : wants ts o.guard with
  | none => rw [hw] at h; cases h
  | some b =>
    rw [hw] at h
    cases b with
    | false =>
      simp only [Option.some.injEq, Prod.mk.injEq] at h ⊢
      obtain ⟨rfl, rfl⟩ := h
      exact ⟨rfl, fun _ => by simp⟩
    | true =>
      simp only at h ⊢
      have key : denOp' (some N0) (evX E ts) m o = some (v, m1) → m1 = m ∧ (SameCells N0 m m' ∨ isLoad o.op = false → denOp' (some N0) (evX E ts) m' o = some (v, m')) := by
        intro h
        simp only [denOp', if_pos hc] at h ⊢
        cases hs : denStill (evX E ts) o.op with
        | some r =>
          rw [hs] at h
          simp only [Option.some.injEq, Prod.mk.injEq] at h ⊢
          obtain ⟨rfl, rfl⟩ := h
          exact ⟨rfl, fun _ => by simp⟩
        | none =>
          rw [hs] at h
          simp only at h ⊢
          have h2 := denLoad_same (m' := m') h
          refine ⟨h2.1, fun hq => ?_⟩
          rcases hq with hq | hq
          · exact h2.2 hq
          · rw [denLoad_isLoad hq] at h; cases h
      cases ho : o.op <;> rw [ho] at h <;> simp only at h ⊢ <;> try (cases h; done)
      case call f args =>
        split at h <;> try (cases h; done)
        rename_i g caps hg
        cases hq : okPure E (some N0) o.cls g <;> rw [hq] at h <;> simp only [Bool.cond_true, Bool.cond_false] at h <;> try (cases h; done)
        split at h <;> try (cases h; done)
        rename_i v' m1' hcall
        have hk0 : ∀ a b, keptB (some N0) o.cls a b = true := by intro a b; simp [keptB, hc]
        rw [hk0] at h
        simp only [Bool.cond_true, Option.some.injEq, Prod.mk.injEq] at h
        obtain ⟨rfl, rfl⟩ := h
        have hq0 := hq
        simp only [okPure, hc] at hq
        cases hf : E.fn g with
        | none => simp [hf] at hq
        | some xf =>
          simp [hf] at hq
          obtain ⟨e1, e2⟩ := hp _ _ _ _ _ hcall xf hf hq
          refine ⟨e1, fun _ => ?_⟩
          simp only [hg, hq0, Bool.cond_true, e2, hk0]
      all_goals
        rw [ho] at key
        exact key h

theorem ok_lt {D : Dr} {id : Nat} (h : D.ok id = true) : id < D.n := by
  unfold Dr.ok at h
  simp only [Bool.and_eq_true, decide_eq_true_eq] at h
  exact h.1
theorem adds_cells {N0 : Dr} {ev : X → AV} {m m' : Mem} {o : XOp} {v : AV} (ha : adds o = true) (hN : N0.n ≤ m.length) (h : denMove ev m o = some (v, m')) : SameCells N0 m m' := by
  have happ : ∀ b, SameCells N0 m (m ++ [b]) := by
    intro b id hid cs _
    have := ok_lt hid
    rw [List.getElem?_append_left (by omega)]
  cases o <;> simp [adds] at ha <;> simp only [denMove] at h
  case toBytes own x =>
    split at h <;> try (cases h; done)
    split at h
    · simp only [Option.some.injEq, Prod.mk.injEq] at h; obtain ⟨_, rfl⟩ := h; exact happ _
    · simp only [newTok, Option.some.injEq, Prod.mk.injEq] at h; obtain ⟨_, rfl⟩ := h; exact happ _
  case alloc zero =>
    split at h <;> try (cases h; done)
    simp only [Option.some.injEq, Prod.mk.injEq] at h; obtain ⟨_, rfl⟩ := h; exact happ _
  case box x =>
    split at h <;> try (cases h; done)
    split at h <;> try (cases h; done)
    simp only [Option.some.injEq, Prod.mk.injEq] at h; obtain ⟨_, rfl⟩ := h; exact happ _
  case rowLit own n len zero ps =>
    split at h <;> try (cases h; done)
    split at h <;> try (cases h; done)
    split at h
    · simp only [Option.some.injEq, Prod.mk.injEq] at h; obtain ⟨_, rfl⟩ := h; exact happ _
    · split at h <;> try (cases h; done)
      simp only [newTok, Option.some.injEq, Prod.mk.injEq] at h; obtain ⟨_, rfl⟩ := h; exact happ _
  case mkRow own n bytes zero l c =>
    split at h <;> try (cases h; done)
    split at h <;> try (cases h; done)
    split at h
    · simp only [Option.some.injEq, Prod.mk.injEq] at h; obtain ⟨_, rfl⟩ := h; exact happ _
    · simp only [newTok, Option.some.injEq, Prod.mk.injEq] at h; obtain ⟨_, rfl⟩ := h; exact happ _
  case append own n bytes x y =>
    cases own <;> simp only [denMove] at h <;> try (cases h; done)
    split at h <;> try (cases h; done)
    split at h <;> try (cases h; done)
    · split at h <;> try (cases h; done)
      split at h
      · simp only [Option.some.injEq, Prod.mk.injEq] at h; obtain ⟨_, rfl⟩ := h; exact fun _ _ _ _ => Iff.rfl
      · simp only [newTok, Option.some.injEq, Prod.mk.injEq] at h; obtain ⟨_, rfl⟩ := h; exact happ _
    · split at h <;> try (cases h; done)
      rename_i tok hxe _ n'' len hm
      split at h <;> try (cases h; done)
      simp only [Option.some.injEq, Prod.mk.injEq] at h
      obtain ⟨_, rfl⟩ := h
      intro id hid cs hst
      by_cases ht : tok = id
      · subst ht
        rw [hm]
        have := ok_lt hid
        have : tok < m.length := by omega
        rw [List.getElem?_set_self this]
        cases cs <;> simp [Blk.still] at hst ⊢
      · rw [List.getElem?_set_ne ht]

theorem store_cells {N0 : Dr} {ev : X → AV} {m m' : Mem} {o : XOp} {v : AV} (h : denStore N0 ev m o = some (v, m')) : SameCells N0 m m' := by
  unfold denStore at h
  split at h <;> try (cases h; done)
  rename_i n x w
  split at h <;> try (cases h; done)
  rename_i id off hx
  split at h <;> try (cases h; done)
  rename_i hS
  simp only [denMove, hx] at h
  split at h <;> try (cases h; done)
  rename_i id2 off2 vs e1 e2
  obtain ⟨rfl, rfl⟩ := AV.ptr.inj e1
  split at h <;> try (cases h; done)
  split at h <;> try (cases h; done)
  simp only [Option.some.injEq, Prod.mk.injEq] at h
  obtain ⟨_, rfl⟩ := h
  intro id' hid cs _
  have hne : id ≠ id' := by
    rintro rfl
    simp [Dr.ok, hS] at hid
    exact absurd (by simpa using hS) hid.2
  rw [List.getElem?_set_ne hne]
mutual
theorem beqPV_eq : ∀ {x y : PV}, beqPV x y = true → x = y
  | .bool a, y, h => by cases y <;> simp_all [beqPV]
  | .int k a, y, h => by cases y <;> simp_all [beqPV]
  | .str a, y, h => by cases y <;> simp_all [beqPV]
  | .agg xs, y, h => by
    cases y <;> simp only [beqPV] at h <;> try (cases h; done)
    rw [beqPVs_eq h]
  | .vals n r, y, h => by
    cases y <;> simp only [beqPV, Bool.and_eq_true, beq_iff_eq] at h <;> try (cases h; done)
    rw [h.1, beqRows_eq h.2]
  | .nils, y, h => by cases y <;> simp_all [beqPV]
  | .nilp, y, h => by cases y <;> simp_all [beqPV]
  | .nilm, y, h => by cases y <;> simp_all [beqPV]
  | .nilf, y, h => by cases y <;> simp_all [beqPV]
  | .nili, y, h => by cases y <;> simp_all [beqPV]
  | .fn f, y, h => by cases y <;> simp_all [beqPV]
  | .iface t x, y, h => by
    cases y <;> simp only [beqPV, Bool.and_eq_true, beq_iff_eq] at h <;> try (cases h; done)
    rw [h.1, beqPV_eq h.2]
theorem beqPVs_eq : ∀ {x y : List PV}, beqPVs x y = true → x = y
  | [], y, h => by cases y <;> simp_all [beqPVs]
  | x :: xs, y, h => by
    cases y <;> simp only [beqPVs, Bool.and_eq_true] at h <;> try (cases h; done)
    rw [beqPV_eq h.1, beqPVs_eq h.2]
theorem beqRows_eq : ∀ {x y : List (List PV)}, beqRows x y = true → x = y
  | [], y, h => by cases y <;> simp_all [beqRows]
  | x :: xs, y, h => by
    cases y <;> simp only [beqRows, Bool.and_eq_true] at h <;> try (cases h; done)
    rw [beqPVs_eq h.1, beqRows_eq h.2]
end
theorem allP_eq : ∀ {a : List AV} {x : List PV}, allP a = some x → a = x.map .p
  | [], x, h => by simp only [allP, Option.some.injEq] at h; subst h; rfl
  | v :: a, x, h => by
    cases v <;> simp only [allP] at h <;> try (cases h; done)
    split at h <;> try (cases h; done)
    rename_i l hl
    obtain rfl := Option.some.inj h
    rw [allP_eq hl]; rfl
theorem sameB_eq {a b : Option Blk} (h : sameB a b = true) : a = b := by
  unfold sameB at h
  split at h <;> try (cases h; done)
  split at h <;> try (cases h; done)
  rename_i x y hx hy
  rw [allP_eq hx, allP_eq hy, beqPVs_eq h]
theorem kept_cells {N0 : Dr} {m m' : Mem} (h : kept N0 m m' = true) : SameCells N0 m m' := by
  intro id hid b _
  unfold kept at h
  rw [List.all_eq_true] at h
  have := h id (List.mem_range.2 (ok_lt hid))
  simp only [hid, Bool.not_true, Bool.false_or] at this
  rw [sameB_eq this]
theorem eff_adds {N0 : Dr} (hp : PureOk E call) {o : XOper} (hc : o.cls = 1 ∨ o.cls = 3 ∨ o.cls = 4) {ts : List AV} {m m' : Mem} {v : AV} (h : eff E call N0 o ts m = some (v, m')) : SameCells N0 m m' := by
  have hrefl : SameCells N0 m m := fun _ _ _ _ => Iff.rfl
  unfold eff at h
  cases hw : wants ts o.guard with
  | none => rw [hw] at h; cases h
  | some b =>
    rw [hw] at h
    cases b with
    | false =>
      simp only [Option.some.injEq, Prod.mk.injEq] at h
      obtain ⟨_, rfl⟩ := h
      exact hrefl
    | true =>
      simp only at h
      have key : denOp' (some N0) (evX E ts) m o = some (v, m') → SameCells N0 m m' := by
        intro h
        rcases hc with hc | hc | hc
        · simp only [denOp', hc] at h
          simp only [Nat.one_ne_zero, if_false, if_true] at h
          split at h <;> try (cases h; done)
          rename_i hq
          exact adds_cells hq.1 hq.2 h
        · simp only [denOp', hc] at h
          exact store_cells (by simpa using h)
        · simp [denOp', hc] at h
      cases ho : o.op <;> rw [ho] at h <;> simp only at h <;> try (cases h; done)
      case call f args =>
        split at h <;> try (cases h; done)
        rename_i g caps hg
        cases hq : okPure E (some N0) o.cls g <;> rw [hq] at h <;> simp only [Bool.cond_true, Bool.cond_false] at h <;> try (cases h; done)
        split at h <;> try (cases h; done)
        rename_i v' m1 hcall
        cases hkb : keptB (some N0) o.cls m m1 <;> rw [hkb] at h <;> simp only [Bool.cond_true, Bool.cond_false] at h <;> try (cases h; done)
        simp only [Option.some.injEq, Prod.mk.injEq] at h
        obtain ⟨_, rfl⟩ := h
        rcases hc with hc | hc | hc <;> simp only [okPure, hc] at hq
        · cases hf : E.fn g with
          | none => simp [hf] at hq
          | some xf =>
            simp [hf] at hq
            rw [(hp _ _ _ _ _ hcall xf hf hq).1]
            exact hrefl
        · simp at hq
        · exact kept_cells (by simpa [keptB, hc] using hkb)
      all_goals exact key h

theorem swap {N0 : Dr} (hp : PureOk E call) {x y : XOper} (hi : indep x y = true) {ts : List AV} {m m1 m2 : Mem} {v u : AV} (hx : eff E call N0 x ts m = some (v, m1)) (hy : eff E call N0 y (putT ts x.dst v) m1 = some (u, m2)) :
    ∃ my, eff E call N0 y ts m = some (u, my) ∧ eff E call N0 x (putT ts y.dst u) my = some (v, m2) ∧ putT (putT ts y.dst u) x.dst v = putT (putT ts x.dst v) y.dst u := by
  simp only [indep, Bool.and_eq_true, decide_eq_true_eq] at hi
  obtain ⟨⟨⟨⟨⟨⟨h1, h2⟩, h3⟩, h4⟩, h5⟩, h6⟩, h7⟩ := hi
  have hxy : ∀ d, x.dst = some d → d ∉ y.looks ∧ y.dst ≠ some d := by
    intro d hd
    rw [hd] at h1
    simp at h1
    exact h1
  have hyx : ∀ d, y.dst = some d → d ∉ x.looks := by
    intro d hd
    rw [hd] at h2
    simp at h2
    exact h2
  have a1 : eff E call N0 y (putT ts x.dst v) m1 = eff E call N0 y ts m1 := eff_agree (agree_put fun d hd => (hxy d hd).1)
  have a2 : ∀ mm, eff E call N0 x (putT ts y.dst u) mm = eff E call N0 x ts mm := fun mm => eff_agree (agree_put hyx)
  rw [a1] at hy
  have hput : putT (putT ts y.dst u) x.dst v = putT (putT ts x.dst v) y.dst u := (put_put fun d hd => (hxy d hd).2).symm
  by_cases hx0 : x.cls = 0
  · obtain ⟨rfl, hx2⟩ := eff_float hp (m' := m2) hx0 hx
    refine ⟨m2, hy, ?_, hput⟩
    rw [a2]
    refine hx2 ?_
    rcases Nat.lt_or_ge y.cls 1 with hy0 | hy0
    · obtain ⟨e, _⟩ := eff_float hp (m' := m2) (by omega : y.cls = 0) hy
      rw [e]
      exact .inl fun _ _ _ _ => Iff.rfl
    · by_cases hy1 : y.cls = 2
      · simp [hy1] at h4
        exact .inr h4
      · exact .inl (eff_adds hp (by omega) hy)
  · have hy0 : y.cls = 0 := by
      simp only [Bool.or_eq_true, beq_iff_eq] at h3
      rcases h3 with h | h
      · exact absurd h hx0
      · exact h
    obtain ⟨e, _⟩ := eff_float hp (m' := m) hy0 hy
    subst e
    have hym : eff E call N0 y ts m = some (u, m) := by
      refine (eff_float hp (m' := m) hy0 hy).2 ?_
      by_cases hx1 : x.cls = 2
      · simp [hx1] at h5
        exact .inr h5
      · have := eff_adds hp (by omega) hx
        exact .inl fun id hid b hb => (this id hid b hb).symm
    exact ⟨m, hym, by rw [a2]; exact hx, hput⟩

theorem denOpers_swap {N0 : Dr} (hp : PureOk E call) {x y : XOper} (hi : indep x y = true) (B : List XOper) {st : St} {r : Ex × St} (h : denOpers E call (some N0) (x :: y :: B) st = some r) : denOpers E call (some N0) (y :: x :: B) st = some r := by
  simp only [denOpers, denOper_eff] at h ⊢
  cases hx : eff E call N0 x st.ts st.m with
  | none => rw [hx] at h; cases h
  | some p =>
    obtain ⟨v, m1⟩ := p
    rw [hx] at h
    simp only [Option.map_some] at h
    cases hy : eff E call N0 y (putT st.ts x.dst v) m1 with
    | none => rw [hy] at h; cases h
    | some q =>
      obtain ⟨u, m2⟩ := q
      rw [hy] at h
      simp only [Option.map_some] at h
      obtain ⟨my, k1, k2, k3⟩ := swap hp hi hx hy
      rw [k1]
      simp only [Option.map_some, k2, k3]
      exact h

theorem denOpers_front {N0 : Dr} (hp : PureOk E call) (i : XOper) : ∀ (A B : List XOper), (∀ j ∈ A, indep j i = true) → ∀ {st : St} {r : Ex × St}, denOpers E call (some N0) (A ++ i :: B) st = some r → denOpers E call (some N0) (i :: (A ++ B)) st = some r
  | [], B, _, st, r, h => h
  | a :: A, B, hA, st, r, h => by
    have ih : ∀ {st : St} {r : Ex × St}, denOpers E call (some N0) (A ++ i :: B) st = some r → denOpers E call (some N0) (i :: (A ++ B)) st = some r := denOpers_front hp i A B (fun j hj => hA j (by simp [hj]))
    refine denOpers_swap hp (hA a (by simp)) (A ++ B) ?_
    simp only [List.cons_append] at h
    rw [denOpers] at h
    rw [denOpers]
    cases hx : denOper E call (some N0) a st with
    | none => rw [hx] at h; cases h
    | some p =>
      obtain ⟨e, s⟩ := p
      rw [hx] at h
      cases e with
      | norm => simp only at h ⊢; exact ih h
      | _ => exact h

theorem denOpers_norm {N0 : Dr} : ∀ (L : List XOper) {st st' : St} {e : Ex}, denOpers E call (some N0) L st = some (e, st') → e = .norm
  | [], st, st', e, h => by simp only [denOpers, Option.some.injEq, Prod.mk.injEq] at h; exact h.1.symm
  | x :: L, st, st', e, h => by
    simp only [denOpers, denOper_eff] at h
    cases hx : eff E call N0 x st.ts st.m with
    | none => rw [hx] at h; cases h
    | some p => rw [hx] at h; simp only [Option.map_some] at h; exact denOpers_norm L h


inductive Lin (anc : List (List Nat)) : List Nat → List Nat → Prop
  | nil : Lin anc [] []
  | cons {A B is : List Nat} {i : Nat} : (∀ j ∈ A, (anc.getD i []).contains j = false) → Lin anc (A ++ B) is → Lin anc (A ++ i :: B) (i :: is)

theorem lin_denOpers {N0 : Dr} (hp : PureOk E call) {l : List XOper} {anc : List (List Nat)} (hok : okPairs l anc = true) : ∀ {L is : List Nat}, Lin anc L is → L.Pairwise (· < ·) → (∀ i ∈ L, i < l.length) → ∀ {st st' : St},
    denOpers E call (some N0) (L.map fun i => l.getD i default) st = some (.norm, st') → denOpers E call (some N0) (is.map fun i => l.getD i default) st = some (.norm, st') := by
  intro L is h
  induction h with
  | nil => intro _ _ st st' h; exact h
  | @cons A B is i hA hlin ih =>
    intro hpw hlt st st' hd
    have hAi : ∀ j ∈ A, j < i := fun j hj => (List.pairwise_append.mp hpw).2.2 j hj i (by simp)
    rw [List.map_append, List.map_cons] at hd
    have hind : ∀ x ∈ A.map (fun i => l.getD i default), indep x (l.getD i default) = true := by
      intro x hx
      simp only [List.mem_map] at hx
      obtain ⟨j, hj, rfl⟩ := hx
      have hil : i < l.length := hlt i (by simp)
      simp only [okPairs, List.all_eq_true, List.mem_range, Bool.or_eq_true] at hok
      have := hok i hil j (hAi j hj)
      rcases this with h | h
      · rw [hA j hj] at h; cases h
      · exact h
    have hd2 := denOpers_front hp (l.getD i default) _ _ hind hd
    rw [List.map_cons]
    rw [denOpers] at hd2 ⊢
    cases hx : denOper E call (some N0) (l.getD i default) st with
    | none => rw [hx] at hd2; cases hd2
    | some p =>
      obtain ⟨e, s⟩ := p
      rw [hx] at hd2
      cases e with
      | norm =>
        simp only at hd2 ⊢
        refine ih ?_ ?_ ?_
        · have := List.pairwise_append.mp hpw
          rw [List.pairwise_append]
          refine ⟨this.1, (List.pairwise_cons.mp this.2.1).2, fun a ha b hb => this.2.2 a ha b (by simp [hb])⟩
        · intro k hk
          refine hlt k ?_
          simp only [List.mem_append, List.mem_cons] at hk ⊢
          rcases hk with hk | hk
          · exact .inl hk
          · exact .inr (.inr hk)
        · rw [List.map_append]; exact hd2
      | _ => exact hd2

def unlisted (n : Nat) (listed : Array Bool) : List Nat := (List.range n).filter fun i => !listed.getD i true

theorem getD_set (listed : Array Bool) (i k : Nat) (d : Bool) : (listed.setIfInBounds i true).getD k d = if i = k ∧ k < listed.size then true else listed.getD k d := by
  simp only [Array.getD_eq_getD_getElem?, Array.getElem?_setIfInBounds]
  by_cases h : i = k
  · subst h
    by_cases h2 : i < listed.size
    · simp [h2]
    · simp [h2]
  · simp [h]

theorem anc_listed {ops : Array Oper} {anc : List (List Nat)} (hok : okAnc (ops.toList.map edgesOf) anc = true) {listed : Array Bool} (hdown : ∀ i, i < ops.size → listed.getD i true = true → ∀ k ∈ edgesOf (ops.getD i default), listed.getD k false = true) :
    ∀ (i : Nat), i < ops.size → (∀ k ∈ edgesOf (ops.getD i default), listed.getD k false = true) → ∀ j ∈ anc.getD i [], listed.getD j false = true := by
  intro i
  induction i using Nat.strongRecOn with
  | _ i ih =>
    intro hi hpre j hj
    simp only [okAnc, List.length_map, Array.length_toList, List.all_eq_true, List.mem_range, Bool.and_eq_true, decide_eq_true_eq] at hok
    obtain ⟨h1, h2⟩ := hok i hi
    have hes : (ops.toList.map edgesOf).getD i [] = edgesOf (ops.getD i default) := by
      simp [List.getD, Array.getD, hi]
    rw [hes] at h1 h2
    have := h2 j hj
    simp only [List.any_eq_true, Bool.or_eq_true, beq_iff_eq] at this
    obtain ⟨k, hk, hk2⟩ := this
    have hkl := hpre k hk
    rcases hk2 with rfl | hk2
    · exact hkl
    · have hki := h1 k hk
      have hkt : listed.getD k true = true := by
        have hks : k < listed.size := by
          rcases Nat.lt_or_ge k listed.size with h | h
          · exact h
          · rw [Array.getD_eq_getD_getElem?, Array.getElem?_eq_none h] at hkl; simp at hkl
        simp only [Array.getD, hks, dif_pos] at hkl ⊢
        exact hkl
      exact ih k hki (by omega) (hdown k (by omega) hkt) j (by simpa using hk2)

theorem go_lin {ops : Array Oper} {anc : List (List Nat)} (hok : okAnc (ops.toList.map edgesOf) anc = true) : ∀ (fuel t : Nat) (listed : Array Bool), listed.size = ops.size → (unlisted ops.size listed).length ≤ fuel →
    (∀ i, i < ops.size → listed.getD i true = true → ∀ k ∈ edgesOf (ops.getD i default), listed.getD k false = true) → Lin anc (unlisted ops.size listed) (Region.linearise.go .any ops fuel t listed []) := by
  intro fuel
  induction fuel with
  | zero =>
    intro t listed hsz hf hdown
    have : unlisted ops.size listed = [] := List.eq_nil_of_length_eq_zero (by omega)
    rw [this]
    simp only [Region.linearise.go, List.reverse_nil]
    exact .nil
  | succ fuel ih =>
    intro t listed hsz hf hdown
    have hready : ∀ i, i ∈ Region.ready .any ops listed ↔ i ∈ unlisted ops.size listed ∧ ∀ k ∈ edgesOf (ops.getD i default), listed.getD k false = true := by
      intro i
      simp only [Region.ready, unlisted, List.mem_filter, List.mem_range, Bool.and_eq_true]
      constructor
      · rintro ⟨h1, h2, h3⟩
        refine ⟨⟨h1, h2⟩, ?_⟩
        intro k hk
        simp only [Array.getElem?_eq_getElem h1, Option.map_some, Option.getD_some, Array.all_eq_true_iff_forall_mem] at h3
        simp only [edgesOf, Array.getD, h1, dif_pos, List.mem_map, List.mem_filter] at hk
        obtain ⟨e, ⟨he1, he2⟩, rfl⟩ := hk
        have := h3 e (by simpa using he1)
        simp only [Array.getInternal_eq_getElem] at *
        simpa [he2] using this
      · rintro ⟨⟨h1, h2⟩, h3⟩
        refine ⟨h1, h2, ?_⟩
        simp only [Array.getElem?_eq_getElem h1, Option.map_some, Option.getD_some, Array.all_eq_true_iff_forall_mem]
        intro e he
        cases hb : Region.binds .any e with
        | false => simp
        | true =>
          have := h3 e.on (by
            simp only [edgesOf, Array.getD, h1, dif_pos, List.mem_map, List.mem_filter]
            exact ⟨e, ⟨by simpa using he, hb⟩, rfl⟩)
          simp [this]
    simp only [Region.linearise.go]
    change Lin anc _ (match (Region.ready .any ops listed)[t % (Region.ready .any ops listed).length]? with
      | some i => Region.linearise.go .any ops fuel (t / (Region.ready .any ops listed).length) (listed.setIfInBounds i true) [i]
      | none => [].reverse)
    cases hi : (Region.ready .any ops listed)[t % (Region.ready .any ops listed).length]? with
    | none =>
      have hnil : Region.ready .any ops listed = [] := by
        cases hr : Region.ready .any ops listed with
        | nil => rfl
        | cons x xs =>
          rw [hr] at hi
          have hlt : t % (x :: xs).length < (x :: xs).length := Nat.mod_lt _ (by simp)
          rw [List.getElem?_eq_none_iff] at hi
          omega
      have hun : unlisted ops.size listed = [] := by
        cases hu : unlisted ops.size listed with
        | nil => rfl
        | cons x xs =>
          exfalso
          have hx : x ∈ Region.ready .any ops listed := by
            rw [hready]
            refine ⟨by rw [hu]; simp, ?_⟩
            intro k hk
            have hxm : x ∈ unlisted ops.size listed := by rw [hu]; simp
            simp only [unlisted, List.mem_filter, List.mem_range] at hxm
            simp only [okAnc, List.length_map, Array.length_toList, List.all_eq_true, List.mem_range, Bool.and_eq_true, decide_eq_true_eq] at hok
            have hkx := (hok x hxm.1).1 k (by
              simp [List.getD, Array.getD, hxm.1] at hk ⊢
              exact hk)
            cases hkl : listed.getD k true with
            | true =>
              have hks : k < listed.size := by omega
              simp only [Array.getD, hks, dif_pos] at hkl ⊢
              exact hkl
            | false =>
              exfalso
              have hkm : k ∈ unlisted ops.size listed := by
                simp only [unlisted, List.mem_filter, List.mem_range]
                exact ⟨by omega, by simp [hkl]⟩
              have hpw : (unlisted ops.size listed).Pairwise (· < ·) := List.Pairwise.filter _ List.pairwise_lt_range
              rw [hu] at hkm hpw
              simp only [List.mem_cons] at hkm
              rcases hkm with rfl | hkm
              · omega
              · have := (List.pairwise_cons.mp hpw).1 k hkm
                omega
          rw [hnil] at hx
          cases hx
      rw [hun]
      exact .nil
    | some i =>
      simp only []
      rw [linearise_go_acc, List.reverse_singleton, List.singleton_append]
      have him : i ∈ Region.ready .any ops listed := List.mem_of_getElem? hi
      rw [hready] at him
      obtain ⟨hiu, hie⟩ := him
      obtain ⟨A, B, hAB⟩ := List.append_of_mem hiu
      have hpw : (unlisted ops.size listed).Pairwise (· < ·) := List.Pairwise.filter _ List.pairwise_lt_range
      have hiu' := hiu
      simp only [unlisted, List.mem_filter, List.mem_range] at hiu'
      have hnew : unlisted ops.size (listed.setIfInBounds i true) = A ++ B := by
        have h1 : unlisted ops.size (listed.setIfInBounds i true) = (unlisted ops.size listed).filter fun k => decide (k ≠ i) := by
          simp only [unlisted, List.filter_filter]
          apply List.filter_congr
          intro k hk
          have hks : k < listed.size := by rw [hsz]; simpa using hk
          by_cases hki : k = i
          · subst hki; simp [Array.getD, hks]
          · rw [getD_set, if_neg (fun e => hki e.1.symm)]; simp [hki]
        rw [h1, hAB]
        rw [hAB] at hpw
        have hp := List.pairwise_append.mp hpw
        have hc := List.pairwise_cons.mp hp.2.1
        rw [List.filter_append, List.filter_cons]
        simp only [ne_eq, not_true_eq_false, decide_false, Bool.false_eq_true, if_false]
        rw [List.filter_eq_self.mpr, List.filter_eq_self.mpr]
        · intro b hb; have := hc.1 b hb; simp; omega
        · intro a ha; have := hp.2.2 a ha i (by simp); simp; omega
      rw [hAB]
      refine .cons ?_ ?_
      · intro j hj
        have hjm : j ∈ unlisted ops.size listed := by rw [hAB]; simp [hj]
        simp only [unlisted, List.mem_filter, List.mem_range] at hjm
        cases hcn : (anc.getD i []).contains j with
        | false => rfl
        | true =>
          exfalso
          have := anc_listed hok hdown i hiu'.1 hie j (by simpa using hcn)
          have hjs : j < listed.size := by omega
          have h1 : listed.getD j true = true := by
            simp only [Array.getD, hjs, dif_pos] at this ⊢
            exact this
          rw [h1] at hjm
          simp at hjm
      · have hlen := congrArg List.length hAB
        rw [← hnew]
        refine ih _ _ (by simpa using hsz) ?_ ?_
        · rw [hnew]
          simp at hlen ⊢
          omega
        · intro j hj hjl k hk
          have hks' : ∀ k, listed.getD k false = true → (listed.setIfInBounds i true).getD k false = true := by
            intro k h
            have hks : k < listed.size := by
              rcases Nat.lt_or_ge k listed.size with h' | h'
              · exact h'
              · rw [Array.getD_eq_getD_getElem?, Array.getElem?_eq_none h'] at h; simp at h
            rw [getD_set]
            by_cases hik : i = k ∧ k < listed.size
            · rw [if_pos hik]
            · rw [if_neg hik]; exact h
          by_cases hji : j = i
          · subst hji
            exact hks' k (hie k hk)
          · refine hks' k (hdown j hj ?_ k hk)
            rw [getD_set, if_neg (fun e => hji e.1.symm)] at hjl
            exact hjl
end

section
variable {F : Fix} {E : Env} {w0 : Base}
theorem draw_sound {call : Caller} {D : Dr} (hc : CallOk F E w0 call) {Q : Exit → Act → World → Prop} {ops : Array Oper} {l : List XOper} {anc : List (List Nat)} (hok : okDraw F l anc ops = true) {id : Nat} {c : Cx} {st : St} {a : Act} (hs : RSt F E w0 c st a) {e : Ex} {st' : St} (hd : denOpers E call (some D) l st = some (e, st')) (hQ : Post F E w0 Q c e st') : (Code.region id ops true).wp F.P Q a c.w := by
  obtain rfl := denOpers_norm l hd
  simp only [okDraw, Bool.and_eq_true] at hok
  obtain ⟨⟨⟨hm, ho⟩, ha⟩, hp⟩ := hok
  obtain ⟨h1, h2⟩ := okOpers_get ho
  simp only [Array.length_toList] at h1
  have hpure : PureOk E call := fun f args m out m' h xf hx hxp => (hc f args m out m' h).2.1 xf hx hxp
  refine wp_region_draw fun t => ?_
  simp only [Region.schedule, hm, Bool.true_or, if_true]
  have hlin : Lin anc (List.range ops.size) (Region.linearise .any ops t) := by
    have hun : unlisted ops.size (Array.replicate ops.size false) = List.range ops.size := by
      simp only [unlisted]
      apply List.filter_eq_self.mpr
      intro i hi
      have : i < ops.size := by simpa using hi
      simp [Array.getD, this]
    have := go_lin ha ops.size t (Array.replicate ops.size false) (by simp) (by rw [hun]; simp) (by
      intro i hi h
      simp [Array.getD, hi] at h)
    rw [hun] at this
    exact this
  have hcan : (List.range ops.size).map (fun i => l.getD i default) = l := by
    rw [← h1]
    apply List.ext_getElem
    · simp
    · intro i hi1 hi2
      simp [List.getD, hi2]
  have hd2 := lin_denOpers hpure hp hlin List.pairwise_lt_range (by intro i hi; rw [h1]; simpa using hi) (by rw [hcan]; exact hd)
  have hmem : ∀ {L is : List Nat}, Lin anc L is → ∀ i ∈ is, i ∈ L := by
    intro L is h
    induction h with
    | nil => intro i hi; exact hi
    | cons hA hl ih =>
      intro i hi
      simp only [List.mem_cons] at hi
      rcases hi with rfl | hi
      · simp
      · have := ih i hi
        simp only [List.mem_append, List.mem_cons] at this ⊢
        rcases this with h | h
        · exact .inl h
        · exact .inr (.inr h)
  have hw : RSt F E w0 { c with w := { c.w with drawn := c.w.drawn + 1 } } st a := by
    have he : Ext c { c with w := { c.w with drawn := c.w.drawn + 1 } } := ⟨Nat.le_refl _, fun b o h => ⟨h, rfl⟩, fun _ _ => rfl, Nat.le_refl _, fun _ _ => rfl, fun t ht e' he' => ⟨e', he', .inl rfl⟩⟩
    refine ⟨⟨hs.inv.below.trans ⟨rfl, rfl, rfl, Nat.le_refl _, fun _ _ => rfl⟩, hs.inv.N, hs.inv.K, hs.inv.old, hs.inv.low, ?_, hs.inv.inj, fun g => RPcells_mono he.keeps _ _ _ (hs.inv.gl g)⟩, Rs_mono he _ _ hs.ts, RDs_mono he hs.ds⟩
    intro i x hx
    exact RB_mono he (hs.inv.blk i x hx) rfl rfl (fun b _ => ⟨rfl, rfl⟩)
  have he : Ext c { c with w := { c.w with drawn := c.w.drawn + 1 } } := ⟨Nat.le_refl _, fun b o h => ⟨h, rfl⟩, fun _ _ => rfl, Nat.le_refl _, fun _ _ => rfl, fun t ht e' he' => ⟨e', he', .inl rfl⟩⟩
  refine opers_sound hc _ _ (by simp) ?_ hw hd2 (fun c' a' he' hs' => hQ c' a' (he.trans he') hs')
  intro k x i hx hi
  rw [List.getElem?_map, hi] at hx
  simp only [Option.map_some, Option.some.injEq] at hx
  subst hx
  have hil : i < ops.size := by
    have := hmem hlin i (List.mem_of_getElem? hi)
    simpa using this
  refine ⟨ops[i], by simp [hil], h2 i _ ops[i] ?_ (by simp [hil])⟩
  have : i < l.length := by omega
  simp [List.getD, this]
end
end Hx
