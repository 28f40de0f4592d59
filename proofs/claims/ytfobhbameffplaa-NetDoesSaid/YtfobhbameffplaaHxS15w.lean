/-
  HxS15w: a change, done again, as the document says.
-/
import Derived.Test.YtfobhbameffplaaHxM26c
import Derived.Test.YtfobhbameffplaaHxS15u
import Derived.Test.YtfobhbameffplaaHxU03d
namespace Hx
open Go
set_option linter.unusedSimpArgs false
set_option linter.unusedVariables false
set_option maxHeartbeats 8000000
variable {E : Env}
attribute [-simp] List.getD_eq_getElem?_getD getElem?_pos
theorem ordL_trans : ∀ x y z : List UInt8, ordL x y = -1 → ordL y z = -1 → ordL x z = -1
  | [], _, [], h, g => by
    rename_i y
    have := ordL_nil y
    omega
  | [], _, _ :: _, _, _ => rfl
  | _ :: _, [], _, h, _ => by simp [ordL] at h
  | _ :: _, _ :: _, [], _, g => by simp [ordL] at g
  | a :: x, b :: y, c :: z, h, g => by
    simp only [ordL] at h g ⊢
    by_cases h1 : a < b
    · by_cases g1 : b < c
      · rw [if_pos (UInt8.lt_trans h1 g1)]
      · rw [if_neg g1] at g
        by_cases g2 : c < b
        · rw [if_pos g2] at g; omega
        · have : b = c := UInt8.le_antisymm (UInt8.not_lt.mp g2) (UInt8.not_lt.mp g1)
          rw [← this, if_pos h1]
    · rw [if_neg h1] at h
      by_cases h2 : b < a
      · rw [if_pos h2] at h; omega
      · have e : a = b := UInt8.le_antisymm (UInt8.not_lt.mp h2) (UInt8.not_lt.mp h1)
        rw [if_neg h2] at h
        subst e
        by_cases g1 : a < c
        · rw [if_pos g1]
        · rw [if_neg g1] at g ⊢
          by_cases g2 : c < a
          · rw [if_pos g2] at g; omega
          · rw [if_neg g2] at g ⊢
            exact ordL_trans x y z h g
theorem ord5_neg1 {p q : Val} : ord5 p q = -1 ↔ p.1 < q.1 ∨ (p.1 = q.1 ∧ (p.2.1 < q.2.1 ∨ (p.2.1 = q.2.1 ∧ ordL p.2.2 q.2.2 = -1))) := by
  unfold ord5
  by_cases h1 : p.1 < q.1 ∨ (p.1 = q.1 ∧ p.2.1 < q.2.1)
  · rw [if_pos h1]
    refine ⟨fun _ => ?_, fun _ => rfl⟩
    omega
  · rw [if_neg h1]
    by_cases h2 : q.1 < p.1 ∨ (p.1 = q.1 ∧ q.2.1 < p.2.1)
    · rw [if_pos h2]
      refine ⟨fun h => by omega, fun h => by omega⟩
    · rw [if_neg h2]
      refine ⟨fun h => ?_, fun h => ?_⟩
      · exact .inr ⟨by omega, .inr ⟨by omega, h⟩⟩
      · rcases h with h | ⟨_, h | ⟨_, h⟩⟩
        · omega
        · omega
        · exact h
theorem ltV_ok : LtOk ltV where
  irr := fun a => by
    unfold ltV
    rw [ord5_self]; rfl
  tr := fun a b c h g => by
    unfold ltV at *
    rw [decide_eq_true_eq] at *
    rw [ord5_neg1] at *
    rcases h with h | ⟨h1, h | ⟨h2, h3⟩⟩
    · left
      rcases g with g | ⟨g, _⟩ <;> omega
    · rcases g with g | ⟨g1, g | ⟨g2, _⟩⟩
      · left; omega
      · right; exact ⟨by omega, .inl (by omega)⟩
      · right; exact ⟨by omega, .inl (by omega)⟩
    · rcases g with g | ⟨g1, g | ⟨g2, g3⟩⟩
      · left; omega
      · right; exact ⟨by omega, .inl (by omega)⟩
      · right; exact ⟨by omega, .inr ⟨by omega, ordL_trans _ _ _ h3 g3⟩⟩
  tri := fun a b => by
    unfold ltV
    rw [decide_eq_true_eq, decide_eq_true_eq]
    rcases ord5_vals a b with h | h | h
    · exact .inl h
    · exact .inr (.inl (ord5_0 h))
    · exact .inr (.inr (by rw [ord5_neg, h]))

structure Cat15 where
  tp : PV
  ts : List Tbl
def find15 (cat : Cat15) (n : List UInt8) : Option Nat := if tabAt cat.ts n < 0 then none else some (tabAt cat.ts n).toNat
def kk15 (cat : Cat15) (a : Nat) : Nat := match cat.ts[a]? with
  | some t => (keyAt t).toNat
  | none => 0
def celU : List PV → Cel
  | [.str a, .int _ b, .int _ c, .int _ d, .int _ e, .str f] => ⟨a, b, c, d, e, f⟩
  | _ => ⟨[], 0, 0, 0, 0, []⟩
def celsOf : PV → List Cel
  | .vals _ rows => rows.map celU
  | _ => []
theorem celsOf_eq {cs : PV} {l : List Cel} (h : CelQ cs l) : celsOf cs = l := by
  rcases h with ⟨rfl, rfl⟩ | rfl
  · rfl
  · show (l.map celP).map celU = l
    rw [List.map_map]
    have : (celU ∘ celP) = id := by
      funext c
      rfl
    rw [this, List.map_id]
def celV (x : Cel) : Val := (x.vk, x.vn, x.vs)
def cellOk (c : Int × Col) (x : Cel) : Bool := x.name == c.2.name && (x.kind == c.2.kind && x.max == c.2.max)
def celFact (cols : List (Int × Col)) (cels : List Cel) (i : Nat) : Bool := match cols[i]?, cels[i]? with
  | some c, some x => cellOk c x
  | _, _ => true
def celsB (cols : List (Int × Col)) (cels : List Cel) : Bool := decide (cels.length = cols.length) && (List.range cels.length).all (celFact cols cels)
def val15 (cat : Cat15) (c : Ch) : Option Row := match find15 cat c.table with
  | none => none
  | some a => match cat.ts[a]? with
    | none => none
    | some t => if celsB t.cols (celsOf c.cs) = true ∧ rowE t ((celsOf c.cs).map celV) = 0 ∧ keyN (kk15 cat a) ((celsOf c.cs).map celV) = c.key.2 then some ((celsOf c.cs).map celV) else none
def Ddl15 (E : Env) (n : Nat) (cat : Cat15) (c : Ch) (cat' : Cat15) : Prop :=
  TabQ cat'.tp cat'.ts ∧ cat'.ts.length ≤ 100 ∧ (∀ t' ∈ cat'.ts, GoodT cat.ts t') ∧ ∀ m, denF E n 179 [.p (.agg [cat.tp]), .p (.agg (dV c.d c.sl)), .p (.int .i64 c.lsn)] m = some (.ret (.tup [.p (.agg [cat'.tp]), .p (.int .i64 0)]), m)
open Classical in
noncomputable def ddl15 (E : Env) (n : Nat) (cat : Cat15) (zs : List (List Row)) (c : Ch) : Option (Cat15 × List (List Row)) :=
  if h : ∃ cat', Ddl15 E n cat c cat' then some (h.choose, h.choose.ts.map (newRows cat.ts zs)) else none
noncomputable def mdl15 (E : Env) (n : Nat) : Mdl Cat15 where
  lt := ltV
  find := find15
  keyOf := fun cat a r => keyN (kk15 cat a) r
  val := val15
  ddl := ddl15 E n
  plain := plainB
theorem find15_some {cat : Cat15} {n : List UInt8} {a : Nat} : find15 cat n = some a ↔ tabAt cat.ts n = (a : Int) := by
  unfold find15
  by_cases h : tabAt cat.ts n < 0
  · rw [if_pos h]
    refine ⟨fun e => (by cases e), fun e => (by omega)⟩
  · rw [if_neg h]
    simp only [Option.some.injEq]
    omega
theorem tab_name {ts : List Tbl} {n : List UInt8} {i : Nat} (h : tabAt ts n = (i : Int)) : ∃ t, ts[i]? = some t ∧ t.name = n := by
  rcases posI_cases (fun t : Tbl => t.name == n) ts 0 with ⟨h1, _⟩ | ⟨j, x, h1, h2, h3, _⟩
  · unfold tabAt at h; rw [h1] at h; omega
  · unfold tabAt at h
    rw [h1] at h
    have : j = i := by omega
    subst this
    exact ⟨x, h2, by simpa using h3⟩
theorem newRows_rise {ts : List Tbl} {zs : List (List Row)} (t' : Tbl) : Rise ltV (keyN (keyAt t').toNat) (newRows ts zs t') := by
  unfold newRows
  split
  · exact .nil
  · split
    · exact .nil
    · unfold movedZ
      have : ∀ (g : Row → Row) (z out : List Row), Rise ltV (keyN (keyAt t').toNat) out → Rise ltV (keyN (keyAt t').toNat) (z.foldl (fun out r => putZ (keyAt t').toNat (g r) out) out) := by
        intro g z
        induction z with
        | nil => intro out h; exact h
        | cons r z ih =>
          intro out h
          exact ih _ (rise_put ltV_ok _ h)
      exact this _ _ [] .nil
theorem newRows_len {ts : List Tbl} {zs : List (List Row)} (h : ∀ z ∈ zs, z.length ≤ 200) (t' : Tbl) : (newRows ts zs t').length ≤ 200 := by
  unfold newRows
  split
  · simp
  · split
    · simp
    · refine Nat.le_trans (movedZ_len _ _ _ _) ?_
      rw [List.getD_eq_getElem?_getD]
      cases hq : zs[(idAt ts t'.id).toNat]? with
      | none => simp
      | some z => exact h z (List.mem_of_getElem? hq)
theorem mdl_ok (E : Env) (n : Nat) : MdlOk (mdl15 E n) where
  lt := ltV_ok
  plain := plain_ok
  kind := fun cat c k => rfl
  key := by
    intro cat c x a hv hf
    have hv : val15 cat c = some x := hv
    have hf : find15 cat c.table = some a := hf
    unfold val15 at hv
    rw [hf] at hv
    simp only at hv
    split at hv
    · cases hv
    · split at hv
      · rename_i h
        obtain rfl := Option.some.inj hv
        exact h.2.2
      · cases hv
  inj := by
    intro cat n1 n2 a h1 h2
    have h1 : find15 cat n1 = some a := h1
    have h2 : find15 cat n2 = some a := h2
    rw [find15_some] at h1 h2
    obtain ⟨t, ht, e1⟩ := tab_name h1
    obtain ⟨t', ht', e2⟩ := tab_name h2
    rw [ht] at ht'
    obtain rfl := Option.some.inj ht'
    rw [← e1, ← e2]
  ddl := by
    intro s c s' hw hp h4 hd
    have hd : ddl15 E n s.1 s.2 c = some s' := hd
    unfold ddl15 at hd
    split at hd
    · rename_i hex
      obtain rfl := Option.some.inj hd
      have hlen : ∀ z ∈ s.2, z.length ≤ 200 := by
        intro z hz
        obtain ⟨a, ha⟩ := List.getElem?_of_mem hz
        have hal := (List.getElem?_eq_some_iff.1 ha).1
        have := hw.len a hal
        unfold rowsAt at this
        rw [List.getD_eq_getElem?_getD, ha] at this
        exact this
      generalize hex.choose = cat'
      have at_ : ∀ a, a < (cat'.ts.map (newRows s.1.ts s.2)).length → ∃ t', cat'.ts[a]? = some t' ∧ rowsAt (cat', cat'.ts.map (newRows s.1.ts s.2)) a = newRows s.1.ts s.2 t' := by
        intro a ha
        rw [List.length_map] at ha
        refine ⟨cat'.ts[a], List.getElem?_eq_getElem ha, ?_⟩
        unfold rowsAt
        simp only [List.getD_eq_getElem?_getD, List.getElem?_map, List.getElem?_eq_getElem ha]; rfl
      refine ⟨?_, ?_, ?_⟩
      · intro a ha
        obtain ⟨t', h1, h2⟩ := at_ a ha
        rw [h2]
        have hk : kk15 cat' a = (keyAt t').toNat := by unfold kk15; rw [h1]
        show Rise ltV (fun r => keyN (kk15 cat' a) r) _
        rw [hk]
        exact newRows_rise t'
      · intro a ha
        obtain ⟨t', h1, h2⟩ := at_ a ha
        rw [h2]
        exact newRows_len hlen t'
      · intro nm a hf
        have hf : find15 cat' nm = some a := hf
        rw [find15_some] at hf
        obtain ⟨t, ht, _⟩ := tab_name hf
        rw [List.length_map]
        exact (List.getElem?_eq_some_iff.1 ht).1
    · cases hd

def rowsZ (es : List RE) : List (List Row) := es.map (·.2.2)
theorem rowsAt_z {cat : Cat15} {es : List RE} {a : Nat} {e : RE} (h : es[a]? = some e) : rowsAt (cat, rowsZ es) a = e.2.2 := by
  unfold rowsAt rowsZ
  simp only [List.getD_eq_getElem?_getD, List.getElem?_map, h]; rfl
theorem StG.at {tp rp : PV} {ts : List Tbl} {es : List RE} (h : StG tp rp ts es) {a : Nat} (ha : a < ts.length) : ∃ t e, ts[a]? = some t ∧ es[a]? = some e := ⟨ts[a], es[a]'(by rw [h.len]; exact ha), List.getElem?_eq_getElem ha, List.getElem?_eq_getElem (by rw [h.len]; exact ha)⟩
theorem wf_of (E : Env) (n : Nat) {tp rp : PV} {ts : List Tbl} {es : List RE} (h : StG tp rp ts es) : WF (mdl15 E n) (⟨tp, ts⟩, rowsZ es) where
  rise := by
    intro a ha
    have hl : (rowsZ es).length = ts.length := by simp [rowsZ, h.len]
    obtain ⟨t, e, h1, h2⟩ := h.at (a := a) (by rw [← hl]; exact ha)
    rw [rowsAt_z h2]
    have hk : kk15 ⟨tp, ts⟩ a = (keyAt t).toNat := by unfold kk15; simp only; rw [h1]
    show Rise ltV (fun r => keyN (kk15 ⟨tp, ts⟩ a) r) _
    rw [hk]
    exact h.rise a t e h1 h2
  len := by
    intro a ha
    have hl : (rowsZ es).length = ts.length := by simp [rowsZ, h.len]
    obtain ⟨t, e, h1, h2⟩ := h.at (a := a) (by rw [← hl]; exact ha)
    rw [rowsAt_z h2]
    exact h.few e (List.mem_of_getElem? h2)
  found := by
    intro nm a hf
    have hf : find15 ⟨tp, ts⟩ nm = some a := hf
    rw [find15_some] at hf
    obtain ⟨t, ht, _⟩ := tab_name hf
    have hl : (rowsZ es).length = ts.length := by simp [rowsZ, h.len]
    rw [hl]
    exact (List.getElem?_eq_some_iff.1 ht).1
theorem stG_of {E : Env} {n : Nat} {tp rp : PV} {ts : List Tbl} {es : List RE} (tq : TabQ tp ts) (rq : RsQ rp es) (len : es.length = ts.length) (nn : ts.length ≤ 1000) (t : ∀ t ∈ ts, TblG t) (q : ∀ e ∈ es, ListQ e.2.1 e.2.2) (ids : es.map (·.1) = ts.map (·.id))
    (fit : ∀ (i : Nat) t e, ts[i]? = some t → es[i]? = some e → ∀ r ∈ e.2.2, RowFit t r) (w : WF (mdl15 E n) (⟨tp, ts⟩, rowsZ es)) : StG tp rp ts es where
  tp := tq
  rp := rq
  len := len
  n := nn
  t := t
  q := q
  fit := fit
  ids := ids
  few := by
    intro e he
    obtain ⟨a, ha⟩ := List.getElem?_of_mem he
    have hal := (List.getElem?_eq_some_iff.1 ha).1
    have := w.len a (by simpa [rowsZ] using hal)
    rw [rowsAt_z ha] at this
    exact this
  rise := by
    intro a t e h1 h2
    have hal := (List.getElem?_eq_some_iff.1 h2).1
    have := w.rise a (by simpa [rowsZ] using hal)
    rw [rowsAt_z h2] at this
    have hk : kk15 ⟨tp, ts⟩ a = (keyAt t).toNat := by unfold kk15; simp only; rw [h1]
    rw [← hk]
    exact this
theorem rowsZ_set {es : List RE} {a : Nat} {lp : PV} {z : List Row} (ha : a < es.length) : rowsZ (setE15 a lp z es) = (rowsZ es).set a z := by
  apply List.ext_getElem?
  intro i
  unfold rowsZ setE15
  rw [List.getElem?_map, List.getElem?_modify, List.getElem?_set, List.getElem?_map]
  by_cases h : a = i
  · subst h
    rw [if_pos rfl, if_pos (by simpa using ha), List.getElem?_eq_getElem ha]
    simp
  · rw [if_neg h]
    cases es[i]? with
    | none => rfl
    | some e => simp [h]
theorem stG_set {E : Env} {n : Nat} {tp rp rp' : PV} {ts : List Tbl} {es : List RE} (h : StG tp rp ts es) {a : Nat} {t : Tbl} (ht : ts[a]? = some t) {lp : PV} {z : List Row} (hz : ListQ lp z) (hf : ∀ r ∈ z, RowFit t r) (hr : RsQ rp' (setE15 a lp z es)) (w : WF (mdl15 E n) (⟨tp, ts⟩, (rowsZ es).set a z)) : StG tp rp' ts (setE15 a lp z es) := by
  have hal : a < es.length := by rw [h.len]; exact (List.getElem?_eq_some_iff.1 ht).1
  have hget : ∀ (i : Nat) e, (setE15 a lp z es)[i]? = some e → (a = i ∧ e.2.1 = lp ∧ e.2.2 = z) ∨ es[i]? = some e := by
    intro i e he
    unfold setE15 at he
    rw [List.getElem?_modify] at he
    by_cases q : a = i
    · left
      cases hq : es[i]? with
      | none => rw [hq] at he; cases he
      | some x =>
        rw [hq] at he
        simp only [q, if_true] at he
        have he2 : (x.1, lp, z) = e := Option.some.inj he
        subst he2
        exact ⟨q, rfl, rfl⟩
    · right
      cases hq : es[i]? with
      | none => rw [hq] at he; cases he
      | some x =>
        rw [hq] at he
        simpa [q] using he
  refine stG_of (E := E) (n := n) h.tp hr (by simp [setE15, h.len]) h.n h.t ?_ ?_ ?_ (by rw [rowsZ_set hal]; exact w)
  · intro e he
    obtain ⟨i, hi⟩ := List.getElem?_of_mem he
    rcases hget i e hi with ⟨_, q1, q2⟩ | q
    · rw [q1, q2]; exact hz
    · exact h.q e (List.mem_of_getElem? q)
  · rw [← h.ids]
    apply List.ext_getElem?
    intro i
    unfold setE15
    rw [List.getElem?_map, List.getElem?_map, List.getElem?_modify]
    cases es[i]? with
    | none => rfl
    | some e => by_cases q : a = i <;> simp [q]
  · intro i t' e h1 h2 r hrm
    rcases hget i e h2 with ⟨q0, q1, q2⟩ | q
    · subst q0
      rw [ht] at h1
      obtain rfl := Option.some.inj h1
      rw [q2] at hrm
      exact hf r hrm
    · exact h.fit i t' e h1 q r hrm
end Hx

namespace Hx
open Go
set_option linter.unusedSimpArgs false
set_option linter.unusedVariables false
set_option maxHeartbeats 64000000
set_option maxRecDepth 20000
variable {E : Env}
attribute [-simp] List.getD_eq_getElem?_getD getElem?_pos
theorem eq_tP15 {a b c d : Int} : eqTree (.struct [(0, 1, .int), (1, 1, .int)]) (.agg [.int .i64 a, .int .i64 b]) (.agg [.int .i64 c, .int .i64 d]) = some (a == c && b == d) := by
  simp [eqTree, eqFs, partP, EqT.agg]
structure RedInv (tp rp : PV) (c : Ch) (t : Tbl) (cels : List Cel) (i : Nat) (m : Mem) (av : AV) : Prop where
  m0 : m[0]? = some (.cells [.p tp, .p rp])
  m1 : m[1]? = some (.cells ((chV c).map .p))
  m2 : m[2]? = some (.cells [.p .nils, .p .nils])
  m3 : m[3]? = some (.cells ((tblP t).map .p))
  o : OutG 3 m (((cels.take i).map celV).map valP) av
  f : ∀ j, j < i → celFact t.cols cels j = true
theorem redo_loop (u : K15 E) {tp rp : PV} (hf1 : tp.flat = true) (hf2 : rp.flat = true) {c : Ch} {t : Tbl} (ht : t.sl = .vals 8 (t.cols.map colQ)) {cels : List Cel} (hcs : c.cs = .vals 6 (cels.map celP)) (hlen : cels.length = t.cols.length) (hl : cels.length ≤ 1000) (hsl : c.sl.flat = true) (at_ : AV) (j : Nat) (hj : 2000 ≤ j) (st0 : St)
    (hst0 : Live Fn.f_haulageref15_Redo_k0 (Fn.f_haulageref15_Redo_s0 (.ptr 0 0) (.ptr 1 0) (.ptr 2 0) at_ (.ptr 3 0) (.p .nils) (.p (.int .i64 0))) [.cells [.p tp, .p rp], .cells ((chV c).map .p), .cells [.p .nils, .p .nils], .cells ((tblP t).map .p)] st0) :
    Wp (iter (loopF E (denF E (j + 1)) (j + 1) Fn.f_haulageref15_Redo_k0 Fn.f_haulageref15_Redo_b0) (j + 1) st0)
      (fun e st => st.ds = [] ∧ st.ts.length = 145 ∧ st.ts.getD 4 (.tup []) = .ptr 2 0 ∧ ((e = .ret ∧ celsB t.cols cels = false ∧ st.ts.getD 5 (.tup []) = .p (.int .i64 5) ∧ st.m[2]? = some (.cells [.p tp, .p rp])) ∨ (e = .exit 0 ∧ celsB t.cols cels = true ∧ st.ts.getD 2 (.tup []) = .ptr 0 0 ∧ st.ts.getD 3 (.tup []) = .ptr 1 0 ∧ st.ts.getD 6 (.tup []) = at_ ∧ st.ts.getD 7 (.tup []) = .ptr 3 0 ∧ RedInv tp rp c t cels cels.length st.m (st.ts.getD 9 (.tup []))))) := by
  have f1 := hf1
  have f2 := hf2
  have f3 := hsl
  unfold PV.flat at f1 f2 f3
  refine loop_wp (α := Nat × Mem × AV) (I := fun s st => s.1 ≤ cels.length ∧ RedInv tp rp c t cels s.1 s.2.1 s.2.2 ∧ Live Fn.f_haulageref15_Redo_k0 (Fn.f_haulageref15_Redo_s0 (.ptr 0 0) (.ptr 1 0) (.ptr 2 0) at_ (.ptr 3 0) s.2.2 (.p (.int .i64 s.1))) s.2.1 st) (meas := fun s => cels.length - s.1) ?_ (j + 1) (0, _, .p .nils) _ ⟨Nat.zero_le _, ⟨rfl, rfl, rfl, rfl, .inl ⟨rfl, rfl⟩, fun j h => absurd h (Nat.not_lt_zero _)⟩, hst0⟩ (by simp only [Nat.sub_zero]; omega)
  rintro ⟨i, m, av⟩ st ⟨hi, hinv, hlive⟩
  simp only at hi hinv hlive
  rw [loopF_live hlive]
  have ⟨m0, m1, m2, m3, ho, hf⟩ := hinv
  have c0 := idx_lt m0
  have c1 := idx_lt m1
  have c2 := idx_lt m2
  have c3 := idx_lt m3
  simp only [chV, tblP, ht, hcs, List.map_cons, List.map_nil] at m1 m3
  by_cases hlt : i < cels.length
  · have hlt' : (i : Int) < cels.length := by omega
    have hltc : i < t.cols.length := by omega
    obtain ⟨x, hx⟩ : ∃ x, cels[i]? = some x := ⟨_, List.getElem?_eq_getElem hlt⟩
    obtain ⟨cl, hcl⟩ : ∃ cl, t.cols[i]? = some cl := ⟨_, List.getElem?_eq_getElem hltc⟩
    have hw : IntKind.i64.wrap ((i : Int) + 1) = ((i + 1 : Nat) : Int) := by rw [wrap_i64 (by omega) (by omega)]; omega
    have hfact : celFact t.cols cels i = cellOk cl x := by unfold celFact; rw [hx, hcl]
    have hT := @eq_tP15 x.kind x.max cl.2.kind cl.2.max
    have hbad : cellOk cl x = false → celsB t.cols cels = false := by
      intro h
      unfold celsB
      rw [Bool.and_eq_false_iff, List.all_eq_false]
      exact .inr ⟨i, List.mem_range.2 hlt, by rw [hfact, h]; simp⟩
    have hgood : cellOk cl x = true → ∃ av' m', appR 3 32 m av (.p (.vals 3 [valP (celV x)])) = some (av', m') ∧ RedInv tp rp c t cels (i + 1) m' av' := by
      intro h
      have hl2 : (cels.take i).length ≤ 1000 := by rw [List.length_take]; omega
      obtain ⟨av', m', h1, h2, h3, h4⟩ := appR_out (b := 32) ho (valP (celV x)) (by simp only [List.length_map]; omega) (by simp only [List.length_map]; omega)
      refine ⟨av', m', h1, h4 _ _ hinv.m0, h4 _ _ hinv.m1, h4 _ _ hinv.m2, h4 _ _ hinv.m3, ?_, ?_⟩
      · rw [take_step hx, List.map_append, List.map_append]; exact h2
      · intro k hk
        rcases Nat.lt_or_ge k i with h5 | h5
        · exact hf k h5
        · obtain rfl : k = i := by omega
          rw [hfact]; exact h
    unfold cellOk at hbad hgood
    cases q1 : (x.name == cl.2.name) with
    | false =>
      have hb := hbad (by rw [q1]; rfl)
      simp (maxSteps := 4000000) [Fn.f_haulageref15_Redo_b0, Fn.f_haulageref15_Redo_s0, celP, colQ, hlt, hlt', hltc, hx, hcl, m0, m1, m2, m3, c0, c1, c2, c3, q1, f1, f2, bne, hb]
    | true =>
      cases q2 : (x.kind == cl.2.kind && x.max == cl.2.max) with
      | false =>
        rw [q2] at hT
        have hb := hbad (by rw [q1, q2]; rfl)
        simp (maxSteps := 4000000) [Fn.f_haulageref15_Redo_b0, Fn.f_haulageref15_Redo_s0, celP, colQ, hlt, hlt', hltc, hx, hcl, m0, m1, m2, m3, c0, c1, c2, c3, q1, hT, f1, f2, bne, hb]
      | true =>
        rw [q2] at hT
        obtain ⟨av', m', ha, hinv'⟩ := hgood (by rw [q1, q2]; rfl)
        simp only [valP, celV] at ha
        simp (maxSteps := 4000000) [Fn.f_haulageref15_Redo_b0, Fn.f_haulageref15_Redo_s0, celP, colQ, hlt, hlt', hltc, hx, hcl, m0, m1, m2, m3, c0, c1, c2, c3, q1, hT, f1, f2, bne, ha, hw, -Int.natCast_add]
        exact ⟨i + 1, by omega, hlt, _, _, hinv', rfl, rfl, rfl, rfl⟩
  · have hlt' : ¬ (i : Int) < cels.length := by omega
    obtain rfl : i = cels.length := by omega
    have hall : celsB t.cols cels = true := by
      unfold celsB
      rw [Bool.and_eq_true, List.all_eq_true]
      exact ⟨decide_eq_true hlen, fun x hx => hf x (List.mem_range.1 hx)⟩
    simp (maxSteps := 4000000) [Fn.f_haulageref15_Redo_b0, Fn.f_haulageref15_Redo_s0, m1, c1, hall]
    exact hinv
structure ChI (c : Ch) : Prop where
  d : isI64 c.d.dn
  cs : ∀ cels, CelQ c.cs cels → ∀ x ∈ cels, isI64 x.vn
  sl : ∀ cols : List (Int × Col), SlQ c.sl cols → ∀ cl ∈ cols, isI64 cl.2.dn
theorem rowScan_fit : ∀ (cols : List (Int × Col)) (x : Row), rowScan cols x = 0 → ∀ (i : Nat) c v, cols[i]? = some c → x[i]? = some v → okW c.2.kind c.2.max v = true
  | [], _, _, i, c, v, hc, _ => by simp at hc
  | _ :: _, [], _, i, c, v, _, hv => by simp at hv
  | c0 :: cols, v0 :: x, h, i, c, v, hc, hv => by
    unfold rowScan at h
    have hh : okW c0.2.kind c0.2.max v0 = true ∧ rowScan cols x = 0 := by
      unfold okW
      cases hz : zvB v0 with
      | true =>
        rw [hz] at h
        simp only [if_true] at h
        cases hn : c0.2.null with
        | true => rw [hn] at h; exact ⟨rfl, by simpa using h⟩
        | false => rw [hn] at h; simp at h
      | false =>
        rw [hz] at h
        simp only [Bool.false_eq_true, if_false] at h
        cases hf : fitsB c0.2.kind c0.2.max v0 with
        | true => rw [hf] at h; exact ⟨rfl, by simpa using h⟩
        | false => rw [hf] at h; simp at h
    cases i with
    | zero =>
      simp only [List.getElem?_cons_zero, Option.some.injEq] at hc hv
      subst hc hv
      exact hh.1
    | succ i =>
      simp only [List.getElem?_cons_succ] at hc hv
      exact rowScan_fit cols x hh.2 i c v hc hv
theorem rowE_fit {t : Tbl} {x : Row} (h : rowE t x = 0) (hi : ∀ v ∈ x, isI64 v.2.1) : RowFit t x := by
  unfold rowE at h
  split at h
  · omega
  · split at h
    · omega
    · rename_i hl
      exact ⟨by simpa using hl, fun i c v hc hv => ⟨rowScan_fit _ _ h i c v hc hv, hi v (List.mem_of_getElem? hv)⟩⟩
def RedoP (E : Env) (j : Nat) (cat : Cat15) (rp : PV) (c : Ch) : Option (Cat15 × List (List Row)) → Prop
  | none => ∃ er : Int, er ≠ 0 ∧ ∀ m, denF E (j + 3) 142 [.p (.agg [cat.tp, rp]), .p (.agg (chV c))] m = some (.ret (.tup [.p (.agg [cat.tp, rp]), .p (.int .i64 er)]), m)
  | some s' => ∃ (rp' : PV) (es' : List RE), StG s'.1.tp rp' s'.1.ts es' ∧ rowsZ es' = s'.2 ∧ ∀ m, denF E (j + 3) 142 [.p (.agg [cat.tp, rp]), .p (.agg (chV c))] m = some (.ret (.tup [.p (.agg [s'.1.tp, rp']), .p (.int .i64 0)]), m)
theorem redo_ddl (u : K15 E) {cat : Cat15} {rp : PV} {es : List RE} (hs : StG cat.tp rp cat.ts es) {c : Ch} (hok : ChOk c) (hci : ChI c) (hsz : rowsN c.sl ≤ 1000) (j : Nat) (hj : 6000 ≤ j) (hp : plainB c = true) (h4 : c.kind = 4) : RedoP E j cat rp c (redo (mdl15 E (j + 1)) (cat, rowsZ es) c) := by
  have hw := wf_of E (j + 1) hs
  have hr : redo (mdl15 E (j + 1)) (cat, rowsZ es) c = ddl15 E (j + 1) cat (rowsZ es) c := by
    unfold redo
    rw [if_neg (by show ¬ plainB c = false; rw [hp]; simp), if_pos h4]; rfl
  obtain ⟨cols, hc⟩ := hok.sl
  have hPl := fun m => ref_Plain u.p.l u.plainC hok (by omega) (j + 1) (by omega) m
  rw [hp] at hPl
  have f1 := hs.tp.flat
  have f2 := hs.rp.flat
  have f3 := hok.f.cs
  have f4 := hc.flat
  have g1 := f1
  have g2 := f2
  unfold PV.flat at g1 g2 f3
  have run : ∀ (v : PV) (e : Int), v.flat = true → ∀ rp2 : PV, rp2.flat = true → (∀ m, denF E (j + 2) 153 [.p (.agg [cat.tp, rp]), .p (.agg (dV c.d c.sl)), .p (.int .i64 c.lsn)] m = some (.ret (.tup [.p (.agg [v, rp2]), .p (.int .i64 e)]), m)) → ∀ m, denF E (j + 3) 142 [.p (.agg [cat.tp, rp]), .p (.agg (chV c))] m = some (.ret (.tup [.p (.agg [v, rp2]), .p (.int .i64 e)]), m) := by
    intro v e hv rp2 hrp2 hC m
    have f5 := f4
    unfold PV.flat at hv hrp2 f5
    simp only [dV] at hC
    refine denF_wp u.redo rfl (args' := [.p (.agg [cat.tp, rp]), .p (.agg (chV c))]) rfl ?_
    simp only [chV] at hPl
    rw [h4] at hPl
    simp (maxSteps := 4000000) [Fn.f_haulageref15_Redo, chV, g1, g2, f3, f5, hPl, h4, hC, hv, hrp2]
  rw [hr]
  unfold ddl15
  by_cases hex : ∃ cat', Ddl15 E (j + 1) cat c cat'
  · rw [dif_pos hex]
    have hsp := hex.choose_spec
    have hd : (mdl15 E (j + 1)).ddl cat (rowsZ es) c = some (hex.choose, hex.choose.ts.map (newRows cat.ts (rowsZ es))) := by
      show ddl15 E (j + 1) cat (rowsZ es) c = _
      unfold ddl15
      rw [dif_pos hex]
    have hw' := (mdl_ok E (j + 1)).ddl (cat, rowsZ es) c _ hw hp h4 hd
    generalize hex.choose = cat' at *
    obtain ⟨h1, h2, h3, hA⟩ := hsp
    obtain ⟨rp', es', r1, r2, r3, rid, hC⟩ := ref_change_ok u hs c.d f4 c.lsn h1 h2 h3 j (by omega) hA
    have hlen : es'.length = cat'.ts.length := by simpa using congrArg List.length r3
    refine ⟨rp', es', stG_of (E := E) (n := j + 1) h1 r1 hlen (by show cat'.ts.length ≤ 1000; omega) (fun t' ht' => (h3 t' ht').1) r2 rid ?_ (by rw [show rowsZ es' = cat'.ts.map (newRows cat.ts (rowsZ es)) from r3]; exact hw'), r3, run _ _ h1.flat _ r1.flat hC⟩
    intro i t' e ht' he r hrm
    have hrow : e.2.2 = newRows cat.ts (rowsZ es) t' := by
      have := congrArg (fun l : List (List Row) => l[i]?) r3
      simp only [List.getElem?_map, he, ht', Option.map_some, Option.some.injEq] at this
      exact this
    rw [hrow] at hrm
    unfold newRows at hrm
    split at hrm
    · cases hrm
    · rename_i f hf
      split at hrm
      · cases hrm
      · rename_i hk
        obtain ⟨k, hk2⟩ : ∃ k : Nat, idAt cat.ts t'.id = (k : Int) := ⟨(idAt cat.ts t'.id).toNat, by omega⟩
        rw [hk2, Int.toNat_natCast] at hf hrm
        obtain ⟨f', hf', hmv⟩ := (h3 t' (List.mem_of_getElem? ht')).2 k hk2
        rw [hf] at hf'
        obtain rfl := Option.some.inj hf'
        refine movedZ_mem hmv ?_ r hrm
        intro y hy
        have hkl := (List.getElem?_eq_some_iff.1 hf).1
        obtain ⟨t0, e0, q1, q2⟩ := hs.at (a := k) hkl
        rw [hf] at q1
        obtain rfl := Option.some.inj q1
        refine hs.fit k f e0 hf q2 y ?_
        rw [List.getD_eq_getElem?_getD] at hy
        unfold rowsZ at hy
        rw [List.getElem?_map, q2] at hy
        exact hy
  · rw [dif_neg hex]
    obtain ⟨e, tp', hap, hA⟩ := ref_Apply9 u.g u.p hs.tp (fun t ht => (hs.t t ht).ok) hs.n c.d hc (by rw [← rowsN_sl hc]; exact hsz) (hci.sl cols hc) hci.d c.lsn j (by omega)
    by_cases he : e = 0
    · subst he
      obtain ⟨ts', q1, q2, q3⟩ := hap.2 rfl
      exact absurd ⟨⟨tp', ts'⟩, q1, q2, q3, hA⟩ hex
    · exact ⟨e, he, run _ _ f1 _ f2 (fun m => ref_change_bad u f1 f2 c.d f4 c.lsn hap.1 he j hA m)⟩
end Hx
