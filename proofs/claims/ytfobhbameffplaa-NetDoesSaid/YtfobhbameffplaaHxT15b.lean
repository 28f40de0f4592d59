/-
  HxT15b: which states are right, as the document says.
-/
import Derived.Test.YtfobhbameffplaaHxT15a
import Derived.Test.YtfobhbameffplaaHxS15w
namespace Hx
open Go
set_option linter.unusedSimpArgs false
set_option linter.unusedVariables false
set_option maxHeartbeats 64000000
set_option maxRecDepth 20000
variable {E : Env}
attribute [-simp] List.getD_eq_getElem?_getD getElem?_pos
theorem p173 : Fn.f_haulageref08_Row.pure = true := rfl
theorem p141 : Fn.f_haulageref15_rising.pure = true := rfl
theorem chain_lt {lt : Val → Val → Bool} (o : LtOk lt) {k : Row → Val} : ∀ {l : List Row}, (∀ (i : Nat) a b, l[i]? = some a → l[i + 1]? = some b → lt (k a) (k b) = true) → Rise lt k l
  | [], _ => .nil
  | [a], _ => List.pairwise_singleton _ _
  | a :: b :: l, h => by
    have h1 : Rise lt k (b :: l) := chain_lt o fun i x y hx hy => h (i + 1) x y (by simpa using hx) (by simpa using hy)
    refine List.pairwise_cons.2 ⟨?_, h1⟩
    have hab := h 0 a b rfl rfl
    intro x hx
    rcases List.mem_cons.1 hx with rfl | hx
    · exact hab
    · exact o.tr _ _ _ hab ((List.pairwise_cons.1 h1).1 x hx)
structure RisOk (t : Tbl) (ps : List (PV × Row)) (n : Nat) : Prop where
  row : ∀ (i : Nat) x, i < n → ps[i]? = some x → rowE t x.2 = 0
  adj : ∀ (i : Nat) x y, i + 1 < n → ps[i]? = some x → ps[i + 1]? = some y → ltV (keyN (keyAt t).toNat x.2) (keyN (keyAt t).toNat y.2) = true
theorem rowE_tab {t : Tbl} {x : Row} (h : rowE t x = 0) : tableB t = true ∧ x.length = t.cols.length := by
  unfold rowE at h
  split at h
  · omega
  · rename_i h1
    split at h
    · omega
    · rename_i h2
      exact ⟨by simpa using h1, by simpa using h2⟩
theorem ris_loop (u : C15 E) {t : Tbl} (ht : TblOk t) {p : PV} {ps : List (PV × Row)} (hp : RawL p ps) (hi64 : ∀ x ∈ ps, ∀ v ∈ x.2, isI64 v.2.1) (hl : ps.length ≤ 1000) (hrl : ∀ x ∈ ps, x.2.length ≤ 1000) (j : Nat) (hj : 3000 ≤ j) (st0 : St)
    (hst0 : Live Fn.f_haulageref15_rising_k0 (Fn.f_haulageref15_rising_s0 (.p p) (.ptr 0 0) (.p (.int .i64 0))) [.cells ((tblP t).map .p)] st0) :
    Wp (iter (loopF E (denF E (j + 1)) (j + 1) Fn.f_haulageref15_rising_k0 Fn.f_haulageref15_rising_b0) (j + 1) st0)
      (fun e st => st.ds = [] ∧ st.ts.length = 45 ∧ ((e = .exit 0 ∧ st.ts.getD 1 (.tup []) = .p p ∧ RisOk t ps ps.length) ∨ (e = .ret ∧ st.ts.getD 4 (.tup []) = .p (.bool false)))) := by
  have f1 := ht.f.flat
  unfold PV.flat at f1
  obtain ⟨hp1, hp2⟩ := hp
  refine loop_wp (α := Nat) (I := fun i st => i ≤ ps.length ∧ RisOk t ps i ∧ Live Fn.f_haulageref15_rising_k0 (Fn.f_haulageref15_rising_s0 (.p p) (.ptr 0 0) (.p (.int .i64 i))) [.cells ((tblP t).map .p)] st) (meas := fun i => ps.length - i) ?_ (j + 1) 0 _ ⟨Nat.zero_le _, ⟨fun i x h => absurd h (Nat.not_lt_zero _), fun i x y h => absurd h (Nat.not_lt_zero _)⟩, hst0⟩ (by omega)
  rintro i st ⟨hi, hf, hlive⟩
  rw [loopF_live hlive]
  by_cases hlt : i < ps.length
  · have hlt' : (i : Int) < ps.length := by omega
    obtain ⟨x, hx⟩ : ∃ x, ps[i]? = some x := ⟨_, List.getElem?_eq_getElem hlt⟩
    have hxm := List.mem_of_getElem? hx
    have hw : IntKind.i64.wrap ((i : Int) + 1) = ((i + 1 : Nat) : Int) := by rw [wrap_i64 (by omega) (by omega)]; omega
    have hR := fun m => ref_Row u.toB15 ht (hp2 x hxm) (hi64 x hxm) (by have := hrl x hxm; omega) j (by omega) m
    simp only [tblP] at hR
    rcases hp1 with ⟨rfl, rfl⟩ | rfl
    · simp at hlt
    by_cases q1 : rowE t x.2 = 0
    · rw [q1] at hR
      obtain ⟨htb, hxl⟩ := rowE_tab q1
      have hr := tblR_of ht htb
      obtain ⟨kk, hkey, hkl⟩ := hr.g.key
      have hK := fun m => ref_Key u.key ht.f (by have := hr.g.len; omega) j (by have := hr.g.len; omega) m
      rw [hkey] at hK
      simp only [tblP] at hK
      have hkt : (keyAt t).toNat = kk := by rw [hkey]; rfl
      have hxv : x.1 = .vals 3 (x.2.map valP) := by
        rcases hp2 x hxm with ⟨h0, _⟩ | h
        · rw [h0] at hxl
          simp only [List.length_nil] at hxl
          omega
        · exact h
      have hxk := row_key (r := x.2) (k := kk) (by omega)
      by_cases q0 : i = 0
      · have hfin : RisOk t ps (i + 1) := by
          refine ⟨fun k y hk hy => ?_, fun k y z hk => by omega⟩
          obtain rfl : k = i := by omega
          rw [hx] at hy
          obtain rfl := Option.some.inj hy
          exact q1
        have q0' : ¬ (0 : Int) < i := by omega
        have q0b : ¬ 0 < i := by omega
        obtain ⟨x1, x2⟩ := x
        simp (maxSteps := 4000000) [Fn.f_haulageref15_rising_b0, Fn.f_haulageref15_rising_s0, tblP, f1, hlt, hlt', hx, hR, u.row, p173, q0', q0b, hw, bne, -Int.natCast_add]
        exact ⟨i + 1, by omega, hlt, hfin, rfl, rfl, rfl, rfl⟩
      · have q0' : (0 : Int) < i := by omega
        have q0b : 0 < i := by omega
        obtain ⟨y, hy⟩ : ∃ y, ps[i - 1]? = some y := ⟨_, List.getElem?_eq_getElem (by omega)⟩
        have hym := List.mem_of_getElem? hy
        have hyr := hf.row (i - 1) y (by omega) hy
        obtain ⟨_, hyl⟩ := rowE_tab hyr
        have hyf := rowE_fit hyr (hi64 y hym)
        have hyv : y.1 = .vals 3 (y.2.map valP) := by
          rcases hp2 y hym with ⟨h0, _⟩ | h
          · rw [h0] at hyl
            simp only [List.length_nil] at hyl
            omega
          · exact h
        have hyk := row_key (r := y.2) (k := kk) (by omega)
        have hyK := fit_key hyf hkl
        have hkx : kk < x.2.length := by omega
        have hky : kk < y.2.length := by omega
        have hw1 : IntKind.i64.wrap ((i : Int) - 1) = ((i - 1 : Nat) : Int) := by rw [wrap_i64 (by omega) (by omega)]; omega
        have hl1 : i - 1 < ps.length := by omega
        have hO : ∀ m, denF E (j + 1) 42 [.p (.agg (valP (keyN kk y.2))), .p (.agg (valP (keyN kk x.2)))] m = some (.ret (.p (.int .i64 (ord5 (keyN kk y.2) (keyN kk x.2)))), m) := fun m => ref_VOrder5Q u.order u.norder j _ _ _ _ _ _ (by have := hyK.len; omega) (by have := hyK.len; omega) m
        simp only [valP] at hO
        have hlti := @ltV_iff (keyN kk y.2) (keyN kk x.2)
        obtain ⟨x1, x2⟩ := x
        obtain ⟨y1, y2⟩ := y
        simp only at hxv hyv hxk hyk hkx hky hO hlti hR
        subst hxv hyv
        by_cases q2 : 0 ≤ ord5 (keyN kk y2) (keyN kk x2)
        · generalize ord5 (keyN kk y2) (keyN kk x2) = o at hO q2
          generalize keyN kk x2 = vx at hxk hO
          generalize keyN kk y2 = vy at hyk hO
          simp (maxSteps := 4000000) [Fn.f_haulageref15_rising_b0, Fn.f_haulageref15_rising_s0, tblP, valP, f1, hlt, hlt', hx, hy, hl1, hR, u.row, p173, hK, u.key, p157, q0', q0b, hw1, hxk, hyk, hkx, hky, hO, u.order, p42, q2, bne]
        · have hfin : RisOk t ps (i + 1) := by
            refine ⟨fun k z hk hz => ?_, fun k z w hk hz hw => ?_⟩
            · rcases Nat.lt_or_ge k i with h | h
              · exact hf.row k z h hz
              · obtain rfl : k = i := by omega
                rw [hx] at hz
                obtain rfl := Option.some.inj hz
                exact q1
            · rcases Nat.lt_or_ge (k + 1) i with h | h
              · exact hf.adj k z w h hz hw
              · have hki : k = i - 1 := by omega
                rw [hki, hy] at hz
                rw [show k + 1 = i by omega, hx] at hw
                obtain rfl := Option.some.inj hz
                obtain rfl := Option.some.inj hw
                rw [hkt]
                exact hlti.2 (by omega)
          generalize ord5 (keyN kk y2) (keyN kk x2) = o at hO q2
          generalize keyN kk x2 = vx at hxk hO
          generalize keyN kk y2 = vy at hyk hO
          simp (maxSteps := 4000000) [Fn.f_haulageref15_rising_b0, Fn.f_haulageref15_rising_s0, tblP, valP, f1, hlt, hlt', hx, hy, hl1, hR, u.row, p173, hK, u.key, p157, q0', q0b, hw1, hxk, hyk, hkx, hky, hO, u.order, p42, q2, hw, bne, -Int.natCast_add]
          exact ⟨i + 1, by omega, hlt, hfin, rfl, rfl, rfl, rfl⟩
    · have q1b : (rowE t x.2 == 0) = false := by simpa using q1
      obtain ⟨x1, x2⟩ := x
      simp only at hR q1 q1b
      simp (maxSteps := 4000000) [Fn.f_haulageref15_rising_b0, Fn.f_haulageref15_rising_s0, tblP, f1, hlt, hlt', hx, hR, u.row, p173, q1, q1b, bne]
  · have hlt' : ¬ (i : Int) < ps.length := by omega
    obtain rfl : i = ps.length := by omega
    rcases hp1 with ⟨rfl, rfl⟩ | rfl
    · simp (maxSteps := 4000000) [Fn.f_haulageref15_rising_b0, Fn.f_haulageref15_rising_s0]
      exact hf
    · simp (maxSteps := 4000000) [Fn.f_haulageref15_rising_b0, Fn.f_haulageref15_rising_s0]
      exact hf
theorem ref_rising (u : C15 E) (h141 : E.fn 141 = some Fn.f_haulageref15_rising) {t : Tbl} (ht : TblOk t) {p : PV} {ps : List (PV × Row)} (hp : RawL p ps) (hi64 : ∀ x ∈ ps, ∀ v ∈ x.2, isI64 v.2.1) (hl : ps.length ≤ 1000) (hrl : ∀ x ∈ ps, x.2.length ≤ 1000) (k : Nat) (hk : 4000 ≤ k) :
    ∃ b : Bool, (b = true → RisOk t ps ps.length ∧ ps.length ≤ 200) ∧ ∀ m, denF E (k + 1) 141 [.p (.agg (tblP t)), .p p] m = some (.ret (.p (.bool b)), m) := by
  obtain ⟨j, rfl⟩ : ∃ j, k = j + 1 := ⟨k - 1, by omega⟩
  have f1 := ht.f.flat
  unfold PV.flat at f1
  have hx : ∃ v, (∃ b : Bool, v = .p (.bool b) ∧ (b = true → RisOk t ps ps.length ∧ ps.length ≤ 200)) ∧ ∀ m, denF E (j + 1 + 1) 141 [.p (.agg (tblP t)), .p p] m = some (.ret v, m) := by
    refine denF_ex h141 rfl (args' := [.p (.agg (tblP t)), .p p]) (by rcases hp.1 with ⟨_, rfl⟩ | rfl <;> rfl) ?_
    have hL := fun st0 h0 => ris_loop u ht hp hi64 hl hrl j (by omega) st0 h0
    simp (maxSteps := 4000000) [Fn.f_haulageref15_rising, tblP, f1]
    refine (hL _ ⟨rfl, rfl, rfl, rfl⟩).mono ?_
    rintro e st ⟨hds, hlen, ⟨rfl, h1, hok⟩ | ⟨rfl, h4⟩⟩
    · obtain ⟨ts', m', ds⟩ := st
      simp only at hds hlen h1
      subst hds
      have hx := expand_ts 45 ts' hlen
      simp only [List.range, List.range.loop, List.map_cons, List.map_nil] at hx
      rw [h1] at hx
      rw [hx]
      rcases hp.1 with ⟨rfl, rfl⟩ | rfl
      · simp
        exact hok
      · simp
        by_cases h200 : ps.length ≤ 200
        · exact .inr ⟨by omega, hok, h200⟩
        · exact .inl (by omega)
    · obtain ⟨ts', m', ds⟩ := st
      simp only at hds hlen h4
      subst hds
      simp [h4]
  obtain ⟨v, ⟨b, rfl, hb⟩, hrun⟩ := hx
  exact ⟨b, hb, hrun⟩
def toRE (e : RawE) : RE := (e.1, e.2.1, e.2.2.map (·.2))
structure RightAt (ts : List Tbl) (es : List RawE) (n : Nat) : Prop where
  id : ∀ (i : Nat) e t, i < n → es[i]? = some e → ts[i]? = some t → e.1 = t.id
  ok : ∀ (i : Nat) e t, i < n → es[i]? = some e → ts[i]? = some t → RisOk t e.2.2 e.2.2.length ∧ e.2.2.length ≤ 200
theorem stG_right {tp rp : PV} {ts : List Tbl} {es : List RawE} (htp : TabQ tp ts) (hok : TabsOk ts) (hc : catB ts = true) (hrp : RawS rp es) (hlen : es.length = ts.length) (hi64 : ∀ e ∈ es, ∀ x ∈ e.2.2, ∀ v ∈ x.2, isI64 v.2.1) (h : RightAt ts es es.length) : StG tp rp ts (es.map toRE) := by
  have hcr := catR_of hok hc
  obtain ⟨hr1, hr2⟩ := hrp
  have atE : ∀ (i : Nat) (e' : RE), (es.map toRE)[i]? = some e' → ∃ e t, es[i]? = some e ∧ ts[i]? = some t ∧ e' = toRE e ∧ i < es.length := by
    intro i e' he
    rw [List.getElem?_map] at he
    cases hq : es[i]? with
    | none => rw [hq] at he; cases he
    | some e =>
      rw [hq] at he
      have hil := (List.getElem?_eq_some_iff.1 hq).1
      exact ⟨e, ts[i]'(by omega), rfl, List.getElem?_eq_getElem (by omega), (Option.some.inj he).symm, hil⟩
  have rows : ∀ (i : Nat) e t, es[i]? = some e → ts[i]? = some t → i < es.length → ∀ x ∈ e.2.2, rowE t x.2 = 0 ∧ RowFit t x.2 ∧ x.1 = .vals 3 (x.2.map valP) := by
    intro i e t he ht hil x hx
    obtain ⟨q, hq⟩ := List.getElem?_of_mem hx
    have h0 := (h.ok i e t hil he ht).1.row q x (List.getElem?_eq_some_iff.1 hq).1 hq
    refine ⟨h0, rowE_fit h0 (hi64 e (List.mem_of_getElem? he) x hx), ?_⟩
    rcases (hr2 e (List.mem_of_getElem? he)).2 x hx with ⟨hn, _⟩ | hv
    · exfalso
      have hl := (rowE_tab h0).2
      rw [hn] at hl
      have hne := (hcr.r t (List.mem_of_getElem? ht)).g.ne
      exact hne (List.length_eq_zero_iff.1 (by simpa using hl.symm))
    · exact hv
  refine ⟨htp, ?_, by simpa using hlen, by have := hcr.len; omega, fun t ht => (hcr.r t ht).g, ?_, ?_, ?_, ?_, ?_⟩
  · rcases hr1 with ⟨rfl, hr⟩ | hr
    · exact .inl ⟨rfl, hr⟩
    · refine .inr ?_
      rw [hr]
      unfold RZ
      rw [List.map_map]; rfl
  · intro e' he'
    obtain ⟨i, hi⟩ := List.getElem?_of_mem he'
    obtain ⟨e, t, he, ht, rfl, hil⟩ := atE i e' hi
    have hre := (hr2 e (List.mem_of_getElem? he)).1
    unfold toRE
    simp only
    rcases hre with ⟨h0, hp⟩ | hp
    · exact .inl ⟨by rw [h0]; rfl, hp⟩
    · refine .inr ?_
      rw [hp]
      unfold ZP
      rw [List.map_map]
      congr 1
      apply List.map_congr_left
      intro x hx
      show [x.1] = rowP x.2
      rw [(rows i e t he ht hil x hx).2.2]; rfl
  · intro i t e' ht he' r hr
    obtain ⟨e, t', he, ht', rfl, hil⟩ := atE i e' he'
    rw [ht] at ht'
    obtain rfl := Option.some.inj ht'
    obtain ⟨x, hx, rfl⟩ := List.mem_map.1 hr
    exact (rows i e t he ht hil x hx).2.1
  · intro e' he'
    obtain ⟨i, hi⟩ := List.getElem?_of_mem he'
    obtain ⟨e, t, he, ht, rfl, hil⟩ := atE i e' hi
    unfold toRE
    simp only [List.length_map]
    exact (h.ok i e t hil he ht).2
  · apply List.ext_getElem?
    intro i
    rw [List.getElem?_map, List.getElem?_map, List.getElem?_map]
    cases hq : es[i]? with
    | none =>
      have : ts[i]? = none := by
        rw [List.getElem?_eq_none_iff] at hq ⊢
        omega
      rw [this]; rfl
    | some e =>
      have hil := (List.getElem?_eq_some_iff.1 hq).1
      have ht : ts[i]? = some (ts[i]'(by omega)) := List.getElem?_eq_getElem (by omega)
      rw [ht]
      simp only [Option.map_some, toRE]
      rw [h.id i e _ hil hq ht]
  · intro i t e' ht he'
    obtain ⟨e, t', he, ht', rfl, hil⟩ := atE i e' he'
    rw [ht] at ht'
    obtain rfl := Option.some.inj ht'
    unfold toRE
    simp only
    refine chain_lt ltV_ok fun q a b ha hb => ?_
    rw [List.getElem?_map] at ha hb
    cases h1 : e.2.2[q]? with
    | none => rw [h1] at ha; cases ha
    | some x =>
      cases h2 : e.2.2[q + 1]? with
      | none => rw [h2] at hb; cases hb
      | some y =>
        rw [h1] at ha
        rw [h2] at hb
        obtain rfl := Option.some.inj ha
        obtain rfl := Option.some.inj hb
        exact (h.ok i e t hil he ht).1.adj q x y (List.getElem?_eq_some_iff.1 h2).1 h1 h2
theorem ref_SRight (u : C15 E) (h141 : E.fn 141 = some Fn.f_haulageref15_rising) (h125 : E.fn 125 = some Fn.f_haulageref15_Right) {tp rp : PV} {ts : List Tbl} {es : List RawE} (htp : TabQ tp ts) (hok : TabsOk ts) (hrp : RawS rp es) (hfew : FewSt es) (hi64 : ∀ e ∈ es, ∀ x ∈ e.2.2, ∀ v ∈ x.2, isI64 v.2.1) (k : Nat) (hk : 5000 ≤ k) :
    ∃ b : Bool, (b = true → StG tp rp ts (es.map toRE)) ∧ ∀ m, denF E (k + 1) 125 [.p (.agg [tp, rp])] m = some (.ret (.p (.bool b)), m) := by
  obtain ⟨j, rfl⟩ : ∃ j, k = j + 1 := ⟨k - 1, by omega⟩
  have f1 := htp.flat
  have f2 := hrp.flat
  unfold PV.flat at f1 f2
  have hC := fun m => ref_CRight u.toB15 htp hok j (by omega) m
  have hx : ∃ v, (∃ b : Bool, v = .p (.bool b) ∧ (b = true → StG tp rp ts (es.map toRE))) ∧ ∀ m, denF E (j + 1 + 1) 125 [.p (.agg [tp, rp])] m = some (.ret v, m) := by
    refine denF_ex h125 rfl (args' := [.p (.agg [tp, rp])]) rfl ?_
    cases q1 : catB ts with
    | false =>
      rw [q1] at hC
      simp (maxSteps := 4000000) [Fn.f_haulageref15_Right, f1, f2, hC]
    | true =>
    rw [q1] at hC
    have hcr := catR_of hok q1
    by_cases q2 : es.length = ts.length
    · have hmain : ∀ st, Live Fn.f_haulageref15_Right_k0 (Fn.f_haulageref15_Right_s0 (.ptr 0 0) (.p (.int .i64 0))) [.cells [.p tp, .p rp]] st →
          Wp (iter (loopF E (denF E (j + 1)) (j + 1) Fn.f_haulageref15_Right_k0 Fn.f_haulageref15_Right_b0) (j + 1) st) (fun e st => st.ds = [] ∧ st.ts.length = 55 ∧ ((e = .exit 0 ∧ RightAt ts es es.length) ∨ (e = .ret ∧ st.ts.getD 2 (.tup []) = .p (.bool false)))) := by
        intro st0 hst0
        refine loop_wp (α := Nat) (I := fun i st => i ≤ es.length ∧ RightAt ts es i ∧ Live Fn.f_haulageref15_Right_k0 (Fn.f_haulageref15_Right_s0 (.ptr 0 0) (.p (.int .i64 i))) [.cells [.p tp, .p rp]] st) (meas := fun i => es.length - i) ?_ (j + 1) 0 _ ⟨Nat.zero_le _, ⟨fun i e t h => absurd h (Nat.not_lt_zero _), fun i e t h => absurd h (Nat.not_lt_zero _)⟩, hst0⟩ (by have := hfew.len; omega)
        rintro i st ⟨hi, hf, hlive⟩
        rw [loopF_live hlive]
        by_cases hlt : i < es.length
        · have hlt' : (i : Int) < es.length := by omega
          have hlt2 : i < ts.length := by omega
          obtain ⟨e, he⟩ : ∃ e, es[i]? = some e := ⟨_, List.getElem?_eq_getElem hlt⟩
          obtain ⟨t, ht⟩ : ∃ t, ts[i]? = some t := ⟨_, List.getElem?_eq_getElem hlt2⟩
          have hem := List.mem_of_getElem? he
          have hw : IntKind.i64.wrap ((i : Int) + 1) = ((i + 1 : Nat) : Int) := by have := hfew.len; rw [wrap_i64 (by omega) (by omega)]; omega
          have hto := hok t (List.mem_of_getElem? ht)
          obtain ⟨b, hb, hB⟩ := ref_rising u h141 hto (hrp.2 e hem) (hi64 e hem) (by have := (hfew.rows e hem).1; omega) (fun x hx => by have := (hfew.rows e hem).2 x hx; omega) j (by omega)
          have ft := hto.f.flat
          unfold PV.flat at ft
          simp only [tblP] at hB
          rcases htp with ⟨rfl, rfl⟩ | rfl
          · simp at hlt2
          rcases hrp.1 with ⟨rfl, rfl⟩ | hrv
          · simp at hlt
          subst hrv
          cases q3 : (e.1 == t.id) with
          | false =>
            obtain ⟨e1, e2, e3⟩ := e
            simp only at q3
            simp (maxSteps := 4000000) [Fn.f_haulageref15_Right_b0, Fn.f_haulageref15_Right_s0, tblP, ft, hlt, hlt', hlt2, he, ht, q3, bne]
          | true =>
            cases b with
            | false =>
              obtain ⟨e1, e2, e3⟩ := e
              simp only at q3 hB
              simp (maxSteps := 4000000) [Fn.f_haulageref15_Right_b0, Fn.f_haulageref15_Right_s0, tblP, ft, hlt, hlt', hlt2, he, ht, q3, hB, h141, p141, bne]
            | true =>
              have hfin : RightAt ts es (i + 1) := by
                refine ⟨fun k y z hk hy hz => ?_, fun k y z hk hy hz => ?_⟩
                · rcases Nat.lt_or_ge k i with h | h
                  · exact hf.id k y z h hy hz
                  · obtain rfl : k = i := by omega
                    rw [he] at hy
                    rw [ht] at hz
                    obtain rfl := Option.some.inj hy
                    obtain rfl := Option.some.inj hz
                    simpa using q3
                · rcases Nat.lt_or_ge k i with h | h
                  · exact hf.ok k y z h hy hz
                  · obtain rfl : k = i := by omega
                    rw [he] at hy
                    rw [ht] at hz
                    obtain rfl := Option.some.inj hy
                    obtain rfl := Option.some.inj hz
                    exact hb rfl
              obtain ⟨e1, e2, e3⟩ := e
              simp only at q3 hB
              simp (maxSteps := 4000000) [Fn.f_haulageref15_Right_b0, Fn.f_haulageref15_Right_s0, tblP, ft, hlt, hlt', hlt2, he, ht, q3, hB, h141, p141, hw, bne, -Int.natCast_add]
              exact ⟨i + 1, by omega, hlt, hfin, rfl, rfl, rfl, rfl⟩
        · have hlt' : ¬ (i : Int) < es.length := by omega
          obtain rfl : i = es.length := by omega
          rcases hrp.1 with ⟨rfl, rfl⟩ | hrv
          · simp [Fn.f_haulageref15_Right_b0, Fn.f_haulageref15_Right_s0]
            exact hf
          · subst hrv
            simp [Fn.f_haulageref15_Right_b0, Fn.f_haulageref15_Right_s0]
            exact hf
      have q2' : ((es.length : Int) == (ts.length : Int)) = true := by rw [q2]; exact beq_self_eq_true _
      have q2s := q2.symm
      rcases htp with ⟨rfl, rfl⟩ | htv
      · have e0 : es = [] := List.length_eq_zero_iff.1 q2
        subst e0
        rcases hrp.1 with ⟨_, rfl⟩ | rfl
        all_goals
          simp (maxSteps := 4000000) [Fn.f_haulageref15_Right, hC, bne]
          refine (hmain _ ⟨rfl, rfl, rfl, rfl⟩).mono ?_
          rintro e st ⟨hds, hlen, ⟨rfl, hr⟩ | ⟨rfl, h2⟩⟩
          · have hst := stG_right (.inl ⟨rfl, rfl⟩) hok q1 hrp q2 hi64 hr
            obtain ⟨ts', m', ds⟩ := st
            simp only at hds hlen
            subst hds
            have hx := expand_ts 55 ts' hlen
            simp only [List.range, List.range.loop, List.map_cons, List.map_nil] at hx
            rw [hx]
            simp
            exact hst
          · obtain ⟨ts', m', ds⟩ := st
            simp only at hds hlen h2
            subst hds
            simp [h2]
      · subst htv
        rcases hrp.1 with ⟨h0, hrv⟩ | hrv
        · subst hrv
          have e0 : ts.length = 0 := by rw [← q2, h0]; rfl
          simp (maxSteps := 4000000) [Fn.f_haulageref15_Right, hC, e0, bne]
          refine (hmain _ ⟨rfl, rfl, rfl, rfl⟩).mono ?_
          rintro e st ⟨hds, hlen, ⟨rfl, hr⟩ | ⟨rfl, h2⟩⟩
          · have hst := stG_right (.inr rfl) hok q1 hrp q2 hi64 hr
            obtain ⟨ts', m', ds⟩ := st
            simp only at hds hlen
            subst hds
            have hx := expand_ts 55 ts' hlen
            simp only [List.range, List.range.loop, List.map_cons, List.map_nil] at hx
            rw [hx]
            simp
            exact hst
          · obtain ⟨ts', m', ds⟩ := st
            simp only at hds hlen h2
            subst hds
            simp [h2]
        · subst hrv
          simp (maxSteps := 4000000) [Fn.f_haulageref15_Right, hC, q2s, bne]
          refine (hmain _ ⟨rfl, rfl, rfl, rfl⟩).mono ?_
          rintro e st ⟨hds, hlen, ⟨rfl, hr⟩ | ⟨rfl, h2⟩⟩
          · have hst := stG_right (.inr rfl) hok q1 hrp q2 hi64 hr
            obtain ⟨ts', m', ds⟩ := st
            simp only at hds hlen
            subst hds
            have hx := expand_ts 55 ts' hlen
            simp only [List.range, List.range.loop, List.map_cons, List.map_nil] at hx
            rw [hx]
            simp
            exact hst
          · obtain ⟨ts', m', ds⟩ := st
            simp only at hds hlen h2
            subst hds
            simp [h2]
    · have q2' : ((es.length : Int) == (ts.length : Int)) = false := by rw [beq_eq_false_iff_ne]; omega
      rcases htp with ⟨rfl, rfl⟩ | rfl
      all_goals
        rcases hrp.1 with ⟨h0, rfl⟩ | rfl
        all_goals
          first
          | (exfalso; exact q2 (by rw [h0]; rfl))
          | (try rw [h0] at q2'
             try simp only [List.length_nil, Int.natCast_zero] at q2'
             simp (maxSteps := 4000000) [Fn.f_haulageref15_Right, hC, q2, q2', bne])
  obtain ⟨v, ⟨b, rfl, hb⟩, hrun⟩ := hx
  exact ⟨b, hb, hrun⟩
end Hx
