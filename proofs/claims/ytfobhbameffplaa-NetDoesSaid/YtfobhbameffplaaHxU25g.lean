/-
  HxU25g: which changes are plain, as the program says.
-/
import Derived.Test.YtfobhbameffplaaHxU25o
import Derived.Test.YtfobhbameffplaaHxU25i
namespace Hx
open Go
set_option linter.unusedSimpArgs false
set_option linter.unusedVariables false
set_option maxHeartbeats 64000000
set_option maxRecDepth 20000
variable {E : Env}
attribute [-simp] List.getD_eq_getElem?_getD getElem?_pos
theorem findE_get : ∀ {R : List En} {i : Nat} {e : En}, (R.Pairwise fun a b => a.1 ≠ b.1) → R[i]? = some e → findE e.1 R = some e.2
  | [], i, e, _, h => by simp at h
  | x :: R, i, e, hp, h => by
    unfold findE
    cases i with
    | zero =>
      simp only [List.getElem?_cons_zero, Option.some.injEq] at h
      subst h
      rw [if_pos rfl]
    | succ i =>
      simp only [List.getElem?_cons_succ] at h
      rw [if_neg ((List.pairwise_cons.1 hp).1 e (List.mem_of_getElem? h))]
      exact findE_get hp.of_cons h
def KeepM (m m' : Mem) : Prop := ∀ (i : Nat) (b : Blk), Blk.still b = true → m[i]? = some b → m'[i]? = some b
theorem KeepM.refl (m : Mem) : KeepM m m := fun _ _ _ h => h
theorem KeepM.trans {a b c : Mem} (h : KeepM a b) (k : KeepM b c) : KeepM a c := fun i x hx hi => k i x hx (h i x hx hi)
def endB (kd : Int) (e : En) : Option Ch := (comesB e.2.1 e.2.2).filter fun c => c.kind == kd
def preE (kd : Int) (R : List En) (i : Nat) : List Ch := (R.take i).filterMap (endB kd)
theorem preE_len (kd : Int) (R : List En) (i : Nat) : (preE kd R i).length ≤ R.length := by
  unfold preE
  have h1 := List.length_filterMap_le (endB kd) (R.take i)
  have h3 : (R.take i).length ≤ R.length := by rw [List.length_take]; omega
  omega
theorem preE_step {kd : Int} {R : List En} {i : Nat} {e : En} (h : R[i]? = some e) : preE kd R (i + 1) = preE kd R i ++ (endB kd e).toList := by
  obtain ⟨h1, h2⟩ := List.getElem?_eq_some_iff.1 h
  unfold preE
  rw [List.take_succ_eq_append_getElem h1, List.filterMap_append, h2]
  congr 1
theorem endB_Z {kd : Int} (hk : kd ≠ 0) (e : En) : (endB kd e).toList = if (comesZ e.2.1 e.2.2).kind = kd then [comesZ e.2.1 e.2.2] else [] := by
  unfold endB comesZ
  cases comesB e.2.1 e.2.2 with
  | none =>
    have h0 : ¬ (0 : Int) = kd := fun h => hk h.symm
    simp [chZ, h0]
  | some c =>
    by_cases h : c.kind = kd
    · simp [h]
    · simp [h]
theorem comesZ_F {f z : Ch} (h : ChF z) : ChF (comesZ f z) := by
  unfold comesZ comesB
  split
  · split
    · exact ⟨rfl, rfl⟩
    · exact ⟨h.cs, h.sl⟩
  · split <;> exact ⟨h.cs, h.sl⟩
def arrV : AV := .p (.agg [.int .i64 3, .int .i64 2, .int .i64 1])
def OrdV (R : List En) (av : AV) : Prop := (R = [] ∧ av = .p .nils) ∨ ∃ tok, av = .tv 4 (R.map fun e => keyC e.1) tok
theorem p282 : Fn.f_net_both_comes.pure = true := rfl
theorem end_inner (u : N25 E) {R : List En} (hp : R.Pairwise fun a b => a.1 ≠ b.1) (hf : ∀ e ∈ R, ChF e.2.1 ∧ ChF e.2.2) (hn : (R.length : Int) ≤ 1000000) (k : Nat) (hk : R.length + 8 ≤ k) {kd : Int} (hkd : kd ≠ 0) {q : Nat}
    {base : List Ch} (hbase : base.length ≤ 5000000) {idr idm : Nat} {ord : AV} (hord : OrdV R ord) {m : Mem} (hm1 : m[idr]? = some (.cells [ord, .map idm])) (hm2 : m[idm]? = some (.map (entsP vE R))) {av : AV} (ho : OutAt m base av) {st : St} (hst : Live Fn.f_net_run_end_k1 (Fn.f_net_run_end_s1 (.ptr idr 0) av (.p (.int .i64 kd)) arrV (.p (.int .i64 q)) ord (.p (.int .i64 R.length)) (.p (.int .i64 0))) m st) :
    Wp (iter (loopF E (denF E k) k Fn.f_net_run_end_k1 Fn.f_net_run_end_b1) k st)
      (fun e st => e = .exit 2 ∧ st.ds = [] ∧ st.ts.length = 41 ∧ st.ts.getD 0 (.tup []) = .ptr idr 0 ∧ st.ts.getD 10 (.tup []) = arrV ∧ st.ts.getD 11 (.tup []) = .p (.int .i64 q) ∧ KeepM m st.m ∧ OutAt st.m (base ++ endK kd R) (st.ts.getD 1 (.tup []))) := by
  obtain ⟨j, rfl⟩ : ∃ j, k = j + 1 := ⟨k - 1, by omega⟩
  refine loop_wp (α := Nat × Mem × AV) (I := fun a st => a.1 ≤ R.length ∧ KeepM m a.2.1 ∧ OutAt a.2.1 (base ++ preE kd R a.1) a.2.2 ∧ Live Fn.f_net_run_end_k1 (Fn.f_net_run_end_s1 (.ptr idr 0) a.2.2 (.p (.int .i64 kd)) arrV (.p (.int .i64 q)) ord (.p (.int .i64 R.length)) (.p (.int .i64 a.1))) a.2.1 st) (meas := fun a => R.length - a.1) ?_ (j + 1) (0, m, av) st ⟨Nat.zero_le _, KeepM.refl m, by simpa [preE] using ho, hst⟩ (by simp only [Nat.sub_zero]; omega)
  rintro ⟨i, m1, av⟩ st ⟨hi, hkp, ho, hlive⟩
  simp only at hi hkp ho hlive
  rw [loopF_live hlive]
  by_cases hlt : i < R.length
  · have hlt' : (i : Int) < R.length := by omega
    obtain ⟨e, he⟩ : ∃ e, R[i]? = some e := ⟨_, List.getElem?_eq_getElem hlt⟩
    have hem := List.mem_of_getElem? he
    have hw : IntKind.i64.wrap ((i : Int) + 1) = ((i + 1 : Nat) : Int) := by rw [wrap_i64 (by omega) (by omega)]; omega
    obtain ⟨f1, f2⟩ := hf e hem
    have hC := fun m => net_comes u f1 f2 j m
    have hst := preE_step (kd := kd) he
    rw [endB_Z hkd] at hst
    have hpk : base ++ preE kd R (i + 1) = (base ++ preE kd R i) ++ (if (comesZ e.2.1 e.2.2).kind = kd then [comesZ e.2.1 e.2.2] else []) := by rw [hst, List.append_assoc]
    have hlen : (base ++ preE kd R i).length ≤ 6000000 := by have := preE_len kd R i; rw [List.length_append]; omega
    obtain ⟨z1, z2⟩ := comesZ_F (f := e.2.1) f2
    unfold PV.flat at z1 z2
    generalize base ++ preE kd R i = out at ho hlen hpk
    generalize comesZ e.2.1 e.2.2 = z at hC hpk z1 z2
    have hr1 := hkp _ _ rfl hm1
    have hr2 := hkp _ _ rfl hm2
    obtain ⟨qq, hfm, _⟩ := findM_some vE (k := e.1) (E := R) (x := e.2) 0 (by rw [findK_E]; exact findE_get hp he)
    rw [Nat.zero_add] at hfm
    have hkk := eq_key e.1 e.1
    simp only [decide_true] at hkk
    simp only [keyE, keyP, vE] at hfm hkk
    simp only [chV, List.cons_append, List.nil_append] at hC
    have hl1 := idx_lt hr1
    have hl2 := idx_lt hr2
    have b1 : ∀ n, idr < m1.length + n := fun n => by omega
    have b2 : ∀ n, idm < m1.length + n := fun n => by omega
    have g1 : ∀ l : Mem, (m1 ++ l)[idr]? = some (.cells [ord, .map idm]) := fun l => by rw [get_appl hl1]; exact hr1
    have g2 : ∀ l : Mem, (m1 ++ l)[idm]? = some (.map (entsP vE R)) := fun l => by rw [get_appl hl2]; exact hr2
    rcases hord with ⟨rfl, rfl⟩ | ⟨tk, rfl⟩
    · simp at hlt
    cases hz : (z.kind == kd) with
    | false =>
      have hz' : ¬ z.kind = kd := by simpa using hz
      rw [if_neg hz', List.append_nil] at hpk
      simp (maxSteps := 8000000) [Fn.f_net_run_end_b1, Fn.f_net_run_end_s1, hlt, hlt', he, keyC, hC, u.comes, p282, ln_at0, ln_at1, ln_set0, ln_set1, hl1, hl2, b1, b2, g1, g2, hfm, hkk, chV, z1, z2, hz, hw, -Int.natCast_add]
      refine ⟨i + 1, by omega, hlt, _, ?_, av, by rw [hpk]; exact ho.keep fun t n h => get_app5 h, rfl, rfl, rfl, rfl⟩
      exact hkp.trans fun i b _ h => get_app5 h
    | true =>
      have hz' : z.kind = kd := by simpa using hz
      rw [if_pos hz'] at hpk
      rcases ho with ⟨rfl, rfl⟩ | ⟨tok, rfl, ht⟩
      · simp (maxSteps := 8000000) [Fn.f_net_run_end_b1, Fn.f_net_run_end_s1, hlt, hlt', he, keyC, hC, u.comes, p282, ln_at0, ln_at1, ln_set0, ln_set1, hl1, hl2, b1, b2, g1, g2, hfm, hkk, chV, z1, z2, hz, hw, room, -Int.natCast_add]
        refine ⟨i + 1, by omega, hlt, _, ?_, _, ?_, rfl, rfl, rfl, rfl⟩
        · exact hkp.trans fun i b _ h => get_app5 h
        · rw [hpk]
          exact .inr ⟨m1.length + 2, by simp [chV], ln_at2 _ _ _ _⟩
      · have htl := idx_lt ht
        have t0 : ∀ l : Mem, (m1 ++ l)[tok]? = some (.tok 19 out.length) := fun l => by rw [get_appl htl]; exact ht
        have t1 : ∀ (l : Mem) (x : Blk), (m1 ++ l).set tok x = m1.set tok x ++ l := fun l x => set_app htl x
        have r1 : (out.length + 1) * 240 ≤ 70368744177664 := by omega
        have r2 : out.length + 1 ≤ 70368744177664 := by omega
        simp (maxSteps := 8000000) [Fn.f_net_run_end_b1, Fn.f_net_run_end_s1, hlt, hlt', he, keyC, hC, u.comes, p282, ln_at0, ln_at1, ln_set0, ln_set1, hl1, hl2, b1, b2, g1, g2, hfm, hkk, chV, z1, z2, hz, hw, t0, t1, r1, r2, room, -Int.natCast_add]
        refine ⟨i + 1, by omega, hlt, _, ?_, _, ?_, rfl, rfl, rfl, rfl⟩
        · refine hkp.trans fun i b hb h => ?_
          have hne : tok ≠ i := by
            rintro rfl
            rw [ht] at h
            obtain rfl := Option.some.inj h
            cases hb
          rw [get_appl (by simpa using idx_lt h), List.getElem?_set_ne hne]; exact h
        · rw [hpk]
          refine .inr ⟨tok, by simp [chV], ?_⟩
          rw [get_appl (by simpa using htl), List.getElem?_set_self htl]; simp
  · have hlt' : ¬ (i : Int) < R.length := by omega
    have e1 : preE kd R i = endK kd R := by unfold preE endK; rw [List.take_of_length_le (by omega)]; rfl
    rw [e1] at ho
    simp [Fn.f_net_run_end_b1, Fn.f_net_run_end_s1, hlt', hkp, ho]
theorem endK_len (kd : Int) (R : List En) : (endK kd R).length ≤ R.length := List.length_filterMap_le ..
def endN (R : List En) : Nat → List Ch
  | 0 => []
  | 1 => endK 3 R
  | 2 => endK 3 R ++ endK 2 R
  | _ => endE R
theorem net_end (u : N25 E) {R : List En} (hp : R.Pairwise fun a b => a.1 ≠ b.1) (hf : ∀ e ∈ R, ChF e.2.1 ∧ ChF e.2.2) (hn : (R.length : Int) ≤ 1000000) (k : Nat) (hk : R.length + 20 ≤ k) {out : List Ch} (hout : out.length ≤ 1000000) {idr idm : Nat} {ord : AV} (hord : OrdV R ord) {m : Mem} (hm1 : m[idr]? = some (.cells [ord, .map idm])) (hm2 : m[idm]? = some (.map (entsP vE R))) {av : AV} (ho : OutAt m out av) :
    ∃ m' av', denF E (k + 1) 147 [.ptr idr 0, av] m = some (.ret av', m') ∧ OutAt m' (out ++ endE R) av' ∧ KeepM m m' := by
  have hlenv : lenV ord = some R.length := by rcases hord with ⟨rfl, rfl⟩ | ⟨tk, rfl⟩ <;> simp
  have hmain : Wp (iter (loopF E (denF E k) k Fn.f_net_run_end_k0 Fn.f_net_run_end_b0) k ⟨[.ptr idr 0, av, .tup [], .tup [], .p .nils, .tup [], .tup [], .tup [], .tup [], .tup [], arrV, .p (.int .i64 0)] ++ List.replicate 29 (.tup []), m, []⟩)
      (fun e st => e = .exit 0 ∧ st.ds = [] ∧ st.ts.length = 41 ∧ KeepM m st.m ∧ OutAt st.m (out ++ endE R) (st.ts.getD 1 (.tup []))) := by
    refine loop_wp (α := Nat × Mem × AV) (I := fun a st => a.1 ≤ 3 ∧ KeepM m a.2.1 ∧ OutAt a.2.1 (out ++ endN R a.1) a.2.2 ∧ Live Fn.f_net_run_end_k0 (Fn.f_net_run_end_s0 (.ptr idr 0) a.2.2 arrV (.p (.int .i64 a.1))) a.2.1 st) (meas := fun a => 3 - a.1) ?_ k (0, m, av) _ ⟨Nat.zero_le _, KeepM.refl m, by simpa [endN] using ho, rfl, rfl, rfl, rfl⟩ (by show 3 - 0 < k; omega)
    rintro ⟨q, m1, av⟩ st ⟨hi, hkp, ho, hlive⟩
    simp only at hi hkp ho hlive
    rw [loopF_live hlive]
    have hr1 := hkp _ _ rfl hm1
    have hr2 := hkp _ _ rfl hm2
    have hb : (out ++ endN R q).length ≤ 5000000 := by
      have h1 := endK_len 3 R
      have h2 := endK_len 2 R
      have h3 := endK_len 1 R
      unfold endN endE
      split <;> simp only [List.length_nil, List.length_append] <;> omega
    by_cases hlt : q < 3
    · obtain ⟨kd, hkd, hq, hnext⟩ : ∃ kd : Int, kd ≠ 0 ∧ ([.int .i64 3, .int .i64 2, .int .i64 1] : List PV)[q]? = some (.int .i64 kd) ∧ endN R (q + 1) = endN R q ++ endK kd R := by
        have : q = 0 ∨ q = 1 ∨ q = 2 := by omega
        rcases this with rfl | rfl | rfl
        · exact ⟨3, by decide, rfl, by simp [endN]⟩
        · exact ⟨2, by decide, rfl, rfl⟩
        · exact ⟨1, by decide, rfl, by simp [endN, endE]⟩
      have hlt' : (q : Int) < 3 := by omega
      have hw : IntKind.i64.wrap ((q : Int) + 1) = ((q + 1 : Nat) : Int) := by rw [wrap_i64 (by omega) (by omega)]; omega
      have hin := fun st hst => end_inner u hp hf hn k (by omega) hkd (q := q) hb hord hr1 hr2 ho (st := st) hst
      rw [List.append_assoc, ← hnext] at hin
      have hgo : ∀ st, Live Fn.f_net_run_end_k1 (Fn.f_net_run_end_s1 (.ptr idr 0) av (.p (.int .i64 kd)) arrV (.p (.int .i64 q)) ord (.p (.int .i64 R.length)) (.p (.int .i64 0))) m1 st → True := fun _ _ => trivial
      rcases hord with ⟨rfl, rfl⟩ | ⟨tk, rfl⟩
      all_goals
        simp only [arrV] at hin ⊢
        simp [Fn.f_net_run_end_b0, Fn.f_net_run_end_s0, hlt, hlt', hr1, hq]
        refine (hin _ ⟨rfl, rfl, rfl, rfl⟩).mono ?_
        rintro e st ⟨rfl, hds, hlen, g0, g10, g11, gk, g1⟩
        obtain ⟨ts, m', ds⟩ := st
        simp only at hds hlen g0 g10 g11 gk g1
        subst hds
        have hx := expand_ts 41 ts hlen
        simp only [List.range, List.range.loop, List.map_cons, List.map_nil] at hx
        generalize ts.getD 1 (.tup []) = av' at *
        rw [g0, g10, g11] at hx
        rw [hx]
        simp [hw, -Int.natCast_add]
        exact ⟨q + 1, by omega, hlt, _, hkp.trans gk, _, g1, rfl, rfl, rfl, rfl⟩
    · obtain rfl : q = 3 := by omega
      simp [Fn.f_net_run_end_b0, Fn.f_net_run_end_s0]
      exact ⟨hkp, ho⟩
  obtain ⟨e, st, hrun, rfl, hds, hlen, hkp, ho⟩ := hmain
  refine ⟨st.m, st.ts.getD 1 (.tup []), ?_, ho, hkp⟩
  refine denF_wp_own u.end_ rfl ?_
  simp only [List.replicate, List.cons_append, List.nil_append, arrV] at hrun
  simp [Fn.f_net_run_end, hrun]
  obtain ⟨ts, m', ds⟩ := st
  simp only at hds hlen
  subst hds
  have hx := expand_ts 41 ts hlen
  simp only [List.range, List.range.loop, List.map_cons, List.map_nil] at hx
  generalize ts.getD 1 (.tup []) = av' at *
  rw [hx]
  simp
end Hx

namespace Hx
open Go
set_option linter.unusedSimpArgs false
set_option linter.unusedVariables false
set_option maxHeartbeats 64000000
set_option maxRecDepth 20000
variable {E : Env}
attribute [-simp] List.getD_eq_getElem?_getD getElem?_pos
def hdP (d : Ddl) : List PV := [.int .i64 d.op, .str d.table, .str d.column, .str d.to, .str d.key, .int .i64 d.kind, .int .i64 d.max, .bool d.null, .int .i64 d.dk, .int .i64 d.dn, .str d.ds]
theorem ddl_flat (h : E.fn 192 = some Fn.f_ddl_flat) (d : Ddl) {sl : PV} (hf : sl.flat = true) (k : Nat) (m : Mem) : denF E (k + 1) 192 [.p (.agg (dV d sl))] m = some (.ret (.p (.agg (hdP d))), m) := by
  refine denF_wp h rfl (args' := [.p (.agg (dV d sl))]) rfl ?_
  unfold PV.flat at hf
  simp (maxSteps := 4000000) [Fn.f_ddl_flat, dV, hdP, hf]
theorem eq_hd (d e : Ddl) : eqTree (.struct [(0, 1, .int), (1, 1, .str), (2, 1, .str), (3, 1, .str), (4, 1, .str), (5, 2, (.struct [(0, 1, .int), (1, 1, .int)])), (7, 1, .bool), (8, 3, (.struct [(0, 1, .int), (1, 1, .int), (2, 1, .str)]))]) (.agg (hdP d)) (.agg (hdP e)) = some (sameH d e) := by
  simp [eqTree, eqFs, partP, EqT.agg, hdP, sameH]
structure S25 (E : Env) : Prop where
  plain : E.fn 144 = some Fn.f_state_PlainChange
  same : E.fn 174 = some Fn.f_ddl_Same
  equal : E.fn 191 = some Fn.f_slices_Equal_api_Column_api_Column
  flat : E.fn 192 = some Fn.f_ddl_flat
theorem p191 : Fn.f_slices_Equal_api_Column_api_Column.pure = true := rfl
theorem p192 : Fn.f_ddl_flat.pure = true := rfl
theorem sl_EqualN (u : S25 E) {sl : PV} {cols : List (Int × Col)} (hc : SlQ sl cols) (k : Nat) (hk : 3 ≤ k) (m : Mem) :
    denF E (k + 1) 191 [.p sl, .p .nils] m = some (.ret (.p (.bool (rowsN sl == 0))), m) := by
  obtain ⟨j, rfl⟩ : ∃ j, k = j + 1 := ⟨k - 1, by omega⟩
  refine denF_wp u.equal rfl (args' := [.p sl, .p .nils]) rfl ?_
  rcases hc with ⟨rfl, rfl⟩ | rfl
  · simp [Fn.f_slices_Equal_api_Column_api_Column, rowsN, bne, iter_succ, loopF, Fn.f_slices_Equal_api_Column_api_Column_k0, Fn.f_slices_Equal_api_Column_api_Column_b0]
  · cases cols with
    | nil => simp [Fn.f_slices_Equal_api_Column_api_Column, rowsN, bne, iter_succ, loopF, Fn.f_slices_Equal_api_Column_api_Column_k0, Fn.f_slices_Equal_api_Column_api_Column_b0]
    | cons x l =>
      have hb : (((l.length + 1 : Nat) : Int) == 0) = false := by rw [beq_eq_false_iff_ne]; omega
      simp [-Int.natCast_add, Fn.f_slices_Equal_api_Column_api_Column, rowsN, bne, hb]
theorem ddl_SameZ (u : S25 E) {c : Ch} (h : ChOk c) (k : Nat) (hk : 10 ≤ k) (m : Mem) :
    denF E (k + 1) 174 [.p (.agg (dV c.d c.sl)), .p (.agg (dV { op := 0 } .nils))] m = some (.ret (.p (.bool (zeroD c))), m) := by
  obtain ⟨j, rfl⟩ : ∃ j, k = j + 1 := ⟨k - 1, by omega⟩
  obtain ⟨cols, hc⟩ := h.sl
  have hE := fun m => sl_EqualN u hc j (by omega) m
  have hf := hc.flat
  have hF1 := fun m => ddl_flat u.flat c.d hf j m
  have hF2 := fun m => ddl_flat u.flat { op := 0 } (sl := .nils) rfl j m
  have hq := eq_hd c.d { op := 0 }
  unfold PV.flat at hf
  simp only [dV, hdP] at hF1 hF2 hq
  refine denF_wp u.same rfl (args' := [.p (.agg (dV c.d c.sl)), .p (.agg (dV { op := 0 } .nils))]) rfl ?_
  unfold zeroD
  cases hz : (rowsN c.sl == 0) with
  | false =>
    rw [hz] at hE
    simp (maxSteps := 8000000) [Fn.f_ddl_Same, dV, hf, hE, u.equal, u.flat, p191, p192]
  | true =>
    rw [hz] at hE
    simp (maxSteps := 8000000) [Fn.f_ddl_Same, dV, hf, hE, hF1, hF2, hq, u.equal, u.flat, p191, p192]
theorem state_Plain (u : S25 E) {c : Ch} (h : ChOk c) (k : Nat) (hk : 1200 ≤ k) (m : Mem) :
    denF E (k + 1) 144 [.p (.agg (chV c))] m = some (.ret (.p (.bool (plainB c))), m) := by
  obtain ⟨j, rfl⟩ : ∃ j, k = j + 1 := ⟨k - 1, by omega⟩
  have hZ := fun m => ddl_SameZ u h j (by omega) m
  simp only [dV] at hZ
  obtain ⟨cells, hc⟩ := h.cs
  have hl := len_cel hc
  have hrn := rowsN_cel hc
  obtain ⟨c1, c2⟩ := h.f
  unfold PV.flat at c1 c2
  have hV := fun (a b c d : Int) (s t : List UInt8) => @eq_vP a b c d s t
  refine denF_wp u.plain rfl (args' := [.p (.agg (chV c))]) rfl ?_
  unfold plainB
  by_cases h0 : c.lsn < 0
  · have h0' : ¬ 0 ≤ c.lsn := by omega
    simp (maxSteps := 8000000) [Fn.f_state_PlainChange, chV, c1, c2, hZ, h0, h0']
  · have h0' : 0 ≤ c.lsn := by omega
    by_cases k1 : c.kind = 1
    · simp (maxSteps := 8000000) [Fn.f_state_PlainChange, chV, c1, c2, hZ, h0, h0', k1]
    by_cases k2 : c.kind = 2
    · simp (maxSteps := 8000000) [Fn.f_state_PlainChange, chV, c1, c2, hZ, h0, h0', k2]
    have b1 : (c.kind == 1) = false := by simpa using k1
    have b2 : (c.kind == 2) = false := by simpa using k2
    by_cases k3 : c.kind = 3
    · rw [hrn]
      cases hcl : (cells.length == 0) with
      | false =>
        rcases hc with ⟨rfl, hc⟩ | hc
        · simp at hcl
        · simp (maxSteps := 8000000) [Fn.f_state_PlainChange, chV, c1, c2, hZ, h0, h0', k3, hc, natB, hcl]
      | true =>
        rcases hc with ⟨rfl, hc⟩ | hc
        · simp (maxSteps := 8000000) [Fn.f_state_PlainChange, chV, c1, c2, hZ, h0, h0', k3, hc, natB]
        · simp (maxSteps := 8000000) [Fn.f_state_PlainChange, chV, c1, c2, hZ, h0, h0', k3, hc, natB, hcl]
    have b3 : (c.kind == 3) = false := by simpa using k3
    by_cases k4 : c.kind = 4
    · cases q1 : (c.table == c.d.table) with
      | false =>
        simp (maxSteps := 8000000) [Fn.f_state_PlainChange, chV, c1, c2, hZ, h0, h0', k4, q1]
      | true =>
        cases q2 : (c.kk == 0 && (c.kn == 0 && c.ks == [])) with
        | false =>
          have hV' := hV c.kk c.kn 0 0 c.ks []
          rw [q2] at hV'
          simp (maxSteps := 8000000) [Fn.f_state_PlainChange, chV, c1, c2, hZ, h0, h0', k4, q1, hV']
        | true =>
          have hV' := hV c.kk c.kn 0 0 c.ks []
          rw [q2] at hV'
          rw [hrn]
          rcases hc with ⟨rfl, hc⟩ | hc
          · simp (maxSteps := 8000000) [Fn.f_state_PlainChange, chV, c1, c2, hZ, h0, h0', k4, q1, hV', hc, natB]
          · simp (maxSteps := 8000000) [Fn.f_state_PlainChange, chV, c1, c2, hZ, h0, h0', k4, q1, hV', hc, natB]
    have b4 : (c.kind == 4) = false := by simpa using k4
    simp (maxSteps := 8000000) [Fn.f_state_PlainChange, chV, c1, c2, hZ, h0, h0', k1, k2, k3, k4, b1, b2, b3, b4]
end Hx
