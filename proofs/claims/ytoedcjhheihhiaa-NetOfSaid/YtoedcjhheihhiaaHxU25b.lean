/-
  HxU25b: changes as values; the document's functions of a run.
-/
import Derived.Test.YtoedcjhheihhiaaHxU25a
namespace Hx
open Go
set_option linter.unusedSimpArgs false
set_option linter.unusedVariables false
set_option maxHeartbeats 32000000
set_option maxRecDepth 20000
variable {E : Env}
attribute [-simp] List.getD_eq_getElem?_getD getElem?_pos
def chV (c : Ch) : List PV := [.int .i64 c.kind, .int .i64 c.lsn, .str c.table, .int .i64 c.kk, .int .i64 c.kn, .str c.ks, c.cs, .int .i64 c.d.op, .str c.d.table, .str c.d.column, .str c.d.to, .str c.d.key, .int .i64 c.d.kind, .int .i64 c.d.max, .bool c.d.null, .int .i64 c.d.dk, .int .i64 c.d.dn, .str c.d.ds, c.sl]
structure Cel where
  name : List UInt8
  kind : Int
  max : Int
  vk : Int
  vn : Int
  vs : List UInt8
def celP (c : Cel) : List PV := [.str c.name, .int .i64 c.kind, .int .i64 c.max, .int .i64 c.vk, .int .i64 c.vn, .str c.vs]
def CelQ (cs : PV) (rows : List Cel) : Prop := (rows = [] ∧ cs = .nils) ∨ cs = .vals 6 (rows.map celP)
theorem CelQ.flat {cs : PV} {rows : List Cel} (h : CelQ cs rows) : cs.flat = true := by rcases h with ⟨_, rfl⟩ | rfl <;> rfl
structure ChF (c : Ch) : Prop where
  cs : c.cs.flat = true
  sl : c.sl.flat = true
def LQ (sl : PV) (l : List Ch) : Prop := (l = [] ∧ sl = .nils) ∨ sl = .vals 19 (l.map chV)
theorem sm_eq (a b : Ch) : sm a b = (a.table == b.table && (a.kk == b.kk && (a.kn == b.kn && a.ks == b.ks))) := by
  rw [Bool.eq_iff_iff, sm_iff]
  unfold Ch.key
  simp only [Bool.and_eq_true, beq_iff_eq, Prod.mk.injEq]
theorem ref_same (h : E.fn 187 = some Fn.f_haulageref25_same) {a b : Ch} (ha : ChF a) (hb : ChF b) (k : Nat) (m : Mem) : denF E (k + 1) 187 [.p (.agg (chV a)), .p (.agg (chV b))] m = some (.ret (.p (.bool (sm a b))), m) := by
  obtain ⟨a1, a2⟩ := ha
  obtain ⟨b1, b2⟩ := hb
  unfold PV.flat at a1 a2 b1 b2
  have hV := fun (a b c d : Int) (s t : List UInt8) => @eq_vP a b c d s t
  rw [sm_eq]
  refine denF_wp h rfl (args' := [.p (.agg (chV a)), .p (.agg (chV b))]) rfl ?_
  cases q : (a.table == b.table)
  · simp (maxSteps := 8000000) [Fn.f_haulageref25_same, chV, a1, a2, b1, b2, q]
  · simp (maxSteps := 8000000) [Fn.f_haulageref25_same, chV, a1, a2, b1, b2, q, hV]
theorem p187 : Fn.f_haulageref25_same.pure = true := rfl
def lastI (c : Ch) : List Ch → Nat → Int → Int
  | [], _, at_ => at_
  | x :: r, i, at_ => lastI c r (i + 1) (if sm x c then i else at_)
theorem lastI_step {c x : Ch} {l : List Ch} {i : Nat} (h : l[i]? = some x) (at_ : Int) : lastI c (l.drop i) i at_ = lastI c (l.drop (i + 1)) (i + 1) (if sm x c then i else at_) := by
  obtain ⟨h1, h2⟩ := List.getElem?_eq_some_iff.1 h
  rw [List.drop_eq_getElem_cons h1, h2]; rfl
theorem ref_last (hs : E.fn 187 = some Fn.f_haulageref25_same) (h : E.fn 168 = some Fn.f_haulageref25_last) {sl : PV} {l : List Ch} (hl : LQ sl l) (hf : ∀ c ∈ l, ChF c) {c : Ch} (hc : ChF c) (hn : (l.length : Int) ≤ 1000000) (k : Nat) (hk : l.length + 3 ≤ k) (m : Mem) :
    denF E (k + 1) 168 [.p sl, .p (.agg (chV c)), .p (.int .i64 l.length)] m = some (.ret (.p (.int .i64 (lastI c l 0 (-1)))), m) := by
  obtain ⟨j, rfl⟩ : ∃ j, k = j + 1 := ⟨k - 1, by omega⟩
  obtain ⟨c1, c2⟩ := id hc
  unfold PV.flat at c1 c2
  refine denF_wp h rfl (args' := [.p sl, .p (.agg (chV c)), .p (.int .i64 l.length)]) rfl ?_
  have hmain : Wp (iter (loopF E (denF E (j + 1)) (j + 1) Fn.f_haulageref25_last_k0 Fn.f_haulageref25_last_b0) (j + 1) ⟨[.p sl, .p (.agg (chV c)), .p (.int .i64 l.length), .tup [], .ptr 0 0, .tup [], .p (.int .i64 0), .p (.int .i64 (-1)), .p (.int .i64 0)] ++ List.replicate 13 (.tup []), [.cells ((chV c).map .p)], []⟩)
      (fun e st => e = .exit 0 ∧ st.ds = [] ∧ st.ts.length = 22 ∧ st.ts.getD 7 (.tup []) = .p (.int .i64 (lastI c l 0 (-1)))) := by
    refine loop_wp (α := Nat × Int) (I := fun i st => i.1 ≤ l.length ∧ lastI c (l.drop i.1) i.1 i.2 = lastI c l 0 (-1) ∧ Live Fn.f_haulageref25_last_k0 (Fn.f_haulageref25_last_s0 (.p sl) (.p (.int .i64 l.length)) (.ptr 0 0) (.p (.int .i64 i.2)) (.p (.int .i64 i.1))) [.cells ((chV c).map .p)] st) (meas := fun i => l.length - i.1) ?_ (j + 1) (0, -1) _ ⟨Nat.zero_le _, rfl, rfl, rfl, rfl, rfl⟩ (by simp only [Nat.sub_zero]; omega)
    rintro ⟨i, at_⟩ st ⟨hi, hsq, hlive⟩
    simp only at hi hsq hlive
    rw [loopF_live hlive]
    by_cases hlt : i < l.length
    · have hlt' : (i : Int) < l.length := by omega
      obtain ⟨x, hx⟩ : ∃ x, l[i]? = some x := ⟨_, List.getElem?_eq_getElem hlt⟩
      rw [lastI_step hx] at hsq
      have hw : IntKind.i64.wrap ((i : Int) + 1) = ((i + 1 : Nat) : Int) := by rw [wrap_i64 (by omega) (by omega)]; omega
      have hxf := hf x (List.mem_of_getElem? hx)
      have hS := fun m => ref_same hs hxf hc j m
      rcases hl with ⟨rfl, rfl⟩ | rfl
      · simp at hlt
      cases q : sm x c with
      | false =>
        rw [q] at hS hsq
        unfold chV at hS
        simp [Fn.f_haulageref25_last_b0, Fn.f_haulageref25_last_s0, hlt, hlt', hx, chV, hS, hs, p187, hw, -Int.natCast_add]
        refine ⟨i + 1, by omega, hlt, at_, ?_, rfl, rfl, rfl, rfl⟩
        simpa using hsq
      | true =>
        rw [q] at hS hsq
        unfold chV at hS
        simp [Fn.f_haulageref25_last_b0, Fn.f_haulageref25_last_s0, hlt, hlt', hx, chV, hS, hs, p187, hw, -Int.natCast_add]
        refine ⟨i + 1, by omega, hlt, i, ?_, rfl, rfl, rfl, rfl⟩
        simpa using hsq
    · have hlt' : ¬ (i : Int) < l.length := by omega
      have e1 : l.drop i = [] := List.drop_eq_nil_of_le (by omega)
      rw [e1] at hsq
      have hs' : at_ = lastI c l 0 (-1) := hsq
      simp [Fn.f_haulageref25_last_b0, Fn.f_haulageref25_last_s0, hlt, hlt', hs']
  obtain ⟨e, st, hrun, rfl, hds, hlen, hq⟩ := hmain
  simp only [List.replicate, List.cons_append, List.nil_append, chV, List.map_cons, List.map_nil] at hrun
  simp [Fn.f_haulageref25_last, chV, c1, c2, hrun]
  obtain ⟨ts, m', ds⟩ := st
  simp only at hds hlen hq
  subst hds
  have hx := expand_ts 22 ts hlen
  simp only [List.range, List.range.loop, List.map_cons, List.map_nil] at hx
  rw [hx]
  simp [hq]
end Hx
