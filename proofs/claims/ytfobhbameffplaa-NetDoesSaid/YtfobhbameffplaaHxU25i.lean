/-
  HxU25i: the program's run: rows, what comes of a row.
-/
import Derived.Test.YtfobhbameffplaaHxM25
namespace Hx
open Go
def K3 (c : Ch) : Prop := c.kind = 1 ∨ c.kind = 2 ∨ c.kind = 3
structure PlainOk (plain : Ch → Bool) : Prop where
  k : ∀ c, plain c = true → K3 c ∨ c.kind = 4
  to1 : ∀ c, plain c = true → (c.kind = 1 ∨ c.kind = 2) → plain { c with kind := 1 } = true
  to2 : ∀ c, plain c = true → (c.kind = 1 ∨ c.kind = 2) → plain { c with kind := 2 } = true
structure Good (plain : Ch → Bool) (R : List Ch) : Prop where
  pl : ∀ c ∈ R, plain c = true ∧ K3 c
  pw : R.Pairwise fun a b => sm a b = false
  ord : R = R.filter (fun c => c.kind == 3) ++ (R.filter (fun c => c.kind == 2) ++ R.filter (fun c => c.kind == 1))
inductive Segs (plain : Ch → Bool) : List Ch → Prop
  | one {R : List Ch} : Good plain R → Segs plain R
  | more {R t : List Ch} {c : Ch} : Good plain R → c.kind = 4 → plain c = true → Segs plain t → Segs plain (R ++ c :: t)
def dg (c : Ch) : En := (c.key, c, c)
structure VE (plain : Ch → Bool) (E : List En) : Prop where
  pw : E.Pairwise fun a b => a.1 ≠ b.1
  at_ : ∀ e ∈ E, e.1 = e.2.2.key ∧ plain e.2.2 = true ∧ K3 e.2.2 ∧ K3 e.2.1
def allE (E : List En) : List Ch := E.filterMap fun e => comesB e.2.1 e.2.2
theorem endK_all (kd : Int) (E : List En) : endK kd E = (allE E).filter fun c => c.kind == kd := by
  unfold endK allE
  rw [List.filter_filterMap]
theorem comesB_key {f l c : Ch} (h : comesB f l = some c) : c.key = l.key := by
  unfold comesB at h
  split at h
  · split at h
    · cases h
    · cases h; rfl
  · split at h <;> cases h <;> rfl
variable {plain : Ch → Bool}
theorem comesB_plain (hp : PlainOk plain) {f l c : Ch} (h : comesB f l = some c) (hl : plain l = true) (h3 : K3 l) : plain c = true ∧ K3 c := by
  unfold comesB at h
  split at h
  · split at h
    · cases h
    · rename_i h1 h2
      cases h
      exact ⟨hp.to1 l hl (by rcases h3 with h | h | h <;> simp_all), .inl rfl⟩
  · split at h
    · cases h; exact ⟨hl, h3⟩
    · rename_i h1 h2
      cases h
      exact ⟨hp.to2 l hl (by rcases h3 with h | h | h <;> simp_all), .inr (.inl rfl)⟩
theorem filter_kind {L : List Ch} {a b : Int} (h : a ≠ b) : (L.filter fun c => c.kind == a).filter (fun c => c.kind == b) = [] := by
  rw [List.filter_filter, List.filter_eq_nil_iff]
  intro c _ hc
  simp only [Bool.and_eq_true, beq_iff_eq] at hc
  exact h (hc.2.symm.trans hc.1)
theorem filter_kind' {L : List Ch} {a : Int} : (L.filter fun c => c.kind == a).filter (fun c => c.kind == a) = L.filter fun c => c.kind == a := by
  rw [List.filter_filter]; simp
theorem good_end (hp : PlainOk plain) {E : List En} (hE : VE plain E) : Good plain (endE E) := by
  have hall : ∀ c ∈ allE E, plain c = true ∧ K3 c := by
    intro c hc
    obtain ⟨e, he, h⟩ := List.mem_filterMap.1 hc
    obtain ⟨_, h2, h3, _⟩ := hE.at_ e he
    exact comesB_plain hp h h2 h3
  have hpw : (allE E).Pairwise fun a b => sm a b = false := by
    unfold allE
    rw [List.pairwise_filterMap]
    refine hE.pw.imp_of_mem ?_
    intro a b ha hb hab x hx y hy
    have h1 := comesB_key hx
    have h2 := comesB_key hy
    have h3 := (hE.at_ a ha).1
    have h4 := (hE.at_ b hb).1
    cases hs : sm x y with
    | false => rfl
    | true => exact absurd (by rw [h3, h4, ← h1, ← h2]; exact sm_iff.1 hs) hab
  have hcross : ∀ {a b : Int}, a ≠ b → ∀ x ∈ (allE E).filter (fun c => c.kind == a), ∀ y ∈ (allE E).filter (fun c => c.kind == b), sm x y = false := by
    intro a b hab x hx y hy
    obtain ⟨hx1, hx2⟩ := List.mem_filter.1 hx
    obtain ⟨hy1, hy2⟩ := List.mem_filter.1 hy
    have hne : x ≠ y := by
      rintro rfl
      simp only [beq_iff_eq] at hx2 hy2
      exact hab (hx2.symm.trans hy2)
    have q1 : (allE E).Pairwise fun a b => a ≠ b → sm a b = false := hpw.imp (S := fun a b => a ≠ b → sm a b = false) (fun {a b} h _ => h)
    have q2 : (allE E).Pairwise fun a b => b ≠ a → sm b a = false := hpw.imp (S := fun a b => b ≠ a → sm b a = false) (fun {a b} h _ => by rw [sm_comm]; exact h)
    exact List.Pairwise.forall_of_forall_of_flip (R := fun a b => a ≠ b → sm a b = false) (fun z _ h => absurd rfl h) q1 q2 hx1 hy1 hne
  unfold endE
  simp only [endK_all]
  refine ⟨?_, ?_, ?_⟩
  · intro c hc
    simp only [List.mem_append] at hc
    rcases hc with hc | hc | hc <;> exact hall c (List.mem_filter.1 hc).1
  · rw [List.pairwise_append, List.pairwise_append]
    refine ⟨hpw.filter _, ⟨hpw.filter _, hpw.filter _, hcross (by decide)⟩, ?_⟩
    intro x hx y hy
    rcases List.mem_append.1 hy with hy | hy
    · exact hcross (by decide) x hx y hy
    · exact hcross (by decide) x hx y hy
  · simp only [List.filter_append, filter_kind', filter_kind (show (3 : Int) ≠ 2 by decide), filter_kind (show (3 : Int) ≠ 1 by decide), filter_kind (show (2 : Int) ≠ 3 by decide), filter_kind (show (2 : Int) ≠ 1 by decide), filter_kind (show (1 : Int) ≠ 3 by decide), filter_kind (show (1 : Int) ≠ 2 by decide), List.nil_append, List.append_nil]
theorem findE_none {k : Key25} : ∀ {E : List En}, (∀ e ∈ E, e.1 ≠ k) → findE k E = none
  | [], _ => rfl
  | e :: E, h => by
    unfold findE
    rw [if_neg (h e (by simp))]
    exact findE_none fun x hx => h x (by simp [hx])
theorem findE_mem {k : Key25} {E : List En} (h : findE k E = none) : ∀ e ∈ E, e.1 ≠ k := by
  induction E with
  | nil => intro x hx; cases hx
  | cons e E ih =>
    unfold findE at h
    by_cases hn : e.1 = k
    · rw [if_pos hn] at h; cases h
    · rw [if_neg hn] at h
      intro x hx
      rcases List.mem_cons.1 hx with rfl | hx
      · exact hn
      · exact ih h x hx
theorem setE_keys (k : Key25) (c : Ch) : ∀ (E : List En), (setE k c E).map (·.1) = E.map (·.1)
  | [] => rfl
  | e :: E => by
    unfold setE
    split
    · rename_i h; simp [h]
    · simp [setE_keys k c E]
theorem setE_mem {k : Key25} {c : Ch} {E : List En} {e : En} (h : e ∈ setE k c E) : e ∈ E ∨ ∃ x ∈ E, e = (k, x.2.1, c) := by
  induction E with
  | nil => cases h
  | cons x E ih =>
    unfold setE at h
    by_cases hn : x.1 = k
    · rw [if_pos hn] at h
      rcases List.mem_cons.1 h with rfl | h
      · exact .inr ⟨x, List.mem_cons_self, rfl⟩
      · exact .inl (List.mem_cons_of_mem _ h)
    · rw [if_neg hn] at h
      rcases List.mem_cons.1 h with rfl | h
      · exact .inl List.mem_cons_self
      · rcases ih h with h | ⟨y, hy, h⟩
        · exact .inl (List.mem_cons_of_mem _ h)
        · exact .inr ⟨y, List.mem_cons_of_mem _ hy, h⟩
theorem ve_add {E : List En} (hE : VE plain E) {c : Ch} (hc : plain c = true) (h3 : K3 c) (_h0 : (addE E c).1 = 0) : VE plain (addE E c).2 := by
  unfold addE
  split
  · rename_i hf
    refine ⟨?_, ?_⟩
    · rw [List.pairwise_append]
      exact ⟨hE.pw, List.pairwise_singleton _ _, by intro a ha b hb; rw [List.mem_singleton.1 hb]; exact findE_mem hf a ha⟩
    · intro e he
      rcases List.mem_append.1 he with he | he
      · exact hE.at_ e he
      · rw [List.mem_singleton.1 he]; exact ⟨rfl, hc, h3, h3⟩
  · split
    · exact hE
    · split
      · exact hE
      · refine ⟨?_, ?_⟩
        · have h1 : (E.map (·.1)).Pairwise (· ≠ ·) := List.pairwise_map.2 hE.pw
          show (setE c.key c E).Pairwise _
          rw [← setE_keys c.key c] at h1
          exact List.pairwise_map.1 h1
        · intro e he
          rcases setE_mem he with he | ⟨x, hx, rfl⟩
          · exact hE.at_ e he
          · exact ⟨rfl, hc, h3, (hE.at_ x hx).2.2.2⟩
theorem of_segs (hp : PlainOk plain) : ∀ (l out : List Ch) (E : List En) {m : List Ch}, VE plain E → ofP plain l out E = (m, 0) → ∃ t, m = out ++ t ∧ Segs plain t
  | [], out, E, m, hE, h => by
    simp only [ofP, Prod.mk.injEq, and_true] at h
    exact ⟨endE E, h.symm, .one (good_end hp hE)⟩
  | c :: l, out, E, m, hE, h => by
    simp only [ofP] at h
    split at h
    · simp at h
    · rename_i hpl
      have hpl : plain c = true := by simpa using hpl
      split at h
      · rename_i h4
        obtain ⟨t, rfl, ht⟩ := of_segs hp l _ [] ⟨.nil, by simp⟩ h
        exact ⟨endE E ++ c :: t, by simp, .more (good_end hp hE) h4 hpl ht⟩
      · rename_i h4
        split at h
        · rename_i hne
          simp only [Prod.mk.injEq] at h
          exact absurd h.2 hne
        · rename_i h0
          have h3 : K3 c := (hp.k c hpl).resolve_right h4
          exact of_segs hp l out _ (ve_add hE hpl h3 (by simpa using h0)) h
theorem run_add : ∀ (R : List Ch) (l out : List Ch) (E : List En), (∀ c ∈ R, plain c = true ∧ K3 c) → (R.Pairwise fun a b => sm a b = false) → (∀ e ∈ E, ∀ c ∈ R, e.1 ≠ c.key) → ofP plain (R ++ l) out E = ofP plain l out (E ++ R.map dg)
  | [], l, out, E, _, _, _ => by simp
  | c :: R, l, out, E, hR, hpw, hE => by
    obtain ⟨h1, h3⟩ := hR c (by simp)
    have h4 : ¬ c.kind = 4 := by unfold K3 at h3; omega
    have hf : findE c.key E = none := findE_none fun e he => hE e he c (by simp)
    have ha : addE E c = (0, E ++ [dg c]) := by unfold addE; rw [hf]; rfl
    rw [List.cons_append, ofP]
    simp only [h1, Bool.true_eq_false, if_false, h4, ha, ne_eq, not_true_eq_false]
    rw [run_add R l out _ (fun x hx => hR x (by simp [hx])) hpw.of_cons ?_]
    · simp
    · intro e he x hx
      rcases List.mem_append.1 he with he | he
      · exact hE e he x (by simp [hx])
      · rw [List.mem_singleton.1 he]
        have := (List.pairwise_cons.1 hpw).1 x hx
        intro hk
        rw [sm_iff.2 hk] at this
        cases this
theorem comesB_dg {c : Ch} (h : K3 c) : comesB c c = some c := by
  unfold comesB
  obtain ⟨k⟩ := c
  rcases h with h | h | h <;> simp only at h <;> subst h <;> simp
theorem end_dg {R : List Ch} (h : Good plain R) : endE (R.map dg) = R := by
  have hall : allE (R.map dg) = R := by
    unfold allE
    rw [List.filterMap_map]
    have : ∀ (L : List Ch), (∀ c ∈ L, K3 c) → L.filterMap ((fun e : En => comesB e.2.1 e.2.2) ∘ dg) = L := by
      intro L
      induction L with
      | nil => intro _; rfl
      | cons x L ih =>
        intro hL
        have h1 : ((fun e : En => comesB e.2.1 e.2.2) ∘ dg) x = some x := comesB_dg (hL x (by simp))
        rw [List.filterMap_cons, h1, ih fun c hc => hL c (by simp [hc])]
    exact this R fun c hc => (h.pl c hc).2
  unfold endE
  simp only [endK_all, hall]
  exact h.ord.symm
theorem segs_of {t : List Ch} (h : Segs plain t) : ∀ out, ofP plain t out [] = (out ++ t, 0) := by
  induction h with
  | one hR =>
    intro out
    have := run_add (plain := plain) _ [] out [] hR.pl hR.pw (by simp)
    rw [List.append_nil] at this
    rw [this]
    simp only [List.nil_append, ofP, end_dg hR]
  | @more R t c hR h4 hc _ ih =>
    intro out
    rw [run_add (plain := plain) R (c :: t) out [] hR.pl hR.pw (by simp), ofP]
    simp only [hc, Bool.true_eq_false, if_false, h4, if_true, List.nil_append, end_dg hR, ih]
    simp
theorem rows_run : ∀ (R l : List Ch) (seen : List Key25) (n : Int), (∀ c ∈ R, K3 c) → (R.Pairwise fun a b => sm a b = false) → (∀ c ∈ R, c.key ∉ seen) → rowsP (R ++ l) seen n = rowsP l (seen ++ R.map Ch.key) (n + R.length)
  | [], l, seen, n, _, _, _ => by simp
  | c :: R, l, seen, n, h3, hpw, hs => by
    have k3 := h3 c (by simp)
    have h4 : ¬ c.kind = 4 := by unfold K3 at k3; omega
    have hc : seen.contains c.key = false := by
      cases hh : seen.contains c.key with
      | false => rfl
      | true => exact absurd (List.contains_iff_mem.1 hh) (hs c (by simp))
    rw [List.cons_append, rowsP, if_neg h4, if_pos (show c.kind = 1 ∨ c.kind = 2 ∨ c.kind = 3 from k3), hc]
    simp only [Bool.false_eq_true, if_false]
    rw [rows_run R l _ _ (fun x hx => h3 x (by simp [hx])) hpw.of_cons ?_]
    · simp only [List.append_assoc, List.map_cons, List.length_cons, List.cons_append, List.nil_append]
      congr 1
      omega
    · intro x hx hm
      rcases List.mem_append.1 hm with hm | hm
      · exact hs x (by simp [hx]) hm
      · have := (List.pairwise_cons.1 hpw).1 x hx
        rw [sm_iff.2 (List.mem_singleton.1 hm).symm] at this
        cases this
def many (kd : Int) (l : List Ch) : Nat := (l.filter fun c => c.kind == kd).length
theorem many4_run {R : List Ch} (h : ∀ c ∈ R, K3 c) : many 4 R = 0 := by
  unfold many
  rw [List.length_eq_zero_iff, List.filter_eq_nil_iff]
  intro c hc
  have := h c hc
  unfold K3 at this
  simp only [beq_iff_eq]
  omega
theorem segs_rows {t : List Ch} (h : Segs plain t) : ∀ n, rowsP t [] n = n + t.length - many 4 t := by
  induction h with
  | one hR =>
    intro n
    have := rows_run _ [] [] n (fun c hc => (hR.pl c hc).2) hR.pw (by simp)
    rw [List.append_nil] at this
    rw [this, many4_run fun c hc => (hR.pl c hc).2]
    simp only [rowsP]
    omega
  | @more R t c hR h4 hc _ ih =>
    intro n
    rw [rows_run R (c :: t) [] n (fun c hc => (hR.pl c hc).2) hR.pw (by simp), rowsP, if_pos h4, ih]
    have h0 := many4_run fun c hc => (hR.pl c hc).2
    have : many 4 (R ++ c :: t) = 1 + many 4 t := by
      unfold many at h0 ⊢
      rw [List.filter_append, List.length_append, h0, List.filter_cons]
      simp [h4]; omega
    rw [this]
    simp only [List.length_append, List.length_cons]
    omega
theorem again (hp : PlainOk plain) {l m : List Ch} (h : ofP plain l [] [] = (m, 0)) : ofP plain m [] [] = (m, 0) ∧ rowsP m [] 0 = (m.length : Int) - many 4 m := by
  obtain ⟨t, rfl, ht⟩ := of_segs hp l [] [] ⟨.nil, by simp⟩ h
  have h1 := segs_of ht []
  have h2 := segs_rows ht 0
  simp only [List.nil_append] at h1 h2 ⊢
  exact ⟨h1, by rw [h2]; omega⟩
end Hx

namespace Hx
open Go
set_option linter.unusedSimpArgs false
set_option linter.unusedVariables false
def keyE : EqT := .struct [(0, 1, .str), (1, 3, .struct [(0, 1, .int), (1, 1, .int), (2, 1, .str)])]
def keyP (k : Key25) : PV := .agg [.str k.1, .int .i64 k.2.1, .int .i64 k.2.2.1, .str k.2.2.2]
theorem eq_key (a b : Key25) : eqTree keyE (keyP a) (keyP b) = some (decide (a = b)) := by
  obtain ⟨a1, a2, a3, a4⟩ := a
  obtain ⟨b1, b2, b3, b4⟩ := b
  simp [keyE, keyP, eqTree, eqFs, EqT.agg, partP, Bool.decide_and]
  grind
theorem same_key (k : Key25) : sameP (keyP k) (keyP k) = true := by simp [keyP, sameP, sameL]
def entsP {α : Type} (v : α → AV) (E : List (Key25 × α)) : List (PV × AV) := E.map fun e => (keyP e.1, v e.2)
def findK {α : Type} (k : Key25) : List (Key25 × α) → Option α
  | [] => none
  | e :: r => if e.1 = k then some e.2 else findK k r
def setK {α : Type} (k : Key25) (x : α) : List (Key25 × α) → List (Key25 × α)
  | [] => []
  | e :: r => if e.1 = k then (k, x) :: r else e :: setK k x r
theorem findM_none {α : Type} (v : α → AV) {k : Key25} : ∀ {E : List (Key25 × α)} (i : Nat), findK k E = none → findM keyE (keyP k) (entsP v E) i = some none
  | [], _, _ => rfl
  | e :: E, i, h => by
    simp only [findK] at h
    by_cases hk : e.1 = k
    · rw [if_pos hk] at h; cases h
    · rw [if_neg hk] at h
      have h2 := findM_none v (i + 1) h
      simp only [entsP, List.map_cons, findM, eq_key, decide_eq_false (fun h => hk (Eq.symm h) : ¬ k = e.1)]
      exact h2
theorem findM_some {α : Type} (v : α → AV) {k : Key25} : ∀ {E : List (Key25 × α)} {x : α} (i : Nat), findK k E = some x → ∃ j, findM keyE (keyP k) (entsP v E) i = some (some (i + j, keyP k, v x)) ∧ ∀ y, (entsP v E).set j (keyP k, v y) = entsP v (setK k y E)
  | e :: E, x, i, h => by
    simp only [findK] at h
    by_cases hk : e.1 = k
    · rw [if_pos hk] at h
      cases h
      refine ⟨0, ?_, ?_⟩
      · simp only [entsP, List.map_cons, findM, eq_key, hk, decide_true, Nat.add_zero]
      · intro y
        simp only [entsP, setK, hk, if_true, List.map_cons, List.set_cons_zero]
    · rw [if_neg hk] at h
      obtain ⟨j, h1, h2⟩ := findM_some v (i + 1) h
      refine ⟨j + 1, ?_, ?_⟩
      · simp only [entsP, List.map_cons, findM, eq_key, decide_eq_false (fun h => hk (Eq.symm h) : ¬ k = e.1)]
        have : i + (j + 1) = i + 1 + j := by omega
        rw [this]
        exact h1
      · intro y
        have := h2 y
        simp only [entsP, setK, if_neg hk, List.map_cons, List.set_cons_succ] at this ⊢
        rw [this]
theorem findK_E (k : Key25) (E : List En) : findK k E = findE k E := by
  induction E with
  | nil => rfl
  | cons e E ih => simp only [findK, findE, ih]
theorem setK_E (k : Key25) (c : Ch) {E : List En} {b : Ch × Ch} (h : findE k E = some b) : setK k (b.1, c) E = setE k c E := by
  induction E with
  | nil => rfl
  | cons e E ih =>
    simp only [findE] at h
    simp only [setK, setE]
    by_cases hk : e.1 = k
    · rw [if_pos hk] at h ⊢
      rw [if_pos hk]
      cases h; rfl
    · rw [if_neg hk] at h ⊢
      rw [if_neg hk, ih h]
end Hx

namespace Hx
open Go
set_option linter.unusedSimpArgs false
set_option linter.unusedVariables false
set_option maxHeartbeats 32000000
set_option maxRecDepth 20000
variable {E : Env}
attribute [-simp] List.getD_eq_getElem?_getD getElem?_pos
def chV (c : Ch) : List PV := [.int .i64 c.kind, .int .i64 c.lsn, .str c.table, .int .i64 c.kk, .int .i64 c.kn, .str c.ks, c.cs, .int .i64 c.d.op, .str c.d.table, .str c.d.column, .str c.d.to, .str c.d.key, .int .i64 c.d.kind, .int .i64 c.d.max, .bool c.d.null, .int .i64 c.d.dk, .int .i64 c.d.dn, .str c.d.ds, c.sl]
structure Cel where
  name : List UInt8
  kind : Int
  max : Int
  vk : Int
  vn : Int
  vs : List UInt8
def celP (c : Cel) : List PV := [.str c.name, .int .i64 c.kind, .int .i64 c.max, .int .i64 c.vk, .int .i64 c.vn, .str c.vs]
def CelQ (cs : PV) (rows : List Cel) : Prop := (rows = [] ∧ cs = .nils) ∨ cs = .vals 6 (rows.map celP)
theorem CelQ.flat {cs : PV} {rows : List Cel} (h : CelQ cs rows) : cs.flat = true := by rcases h with ⟨_, rfl⟩ | rfl <;> rfl
structure ChF (c : Ch) : Prop where
  cs : c.cs.flat = true
  sl : c.sl.flat = true
def LQ (sl : PV) (l : List Ch) : Prop := (l = [] ∧ sl = .nils) ∨ sl = .vals 19 (l.map chV)
end Hx

namespace Hx
open Go
set_option linter.unusedSimpArgs false
set_option linter.unusedVariables false
set_option maxHeartbeats 32000000
set_option maxRecDepth 20000
variable {E : Env}
attribute [-simp] List.getD_eq_getElem?_getD getElem?_pos
end Hx

namespace Hx
open Go
set_option linter.unusedSimpArgs false
set_option linter.unusedVariables false
set_option maxHeartbeats 32000000
set_option maxRecDepth 20000
variable {E : Env}
attribute [-simp] List.getD_eq_getElem?_getD getElem?_pos
def OutAt (m : Mem) (out : List Ch) (av : AV) : Prop := (out = [] ∧ av = .p .nils) ∨ ∃ tok, av = .tv 19 (out.map chV) tok ∧ m[tok]? = some (.tok 19 out.length)
theorem OutAt.keep {m m' : Mem} {out : List Ch} {av : AV} (h : OutAt m out av) (hk : ∀ (t n : Nat), m[t]? = some (Blk.tok 19 n) → m'[t]? = some (Blk.tok 19 n)) : OutAt m' out av := by
  rcases h with h | ⟨tok, h1, h2⟩
  · exact .inl h
  · exact .inr ⟨tok, h1, hk _ _ h2⟩
theorem get_app5 {m l : Mem} {i : Nat} {b : Blk} (h : m[i]? = some b) : (m ++ l)[i]? = some b := by
  rw [List.getElem?_append_left]
  · exact h
  · exact (List.getElem?_eq_some_iff.1 h).1
theorem OutAt.strip {m : Mem} {out : List Ch} {av : AV} (h : OutAt m out av) : ∃ sl, stripV av = some (.p sl) ∧ LQ sl out := by
  rcases h with ⟨rfl, rfl⟩ | ⟨tok, rfl, _⟩
  · exact ⟨.nils, by simp, .inl ⟨rfl, rfl⟩⟩
  · exact ⟨.vals 19 (out.map chV), by simp, .inr rfl⟩
end Hx

namespace Hx
open Go
set_option linter.unusedSimpArgs false
set_option linter.unusedVariables false
set_option maxHeartbeats 64000000
set_option maxRecDepth 20000
variable {E : Env}
attribute [-simp] List.getD_eq_getElem?_getD getElem?_pos
theorem pure_args {f : Nat} {xf : XFunc} (h : E.fn f = some xf) (hp : xf.pure = true) {n : Nat} {args args' : List AV} {m : Mem} (ha : stripVs args = stripVs args') : denF E (n + 1) f args m = denF E (n + 1) f args' m := by
  rw [denF, denF, h]; simp only [hp, if_true, ha]
end Hx

namespace Hx
open Go
set_option linter.unusedSimpArgs false
set_option linter.unusedVariables false
set_option maxHeartbeats 64000000
set_option maxRecDepth 20000
variable {E : Env}
attribute [-simp] List.getD_eq_getElem?_getD getElem?_pos
def rowsN : PV → Nat
  | .vals _ rows => rows.length
  | _ => 0
structure ChOk (c : Ch) : Prop where
  cs : ∃ cells : List Cel, CelQ c.cs cells
  sl : ∃ cols : List (Int × Col), SlQ c.sl cols
theorem ChOk.f {c : Ch} (h : ChOk c) : ChF c := by
  obtain ⟨⟨_, h1⟩, ⟨_, h2⟩⟩ := h
  exact ⟨h1.flat, h2.flat⟩
theorem rowsN_cel {cs : PV} {l : List Cel} (h : CelQ cs l) : rowsN cs = l.length := by
  rcases h with ⟨rfl, rfl⟩ | rfl <;> simp [rowsN]
theorem rowsN_sl {cs : PV} {l : List (Int × Col)} (h : SlQ cs l) : rowsN cs = l.length := by
  rcases h with ⟨rfl, rfl⟩ | rfl <;> simp [rowsN]
theorem len_cel {cs : PV} {l : List Cel} (h : CelQ cs l) : lenV (.p cs) = some l.length := by
  rcases h with ⟨rfl, rfl⟩ | rfl <;> simp
theorem natB (n : Nat) : ((n : Int) == 0) = (n == 0) := by rw [Bool.eq_iff_iff]; simp
def zeroD (c : Ch) : Bool := sameH c.d { op := 0 } && rowsN c.sl == 0
def plainB (c : Ch) : Bool := decide (0 ≤ c.lsn) && (if c.kind = 1 ∨ c.kind = 2 then zeroD c else if c.kind = 3 then zeroD c && rowsN c.cs == 0 else if c.kind = 4 then c.table == c.d.table && (c.kk == 0 && (c.kn == 0 && c.ks == [])) && rowsN c.cs == 0 else false)
theorem sameQs_nil (l : List (Int × Col)) : sameQs l [] = (l.length == 0) := by cases l <;> rfl
theorem ref_SameZ (u : L09 E) {c : Ch} (h : ChOk c) (hn : (rowsN c.sl : Int) ≤ 1000) (k : Nat) (hk : 1100 ≤ k) (m : Mem) :
    denF E (k + 1) 178 [.p (.agg (dV c.d c.sl)), .p (.agg (dV { op := 0 } .nils))] m = some (.ret (.p (.bool (zeroD c))), m) := by
  obtain ⟨cols, hc⟩ := h.sl
  rw [rowsN_sl hc] at hn
  rw [ref_Same u c.d { op := 0 } hc (.inl ⟨rfl, rfl⟩) (by omega) k (by omega) m]
  unfold zeroD
  rw [rowsN_sl hc, sameQs_nil]
theorem ref_Plain (u : L09 E) (hp : E.fn 164 = some Fn.f_haulageref15_PlainChange) {c : Ch} (h : ChOk c) (hn : (rowsN c.sl : Int) ≤ 1000) (k : Nat) (hk : 1200 ≤ k) (m : Mem) :
    denF E (k + 1) 164 [.p (.agg (chV c))] m = some (.ret (.p (.bool (plainB c))), m) := by
  obtain ⟨j, rfl⟩ : ∃ j, k = j + 1 := ⟨k - 1, by omega⟩
  have hZ := fun m => ref_SameZ u h hn j (by omega) m
  simp only [dV] at hZ
  obtain ⟨cells, hc⟩ := h.cs
  have hl := len_cel hc
  have hrn := rowsN_cel hc
  obtain ⟨c1, c2⟩ := h.f
  unfold PV.flat at c1 c2
  have hV := fun (a b c d : Int) (s t : List UInt8) => @eq_vP a b c d s t
  refine denF_wp hp rfl (args' := [.p (.agg (chV c))]) rfl ?_
  unfold plainB
  by_cases h0 : c.lsn < 0
  · have h0' : ¬ 0 ≤ c.lsn := by omega
    simp (maxSteps := 8000000) [Fn.f_haulageref15_PlainChange, chV, c1, c2, hZ, h0, h0']
  · have h0' : 0 ≤ c.lsn := by omega
    by_cases k1 : c.kind = 1
    · simp (maxSteps := 8000000) [Fn.f_haulageref15_PlainChange, chV, c1, c2, hZ, h0, h0', k1]
    by_cases k2 : c.kind = 2
    · simp (maxSteps := 8000000) [Fn.f_haulageref15_PlainChange, chV, c1, c2, hZ, h0, h0', k2]
    have b1 : (c.kind == 1) = false := by simpa using k1
    have b2 : (c.kind == 2) = false := by simpa using k2
    by_cases k3 : c.kind = 3
    · cases hz : zeroD c with
      | false =>
        rw [hz] at hZ
        simp (maxSteps := 8000000) [Fn.f_haulageref15_PlainChange, chV, c1, c2, hZ, h0, h0', k3]
      | true =>
        rw [hz] at hZ
        rw [hrn]
        rcases hc with ⟨rfl, hc⟩ | hc
        · simp (maxSteps := 8000000) [Fn.f_haulageref15_PlainChange, chV, c1, c2, hZ, h0, h0', k3, hc, natB]
        · simp (maxSteps := 8000000) [Fn.f_haulageref15_PlainChange, chV, c1, c2, hZ, h0, h0', k3, hc, natB]
    have b3 : (c.kind == 3) = false := by simpa using k3
    by_cases k4 : c.kind = 4
    · cases q1 : (c.table == c.d.table) with
      | false =>
        simp (maxSteps := 8000000) [Fn.f_haulageref15_PlainChange, chV, c1, c2, hZ, h0, h0', k4, q1]
      | true =>
        cases q2 : (c.kk == 0 && (c.kn == 0 && c.ks == [])) with
        | false =>
          have hV' := hV c.kk c.kn 0 0 c.ks []
          rw [q2] at hV'
          simp (maxSteps := 8000000) [Fn.f_haulageref15_PlainChange, chV, c1, c2, hZ, h0, h0', k4, q1, hV']
        | true =>
          have hV' := hV c.kk c.kn 0 0 c.ks []
          rw [q2] at hV'
          rw [hrn]
          rcases hc with ⟨rfl, hc⟩ | hc
          · simp (maxSteps := 8000000) [Fn.f_haulageref15_PlainChange, chV, c1, c2, hZ, h0, h0', k4, q1, hV', hc, natB]
          · simp (maxSteps := 8000000) [Fn.f_haulageref15_PlainChange, chV, c1, c2, hZ, h0, h0', k4, q1, hV', hc, natB]
    have b4 : (c.kind == 4) = false := by simpa using k4
    simp (maxSteps := 8000000) [Fn.f_haulageref15_PlainChange, chV, c1, c2, hZ, h0, h0', k1, k2, k3, k4, b1, b2, b3, b4]
end Hx

namespace Hx
open Go
set_option linter.unusedSimpArgs false
set_option linter.unusedVariables false
set_option maxHeartbeats 64000000
set_option maxRecDepth 20000
variable {E : Env}
attribute [-simp] List.getD_eq_getElem?_getD getElem?_pos

end Hx

namespace Hx
open Go
set_option linter.unusedSimpArgs false
set_option linter.unusedVariables false
set_option maxHeartbeats 64000000
set_option maxRecDepth 20000
variable {E : Env}
attribute [-simp] List.getD_eq_getElem?_getD getElem?_pos
def keyC (k : Key25) : List PV := [.str k.1, .int .i64 k.2.1, .int .i64 k.2.2.1, .str k.2.2.2]
def chZ : Ch := ⟨0, 0, [], 0, 0, [], .nils, { op := 0 }, .nils⟩
structure N25 (E : Env) : Prop where
  rowOf : E.fn 281 = some Fn.f_net_rowOf
  comes : E.fn 282 = some Fn.f_net_both_comes
  add : E.fn 148 = some Fn.f_net_run_add
  end_ : E.fn 147 = some Fn.f_net_run_end
  began : E.fn 143 = some Fn.f_net_began
theorem net_rowOf (u : N25 E) {c : Ch} (hc : ChF c) (k : Nat) (m : Mem) : denF E (k + 1) 281 [.p (.agg (chV c))] m = some (.ret (.p (.agg (keyC c.key))), m) := by
  obtain ⟨c1, c2⟩ := hc
  unfold PV.flat at c1 c2
  refine denF_wp u.rowOf rfl (args' := [.p (.agg (chV c))]) rfl ?_
  simp (maxSteps := 8000000) [Fn.f_net_rowOf, chV, c1, c2, keyC, Ch.key]
def comesZ (f l : Ch) : Ch := (comesB f l).getD chZ
theorem net_comes (u : N25 E) {f l : Ch} (hf : ChF f) (hl : ChF l) (k : Nat) (m : Mem) : denF E (k + 1) 282 [.p (.agg (chV f ++ chV l))] m = some (.ret (.p (.agg (chV (comesZ f l)))), m) := by
  obtain ⟨f1, f2⟩ := hf
  obtain ⟨l1, l2⟩ := hl
  unfold PV.flat at f1 f2 l1 l2
  refine denF_wp u.comes rfl (args' := [.p (.agg (chV f ++ chV l))]) rfl ?_
  unfold comesZ comesB
  cases q1 : (f.kind == 1) with
  | true =>
    have e1 : f.kind = 1 := by simpa using q1
    cases q2 : (l.kind == 3) with
    | true =>
      have e2 : l.kind = 3 := by simpa using q2
      simp (maxSteps := 8000000) [Fn.f_net_both_comes, chV, f1, f2, l1, l2, chZ, e1, e2, bne]
    | false =>
      have e2 : ¬ l.kind = 3 := by simpa using q2
      simp (maxSteps := 8000000) [Fn.f_net_both_comes, chV, f1, f2, l1, l2, chZ, e1, e2, q2, bne]
  | false =>
    have e1 : ¬ f.kind = 1 := by simpa using q1
    cases q2 : (l.kind == 3) with
    | true =>
      have e2 : l.kind = 3 := by simpa using q2
      simp (maxSteps := 8000000) [Fn.f_net_both_comes, chV, f1, f2, l1, l2, chZ, e1, e2, q1, bne]
    | false =>
      have e2 : ¬ l.kind = 3 := by simpa using q2
      simp (maxSteps := 8000000) [Fn.f_net_both_comes, chV, f1, f2, l1, l2, chZ, e1, e2, q1, q2, bne]
theorem net_began (u : N25 E) (k : Nat) (m : Mem) : denF E (k + 1) 143 [] m = some (.ret (.ptr (m.length + 1) 0), m ++ [.map [], .cells [.p .nils, .map m.length]]) := by
  refine denF_wp_own u.began rfl ?_
  simp [Fn.f_net_began]
end Hx
