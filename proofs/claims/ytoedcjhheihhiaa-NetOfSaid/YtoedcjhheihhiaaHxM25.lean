/-
  HxM25: what changes come to, all in all: the program's answer (by a map's entries) and the document's (by places in a list), in plain Lean.
-/
import Derived.Test.YtoedcjhheihhiaaHxB25
namespace Hx
open Go
structure Ch where
  kind : Int
  lsn : Int
  table : List UInt8
  kk : Int
  kn : Int
  ks : List UInt8
  cs : PV
  d : Ddl
  sl : PV
abbrev Key25 := List UInt8 × Int × Int × List UInt8
def Ch.key (c : Ch) : Key25 := (c.table, c.kk, c.kn, c.ks)
def sm (a b : Ch) : Bool := decide (a.key = b.key)
theorem sm_iff {a b : Ch} : sm a b = true ↔ a.key = b.key := by unfold sm; simp
theorem sm_self (a : Ch) : sm a a = true := by simp [sm]
theorem sm_congr {a b : Ch} (h : a.key = b.key) (x : Ch) : sm x a = sm x b := by unfold sm; rw [h]
theorem sm_comm (a b : Ch) : sm a b = sm b a := by unfold sm; rw [decide_eq_decide]; exact eq_comm
def comesB (f l : Ch) : Option Ch := if f.kind = 1 then (if l.kind = 3 then none else some { l with kind := 1 }) else if l.kind = 3 then some l else some { l with kind := 2 }

abbrev En := Key25 × Ch × Ch
def findE (k : Key25) : List En → Option (Ch × Ch)
  | [] => none
  | e :: r => if e.1 = k then some e.2 else findE k r
def setE (k : Key25) (c : Ch) : List En → List En
  | [] => []
  | e :: r => if e.1 = k then (k, e.2.1, c) :: r else e :: setE k c r
def addE (E : List En) (c : Ch) : Int × List En := match findE c.key E with
  | none => (0, E ++ [(c.key, c, c)])
  | some b => if c.kind = 1 ∧ b.2.kind ≠ 3 then (17, E) else if c.kind ≠ 1 ∧ b.2.kind = 3 then (18, E) else (0, setE c.key c E)
def endK (kd : Int) (E : List En) : List Ch := E.filterMap fun e => (comesB e.2.1 e.2.2).filter fun c => c.kind == kd
def endE (E : List En) : List Ch := endK 3 E ++ (endK 2 E ++ endK 1 E)
def ofP (plain : Ch → Bool) : List Ch → List Ch → List En → List Ch × Int
  | [], out, E => (out ++ endE E, 0)
  | c :: l, out, E => if plain c = false then ([], 2) else if c.kind = 4 then ofP plain l ((out ++ endE E) ++ [c]) [] else if (addE E c).1 ≠ 0 then ([], (addE E c).1) else ofP plain l out (addE E c).2


def firsts (pre : List Ch) : List Ch → List Ch
  | [] => []
  | c :: r => if pre.any (sm c) then firsts (pre ++ [c]) r else c :: firsts (pre ++ [c]) r
def lastOf (l : List Ch) (c : Ch) : Ch := ((l.filter (sm c)).getLast?).getD c
def runK (kd : Int) (l : List Ch) : List Ch := (firsts [] l).filterMap fun c => (comesB c (lastOf l c)).filter fun c => c.kind == kd
def run25 (l : List Ch) : List Ch := runK 3 l ++ (runK 2 l ++ runK 1 l)
def wrongD (l : List Ch) (c : Ch) : Int := if l.any (sm c) = false then 0 else if c.kind = 1 ∧ (lastOf l c).kind ≠ 3 then 17 else if c.kind ≠ 1 ∧ (lastOf l c).kind = 3 then 18 else 0
def ofD (plain : Ch → Bool) : List Ch → List Ch → List Ch → List Ch × Int
  | [], out, now => (out ++ run25 now, 0)
  | c :: l, out, now => if plain c = false then ([], 2) else if c.kind = 4 then ofD plain l ((out ++ run25 now) ++ [c]) [] else if wrongD now c ≠ 0 then ([], wrongD now c) else ofD plain l out (now ++ [c])
def entries (l : List Ch) : List En := (firsts [] l).map fun c => (c.key, c, lastOf l c)

theorem firsts_snoc : ∀ (l pre : List Ch) (c : Ch), firsts pre (l ++ [c]) = firsts pre l ++ (if (pre ++ l).any (sm c) then [] else [c])
  | [], pre, c => by simp [firsts]
  | x :: l, pre, c => by
    have h := firsts_snoc l (pre ++ [x]) c
    have e : (pre ++ [x]) ++ l = pre ++ (x :: l) := by simp
    rw [e] at h
    simp only [List.cons_append, firsts, h]
    split <;> simp
theorem firsts_new : ∀ (l pre : List Ch) {x : Ch}, x ∈ firsts pre l → pre.any (sm x) = false ∧ x ∈ l
  | [], pre, x, h => by cases h
  | c :: l, pre, x, h => by
    unfold firsts at h
    have key : x ∈ firsts (pre ++ [c]) l → pre.any (sm x) = false ∧ x ∈ c :: l := by
      intro h
      obtain ⟨h1, h2⟩ := firsts_new l _ h
      rw [List.any_append, Bool.or_eq_false_iff] at h1
      exact ⟨h1.1, List.mem_cons_of_mem _ h2⟩
    split at h
    · exact key h
    · rename_i hn
      rcases List.mem_cons.1 h with rfl | h
      · exact ⟨by simpa using hn, List.mem_cons_self⟩
      · exact key h
theorem firsts_find : ∀ (l pre : List Ch) (c : Ch), pre.any (sm c) = false → (firsts pre l).find? (sm c) = l.find? (sm c)
  | [], _, _, _ => rfl
  | x :: l, pre, c, h => by
    cases hs : sm c x with
    | true =>
      have h' : pre.any (sm x) = false := by
        rw [← h]; congr 1; funext y; rw [sm_comm x y, sm_comm c y]; exact sm_congr (sm_iff.1 hs).symm y
      simp only [firsts, h', Bool.false_eq_true, if_false, List.find?_cons, hs]
    | false =>
      have h2 : (pre ++ [x]).any (sm c) = false := by simp [List.any_append, h, hs]
      have := firsts_find l _ c h2
      simp only [firsts, List.find?_cons, hs]
      split
      · exact this
      · simp only [List.find?_cons, hs]; exact this
theorem firsts_pw : ∀ (l pre : List Ch), (firsts pre l).Pairwise fun a b => sm a b = false
  | [], _ => .nil
  | c :: l, pre => by
    unfold firsts
    split
    · exact firsts_pw l _
    · refine List.Pairwise.cons ?_ (firsts_pw l _)
      intro b hb
      have := (firsts_new l _ hb).1
      rw [List.any_append, Bool.or_eq_false_iff] at this
      have h2 : sm b c = false := by simpa using this.2
      rw [sm_comm]; exact h2
theorem lastOf_snoc (l : List Ch) (c x : Ch) : lastOf (l ++ [c]) x = if sm x c then c else lastOf l x := by
  unfold lastOf
  rw [List.filter_append]
  cases h : sm x c with
  | true => simp [h]
  | false => simp [h]
theorem lastOf_key {l : List Ch} {a b : Ch} (h : a.key = b.key) (hl : l.any (sm a) = true) : lastOf l a = lastOf l b := by
  have e : sm a = sm b := by funext x; unfold sm; rw [h]
  unfold lastOf
  rw [e]
  rw [e] at hl
  obtain ⟨x, hx, hs⟩ := List.any_eq_true.1 hl
  have hne : l.filter (sm b) ≠ [] := by
    intro h0
    have : x ∈ l.filter (sm b) := List.mem_filter.2 ⟨hx, hs⟩
    rw [h0] at this; cases this
  rw [List.getLast?_eq_some_getLast hne]; rfl
theorem findE_map (k : Key25) (g : Ch → Ch) : ∀ (L : List Ch) (c : Ch), c.key = k → findE k (L.map fun c => (c.key, c, g c)) = (L.find? (sm c)).map fun f => (f, g f)
  | [], _, _ => rfl
  | x :: L, c, h => by
    have ih := findE_map k g L c h
    simp only [List.map_cons, findE, List.find?_cons]
    by_cases hx : x.key = k
    · rw [if_pos hx, sm_iff.2 (h.trans hx.symm)]; rfl
    · have : sm c x = false := by
        cases hh : sm c x with
        | false => rfl
        | true => exact absurd ((sm_iff.1 hh).symm.trans h) hx
      rw [if_neg hx, this]; exact ih
theorem setE_map (c : Ch) (g : Ch → Ch) : ∀ (L : List Ch), (L.Pairwise fun a b => sm a b = false) → setE c.key c (L.map fun x => (x.key, x, g x)) = L.map fun x => (x.key, x, if sm x c then c else g x)
  | [], _ => rfl
  | x :: L, h => by
    have ih := setE_map c g L h.of_cons
    simp only [List.map_cons, setE]
    by_cases hx : x.key = c.key
    · rw [if_pos hx, sm_iff.2 hx, hx]
      simp only [if_true, List.cons.injEq, true_and]
      refine List.map_congr_left ?_
      intro y hy
      have h1 : sm x y = false := (List.pairwise_cons.1 h).1 y hy
      have h2 : sm y c = false := by rw [sm_comm, ← h1]; unfold sm; rw [hx]
      rw [h2]; rfl
    · have : sm x c = false := by
        cases hh : sm x c with
        | false => rfl
        | true => exact absurd (sm_iff.1 hh) hx
      rw [if_neg hx, ih, this]; rfl
theorem any_find {l : List Ch} {c : Ch} : l.any (sm c) = (l.find? (sm c)).isSome := by
  induction l with
  | nil => rfl
  | cons x l ih => simp only [List.any_cons, List.find?_cons]; cases sm c x <;> simp [ih]
theorem find_entries (l : List Ch) (c : Ch) : findE c.key (entries l) = (l.find? (sm c)).map fun f => (f, lastOf l c) := by
  unfold entries
  rw [findE_map c.key (lastOf l) (firsts [] l) c rfl, firsts_find l [] c rfl]
  cases h : l.find? (sm c) with
  | none => rfl
  | some f =>
    have h1 := List.find?_some h
    have h2 : l.any (sm c) = true := by rw [any_find, h]; rfl
    have h3 : f.key = c.key := (sm_iff.1 h1).symm
    have h4 : lastOf l f = lastOf l c := (lastOf_key h3.symm h2).symm
    simp only [Option.map_some, h4]
theorem add_entries (l : List Ch) (c : Ch) : (addE (entries l) c).1 = wrongD l c ∧ (wrongD l c = 0 → (addE (entries l) c).2 = entries (l ++ [c])) := by
  unfold addE wrongD
  rw [find_entries, any_find]
  cases h : l.find? (sm c) with
  | none =>
    refine ⟨rfl, fun _ => ?_⟩
    have ha : l.any (sm c) = false := by rw [any_find, h]; rfl
    unfold entries
    rw [firsts_snoc]
    simp only [List.nil_append, ha, Bool.false_eq_true, if_false, Option.map_none, List.map_append, List.map_cons, List.map_nil]
    rw [lastOf_snoc, sm_self, if_pos rfl]
    congr 1
    refine List.map_congr_left ?_
    intro x hx
    rw [lastOf_snoc]
    have : sm x c = false := by
      have := (firsts_new l [] hx).2
      have h2 := List.any_eq_false.1 ha x this
      rw [sm_comm]; simpa using h2
    rw [this]; rfl
  | some f =>
    have ha : l.any (sm c) = true := by rw [any_find, h]; rfl
    simp only [Option.map_some, Option.isSome_some, Bool.true_eq_false, if_false]
    by_cases h1 : c.kind = 1 ∧ (lastOf l c).kind ≠ 3
    · simp [h1]
    · by_cases h2 : c.kind ≠ 1 ∧ (lastOf l c).kind = 3
      · rw [if_neg h1, if_neg h1, if_pos h2, if_pos h2]; simp
      · rw [if_neg h1, if_neg h1, if_neg h2, if_neg h2]
        refine ⟨rfl, fun _ => ?_⟩
        show setE c.key c (entries l) = _
        unfold entries
        rw [setE_map c (lastOf l) _ (firsts_pw l []), firsts_snoc]
        simp only [List.nil_append, ha, if_true, List.append_nil]
        refine List.map_congr_left ?_
        intro x _
        rw [lastOf_snoc]
theorem endK_entries (kd : Int) (l : List Ch) : endK kd (entries l) = runK kd l := by
  unfold endK runK entries
  rw [List.filterMap_map]; rfl
theorem end_entries (l : List Ch) : endE (entries l) = run25 l := by unfold endE run25; simp only [endK_entries]
theorem of_same (plain : Ch → Bool) : ∀ (l out now : List Ch), ofP plain l out (entries now) = ofD plain l out now
  | [], out, now => by simp only [ofP, ofD, end_entries]
  | c :: l, out, now => by
    obtain ⟨h1, h2⟩ := add_entries now c
    simp only [ofP, ofD, end_entries, h1]
    split
    · rfl
    split
    · exact of_same plain l _ []
    split
    · rfl
    · rename_i h
      rw [h2 (by simpa using h)]
      exact of_same plain l out _


def rowsP : List Ch → List Key25 → Int → Int
  | [], _, n => n
  | c :: l, seen, n => if c.kind = 4 then rowsP l [] n else if c.kind = 1 ∨ c.kind = 2 ∨ c.kind = 3 then (if seen.contains c.key then rowsP l seen n else rowsP l (seen ++ [c.key]) (n + 1)) else rowsP l seen n
def rowsD : List Ch → List Ch → Int → Int
  | [], _, n => n
  | c :: l, now, n => if c.kind = 4 then rowsD l [] n else if 1 ≤ c.kind ∧ c.kind ≤ 3 then rowsD l (now ++ [c]) (if now.any (sm c) then n else n + 1) else rowsD l now n
theorem rows_same : ∀ (l now : List Ch) (seen : List Key25) (n : Int), (∀ k, k ∈ seen ↔ k ∈ now.map Ch.key) → rowsP l seen n = rowsD l now n
  | [], _, _, _, _ => rfl
  | c :: l, now, seen, n, h => by
    simp only [rowsP, rowsD]
    by_cases h4 : c.kind = 4
    · rw [if_pos h4, if_pos h4]; exact rows_same l [] [] n (by simp)
    · rw [if_neg h4, if_neg h4]
      by_cases h3 : c.kind = 1 ∨ c.kind = 2 ∨ c.kind = 3
      · have h3' : 1 ≤ c.kind ∧ c.kind ≤ 3 := by omega
        rw [if_pos h3, if_pos h3']
        have e : seen.contains c.key = now.any (sm c) := by
          rw [Bool.eq_iff_iff, List.contains_iff_mem, List.any_eq_true, h, List.mem_map]
          exact ⟨fun ⟨x, hx, hk⟩ => ⟨x, hx, sm_iff.2 hk.symm⟩, fun ⟨x, hx, hk⟩ => ⟨x, hx, (sm_iff.1 hk).symm⟩⟩
        rw [e]
        cases hh : now.any (sm c) with
        | true =>
          simp only [if_true]
          refine rows_same l _ _ n ?_
          intro k
          rw [h, List.map_append, List.mem_append]
          refine ⟨.inl, ?_⟩
          rintro (h | h)
          · exact h
          · have : k = c.key := by simpa using h
            subst this
            obtain ⟨x, hx, hk⟩ := List.any_eq_true.1 hh
            exact List.mem_map.2 ⟨x, hx, (sm_iff.1 hk).symm⟩
        | false =>
          simp only [Bool.false_eq_true, if_false]
          refine rows_same l _ _ (n + 1) ?_
          intro k
          rw [List.map_append, List.mem_append, List.mem_append, h]; simp
      · have h3' : ¬ (1 ≤ c.kind ∧ c.kind ≤ 3) := by omega
        rw [if_neg h3, if_neg h3']; exact rows_same l now seen n h
end Hx
