/-
  HxM26c: what changes come to does the same (plain): runs, and changes of the tables between them.
-/
import Derived.Test.YtfobhbameffplaaHxS15a
namespace Hx
set_option maxHeartbeats 2000000
structure Mdl (Cat : Type) where
  lt : Val → Val → Bool
  find : Cat → List UInt8 → Option Nat
  keyOf : Cat → Nat → Row → Val
  val : Cat → Ch → Option Row
  ddl : Cat → List (List Row) → Ch → Option (Cat × List (List Row))
  plain : Ch → Bool
section
variable {Cat : Type}
def rowsAt (s : Cat × List (List Row)) (a : Nat) : List Row := s.2.getD a []
structure WF (M : Mdl Cat) (s : Cat × List (List Row)) : Prop where
  rise : ∀ a, a < s.2.length → Rise M.lt (M.keyOf s.1 a) (rowsAt s a)
  len : ∀ a, a < s.2.length → (rowsAt s a).length ≤ 200
  found : ∀ n a, M.find s.1 n = some a → a < s.2.length
def getS (M : Mdl Cat) (s : Cat × List (List Row)) (q : Key25) : Option Row := match M.find s.1 q.1 with
  | none => none
  | some a => getR (M.keyOf s.1 a) (rowsAt s a) q.2
def redo1 (M : Mdl Cat) (s : Cat × List (List Row)) (c : Ch) : Option (Cat × List (List Row)) := match M.find s.1 c.table with
  | none => none
  | some a =>
    if c.kind = 3 then (if getR (M.keyOf s.1 a) (rowsAt s a) c.key.2 = none then none else some (s.1, s.2.set a (delR (M.keyOf s.1 a) c.key.2 (rowsAt s a))))
    else match M.val s.1 c with
      | none => none
      | some x =>
        if c.kind = 1 then (if getR (M.keyOf s.1 a) (rowsAt s a) c.key.2 ≠ none then none else if 200 ≤ (rowsAt s a).length then none else some (s.1, s.2.set a (putR M.lt (M.keyOf s.1 a) x (rowsAt s a))))
        else if getR (M.keyOf s.1 a) (rowsAt s a) c.key.2 = none then none else some (s.1, s.2.set a (putR M.lt (M.keyOf s.1 a) x (rowsAt s a)))
def redo (M : Mdl Cat) (s : Cat × List (List Row)) (c : Ch) : Option (Cat × List (List Row)) :=
  if M.plain c = false then none else if c.kind = 4 then M.ddl s.1 s.2 c else redo1 M s c
def applyL (M : Mdl Cat) : (Cat × List (List Row)) → List Ch → Option (Cat × List (List Row))
  | s, [] => some s
  | s, c :: l => match redo M s c with | none => none | some s' => applyL M s' l
structure MdlOk (M : Mdl Cat) : Prop where
  lt : LtOk M.lt
  plain : PlainOk M.plain
  kind : ∀ cat c k, M.val cat { c with kind := k } = M.val cat c
  key : ∀ cat c x a, M.val cat c = some x → M.find cat c.table = some a → M.keyOf cat a x = c.key.2
  inj : ∀ cat n n' a, M.find cat n = some a → M.find cat n' = some a → n = n'
  ddl : ∀ s c s', WF M s → M.plain c = true → c.kind = 4 → M.ddl s.1 s.2 c = some s' → WF M s'
variable {M : Mdl Cat}
def valC (M : Mdl Cat) (cat : Cat) (c : Ch) : Option Row := if c.kind = 3 then none else M.val cat c
theorem rowsAt_set (s : Cat × List (List Row)) {a : Nat} (ha : a < s.2.length) (l : List Row) (b : Nat) : rowsAt (s.1, s.2.set a l) b = if a = b then l else rowsAt s b := by
  unfold rowsAt
  simp only [List.getD_eq_getElem?_getD]
  by_cases h : a = b
  · subst h
    rw [List.getElem?_set_self ha]; simp
  · rw [List.getElem?_set_ne h]; simp [h]
theorem wf_set {s : Cat × List (List Row)} (h : WF M s) {a : Nat} (ha : a < s.2.length) {l : List Row} (hl : Rise M.lt (M.keyOf s.1 a) l) (hn : l.length ≤ 200) : WF M (s.1, s.2.set a l) where
  rise := fun b hb => by
    rw [rowsAt_set s ha]
    simp only [List.length_set] at hb
    by_cases e : a = b
    · subst e; simpa using hl
    · rw [if_neg e]; exact h.rise b hb
  len := fun b hb => by
    rw [rowsAt_set s ha]
    simp only [List.length_set] at hb
    by_cases e : a = b
    · subst e; simpa using hn
    · rw [if_neg e]; exact h.len b hb
  found := fun n b hb => by
    simp only [List.length_set]
    exact h.found n b hb
theorem getS_set (ok : MdlOk M) {s : Cat × List (List Row)} {n : List UInt8} {a : Nat} (hf : M.find s.1 n = some a) (ha : a < s.2.length) {l : List Row} {v : Val} {o : Option Row} (hl : ∀ w, getR (M.keyOf s.1 a) l w = if v = w then o else getR (M.keyOf s.1 a) (rowsAt s a) w) (q : Key25) :
    getS M (s.1, s.2.set a l) q = if (n, v) = q then o else getS M s q := by
  obtain ⟨n', w⟩ := q
  unfold getS
  simp only
  cases hb : M.find s.1 n' with
  | none =>
    have hne : ¬ (n, v) = (n', w) := by
      intro e
      cases e
      rw [hf] at hb; cases hb
    rw [if_neg hne]
  | some b =>
    simp only [rowsAt_set s ha]
    by_cases e : a = b
    · subst e
      obtain rfl := ok.inj _ _ _ _ hf hb
      rw [if_pos rfl, hl]
      by_cases e2 : v = w
      · subst e2; simp
      · have : ¬ (n, v) = (n, w) := fun h => e2 (Prod.mk.inj h).2
        rw [if_neg e2, if_neg this]
    · have : ¬ (n, v) = (n', w) := by
        intro h
        obtain ⟨rfl, _⟩ := Prod.mk.inj h
        rw [hf] at hb
        exact e (Option.some.inj hb)
      rw [if_neg e, if_neg this]
def Hid (M : Mdl Cat) (s s' : Cat × List (List Row)) : Prop := ∀ a, (∀ n, M.find s.1 n ≠ some a) → rowsAt s a = rowsAt s' a
structure Done (M : Mdl Cat) (s : Cat × List (List Row)) (c : Ch) (s' : Cat × List (List Row)) : Prop where
  wf : WF M s'
  cat : s'.1 = s.1
  len : s'.2.length = s.2.length
  get : ∀ q, getS M s' q = if c.key = q then valC M s.1 c else getS M s q
  one : c.kind = 1 ↔ getS M s c.key = none
  val : c.kind ≠ 3 → M.val s.1 c ≠ none
  found : M.find s.1 c.table ≠ none
  hid : Hid M s s'
theorem redo1_ok (ok : MdlOk M) {s s' : Cat × List (List Row)} (h : WF M s) {c : Ch} (hr : redo1 M s c = some s') : Done M s c s' := by
  unfold redo1 at hr
  cases hf : M.find s.1 c.table with
  | none => rw [hf] at hr; cases hr
  | some a =>
    rw [hf] at hr
    simp only at hr
    have ha := h.found _ _ hf
    have hg : getS M s c.key = getR (M.keyOf s.1 a) (rowsAt s a) c.key.2 := by
      unfold getS
      rw [show c.key.1 = c.table from rfl, hf]
    have hhid : ∀ l : List Row, Hid M s (s.1, s.2.set a l) := by
      intro l b hb
      rw [rowsAt_set s ha, if_neg (fun e => hb c.table (by rw [hf, e]))]
    by_cases k3 : c.kind = 3
    · rw [if_pos k3] at hr
      split at hr
      · cases hr
      · rename_i hn
        obtain rfl := Option.some.inj hr
        refine ⟨wf_set h ha (rise_del (h.rise a ha)) (Nat.le_trans (len_del _) (h.len a ha)), rfl, by simp, ?_, ?_, fun q => absurd k3 q, by rw [hf]; simp, hhid _⟩
        · intro q
          rw [getS_set ok hf ha (v := c.key.2) (o := none) (fun w => get_del ok.lt (h.rise a ha) w)]
          unfold valC
          rw [if_pos k3]
          rfl
        · rw [hg]
          exact ⟨fun e => by omega, fun e => absurd e hn⟩
    · rw [if_neg k3] at hr
      cases hv : M.val s.1 c with
      | none => rw [hv] at hr; cases hr
      | some x =>
        rw [hv] at hr
        simp only at hr
        have hkx := ok.key _ _ _ _ hv hf
        have hget : ∀ q, getS M (s.1, s.2.set a (putR M.lt (M.keyOf s.1 a) x (rowsAt s a))) q = if c.key = q then valC M s.1 c else getS M s q := by
          intro q
          rw [getS_set ok hf ha (v := c.key.2) (o := some x) (fun w => by rw [get_put ok.lt x (h.rise a ha) w, hkx])]
          unfold valC
          rw [if_neg k3, hv]
          rfl
        have hlp := len_put (lt := M.lt) (k := M.keyOf s.1 a) x (rowsAt s a)
        by_cases k1 : c.kind = 1
        · rw [if_pos k1] at hr
          split at hr
          · cases hr
          · rename_i hn
            split at hr
            · cases hr
            · rename_i hlen
              obtain rfl := Option.some.inj hr
              refine ⟨wf_set h ha (rise_put ok.lt x (h.rise a ha)) (by omega), rfl, by simp, hget, ?_, fun _ => by rw [hv]; simp, by rw [hf]; simp, hhid _⟩
              rw [hg]
              exact ⟨fun _ => by simpa using hn, fun _ => k1⟩
        · rw [if_neg k1] at hr
          split at hr
          · cases hr
          · rename_i hn
            obtain rfl := Option.some.inj hr
            have hlen : (putR M.lt (M.keyOf s.1 a) x (rowsAt s a)).length ≤ 200 := by
              rcases Nat.lt_or_ge (rowsAt s a).length (putR M.lt (M.keyOf s.1 a) x (rowsAt s a)).length with hlt | hge
              · exfalso
                have hnd := rise_nodup ok.lt (rise_put ok.lt x (h.rise a ha))
                have := nodup_len (ys := (rowsAt s a).map (M.keyOf s.1 a)) hnd (by
                  intro w hw
                  obtain ⟨r, hr, e⟩ := List.mem_map.1 hw
                  rcases mem_put hr with rfl | hr
                  · obtain ⟨r', hr'⟩ := Option.ne_none_iff_exists'.1 hn
                    obtain ⟨g1, g2⟩ := getR_key hr'
                    exact List.mem_map.2 ⟨r', g2, by rw [g1, ← e, hkx]⟩
                  · exact List.mem_map.2 ⟨r, hr, e⟩)
                simp only [List.length_map] at this
                omega
              · have := h.len a ha
                omega
            refine ⟨wf_set h ha (rise_put ok.lt x (h.rise a ha)) hlen, rfl, by simp, hget, ?_, fun _ => by rw [hv]; simp, by rw [hf]; simp, hhid _⟩
            rw [hg]
            exact ⟨fun e => absurd e k1, fun e => absurd e hn⟩
theorem redo1_can {s : Cat × List (List Row)} {c : Ch} (hone : c.kind = 1 ↔ getS M s c.key = none) (hval : c.kind ≠ 3 → M.val s.1 c ≠ none) (hfound : M.find s.1 c.table ≠ none)
    (hlen : c.kind = 1 → ∀ a, M.find s.1 c.table = some a → (rowsAt s a).length < 200) : ∃ s', redo1 M s c = some s' := by
  obtain ⟨a, hf⟩ := Option.ne_none_iff_exists'.1 hfound
  have hg : getS M s c.key = getR (M.keyOf s.1 a) (rowsAt s a) c.key.2 := by
    unfold getS
    rw [show c.key.1 = c.table from rfl, hf]
  rw [hg] at hone
  unfold redo1
  rw [hf]
  simp only
  by_cases k3 : c.kind = 3
  · rw [if_pos k3, if_neg (fun e => by have := hone.2 e; omega)]
    exact ⟨_, rfl⟩
  · rw [if_neg k3]
    obtain ⟨x, hx⟩ := Option.ne_none_iff_exists'.1 (hval k3)
    rw [hx]
    simp only
    by_cases k1 : c.kind = 1
    · have := hlen k1 a hf
      rw [if_pos k1, if_neg (fun e => e (hone.1 k1)), if_neg (by omega)]
      exact ⟨_, rfl⟩
    · rw [if_neg k1, if_neg (fun e => k1 (hone.2 e))]
      exact ⟨_, rfl⟩
theorem state_ext (ok : MdlOk M) {s s' : Cat × List (List Row)} (h : WF M s) (h' : WF M s') (hc : s.1 = s'.1) (hn : s.2.length = s'.2.length) (hg : ∀ q, getS M s q = getS M s' q) (hh : Hid M s s') : s = s' := by
  obtain ⟨cat, rows⟩ := s
  obtain ⟨cat', rows'⟩ := s'
  simp only at hc hn
  subst hc
  congr 1
  apply List.ext_getElem? 
  intro a
  rcases Nat.lt_or_ge a rows.length with ha | ha
  · have e : rowsAt (cat, rows) a = rowsAt (cat, rows') a := by
      by_cases hex : ∃ n, M.find cat n = some a
      · obtain ⟨n, hf⟩ := hex
        exact rise_ext ok.lt (h.rise a ha) (h'.rise a (by simpa [← hn] using ha)) (by
          intro v
          have := hg (n, v)
          unfold getS at this
          simp only at hf this
          rw [hf] at this
          exact this)
      · exact hh a fun n e => hex ⟨n, e⟩
    unfold rowsAt at e
    simp only [List.getD_eq_getElem?_getD] at e
    rw [List.getElem?_eq_getElem ha, List.getElem?_eq_getElem (by omega)] at e ⊢
    simpa using e
  · rw [List.getElem?_eq_none ha, List.getElem?_eq_none (by omega)]
theorem apply_to (ok : MdlOk M) : ∀ (N : List Ch) (s w : Cat × List (List Row)), WF M s → WF M w → s.1 = w.1 → s.2.length = w.2.length →
    (N.Pairwise fun a b => a.key ≠ b.key) → (N.Pairwise fun a b => a.kind = 1 → b.kind = 1) →
    (∀ c ∈ N, M.plain c = true ∧ K3 c ∧ (c.kind = 1 ↔ getS M s c.key = none) ∧ (c.kind ≠ 3 → M.val w.1 c ≠ none) ∧ M.find w.1 c.table ≠ none ∧ getS M w c.key = valC M w.1 c) →
    (∀ q, (∀ c ∈ N, c.key ≠ q) → getS M s q = getS M w q) → Hid M s w → applyL M s N = some w
  | [], s, w, hs, hw, hc, hn, _, _, _, hq, hh => by
    rw [applyL, state_ext ok hs hw hc hn (fun q => hq q (by simp)) hh]
  | c :: N, s, w, hs, hw, hc, hn, hp, hk, hN, hq, hh => by
    obtain ⟨p1, p2⟩ := List.pairwise_cons.1 hp
    obtain ⟨k1, k2⟩ := List.pairwise_cons.1 hk
    obtain ⟨c1, c2, c3, c4, c5, c6⟩ := hN c (by simp)
    have h4 : ¬ c.kind = 4 := by rcases c2 with h | h | h <;> omega
    obtain ⟨s', hr⟩ := redo1_can (M := M) (s := s) c3 (by rw [hc]; exact c4) (by rw [hc]; exact c5) (by
      intro e1 a hf
      have ha := hs.found _ _ hf
      have hf' : M.find w.1 c.table = some a := by rw [← hc]; exact hf
      have haw : a < w.2.length := hw.found _ _ hf'
      have hval : valC M w.1 c ≠ none := by
        unfold valC
        rw [if_neg (by omega)]
        exact c4 (by omega)
      have g1 : ∀ v, getS M s (c.table, v) = getR (M.keyOf s.1 a) (rowsAt s a) v := by
        intro v; unfold getS; simp only; rw [hf]
      have g2 : ∀ v, getS M w (c.table, v) = getR (M.keyOf s.1 a) (rowsAt w a) v := by
        intro v; unfold getS; simp only; rw [hf', hc]
      have := rise_less ok.lt (hs.rise a ha) (v := c.key.2) (l' := rowsAt w a) (by rw [← g1]; exact c3.1 e1) (by rw [← g2]; exact fun e => hval (c6.symm.trans e)) (by
        intro v hv
        rw [← g1] at hv
        rw [← g2]
        have hne : ∀ d ∈ c :: N, d.key ≠ (c.table, v) := by
          intro d hd e
          have hd1 : d.kind = 1 := by
            rcases List.mem_cons.1 hd with rfl | hd
            · exact e1
            · exact k1 d hd e1
          have := (hN d hd).2.2.1.1 hd1
          rw [e] at this
          exact hv this
        rw [← hq _ hne]; exact hv)
      have := hw.len a haw
      omega)
    have hd := redo1_ok ok hs hr
    have hred : redo M s c = some s' := by
      unfold redo
      rw [if_neg (by rw [c1]; simp), if_neg h4]; exact hr
    rw [applyL, hred]
    simp only
    refine apply_to ok N s' w hd.wf hw (hd.cat.trans hc) (hd.len.trans hn) p2 k2 ?_ ?_ (fun a ha => (hd.hid a (by rw [← hd.cat]; exact ha)).symm.trans (hh a (by rw [← hd.cat]; exact ha)))
    · intro d hdm
      obtain ⟨d1, d2, d3, d4, d5, d6⟩ := hN d (by simp [hdm])
      refine ⟨d1, d2, ?_, d4, d5, d6⟩
      rw [hd.get, if_neg (p1 d hdm)]
      exact d3
    · intro q hqn
      rw [hd.get]
      by_cases e : c.key = q
      · rw [if_pos e, hc, ← c6, e]
      · rw [if_neg e]
        refine hq q ?_
        intro d hdm
        rcases List.mem_cons.1 hdm with rfl | hdm
        · exact e
        · exact hqn d hdm
end
end Hx

namespace Hx
set_option maxHeartbeats 2000000
section
variable {Cat : Type} {M : Mdl Cat}
theorem apply_append : ∀ (a b : List Ch) (s : Cat × List (List Row)), applyL M s (a ++ b) = match applyL M s a with | none => none | some s' => applyL M s' b
  | [], b, s => rfl
  | c :: a, b, s => by
    simp only [List.cons_append, applyL]
    cases redo M s c with
    | none => rfl
    | some s' => exact apply_append a b s'
structure RunRel (M : Mdl Cat) (s0 : Cat × List (List Row)) (R : List En) (sN : Cat × List (List Row)) : Prop where
  wf0 : WF M s0
  wfN : WF M sN
  cat : s0.1 = sN.1
  len : s0.2.length = sN.2.length
  pw : R.Pairwise fun a b => a.1 ≠ b.1
  at_ : ∀ e ∈ R, e.1 = e.2.2.key ∧ K3 e.2.1 ∧ K3 e.2.2 ∧ M.plain e.2.2 = true ∧ (e.2.1.kind = 1 ↔ getS M s0 e.1 = none) ∧ getS M sN e.1 = valC M sN.1 e.2.2 ∧ (e.2.2.kind ≠ 3 → M.val sN.1 e.2.2 ≠ none) ∧ M.find sN.1 e.2.2.table ≠ none
  out : ∀ q, (∀ e ∈ R, e.1 ≠ q) → getS M s0 q = getS M sN q
  hid : Hid M s0 sN
theorem run_start {s : Cat × List (List Row)} (h : WF M s) : RunRel M s [] s := ⟨h, h, rfl, rfl, .nil, by simp, fun _ _ => rfl, fun _ _ => rfl⟩
theorem run_ve {s0 sN : Cat × List (List Row)} {R : List En} (h : RunRel M s0 R sN) : VE M.plain R := ⟨h.pw, fun e he => by obtain ⟨h1, h2, h3, h4, _⟩ := h.at_ e he; exact ⟨h1, h4, h3, h2⟩⟩
theorem findE_mem2 {k : Key25} {R : List En} {b : Ch × Ch} (h : findE k R = some b) : (k, b) ∈ R := by
  induction R with
  | nil => cases h
  | cons e R ih =>
    unfold findE at h
    split at h
    · rename_i he
      obtain ⟨e1, e2⟩ := e
      simp only at he h
      subst he
      rw [Option.some.inj h]; simp
    · exact List.mem_cons_of_mem _ (ih h)
theorem setE_mem2 {k : Key25} {c : Ch} : ∀ {R : List En} {e : En}, (R.Pairwise fun a b => a.1 ≠ b.1) → e ∈ setE k c R → (e ∈ R ∧ e.1 ≠ k) ∨ ∃ f l, (k, f, l) ∈ R ∧ e = (k, f, c)
  | [], e, _, h => by cases h
  | x :: R, e, hp, h => by
    obtain ⟨p1, p2⟩ := List.pairwise_cons.1 hp
    unfold setE at h
    by_cases hx : x.1 = k
    · rw [if_pos hx] at h
      rcases List.mem_cons.1 h with rfl | h
      · obtain ⟨x1, x2, x3⟩ := x
        simp only at hx
        subst hx
        exact .inr ⟨x2, x3, by simp, rfl⟩
      · exact .inl ⟨List.mem_cons_of_mem _ h, fun e1 => p1 e h (hx.trans e1.symm)⟩
    · rw [if_neg hx] at h
      rcases List.mem_cons.1 h with rfl | h
      · exact .inl ⟨by simp, hx⟩
      · rcases setE_mem2 p2 h with ⟨h1, h2⟩ | ⟨f, l, h1, h2⟩
        · exact .inl ⟨List.mem_cons_of_mem _ h1, h2⟩
        · exact .inr ⟨f, l, List.mem_cons_of_mem _ h1, h2⟩
theorem run_step (ok : MdlOk M) {s0 sN s' : Cat × List (List Row)} {R : List En} (h : RunRel M s0 R sN) {c : Ch} (hp : M.plain c = true) (h3 : K3 c) (hr : redo1 M sN c = some s') : (addE R c).1 = 0 ∧ RunRel M s0 (addE R c).2 s' := by
  have hd := redo1_ok ok h.wfN hr
  unfold addE
  cases hf : findE c.key R with
  | none =>
    have hne := findE_mem hf
    have hh : Hid M s0 s' := fun a ha => (h.hid a ha).trans (hd.hid a (by rw [← h.cat]; exact ha))
    refine ⟨rfl, ⟨h.wf0, hd.wf, h.cat.trans hd.cat.symm, h.len.trans hd.len.symm, ?_, ?_, ?_, hh⟩⟩
    · rw [List.pairwise_append]
      refine ⟨h.pw, List.pairwise_singleton _ _, ?_⟩
      intro a ha b hb
      obtain rfl := List.mem_singleton.1 hb
      exact hne a ha
    · intro e he
      rcases List.mem_append.1 he with he | he
      · obtain ⟨e1, e2, e3, e4, e5, e6, e7, e8⟩ := h.at_ e he
        refine ⟨e1, e2, e3, e4, e5, ?_, by rw [hd.cat]; exact e7, by rw [hd.cat]; exact e8⟩
        rw [hd.get, if_neg (fun q => hne e he q.symm), hd.cat]
        exact e6
      · obtain rfl := List.mem_singleton.1 he
        refine ⟨rfl, h3, h3, hp, ?_, ?_, by rw [hd.cat]; exact hd.val, by rw [hd.cat]; exact hd.found⟩
        · rw [h.out _ hne]; exact hd.one
        · rw [hd.get, if_pos rfl, hd.cat]
    · intro q hq
      have hcq : c.key ≠ q := hq (c.key, c, c) (by simp)
      rw [hd.get, if_neg hcq]
      exact h.out q fun e he => hq e (by simp [he])
  | some b =>
    have hm := findE_mem2 hf
    obtain ⟨e1, e2, e3, e4, e5, e6, e7, e8⟩ := h.at_ _ hm
    simp only at e1 e2 e3 e4 e5 e6 e7 e8
    have h31 : b.2.kind = 3 ↔ c.kind = 1 := by
      rw [hd.one, e6]
      unfold valC
      by_cases hb : b.2.kind = 3
      · simp [hb]
      · simp only [hb, if_false, false_iff]
        exact e7 hb
    have n1 : ¬ (c.kind = 1 ∧ b.2.kind ≠ 3) := fun q => q.2 (h31.2 q.1)
    have n2 : ¬ (c.kind ≠ 1 ∧ b.2.kind = 3) := fun q => q.1 (h31.1 q.2)
    simp only
    rw [if_neg n1, if_neg n2]
    have hh : Hid M s0 s' := fun a ha => (h.hid a ha).trans (hd.hid a (by rw [← h.cat]; exact ha))
    refine ⟨rfl, ⟨h.wf0, hd.wf, h.cat.trans hd.cat.symm, h.len.trans hd.len.symm, ?_, ?_, ?_, hh⟩⟩
    · have h1 : (R.map (·.1)).Pairwise (· ≠ ·) := List.pairwise_map.2 h.pw
      rw [← setE_keys c.key c] at h1
      exact List.pairwise_map.1 h1
    · intro e he
      rcases setE_mem2 h.pw he with ⟨he, hne⟩ | ⟨f, l, hfl, rfl⟩
      · obtain ⟨g1, g2, g3, g4, g5, g6, g7, g8⟩ := h.at_ e he
        refine ⟨g1, g2, g3, g4, g5, ?_, by rw [hd.cat]; exact g7, by rw [hd.cat]; exact g8⟩
        rw [hd.get, if_neg (fun q => hne q.symm), hd.cat]
        exact g6
      · obtain ⟨g1, g2, g3, g4, g5, g6, g7, g8⟩ := h.at_ _ hfl
        simp only at g1 g2 g3 g4 g5 g6 g7 g8
        refine ⟨rfl, g2, h3, hp, g5, ?_, by rw [hd.cat]; exact hd.val, by rw [hd.cat]; exact hd.found⟩
        show getS M s' c.key = _
        rw [hd.get, if_pos rfl, hd.cat]
    · intro q hq
      have hcq : c.key ≠ q := by
        intro e
        have hk : c.key ∈ (setE c.key c R).map (·.1) := by
          rw [setE_keys]
          exact List.mem_map.2 ⟨_, hm, rfl⟩
        obtain ⟨x, hx, hx2⟩ := List.mem_map.1 hk
        exact hq x hx (hx2.trans e)
      rw [hd.get, if_neg hcq]
      refine h.out q fun e he eq => ?_
      have hk : e.1 ∈ (setE c.key c R).map (·.1) := by
        rw [setE_keys]
        exact List.mem_map.2 ⟨e, he, rfl⟩
      obtain ⟨x, hx, hx2⟩ := List.mem_map.1 hk
      exact hq x hx (hx2.trans eq)
theorem mem_end {R : List En} {c : Ch} : c ∈ endE R ↔ ∃ e ∈ R, comesB e.2.1 e.2.2 = some c ∧ K3 c := by
  have key : ∀ kd, c ∈ endK kd R ↔ ∃ e ∈ R, comesB e.2.1 e.2.2 = some c ∧ c.kind = kd := by
    intro kd
    unfold endK
    rw [List.mem_filterMap]
    constructor
    · rintro ⟨e, he, h⟩
      obtain ⟨h1, h2⟩ := Option.filter_eq_some_iff.1 h
      exact ⟨e, he, h1, by simpa using h2⟩
    · rintro ⟨e, he, h1, h2⟩
      exact ⟨e, he, Option.filter_eq_some_iff.2 ⟨h1, by simpa using h2⟩⟩
  unfold endE
  rw [List.mem_append, List.mem_append, key, key, key]
  constructor
  · rintro (⟨e, he, h1, h2⟩ | ⟨e, he, h1, h2⟩ | ⟨e, he, h1, h2⟩)
    · exact ⟨e, he, h1, .inr (.inr h2)⟩
    · exact ⟨e, he, h1, .inr (.inl h2)⟩
    · exact ⟨e, he, h1, .inl h2⟩
  · rintro ⟨e, he, h1, h2 | h2 | h2⟩
    · exact .inr (.inr ⟨e, he, h1, h2⟩)
    · exact .inr (.inl ⟨e, he, h1, h2⟩)
    · exact .inl ⟨e, he, h1, h2⟩
theorem comesB_kind {f l c : Ch} (h : comesB f l = some c) : (c.kind = 1 ↔ f.kind = 1) ∧ (c.kind = 3 ↔ l.kind = 3 ∧ f.kind ≠ 1) ∧ (f.kind = 1 → l.kind ≠ 3) ∧ ∃ k, c = { l with kind := k } := by
  unfold comesB at h
  split at h
  · rename_i h1
    split at h
    · cases h
    · rename_i h2
      cases h
      refine ⟨by simp [h1], ?_, fun _ => h2, 1, rfl⟩
      simp only [show ¬ (1 : Int) = 3 by omega, false_iff]
      exact fun q => q.2 h1
  · rename_i h1
    split at h
    · rename_i h2
      cases h
      refine ⟨?_, by simp [h1, h2], fun q => absurd q h1, l.kind, rfl⟩
      rw [h2]
      exact ⟨fun q => by omega, fun q => absurd q h1⟩
    · rename_i h2
      cases h
      refine ⟨?_, ?_, fun q => absurd q h1, 2, rfl⟩
      · simp only [show ¬ (2 : Int) = 1 by omega, false_iff]; exact h1
      · simp only [show ¬ (2 : Int) = 3 by omega, false_iff]; exact fun q => h2 q.1
theorem run_end (ok : MdlOk M) {s0 sN : Cat × List (List Row)} {R : List En} (h : RunRel M s0 R sN) : applyL M s0 (endE R) = some sN := by
  have hg := good_end ok.plain (run_ve h)
  refine apply_to ok (endE R) s0 sN h.wf0 h.wfN h.cat h.len ?_ ?_ ?_ ?_ h.hid
  · exact hg.pw.imp fun {a b} hab e => by rw [sm_iff.2 e] at hab; cases hab
  · unfold endE
    have hk : ∀ kd, ∀ c ∈ endK kd R, c.kind = kd := by
      intro kd c hc
      unfold endK at hc
      obtain ⟨e, _, hq⟩ := List.mem_filterMap.1 hc
      have := (Option.filter_eq_some_iff.1 hq).2
      simpa using this
    have triv : ∀ kd, kd ≠ 1 → (endK kd R).Pairwise fun a b => a.kind = 1 → b.kind = 1 := by
      intro kd hkd
      refine List.Pairwise.imp_of_mem (R := fun _ _ => True) ?_ (List.pairwise_of_forall (fun _ _ => trivial))
      intro a b ha _ _ q
      exact absurd ((hk kd a ha).symm.trans q) hkd
    rw [List.pairwise_append, List.pairwise_append]
    refine ⟨triv 3 (by decide), ⟨triv 2 (by decide), ?_, ?_⟩, ?_⟩
    · refine List.Pairwise.imp_of_mem (R := fun _ _ => True) ?_ (List.pairwise_of_forall (fun _ _ => trivial))
      intro a b _ hb _ _
      exact hk 1 b hb
    · intro a ha b _ q
      have := hk 2 a ha
      omega
    · intro a ha b _ q
      have := hk 3 a ha
      omega
  · intro c hc
    obtain ⟨e, he, hcm, _⟩ := mem_end.1 hc
    obtain ⟨e1, e2, e3, e4, e5, e6, e7, e8⟩ := h.at_ e he
    obtain ⟨q1, q2, q3, k, q4⟩ := comesB_kind hcm
    obtain ⟨p1, p2⟩ := hg.pl c hc
    have hkey : c.key = e.1 := (comesB_key hcm).trans e1.symm
    have hval : M.val sN.1 c = M.val sN.1 e.2.2 := by rw [q4]; exact ok.kind _ _ _
    have ht : c.table = e.2.2.table := by rw [q4]
    refine ⟨p1, p2, ?_, ?_, by rw [ht]; exact e8, ?_⟩
    · rw [q1, hkey]; exact e5
    · intro hk3
      rw [hval]
      refine e7 fun hl3 => ?_
      by_cases hf1 : e.2.1.kind = 1
      · exact q3 hf1 hl3
      · exact hk3 (q2.2 ⟨hl3, hf1⟩)
    · rw [hkey, e6]
      unfold valC
      rw [hval]
      by_cases hl3 : e.2.2.kind = 3
      · have hf1 : e.2.1.kind ≠ 1 := fun hf1 => q3 hf1 hl3
        rw [if_pos hl3, if_pos (q2.2 ⟨hl3, hf1⟩)]
      · rw [if_neg hl3, if_neg (fun q => hl3 (q2.1 q).1)]
  · intro q hq
    by_cases hex : ∃ e ∈ R, e.1 = q
    · obtain ⟨e, he, rfl⟩ := hex
      obtain ⟨e1, e2, e3, e4, e5, e6, e7, e8⟩ := h.at_ e he
      cases hcm : comesB e.2.1 e.2.2 with
      | none =>
        have hf : e.2.1.kind = 1 ∧ e.2.2.kind = 3 := by
          unfold comesB at hcm
          split at hcm
          · rename_i h1
            split at hcm
            · rename_i h2; exact ⟨h1, h2⟩
            · cases hcm
          · split at hcm <;> cases hcm
        rw [e5.1 hf.1, e6]
        unfold valC
        rw [if_pos hf.2]
      | some c =>
        exfalso
        have hpl := comesB_plain ok.plain hcm e4 e3
        have : c ∈ endE R := mem_end.2 ⟨e, he, hcm, hpl.2⟩
        exact hq c this ((comesB_key hcm).trans e1.symm)
    · exact h.out q fun e he eq => hex ⟨e, he, eq⟩
theorem end_len (R : List En) : (endE R).length ≤ R.length := by
  have h : ∀ (L : List Ch), ((L.filter fun c => c.kind == 3).length + ((L.filter fun c => c.kind == 2).length + (L.filter fun c => c.kind == 1).length)) ≤ L.length := by
    intro L
    induction L with
    | nil => simp
    | cons c L ih =>
      simp only [List.filter_cons, List.length_cons]
      by_cases h3 : c.kind = 3
      · simp [h3]; omega
      · by_cases h2 : c.kind = 2
        · simp [h2]; omega
        · by_cases h1 : c.kind = 1
          · simp [h1]; omega
          · simp [h1, h2, h3]; omega
  unfold endE
  simp only [endK_all, List.length_append]
  have h2 : (allE R).length ≤ R.length := List.length_filterMap_le ..
  have := h (allE R)
  omega
theorem net_law (ok : MdlOk M) : ∀ (l out : List Ch) (R : List En) (s0 sN w : Cat × List (List Row)), RunRel M s0 R sN → applyL M sN l = some w → ∃ m', ofP M.plain l out R = (out ++ m', 0) ∧ applyL M s0 m' = some w ∧ m'.length ≤ R.length + l.length
  | [], out, R, s0, sN, w, h, hl => by
    simp only [applyL, Option.some.injEq] at hl
    subst hl
    refine ⟨endE R, rfl, run_end ok h, by simpa using end_len R⟩
  | c :: l, out, R, s0, sN, w, h, hl => by
    simp only [applyL] at hl
    cases hr : redo M sN c with
    | none => rw [hr] at hl; cases hl
    | some s1 =>
      rw [hr] at hl
      simp only at hl
      have hr0 := hr
      unfold redo at hr
      cases hp : M.plain c with
      | false => rw [hp] at hr; simp at hr
      | true =>
        rw [hp] at hr
        simp only [Bool.true_eq_false, if_false] at hr
        simp only [ofP, hp, Bool.true_eq_false, if_false]
        by_cases h4 : c.kind = 4
        · rw [if_pos h4] at hr ⊢
          have hw1 := ok.ddl _ _ _ h.wfN hp h4 hr
          obtain ⟨m', g1, g2, g3⟩ := net_law ok l ((out ++ endE R) ++ [c]) [] s1 s1 w (run_start hw1) hl
          refine ⟨endE R ++ c :: m', by rw [g1]; simp, ?_, ?_⟩
          · rw [apply_append, run_end ok h]
            simp only [applyL, hr0]
            exact g2
          · have := end_len R
            simp only [List.length_append, List.length_cons, List.length_nil] at g3 ⊢
            omega
        · rw [if_neg h4] at hr ⊢
          have h3 : K3 c := (ok.plain.k c hp).resolve_right h4
          obtain ⟨g1, g2⟩ := run_step ok h hp h3 hr
          rw [if_neg (by rw [g1]; simp)]
          obtain ⟨m', k1, k2, k3⟩ := net_law ok l out _ s0 s1 w g2 hl
          refine ⟨m', k1, k2, ?_⟩
          have hle : (addE R c).2.length ≤ R.length + 1 := by
            unfold addE
            split
            · simp
            · split
              · simp
              · split
                · simp
                · have := congrArg List.length (setE_keys c.key c R)
                  simp only [List.length_map] at this
                  show (setE c.key c R).length ≤ R.length + 1
                  omega
          simp only [List.length_cons]
          omega
end
end Hx
