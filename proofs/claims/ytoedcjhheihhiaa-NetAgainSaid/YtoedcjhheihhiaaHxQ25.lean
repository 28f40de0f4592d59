/-
  HxQ25: the laws NetOf and NetAgain on the evaluator.
-/
import Derived.Test.YtoedcjhheihhiaaHxU25o
import Derived.Test.YtoedcjhheihhiaaHxU25l
namespace Hx
open Go
set_option linter.unusedSimpArgs false
set_option linter.unusedVariables false
set_option maxHeartbeats 64000000
set_option maxRecDepth 20000
variable {E : Env}
attribute [-simp] List.getD_eq_getElem?_getD getElem?_pos
def celSh : List Sh := [.str, .int .i64, .int .i64, .int .i64, .int .i64, .str]
def colSh : List Sh := [.int .i64, .str, .int .i64, .int .i64, .bool, .int .i64, .int .i64, .str]
def chSh : List Sh := [.int .i64, .int .i64, .str, .int .i64, .int .i64, .str, .slice 6 celSh, .int .i64, .str, .str, .str, .str, .int .i64, .int .i64, .bool, .int .i64, .int .i64, .str, .slice 8 colSh]
theorem conf_cel {r : List PV} (h : Confs celSh r) : ∃ c : Cel, r = celP c := by
  unfold celSh at h
  simp only [Confs, Conf] at h
  obtain ⟨_, _, rfl, ⟨a, rfl, _⟩, _, _, rfl, ⟨b, rfl, _⟩, _, _, rfl, ⟨c, rfl, _⟩, _, _, rfl, ⟨d, rfl, _⟩, _, _, rfl, ⟨e, rfl, _⟩, _, _, rfl, ⟨f, rfl, _⟩, rfl⟩ := h
  exact ⟨⟨a, b, c, d, e, f⟩, rfl⟩
theorem conf_cels : ∀ {rows : List (List PV)}, (∀ r ∈ rows, Confs celSh r) → ∃ l : List Cel, rows = l.map celP
  | [], _ => ⟨[], rfl⟩
  | r :: rows, h => by
    obtain ⟨c, h1⟩ := conf_cel (h r (by simp))
    obtain ⟨l, h3⟩ := conf_cels (rows := rows) (fun x hx => h x (by simp [hx]))
    exact ⟨c :: l, by rw [h1, h3]; rfl⟩
theorem conf_col {r : List PV} (h : Confs colSh r) : ∃ c : Int × Col, r = colQ c := by
  unfold colSh at h
  simp only [Confs, Conf] at h
  obtain ⟨_, _, rfl, ⟨a, rfl, _⟩, _, _, rfl, ⟨b, rfl, _⟩, _, _, rfl, ⟨c, rfl, _⟩, _, _, rfl, ⟨d, rfl, _⟩, _, _, rfl, ⟨e, rfl⟩, _, _, rfl, ⟨f, rfl, _⟩, _, _, rfl, ⟨g, rfl, _⟩, _, _, rfl, ⟨i, rfl, _⟩, rfl⟩ := h
  exact ⟨(a, ⟨b, c, d, e, f, g, i⟩), rfl⟩
theorem conf_cols : ∀ {rows : List (List PV)}, (∀ r ∈ rows, Confs colSh r) → ∃ l : List (Int × Col), rows = l.map colQ
  | [], _ => ⟨[], rfl⟩
  | r :: rows, h => by
    obtain ⟨c, h1⟩ := conf_col (h r (by simp))
    obtain ⟨l, h3⟩ := conf_cols (rows := rows) (fun x hx => h x (by simp [hx]))
    exact ⟨c :: l, by rw [h1, h3]; rfl⟩
theorem conf_celQ {v : PV} (h : Conf (.slice 6 celSh) v) : ∃ l, CelQ v l := by
  rw [Conf] at h
  rcases h with rfl | ⟨rows, rfl, _, hr⟩
  · exact ⟨[], .inl ⟨rfl, rfl⟩⟩
  · obtain ⟨l, rfl⟩ := conf_cels hr
    exact ⟨l, .inr rfl⟩
theorem conf_slQ {v : PV} (h : Conf (.slice 8 colSh) v) : ∃ l, SlQ v l := by
  rw [Conf] at h
  rcases h with rfl | ⟨rows, rfl, _, hr⟩
  · exact ⟨[], .inl ⟨rfl, rfl⟩⟩
  · obtain ⟨l, rfl⟩ := conf_cols hr
    exact ⟨l, .inr rfl⟩
theorem conf_ch {r : List PV} (h : Confs chSh r) : ∃ c : Ch, r = chV c ∧ ChOk c := by
  unfold chSh at h
  simp only [Confs] at h
  obtain ⟨x1, _, rfl, h1, x2, _, rfl, h2, x3, _, rfl, h3, x4, _, rfl, h4, x5, _, rfl, h5, x6, _, rfl, h6, x7, _, rfl, h7, x8, _, rfl, h8, x9, _, rfl, h9, x10, _, rfl, h10, x11, _, rfl, h11, x12, _, rfl, h12, x13, _, rfl, h13, x14, _, rfl, h14, x15, _, rfl, h15, x16, _, rfl, h16, x17, _, rfl, h17, x18, _, rfl, h18, x19, _, rfl, h19, rfl⟩ := h
  have k7 := conf_celQ h7
  have k19 := conf_slQ h19
  clear h7 h19
  simp only [Conf] at *
  obtain ⟨a1, rfl, _⟩ := h1
  obtain ⟨a2, rfl, _⟩ := h2
  obtain ⟨a3, rfl, _⟩ := h3
  obtain ⟨a4, rfl, _⟩ := h4
  obtain ⟨a5, rfl, _⟩ := h5
  obtain ⟨a6, rfl, _⟩ := h6
  obtain ⟨a8, rfl, _⟩ := h8
  obtain ⟨a9, rfl, _⟩ := h9
  obtain ⟨a10, rfl, _⟩ := h10
  obtain ⟨a11, rfl, _⟩ := h11
  obtain ⟨a12, rfl, _⟩ := h12
  obtain ⟨a13, rfl, _⟩ := h13
  obtain ⟨a14, rfl, _⟩ := h14
  obtain ⟨a15, rfl⟩ := h15
  obtain ⟨a16, rfl, _⟩ := h16
  obtain ⟨a17, rfl, _⟩ := h17
  obtain ⟨a18, rfl, _⟩ := h18
  exact ⟨⟨a1, a2, a3, a4, a5, a6, x7, ⟨a8, a9, a10, a11, a12, a13, a14, a15, a16, a17, a18, []⟩, x19⟩, rfl, ⟨k7, k19⟩⟩
theorem conf_chs : ∀ {rows : List (List PV)}, (∀ r ∈ rows, Confs chSh r) → ∃ l : List Ch, rows = l.map chV ∧ ∀ c ∈ l, ChOk c
  | [], _ => ⟨[], rfl, by simp⟩
  | r :: rows, h => by
    obtain ⟨c, h1, h2⟩ := conf_ch (h r (by simp))
    obtain ⟨l, h3, h4⟩ := conf_chs (rows := rows) (fun x hx => h x (by simp [hx]))
    refine ⟨c :: l, by rw [h1, h3]; rfl, ?_⟩
    intro x hx
    rcases List.mem_cons.1 hx with rfl | hx
    · exact h2
    · exact h4 x hx
theorem conf_L {v : PV} (h : Conf (.slice 19 chSh) v) : ∃ l : List Ch, LQ v l ∧ ∀ c ∈ l, ChOk c := by
  rw [Conf] at h
  rcases h with rfl | ⟨rows, rfl, _, hr⟩
  · exact ⟨[], .inl ⟨rfl, rfl⟩, by simp⟩
  · obtain ⟨l, rfl, h2⟩ := conf_chs hr
    exact ⟨l, .inr rfl, h2⟩

theorem comesB_P {P : Ch → Prop} (hP : ∀ c k, P c → P { c with kind := k }) {f l c : Ch} (h : comesB f l = some c) (hl : P l) : P c := by
  unfold comesB at h
  split at h
  · split at h
    · cases h
    · cases h; exact hP _ _ hl
  · split at h
    · cases h; exact hl
    · cases h; exact hP _ _ hl
theorem endE_P {P : Ch → Prop} (hP : ∀ c k, P c → P { c with kind := k }) {R : List En} (h : ∀ e ∈ R, P e.2.2) : ∀ c ∈ endE R, P c := by
  have key : ∀ kd, ∀ c ∈ endK kd R, P c := by
    intro kd c hc
    unfold endK at hc
    obtain ⟨e, he, hq⟩ := List.mem_filterMap.1 hc
    obtain ⟨hq, _⟩ := Option.filter_eq_some_iff.1 hq
    exact comesB_P hP hq (h e he)
  intro c hc
  unfold endE at hc
  rcases List.mem_append.1 hc with hc | hc
  · exact key 3 c hc
  · rcases List.mem_append.1 hc with hc | hc
    · exact key 2 c hc
    · exact key 1 c hc
theorem addE_P {P : Ch → Prop} {R : List En} (h : ∀ e ∈ R, P e.2.2) {c : Ch} (hc : P c) : (∀ e ∈ (addE R c).2, P e.2.2) ∧ (addE R c).2.length ≤ R.length + 1 := by
  unfold addE
  split
  · refine ⟨?_, by simp⟩
    intro e he
    rcases List.mem_append.1 he with he | he
    · exact h e he
    · rw [List.mem_singleton.1 he]; exact hc
  · split
    · exact ⟨h, by simp⟩
    · split
      · exact ⟨h, by simp⟩
      · refine ⟨?_, by simp [setE_len]⟩
        intro e he
        rcases setE_mem he with he | ⟨x, hx, rfl⟩
        · exact h e he
        · exact hc
theorem ofP_P {P : Ch → Prop} (hP : ∀ c k, P c → P { c with kind := k }) {pl : Ch → Bool} : ∀ (l out : List Ch) (R : List En), (∀ c ∈ l, P c) → (∀ c ∈ out, P c) → (∀ e ∈ R, P e.2.2) → (∀ c ∈ (ofP pl l out R).1, P c) ∧ (ofP pl l out R).1.length ≤ out.length + 3 * R.length + 4 * l.length
  | [], out, R, _, ho, hr => by
    have := endE_len R
    refine ⟨?_, by simp only [ofP, List.length_append, List.length_nil]; omega⟩
    intro c hc
    simp only [ofP] at hc
    rcases List.mem_append.1 hc with hc | hc
    · exact ho c hc
    · exact endE_P hP hr c hc
  | c :: l, out, R, hl, ho, hr => by
    have hel := endE_len R
    have hl' : ∀ x ∈ l, P x := fun x hx => hl x (by simp [hx])
    have hcP : P c := hl c (by simp)
    simp only [ofP]
    split
    · exact ⟨by simp, by simp⟩
    · split
      · obtain ⟨h1, h2⟩ := ofP_P hP (pl := pl) l ((out ++ endE R) ++ [c]) [] hl' (by
          intro x hx
          rcases List.mem_append.1 hx with hx | hx
          · rcases List.mem_append.1 hx with hx | hx
            · exact ho x hx
            · exact endE_P hP hr x hx
          · obtain rfl : x = c := by simpa using hx
            exact hcP) (by simp)
        refine ⟨h1, ?_⟩
        simp only [List.length_append, List.length_cons, List.length_nil] at h2 ⊢
        omega
      · split
        · exact ⟨by simp, by simp⟩
        · obtain ⟨k1, k2⟩ := addE_P hr hcP
          obtain ⟨h1, h2⟩ := ofP_P hP (pl := pl) l out _ hl' ho k1
          refine ⟨h1, ?_⟩
          simp only [List.length_cons]
          omega
theorem ofP_err {pl : Ch → Bool} : ∀ (l out : List Ch) (R : List En), (ofP pl l out R).2 ≠ 0 → (ofP pl l out R).1 = []
  | [], _, _, h => absurd rfl h
  | c :: l, out, R, h => by
    simp only [ofP] at h ⊢
    split at h
    · rename_i h1; rw [if_pos h1]
    · rename_i h1
      rw [if_neg h1]
      split at h
      · rename_i h2
        rw [if_pos h2]
        exact ofP_err l _ _ h
      · rename_i h2
        rw [if_neg h2]
        split at h
        · rename_i h3; rw [if_pos h3]
        · rename_i h3
          rw [if_neg h3]
          exact ofP_err l _ _ h
theorem plain_ok : PlainOk plainB where
  k := fun c h => by
    by_cases h4 : c.kind = 4
    · exact .inr h4
    · exact .inl (plainB_K h h4)
  to1 := fun c h hk => by
    unfold plainB at h ⊢
    simp only [if_pos hk] at h
    simpa [zeroD] using h
  to2 := fun c h hk => by
    unfold plainB at h ⊢
    simp only [if_pos hk] at h
    simpa [zeroD] using h

structure T25 (E : Env) : Prop where
  n : N25 E
  s : S25 E
  c : C25 E
  r : R25 E
  a : A25 E
  w : W25 E
  of : E.fn 127 = some Fn.f_net_Of
  rof : E.fn 131 = some Fn.f_haulageref25_Of
  plain : E.fn 164 = some Fn.f_haulageref15_PlainChange
  count : E.fn 132 = some Fn.f_net_Count
  rows : E.fn 134 = some Fn.f_net_Rows
  rrows : E.fn 135 = some Fn.f_haulageref25_Rows
  many : E.fn 136 = some Fn.f_haulageref25_Many
def TriedC (c : Ch) : Prop := ChOk c ∧ SmallC c
theorem tried_kind (c : Ch) (k : Int) (h : TriedC c) : TriedC { c with kind := k } := ⟨⟨h.1.cs, h.1.sl⟩, h.2⟩
theorem law_NetAgain (t : T25 E) (h : E.fn 280 = some Fn.f_haulagelaw25_NetAgain) (k : Nat) (hlv : ∀ m, denF E (k + 7999) 122 [] m = some (.ret (.p (.bool true)), m)) {x0 : PV} (c0 : Conf (.slice 19 chSh) x0) (m : Mem) :
    denF E (k + 8000) 280 [.p x0] m = some (.ret (.p (.bool true)), m) := by
  obtain ⟨l, hl, hok⟩ := conf_L c0
  refine denF_wp h rfl (args' := [.p x0]) rfl ?_
  obtain ⟨b, hb1, hF⟩ := law_few25 t.w hl hok (k + 7998) (by omega)
  cases b with
  | false => simp (maxSteps := 8000000) [Fn.f_haulagelaw25_NetAgain, hlv, hF]
  | true =>
    obtain ⟨hlen, hsm⟩ := hb1 rfl
    have htr : ∀ c ∈ l, TriedC c := fun c hc => ⟨hok c hc, hsm c hc⟩
    obtain ⟨o1, ho1, hO⟩ := net_Of t.n t.s t.c t.of hl (fun c hc => ⟨hok c hc, by have := (hsm c hc).1; omega, by have := (hsm c hc).2; omega⟩) (by omega) (k + 7998) (by omega)
    obtain ⟨hP, hL⟩ := ofP_P tried_kind (pl := plainB) l [] [] htr (by simp) (by simp)
    simp only [List.length_nil, Nat.mul_zero, Nat.zero_add] at hL
    have herr := ofP_err (pl := plainB) l [] []
    have hag := fun (q : List Ch) => again plain_ok (l := l) (m := q)
    generalize hr : ofP plainB l [] [] = r at *
    obtain ⟨q, e⟩ := r
    simp only at ho1 hO hP hL herr
    cases he : (e == 0) with
    | false =>
      have he' : ¬ e = 0 := by simpa using he
      have hq : q = [] := herr he'
      subst hq
      rcases ho1 with ⟨_, rfl⟩ | rfl
      · simp (maxSteps := 8000000) [Fn.f_haulagelaw25_NetAgain, hlv, hF, hO, he, he', bne]
      · simp (maxSteps := 8000000) [Fn.f_haulagelaw25_NetAgain, hlv, hF, hO, he, he', bne]
    | true =>
      have he' : e = 0 := by simpa using he
      subst he'
      obtain ⟨g1, g2⟩ := hag q rfl
      obtain ⟨o2, ho2, hO2⟩ := net_Of t.n t.s t.c t.of ho1 (fun c hc => ⟨(hP c hc).1, by have := (hP c hc).2.1; omega, by have := (hP c hc).2.2; omega⟩) (by omega) (k + 7998) (by omega)
      rw [g1] at ho2 hO2
      simp only at ho2 hO2
      have hqf : ∀ c ∈ q, ChF c := fun c hc => (hP c hc).1.f
      have hS := fun m => ref_SameL t.a ho2 ho1 (fun c hc => ⟨(hP c hc).1, by have := (hP c hc).2.1; omega, by have := (hP c hc).2.2; omega⟩) (by omega) (k + 7998) (by omega) m
      have hC := fun m => net_Count t.count ho1 hqf (by omega) (k + 7998) (by omega) m
      have hR1 := fun m => net_Rows t.n t.rows ho1 hqf (by omega) (k + 7998) (by omega) m
      rw [g2] at hR1
      have hm4 := many_le 4 q
      have hw : IntKind.i64.wrap ((q.length : Int) - (many 4 q : Nat)) = (q.length : Int) - (many 4 q : Nat) := wrap_i64 (by omega) (by omega)
      rcases ho1 with ⟨rfl, rfl⟩ | rfl
      · simp at hR1 hw
        simp (maxSteps := 8000000) [Fn.f_haulagelaw25_NetAgain, hlv, hF, hO, hO2, hS, hC, hR1, hw, bne]
      · simp (maxSteps := 8000000) [Fn.f_haulagelaw25_NetAgain, hlv, hF, hO, hO2, hS, hC, hR1, hw, bne]
end Hx
