/-
  HxU10q: the number of a word of a change (the document's).
-/
import Derived.Test.YtifcegbomagcpaaDoorHxU10e
import Derived.Test.YtifcegbomagcpaaDoorHxU10t
import Derived.Test.YtifcegbomagcpaaDoorHxU10n
import Derived.Test.YtifcegbomagcpaaDoorHxM10v
namespace Hx
open Go
set_option linter.unusedSimpArgs false
set_option linter.unusedVariables false
set_option maxHeartbeats 32000000
set_option maxRecDepth 20000
variable {E : Env}
attribute [-simp] List.getD_eq_getElem?_getD getElem?_pos
theorem at_place {s : List UInt8} {b : UInt8} {q : List UInt8} (h : b :: q <:+ s) : s[placeOf10 s (b :: q)]? = some b := by
  have := drop_suf h
  have h2 : (s.drop (placeOf10 s (b :: q)))[0]? = some b := by rw [this]; rfl
  rw [List.getElem?_drop] at h2
  exact h2
def PcI (s : List UInt8) (id : Nat) (m : Mem) (P : PR (List Col)) (a : List Col × List UInt8) (st : St) : Prop :=
  ∃ (ov : AV) (x : Mem), a.1.length ≤ 10 ∧ a.2 <:+ s ∧ pColsF (10 - a.1.length) a.1 a.2 = P ∧ GrX 8 (a.1.map colP) ov m.length x ∧ Live Fn.f_haulageref10_P_columns_k0 (Fn.f_haulageref10_P_columns_s0 (.ptr id 0) ov) (m.set id (pB s a.2 0) ++ x) st
theorem PcI.mk {s : List UInt8} {id : Nat} {m : Mem} {P : PR (List Col)} {st : St} (l : List Col) (r : List UInt8) (ov : AV) (x : Mem) (h1 : l.length ≤ 10) (h2 : r <:+ s) (h3 : pColsF (10 - l.length) l r = P) (h4 : GrX 8 (l.map colP) ov m.length x) (h5 : Live Fn.f_haulageref10_P_columns_k0 (Fn.f_haulageref10_P_columns_s0 (.ptr id 0) ov) (m.set id (pB s r 0) ++ x) st) : PcI s id m P (l, r) st := ⟨ov, x, h1, h2, h3, h4, h5⟩
def PcQ (s : List UInt8) (id : Nat) (m : Mem) (P : PR (List Col)) (e : Ex) (st : St) : Prop :=
  st.ds = [] ∧ ((∃ er q x, e = .ret ∧ st.ts.getD 2 (.tup []) = .p .nils ∧ er ≠ 0 ∧ P = .bad er q ∧ st.m = m.set id (pB s q er) ++ x) ∨
    (∃ (l : List Col) (r1 : List UInt8) (er : Int) (x : Mem), e = .exit 0 ∧ st.ts.length = 59 ∧ st.ts.getD 0 (.tup []) = .ptr id 0 ∧ GrX 8 (l.map colP) (st.ts.getD 3 (.tup [])) m.length x ∧ r1 <:+ s ∧ st.m = m.set id (pB s r1 er) ++ x ∧ ((er ≠ 0 ∧ P = .bad er r1) ∨ (er = 0 ∧ l ≠ [] ∧ P = (pWantS 41 r1).bind fun _ r => .ok l r))))
theorem Pc_loop (w : D10 E) {s r0 : List UInt8} {P : PR (List Col)} (hs : (s.length : Int) ≤ 1000000000) (k : Nat) (hk : s.length + 330 ≤ k) (id : Nat) (m : Mem) (hid : id < m.length) (st : St) (h0 : PcI s id m P ([], r0) st) :
    Wp (iter (loopF E (denF E k) k Fn.f_haulageref10_P_columns_k0 Fn.f_haulageref10_P_columns_b0) k st) (PcQ s id m P) := by
  have u := w.u
  have bl : BlanksOk E := blanks_ok u
  obtain ⟨j, rfl⟩ : ∃ j, k = j + 1 := ⟨k - 1, by omega⟩
  refine loop_wp (α := List Col × List UInt8) (I := PcI s id m P) (meas := fun a => 11 - a.1.length) ?_ (j + 1) ([], r0) st h0 (by simp; omega)
  rintro ⟨l, r⟩ st ⟨ov, x, hl, hr, hF, hG, hlive⟩
  simp only at hl hr hF hG hlive
  rw [loopF_live hlive]
  have hq : ∀ x : Blk, (m.set id x).length = m.length := fun x => List.length_set
  have hap2 : ∀ (l : List Blk) (x y : Blk), (m.set id x ++ l).set id y = m.set id y ++ l := fun l x y => by rw [List.set_append_left _ _ (by rw [List.length_set]; exact hid), List.set_set]
  have hap3 : ∀ (l : List Blk) (x : Blk), (m.set id x ++ l)[id]? = some x := fun l x => by rw [List.getElem?_append_left (by rw [List.length_set]; exact hid)]; exact List.getElem?_set_self hid
  have hidl : ∀ n, id < m.length + n := fun n => by omega
  have hB := bl hs hr j (by omega) id _ (hap3 x _)
  rw [hap2] at hB
  by_cases h10 : l.length = 10
  · rw [h10] at hF
    have hbad : P = .bad 3 (skipB r) := by rw [← hF]; rfl
    have hb := P_bad0 u (s := s) (r := skipB r) 3 j id _ (hap3 x _)
    rw [hap2] at hb
    rcases hG with ⟨h1, rfl⟩ | ⟨h1, t, rfl, h2⟩
    · have : l = [] := by simpa using h1
      subst this
      simp at h10
    · unfold pB at *
      simp (maxSteps := 4000000) [Fn.f_haulageref10_P_columns_b0, Fn.f_haulageref10_P_columns_s0, hap3, hB, h10, hb]
      exact ⟨rfl, .inl ⟨3, skipB r, x, rfl, rfl, by decide, hbad, rfl⟩⟩
  · have hne : ((l.length : Int) == 10) = false := by simpa using (by omega : ¬ ((l.length : Int) = 10))
    obtain ⟨d, hd⟩ : ∃ d, 10 - l.length = d + 1 := ⟨10 - l.length - 1, by omega⟩
    rw [hd] at hF
    rw [pColsF_succ] at hF
    have hr1 := suf_skip hr
    obtain ⟨y, c, hC, hCv⟩ := P_columnT w hs hr1 (e := 0) j (by omega) id (m.set id (pB s (skipB r) 0) ++ x) (hap3 _ _)
    rw [hap2] at hC
    have hroom : l.length + 1 ≤ room := by unfold room; omega
    have hroom2 : (l.length + 1) * 80 ≤ room := by unfold room; omega
    have hset : ∀ (t : Nat) (X : Mem) (b c : Blk), (m.set id b ++ X).set (m.length + t) c = m.set id b ++ X.set t c := fun t X b c => by
      rw [List.set_append_right _ _ (by rw [List.length_set]; omega), List.length_set, Nat.add_sub_cancel_left]
    have hgetT : ∀ (t : Nat) (X : Mem) (b : Blk), (m.set id b ++ X)[m.length + t]? = X[t]? := fun t X b => by
      rw [List.getElem?_append_right (by rw [List.length_set]; omega), List.length_set, Nat.add_sub_cancel_left]
    have hx2 : ∀ t, x[t]? = some (Blk.tok 8 l.length) → ∀ X : Mem, (x ++ X)[t]? = some (Blk.tok 8 l.length) := fun t h X => get_app h X
    have e2 : m.length + (x.length + (y.length + 1)) = m.length + ((x ++ y).length + 1) := by simp [Nat.add_assoc]
    rcases step_cases (pCol_sane (skipB r)) s (skipB r) 0 with ⟨he, _⟩ | ⟨er, q, _, hc, he, h1⟩ | ⟨v, r2, _, hc, h1⟩
    · exact absurd rfl he
    · rw [hc] at hF
      simp only [PR.bind] at hF
      rw [h1] at hC
      have hrq := pCol_rest hr1
      rw [hc] at hrq
      simp only [PR.rest] at hrq
      have hb : (er == 0) = false := by simpa using he
      have hB1 := fun X : Mem => P_blanks1 u he j (by omega) id (m.set id (pB s q er) ++ X) (hap3 X _)
      rcases hG with ⟨h1, rfl⟩ | ⟨h1, t, rfl, h2⟩
      · have : l = [] := by simpa using h1
        subst this
        have hnew := GrX.first (colP c) m.length (x ++ y)
        unfold colOut at hC
        unfold colP at hC hnew
        unfold pB at *
        simp (maxSteps := 4000000) [Fn.f_haulageref10_P_columns_b0, Fn.f_haulageref10_P_columns_s0, hap3, hB, hC, hB1, hb, hidl, room, bne]
        refine ⟨rfl, .inr ⟨[c], q, er, x ++ y ++ [Blk.tok 8 1, Blk.tok 8 1], rfl, rfl, rfl, ?_, hrq, by simp [pB], .inl ⟨he, hF.symm⟩⟩⟩
        simp only [getD_zero', getD_succ', e2]
        exact hnew
      · simp only [List.length_map] at h2
        have hx := hx2 t h2
        have hnew := GrX.more (rows := l.map colP) (colP c) m.length (X := x ++ (y ++ [Blk.tok 8 1])) (hx _)
        rw [List.length_map, show l.map colP ++ [colP c] = (l ++ [c]).map colP by simp] at hnew
        unfold colOut colP at hC
        unfold pB at *
        simp (maxSteps := 4000000) [Fn.f_haulageref10_P_columns_b0, Fn.f_haulageref10_P_columns_s0, hap3, hB, hne, hC, hB1, hb, hgetT, hset, hx, hroom, hroom2, hidl, bne]
        refine ⟨rfl, .inr ⟨l ++ [c], q, er, (x ++ (y ++ [Blk.tok 8 1])).set t (.tok 8 (l.length + 1)), rfl, rfl, rfl, ?_, hrq, by simp [pB], .inl ⟨he, hF.symm⟩⟩⟩
        simp only [getD_zero', getD_succ']
        rw [show [PV.int .i64 0, .str c.name, .int .i64 c.kind, .int .i64 c.max, .bool c.null, .int .i64 c.dk, .int .i64 c.dn, .str c.ds] = colP c from rfl, show l.map colP ++ [colP c] = (l ++ [c]).map colP by simp]
        exact hnew
    have hcv := hCv v r2 rfl hc
    subst hcv
    rw [hc] at hF
    simp only [PR.bind] at hF
    rw [h1] at hC
    have hr2 := pCol_rest hr1
    rw [hc] at hr2
    simp only [PR.rest] at hr2
    have hr3 := suf_skip hr2
    have hlen3 := suf_len hr3
    have hB1 := fun X : Mem => bl hs hr2 j (by omega) id (m.set id (pB s r2 0) ++ X) (hap3 X _)
    simp only [hap2] at hB1
    by_cases h44 : (skipB r2).head? = some 44
    · have hsg : pSign 44 r2 = (true, (skipB r2).tail) := by unfold pSign; rw [if_pos h44]
      rw [hsg] at hF
      simp only [if_true] at hF
      obtain ⟨q, hq2⟩ : ∃ q, skipB r2 = 44 :: q := by
        cases h : skipB r2 with
        | nil => rw [h] at h44; cases h44
        | cons b q => rw [h] at h44; simp at h44; subst h44; exact ⟨q, rfl⟩
      have hW := fun X : Mem => P_wantS u w.want bl hs hr3 44 (.inr (.inr rfl)) j (by omega) id (m.set id (pB s (skipB r2) 0) ++ X) (hap3 X _)
      unfold pWantS at hW
      rw [skipB_skip, if_pos h44] at hW
      simp only [hap2, PR.rest, PR.err] at hW
      have hat := at_place (hq2 ▸ hr3)
      rw [← hq2] at hat
      have hlt : placeOf10 s (skipB r2) < s.length := by
        have : 0 < (skipB r2).length := by rw [hq2]; simp
        unfold placeOf10; omega
      have hlt' : ¬ (s.length : Int) ≤ (placeOf10 s (skipB r2) : Nat) := by omega
      have hr4 : (skipB r2).tail <:+ s := suf_tail hr3
      rcases hG with ⟨h1, rfl⟩ | ⟨h1, t, rfl, h2⟩
      · have : l = [] := by simpa using h1
        subst this
        have hd9 : d = 9 := by simp at hd; omega
        subst hd9
        have hnew := GrX.first (colP c) m.length (x ++ y)
        unfold colOut at hC
        unfold colP at hC hnew
        unfold pB at *
        generalize placeOf10 s (skipB r2) = i at *
        simp (maxSteps := 4000000) [Fn.f_haulageref10_P_columns_b0, Fn.f_haulageref10_P_columns_s0, hap3, hB, hC, hB1, hW, hat, hlt, hlt', hidl, room, bne]
        refine ⟨[c], by simp, (skipB r2).tail, PcI.mk [c] _ _ (x ++ y ++ [Blk.tok 8 1, Blk.tok 8 1]) (by simp) hr4 hF hnew ⟨rfl, ?_, ?_, rfl⟩⟩
        · simp [keep, Fn.f_haulageref10_P_columns_k0, Fn.f_haulageref10_P_columns_s0, colP, Nat.add_assoc]
        · simp [pB]
      · have hl0 : l ≠ [] := by rintro rfl; simp at h1
        simp only [List.length_map] at h2
        have hx := hx2 t h2
        have hlc : d = 10 - (l ++ [c]).length := by simp; omega
        rw [hlc] at hF
        have hnew := GrX.more (rows := l.map colP) (colP c) m.length (X := x ++ (y ++ [Blk.tok 8 1])) (hx _)
        rw [List.length_map, show l.map colP ++ [colP c] = (l ++ [c]).map colP by simp] at hnew
        unfold colOut colP at hC
        unfold pB at *
        generalize placeOf10 s (skipB r2) = i at *
        simp (maxSteps := 4000000) [Fn.f_haulageref10_P_columns_b0, Fn.f_haulageref10_P_columns_s0, hap3, hB, hne, hC, hB1, hW, hat, hlt, hlt', hgetT, hset, hx, hroom, hroom2, hidl, bne]
        refine ⟨l ++ [c], by simp; omega, (skipB r2).tail, PcI.mk (l ++ [c]) _ _ _ (by simp; omega) hr4 hF hnew ⟨rfl, ?_, ?_, rfl⟩⟩
        · simp [keep, Fn.f_haulageref10_P_columns_k0, Fn.f_haulageref10_P_columns_s0, colP]
        · simp [pB]
    · have hsg : pSign 44 r2 = (false, skipB r2) := by unfold pSign; rw [if_neg h44]
      rw [hsg] at hF
      simp only [Bool.false_eq_true, if_false] at hF
      have hend : (((s.length : Int) ≤ (placeOf10 s (skipB r2) : Nat)) ∨ (¬ (s.length : Int) ≤ (placeOf10 s (skipB r2) : Nat) ∧ ∃ b : UInt8, s[placeOf10 s (skipB r2)]? = some b ∧ ((b.toNat : Int) == 44) = false)) := by
        cases h : skipB r2 with
        | nil => left; unfold placeOf10; simp
        | cons b q =>
          right
          have hat := at_place (h ▸ hr3)
          have : 0 < (skipB r2).length := by rw [h]; simp
          refine ⟨by rw [h] at hlen3; unfold placeOf10; simp only [List.length_cons] at *; omega, b, hat, ?_⟩
          rw [h] at h44
          simp at h44
          have := u8ne h44
          exact this
      rcases hG with ⟨h1, rfl⟩ | ⟨h1, t, rfl, h2⟩
      · have : l = [] := by simpa using h1
        subst this
        have hnew := GrX.first (colP c) m.length (x ++ y)
        unfold colOut at hC
        unfold colP at hC hnew
        have hm' : ∀ X : Mem, m.set id (pB s (skipB r2) 0) ++ X = m.set id (pB s (skipB r2) 0) ++ X := fun _ => rfl
        unfold pB at hap2 hap3 hB hC hB1 ⊢
        obtain ⟨i, hi⟩ : ∃ i, placeOf10 s (skipB r2) = i := ⟨_, rfl⟩
        rcases hend with h | ⟨h, b, h3, h4⟩
        · rw [hi] at h
          have hN : s.length ≤ i := by omega
          simp only [hi] at hB1
          simp (maxSteps := 4000000) [Fn.f_haulageref10_P_columns_b0, Fn.f_haulageref10_P_columns_s0, hap3, hB, hC, hB1, h, hN, hidl, room, bne]
          refine ⟨rfl, .inr ⟨[c], skipB r2, 0, x ++ y ++ [Blk.tok 8 1, Blk.tok 8 1], rfl, rfl, rfl, ?_, hr3, by simp [pB, hi], .inr ⟨rfl, by simp, hF.symm⟩⟩⟩
          simp only [getD_zero', getD_succ', e2]
          exact hnew
        · rw [hi] at h h3
          have hN : ¬ s.length ≤ i := by omega
          have hN2 : i < s.length := by omega
          simp only [hi] at hB1
          simp (maxSteps := 4000000) [Fn.f_haulageref10_P_columns_b0, Fn.f_haulageref10_P_columns_s0, hap3, hB, hC, hB1, h, h3, h4, hN, hN2, hidl, room, bne]
          refine ⟨rfl, .inr ⟨[c], skipB r2, 0, x ++ y ++ [Blk.tok 8 1, Blk.tok 8 1], rfl, rfl, rfl, ?_, hr3, by simp [pB, hi], .inr ⟨rfl, by simp, hF.symm⟩⟩⟩
          simp only [getD_zero', getD_succ', e2]
          exact hnew
      · have hl0 : l ≠ [] := by rintro rfl; simp at h1
        simp only [List.length_map] at h2
        have hx := hx2 t h2
        have hnew := GrX.more (rows := l.map colP) (colP c) m.length (X := x ++ (y ++ [Blk.tok 8 1])) (hx _)
        rw [List.length_map, show l.map colP ++ [colP c] = (l ++ [c]).map colP by simp] at hnew
        unfold colOut colP at hC
        unfold pB at hap2 hap3 hB hC hB1 ⊢
        obtain ⟨i, hi⟩ : ∃ i, placeOf10 s (skipB r2) = i := ⟨_, rfl⟩
        rcases hend with h | ⟨h, b, h3, h4⟩
        · rw [hi] at h
          have hN : s.length ≤ i := by omega
          simp only [hi] at hB1
          simp (maxSteps := 4000000) [Fn.f_haulageref10_P_columns_b0, Fn.f_haulageref10_P_columns_s0, hap3, hB, hne, hC, hB1, h, hN, hgetT, hset, hx, hroom, hroom2, hidl, bne]
          refine ⟨rfl, .inr ⟨l ++ [c], skipB r2, 0, (x ++ (y ++ [Blk.tok 8 1])).set t (.tok 8 (l.length + 1)), rfl, rfl, rfl, ?_, hr3, by simp [pB, hi], .inr ⟨rfl, by simp, hF.symm⟩⟩⟩
          simp only [getD_zero', getD_succ']
          rw [show [PV.int .i64 0, .str c.name, .int .i64 c.kind, .int .i64 c.max, .bool c.null, .int .i64 c.dk, .int .i64 c.dn, .str c.ds] = colP c from rfl, show l.map colP ++ [colP c] = (l ++ [c]).map colP by simp]
          exact hnew
        · rw [hi] at h h3
          have hN : ¬ s.length ≤ i := by omega
          have hN2 : i < s.length := by omega
          simp only [hi] at hB1
          simp (maxSteps := 4000000) [Fn.f_haulageref10_P_columns_b0, Fn.f_haulageref10_P_columns_s0, hap3, hB, hne, hC, hB1, h, h3, h4, hN, hN2, hgetT, hset, hx, hroom, hroom2, hidl, bne]
          refine ⟨rfl, .inr ⟨l ++ [c], skipB r2, 0, (x ++ (y ++ [Blk.tok 8 1])).set t (.tok 8 (l.length + 1)), rfl, rfl, rfl, ?_, hr3, by simp [pB, hi], .inr ⟨rfl, by simp, hF.symm⟩⟩⟩
          simp only [getD_zero', getD_succ']
          rw [show [PV.int .i64 0, .str c.name, .int .i64 c.kind, .int .i64 c.max, .bool c.null, .int .i64 c.dk, .int .i64 c.dn, .str c.ds] = colP c from rfl, show l.map colP ++ [colP c] = (l ++ [c]).map colP by simp]
          exact hnew
def rowsAny (c : AV) : Prop := c = .p .nils ∨ ∃ rows t, rows ≠ [] ∧ c = .tv 8 rows t
theorem P_columnsT (w : D10 E) {s r : List UInt8} {e : Int} (hs : (s.length : Int) ≤ 1000000000) (hr : r <:+ s) (k : Nat) (hk : s.length + 340 ≤ k) (id : Nat) (m : Mem) (hm : m[id]? = some (pB s r e)) :
    ∃ (o : Out) (m1 : Mem), denF E (k + 1) 261 [.ptr id 0] m = some (o, m1) ∧ (∃ c, o = .ret c ∧ rowsAny c ∧ ∀ cs q, e = 0 → pCols r = .ok cs q → cs ≠ [] ∧ ∃ t, c = .tv 8 (cs.map colP) t) ∧ ∃ l, m1 = m.set id (pAt s (pCols r) r e) ++ l := by
  have u := w.u
  have hid := own_id hm
  obtain ⟨j, rfl⟩ : ∃ j, k = j + 1 := ⟨k - 1, by omega⟩
  have hap2 : ∀ (l : List Blk) (x y : Blk), (m.set id x ++ l).set id y = m.set id y ++ l := fun l x y => by rw [List.set_append_left _ _ (by rw [List.length_set]; exact hid), List.set_set]
  have hap3 : ∀ (l : List Blk) (x : Blk), (m.set id x ++ l)[id]? = some x := fun l x => by rw [List.getElem?_append_left (by rw [List.length_set]; exact hid)]; exact List.getElem?_set_self hid
  have hself : ∀ x : Blk, (m.set id x)[id]? = some x := fun x => List.getElem?_set_self hid
  have hset2 : ∀ x y : Blk, (m.set id x).set id y = m.set id y := fun x y => List.set_set ..
  have hW := P_wantST w (e := e) hs hr 40 (.inl rfl) j (by omega) id m hm
  have hbad : ∀ (q : List UInt8) (er : Int), er ≠ 0 → pAt s (pWantS 40 r) r e = pB s q er → pAt s (pCols r) r e = pB s q er → (e = 0 → ∃ er q, pCols r = .bad er q) →
      ∃ (o : Out) (m1 : Mem), denF E (j + 1 + 1) 261 [.ptr id 0] m = some (o, m1) ∧ (∃ c, o = .ret c ∧ rowsAny c ∧ ∀ cs q, e = 0 → pCols r = .ok cs q → cs ≠ [] ∧ ∃ t, c = .tv 8 (cs.map colP) t) ∧ ∃ l, m1 = m.set id (pAt s (pCols r) r e) ++ l := by
    intro q er he h1 h2 h3
    rw [h1] at hW
    rw [h2]
    have hb : (er == 0) = false := by simpa using he
    have hW1 := P_want1 u w.want he [41] j (by omega) id (m.set id (pB s q er)) (hself _)
    refine ⟨.ret (.p .nils), m.set id (pB s q er), denF_wp_own w.columns rfl ?_, ⟨_, rfl, .inl rfl, ?_⟩, [], by simp⟩
    · simp (maxSteps := 4000000) [Fn.f_haulageref10_P_columns, hW]
      refine iter_wp_succ ?_
      rw [loopF_live (vals := Fn.f_haulageref10_P_columns_s0 (.ptr id 0) (.p .nils)) (m := m.set id (pB s q er)) ⟨rfl, rfl, rfl, rfl⟩]
      unfold pB at *
      simp (maxSteps := 4000000) [Fn.f_haulageref10_P_columns_b0, Fn.f_haulageref10_P_columns_s0, hself, hid, hb, hW1]
    · intro cs q' he0 hok
      obtain ⟨er', q'', h⟩ := h3 he0
      rw [h] at hok; cases hok
  rcases step_cases (pWantS_sane 40 r) s r e with ⟨he, h1⟩ | ⟨e1, q1, rfl, hp, he1, h1⟩ | ⟨v, r0, rfl, hp, h1⟩
  · exact hbad r e he h1 (pAt_err he) (fun h => absurd h he)
  · have hc : pCols r = .bad e1 q1 := by unfold pCols; rw [hp]; rfl
    exact hbad q1 e1 he1 h1 (pAt_bad hc) (fun _ => ⟨_, _, hc⟩)
  have hr0 := pWantS_rest 40 hr
  rw [hp] at hr0
  simp only [PR.rest] at hr0
  have hc : pCols r = pColsF 10 [] r0 := by unfold pCols; rw [hp]; rfl
  rw [h1] at hW
  rw [hc]
  refine denF_wp_ex w.columns rfl ?_
  simp (maxSteps := 4000000) [Fn.f_haulageref10_P_columns, hW]
  refine (Pc_loop w hs (r0 := r0) (P := pColsF 10 [] r0) (j + 1) (by omega) id m hid _ (PcI.mk [] r0 (.p .nils) [] (by simp) hr0 rfl (.inl ⟨rfl, rfl⟩) ⟨rfl, rfl, by simp, rfl⟩)).mono ?_
  rintro e st ⟨hds, ⟨er, q, x, rfl, h2, her, hb, hm⟩ | ⟨cs, r1, er, x, rfl, hlen, h0, hG, hr1, hm, hF⟩⟩
  · rw [hb, pAt_bad rfl]
    simp [hds, hm, h2]
    exact ⟨_, _, ⟨rfl, rfl⟩, ⟨_, rfl, .inl rfl⟩, _, rfl⟩
  · obtain ⟨ts, m', ds⟩ := st
    simp only at hds hlen h0 hG hm
    subst hds hm
    have hx : ts = [ts.getD 0 (.tup []), ts.getD 1 (.tup []), ts.getD 2 (.tup []), ts.getD 3 (.tup []), ts.getD 4 (.tup []), ts.getD 5 (.tup []), ts.getD 6 (.tup []), ts.getD 7 (.tup []), ts.getD 8 (.tup []), ts.getD 9 (.tup []), ts.getD 10 (.tup []), ts.getD 11 (.tup []), ts.getD 12 (.tup []), ts.getD 13 (.tup []), ts.getD 14 (.tup []), ts.getD 15 (.tup []), ts.getD 16 (.tup []), ts.getD 17 (.tup []), ts.getD 18 (.tup []), ts.getD 19 (.tup []), ts.getD 20 (.tup []), ts.getD 21 (.tup []), ts.getD 22 (.tup []), ts.getD 23 (.tup []), ts.getD 24 (.tup []), ts.getD 25 (.tup []), ts.getD 26 (.tup []), ts.getD 27 (.tup []), ts.getD 28 (.tup []), ts.getD 29 (.tup []), ts.getD 30 (.tup []), ts.getD 31 (.tup []), ts.getD 32 (.tup []), ts.getD 33 (.tup []), ts.getD 34 (.tup []), ts.getD 35 (.tup []), ts.getD 36 (.tup []), ts.getD 37 (.tup []), ts.getD 38 (.tup []), ts.getD 39 (.tup []), ts.getD 40 (.tup []), ts.getD 41 (.tup []), ts.getD 42 (.tup []), ts.getD 43 (.tup []), ts.getD 44 (.tup []), ts.getD 45 (.tup []), ts.getD 46 (.tup []), ts.getD 47 (.tup []), ts.getD 48 (.tup []), ts.getD 49 (.tup []), ts.getD 50 (.tup []), ts.getD 51 (.tup []), ts.getD 52 (.tup []), ts.getD 53 (.tup []), ts.getD 54 (.tup []), ts.getD 55 (.tup []), ts.getD 56 (.tup []), ts.getD 57 (.tup []), ts.getD 58 (.tup [])] := expand_ts 59 ts hlen
    rw [hx]
    rcases hF with ⟨her, hF⟩ | ⟨rfl, hne, hF⟩
    · have hW1 := P_want1 u w.want her [41] j (by omega) id (m.set id (pB s r1 er) ++ x) (hap3 _ _)
      rw [hF, pAt_bad rfl]
      rcases hG with ⟨h, h3⟩ | ⟨h, t, h3, _⟩
      · simp (maxSteps := 4000000) [h0, h3, hW1]
        exact ⟨_, _, ⟨rfl, rfl⟩, ⟨_, rfl, .inl rfl⟩, _, rfl⟩
      · simp (maxSteps := 4000000) [h0, h3, hW1]
        exact ⟨_, _, ⟨rfl, rfl⟩, ⟨_, rfl, .inr ⟨_, _, h, rfl⟩⟩, _, rfl⟩
    · have hW1 := P_wantST w (e := 0) hs hr1 41 (.inr (.inl rfl)) j (by omega) id (m.set id (pB s r1 0) ++ x) (hap3 _ _)
      rw [hap2] at hW1
      have hfin : pAt s ((pWantS 41 r1).bind fun _ r => PR.ok cs r) r 0 = pAt s (pWantS 41 r1) r1 0 := by
        cases pWantS 41 r1 <;> rfl
      have hval : ∀ (cs' : List Col) q, ((pWantS 41 r1).bind fun _ r => PR.ok cs r) = .ok cs' q → cs' = cs := by
        intro cs' q h
        cases hw : pWantS 41 r1 with
        | bad e q => rw [hw] at h; cases h
        | ok v q => rw [hw] at h; simp only [PR.bind, PR.ok.injEq] at h; exact h.1.symm
      rw [hF, hfin]
      rcases hG with ⟨h, h3⟩ | ⟨h, t, h3, _⟩
      · simp at h; exact absurd h hne
      · simp (maxSteps := 4000000) [h0, h3, hW1]
        refine ⟨_, _, ⟨rfl, rfl⟩, ⟨_, rfl, .inr ⟨_, _, h, rfl⟩, ?_⟩, _, rfl⟩
        intro cs' q h'
        have := hval cs' q h'
        subst this
        exact ⟨hne, _, rfl⟩
end Hx

namespace Hx
open Go
set_option linter.unusedSimpArgs false
set_option linter.unusedVariables false
set_option maxHeartbeats 8000000
set_option maxRecDepth 20000
variable {E : Env}
attribute [-simp] List.getD_eq_getElem?_getD getElem?_pos
def opRow : AV := .tv 1 (opWords.map fun w => [.str w]) 0
theorem ref_op (hn : E.fn 259 = some Fn.f_haulageref10_op) (w : List UInt8) (k : Nat) (hk : 12 ≤ k) (m : Mem) :
    denF E (k + 1) 259 [.p (.str w)] m = some (.ret (.p (.int .i64 (opOf w))), m) := by
  refine denF_wp hn rfl (args' := [.p (.str w)]) rfl ?_
  simp [Fn.f_haulageref10_op]
  refine (loop_wp (α := Nat) (I := fun i st => i ≤ 8 ∧ opF w i (opWords.drop i) = opOf w ∧ Live Fn.f_haulageref10_op_k0 (Fn.f_haulageref10_op_s0 (.p (.str w)) opRow (.p (.int .i64 i))) [.tok 1 8] st) (meas := fun i => 8 - i)
    (Q := fun e st => st.ds = [] ∧ st.ts.length = 20 ∧ ((e = .exit 0 ∧ opOf w = 0) ∨ (e = .ret ∧ st.ts.getD 2 (.tup []) = .p (.int .i64 (opOf w))))) ?_ k 0 _ ⟨Nat.zero_le _, rfl, rfl, rfl, rfl, rfl⟩ (by omega)).mono ?_
  · rintro i st ⟨hi, hsk, hlive⟩
    rw [loopF_live hlive]
    have hst : ∀ n : Nat, n < 8 → IntKind.i64.wrap ((n : Int) + 1) = ((n + 1 : Nat) : Int) := fun n hn => by rw [wrap_i64 (by omega) (by omega)]; omega
    by_cases hlt : i < 8
    · by_cases h : opWords.getD i [] = w
      · have hv : opF w i (opWords.drop i) = i + 1 := by
          rcases (by omega : i = 0 ∨ i = 1 ∨ i = 2 ∨ i = 3 ∨ i = 4 ∨ i = 5 ∨ i = 6 ∨ i = 7) with rfl | rfl | rfl | rfl | rfl | rfl | rfl | rfl <;> (subst h; rfl)
        rw [hv] at hsk
        rw [← hsk]
        have hw := hst i hlt
        subst h
        rcases (by omega : i = 0 ∨ i = 1 ∨ i = 2 ∨ i = 3 ∨ i = 4 ∨ i = 5 ∨ i = 6 ∨ i = 7) with rfl | rfl | rfl | rfl | rfl | rfl | rfl | rfl <;>
          simp [Fn.f_haulageref10_op_b0, Fn.f_haulageref10_op_s0, opRow, opWords, List.getD] <;> rfl
      · have hv : opF w i (opWords.drop i) = opF w (i + 1) (opWords.drop (i + 1)) := by
          rcases (by omega : i = 0 ∨ i = 1 ∨ i = 2 ∨ i = 3 ∨ i = 4 ∨ i = 5 ∨ i = 6 ∨ i = 7) with rfl | rfl | rfl | rfl | rfl | rfl | rfl | rfl <;> exact if_neg h
        rw [hv] at hsk
        have hb : (opWords.getD i [] == w) = false := by simpa using h
        have hw := hst i hlt
        rcases (by omega : i = 0 ∨ i = 1 ∨ i = 2 ∨ i = 3 ∨ i = 4 ∨ i = 5 ∨ i = 6 ∨ i = 7) with rfl | rfl | rfl | rfl | rfl | rfl | rfl | rfl <;>
          (simp only [opWords, List.getD_cons_zero, List.getD_cons_succ] at hb
           simp [Fn.f_haulageref10_op_b0, Fn.f_haulageref10_op_s0, opRow, opWords, hb]
           exact ⟨_, by omega, by omega, hsk, rfl, rfl, rfl, rfl⟩)
    · have : i = 8 := by omega
      subst this
      have h0 : opOf w = 0 := hsk.symm
      simp [Fn.f_haulageref10_op_b0, Fn.f_haulageref10_op_s0, opRow, opWords, h0]
  · rintro e st ⟨hds, hlen, ⟨rfl, h0⟩ | ⟨rfl, h2⟩⟩
    · obtain ⟨ts, m', ds⟩ := st
      simp only at hds hlen
      subst hds
      have hx : ts = [ts.getD 0 (.tup []), ts.getD 1 (.tup []), ts.getD 2 (.tup []), ts.getD 3 (.tup []), ts.getD 4 (.tup []), ts.getD 5 (.tup []), ts.getD 6 (.tup []), ts.getD 7 (.tup []), ts.getD 8 (.tup []), ts.getD 9 (.tup []), ts.getD 10 (.tup []), ts.getD 11 (.tup []), ts.getD 12 (.tup []), ts.getD 13 (.tup []), ts.getD 14 (.tup []), ts.getD 15 (.tup []), ts.getD 16 (.tup []), ts.getD 17 (.tup []), ts.getD 18 (.tup []), ts.getD 19 (.tup [])] := expand_ts 20 ts hlen
      rw [hx]
      simp [h0]
    · simp [hds, h2]
end Hx
