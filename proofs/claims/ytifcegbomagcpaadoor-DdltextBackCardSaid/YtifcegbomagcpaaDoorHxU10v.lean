/-
  HxU10v: the program's reader of changes: a change behind its word, by the word's number.
-/
import Derived.Test.YtifcegbomagcpaaDoorHxU10u
namespace Hx
open Go
set_option linter.unusedSimpArgs false
set_option linter.unusedVariables false
set_option maxHeartbeats 32000000
set_option maxRecDepth 20000
variable {E : Env}
attribute [-simp] List.getD_eq_getElem?_getD getElem?_pos
def ddlC (d : Ddl) (c : AV) : List AV := [.p (.int .i64 d.op), .p (.str d.table), .p (.str d.column), .p (.str d.to), .p (.str d.key), .p (.int .i64 d.kind), .p (.int .i64 d.max), .p (.bool d.null), .p (.int .i64 d.dk), .p (.int .i64 d.dn), .p (.str d.ds), c]
def colsAV (l : List Col) (c : AV) : Prop := (l = [] ∧ c = .p .nils) ∨ (l ≠ [] ∧ ∃ t, c = .tv 8 (l.map colP) t)
def chR (p : PR Ddl) (o : Out) : Prop := match p with
  | .bad e _ => o = .pan (flt e)
  | .ok d _ => ∃ c, colsAV d.cols c ∧ o = .ret (mkAgg (ddlC d c))
def chB : XCode := Fn.f_ddltext_reader_change.body.snd.snd.snd.snd
def ChSt (s r : List UInt8) (id : Nat) (m : Mem) (op : Nat) (st : St) : Prop := st.ds = [] ∧ st.ts.length = 94 ∧ st.ts.getD 0 (.tup []) = .ptr id 0 ∧ st.ts.getD 2 (.tup []) = .ptr m.length 0 ∧ st.ts.getD 3 (.tup []) = .ptr (m.length + 1) 0 ∧ st.ts.getD 4 (.tup []) = .p (.str (wordOf (skipB r))) ∧ st.m = m.set id (rdB s (skipB r)) ++ [.cells (zDdl 0), .cells (zDdl op)]
def ChOut (s r : List UInt8) (id : Nat) (m : Mem) (e : Ex) (st : St) : Prop := ∃ o m1, leave Fn.f_ddltext_reader_change (some (e, st)) = some (o, m1) ∧ chR (pChange r) o ∧ ∃ l, m1 = m.set id (rdB s (pChange r).rest) ++ l
theorem pRest_1 (t r : List UInt8) : pRest 1 t r = (pCols r).bind fun l r => (pWant wKey r).bind fun _ r => (pName r).bind fun k r => .ok { op := 1, table := t, key := k, cols := l } r := rfl
theorem pRest_2 (t r : List UInt8) : pRest 2 t r = .ok { op := 2, table := t } r := rfl
theorem pRest_3 (t r : List UInt8) : pRest 3 t r = (pWant wTo r).bind fun _ r => (pName r).bind fun n r => .ok { op := 3, table := t, to := n } r := rfl
theorem pRest_4 (t r : List UInt8) : pRest 4 t r = (pCol r).bind fun c r => .ok { op := 4, table := t, column := c.name, kind := c.kind, max := c.max, null := c.null, dk := c.dk, dn := c.dn, ds := c.ds } r := rfl
theorem pRest_5 (t r : List UInt8) : pRest 5 t r = (pName r).bind fun c r => .ok { op := 5, table := t, column := c } r := rfl
theorem pRest_6 (t r : List UInt8) : pRest 6 t r = (pName r).bind fun c r => (pWant wTo r).bind fun _ r => (pName r).bind fun n r => .ok { op := 6, table := t, column := c, to := n } r := rfl
theorem pRest_7 (t r : List UInt8) : pRest 7 t r = (pName r).bind fun c r => (pKind r).bind fun k r => .ok { op := 7, table := t, column := c, kind := k.1, max := k.2 } r := rfl
theorem pRest_8 (t r : List UInt8) : pRest 8 t r = (pName r).bind fun c r => (pValue true r).bind fun v r => .ok { op := 8, table := t, column := c, dk := v.1, dn := v.2.1, ds := v.2.2 } r := rfl
theorem ch_0 (w : S10 E) {s r : List UInt8} (hs : (s.length : Int) ≤ 1000000000) (hr : r <:+ s) (j : Nat) (hk : s.length + 350 ≤ j + 1) (id : Nat) (m : Mem) (hid : id < m.length) (hop : opOf (wordOf (skipB r)) = 0) (st : St) (hst : ChSt s r id m 0 st) :
    Wp (den E (denF E (j + 1)) (j + 1) chB st) (ChOut s r id m) := by
  have u := w.u
  obtain ⟨ts, m', ds⟩ := st
  obtain ⟨h1, hl, h0, h2, h3, h4, hm⟩ := hst
  simp only at h1 hl h0 h2 h3 h4 hm
  subst h1 hm
  have hx : ts = [ts.getD 0 (.tup []), ts.getD 1 (.tup []), ts.getD 2 (.tup []), ts.getD 3 (.tup []), ts.getD 4 (.tup []), ts.getD 5 (.tup []), ts.getD 6 (.tup []), ts.getD 7 (.tup []), ts.getD 8 (.tup []), ts.getD 9 (.tup []), ts.getD 10 (.tup []), ts.getD 11 (.tup []), ts.getD 12 (.tup []), ts.getD 13 (.tup []), ts.getD 14 (.tup []), ts.getD 15 (.tup []), ts.getD 16 (.tup []), ts.getD 17 (.tup []), ts.getD 18 (.tup []), ts.getD 19 (.tup []), ts.getD 20 (.tup []), ts.getD 21 (.tup []), ts.getD 22 (.tup []), ts.getD 23 (.tup []), ts.getD 24 (.tup []), ts.getD 25 (.tup []), ts.getD 26 (.tup []), ts.getD 27 (.tup []), ts.getD 28 (.tup []), ts.getD 29 (.tup []), ts.getD 30 (.tup []), ts.getD 31 (.tup []), ts.getD 32 (.tup []), ts.getD 33 (.tup []), ts.getD 34 (.tup []), ts.getD 35 (.tup []), ts.getD 36 (.tup []), ts.getD 37 (.tup []), ts.getD 38 (.tup []), ts.getD 39 (.tup []), ts.getD 40 (.tup []), ts.getD 41 (.tup []), ts.getD 42 (.tup []), ts.getD 43 (.tup []), ts.getD 44 (.tup []), ts.getD 45 (.tup []), ts.getD 46 (.tup []), ts.getD 47 (.tup []), ts.getD 48 (.tup []), ts.getD 49 (.tup []), ts.getD 50 (.tup []), ts.getD 51 (.tup []), ts.getD 52 (.tup []), ts.getD 53 (.tup []), ts.getD 54 (.tup []), ts.getD 55 (.tup []), ts.getD 56 (.tup []), ts.getD 57 (.tup []), ts.getD 58 (.tup []), ts.getD 59 (.tup []), ts.getD 60 (.tup []), ts.getD 61 (.tup []), ts.getD 62 (.tup []), ts.getD 63 (.tup []), ts.getD 64 (.tup []), ts.getD 65 (.tup []), ts.getD 66 (.tup []), ts.getD 67 (.tup []), ts.getD 68 (.tup []), ts.getD 69 (.tup []), ts.getD 70 (.tup []), ts.getD 71 (.tup []), ts.getD 72 (.tup []), ts.getD 73 (.tup []), ts.getD 74 (.tup []), ts.getD 75 (.tup []), ts.getD 76 (.tup []), ts.getD 77 (.tup []), ts.getD 78 (.tup []), ts.getD 79 (.tup []), ts.getD 80 (.tup []), ts.getD 81 (.tup []), ts.getD 82 (.tup []), ts.getD 83 (.tup []), ts.getD 84 (.tup []), ts.getD 85 (.tup []), ts.getD 86 (.tup []), ts.getD 87 (.tup []), ts.getD 88 (.tup []), ts.getD 89 (.tup []), ts.getD 90 (.tup []), ts.getD 91 (.tup []), ts.getD 92 (.tup []), ts.getD 93 (.tup [])] := expand_ts 94 ts hl
  have hq : ∀ x : Blk, (m.set id x).length = m.length := fun x => List.length_set
  have g1 := fun (x a b : Blk) (l : Mem) => app_at1 (hq x) a b l
  have hB := fun m => rd_bad u j 5 m
  unfold ChOut pChange
  rw [hx, hop]
  unfold zDdl at *
  simp (maxSteps := 8000000) [chB, XCode.snd, XCode.fst, Fn.f_ddltext_reader_change, h0, h2, h3, h4, g1, hB, PR.bind, PR.rest, chR]
  exact ⟨_, _, ⟨rfl, rfl⟩, rfl, _, rfl⟩

theorem ch_1 (w : S10 E) {s r : List UInt8} (hs : (s.length : Int) ≤ 1000000000) (hr : r <:+ s) (j : Nat) (hk : s.length + 350 ≤ j + 1) (id : Nat) (m : Mem) (hid : id < m.length) (hop : opOf (wordOf (skipB r)) = 1) (st : St) (hst : ChSt s r id m 1 st) :
    Wp (den E (denF E (j + 1)) (j + 1) chB st) (ChOut s r id m) := by
  have u := w.u
  obtain ⟨ts, m', ds⟩ := st
  obtain ⟨h1, hl, h0, h2, h3, h4, hm⟩ := hst
  simp only at h1 hl h0 h2 h3 h4 hm
  subst h1 hm
  have hx : ts = [ts.getD 0 (.tup []), ts.getD 1 (.tup []), ts.getD 2 (.tup []), ts.getD 3 (.tup []), ts.getD 4 (.tup []), ts.getD 5 (.tup []), ts.getD 6 (.tup []), ts.getD 7 (.tup []), ts.getD 8 (.tup []), ts.getD 9 (.tup []), ts.getD 10 (.tup []), ts.getD 11 (.tup []), ts.getD 12 (.tup []), ts.getD 13 (.tup []), ts.getD 14 (.tup []), ts.getD 15 (.tup []), ts.getD 16 (.tup []), ts.getD 17 (.tup []), ts.getD 18 (.tup []), ts.getD 19 (.tup []), ts.getD 20 (.tup []), ts.getD 21 (.tup []), ts.getD 22 (.tup []), ts.getD 23 (.tup []), ts.getD 24 (.tup []), ts.getD 25 (.tup []), ts.getD 26 (.tup []), ts.getD 27 (.tup []), ts.getD 28 (.tup []), ts.getD 29 (.tup []), ts.getD 30 (.tup []), ts.getD 31 (.tup []), ts.getD 32 (.tup []), ts.getD 33 (.tup []), ts.getD 34 (.tup []), ts.getD 35 (.tup []), ts.getD 36 (.tup []), ts.getD 37 (.tup []), ts.getD 38 (.tup []), ts.getD 39 (.tup []), ts.getD 40 (.tup []), ts.getD 41 (.tup []), ts.getD 42 (.tup []), ts.getD 43 (.tup []), ts.getD 44 (.tup []), ts.getD 45 (.tup []), ts.getD 46 (.tup []), ts.getD 47 (.tup []), ts.getD 48 (.tup []), ts.getD 49 (.tup []), ts.getD 50 (.tup []), ts.getD 51 (.tup []), ts.getD 52 (.tup []), ts.getD 53 (.tup []), ts.getD 54 (.tup []), ts.getD 55 (.tup []), ts.getD 56 (.tup []), ts.getD 57 (.tup []), ts.getD 58 (.tup []), ts.getD 59 (.tup []), ts.getD 60 (.tup []), ts.getD 61 (.tup []), ts.getD 62 (.tup []), ts.getD 63 (.tup []), ts.getD 64 (.tup []), ts.getD 65 (.tup []), ts.getD 66 (.tup []), ts.getD 67 (.tup []), ts.getD 68 (.tup []), ts.getD 69 (.tup []), ts.getD 70 (.tup []), ts.getD 71 (.tup []), ts.getD 72 (.tup []), ts.getD 73 (.tup []), ts.getD 74 (.tup []), ts.getD 75 (.tup []), ts.getD 76 (.tup []), ts.getD 77 (.tup []), ts.getD 78 (.tup []), ts.getD 79 (.tup []), ts.getD 80 (.tup []), ts.getD 81 (.tup []), ts.getD 82 (.tup []), ts.getD 83 (.tup []), ts.getD 84 (.tup []), ts.getD 85 (.tup []), ts.getD 86 (.tup []), ts.getD 87 (.tup []), ts.getD 88 (.tup []), ts.getD 89 (.tup []), ts.getD 90 (.tup []), ts.getD 91 (.tup []), ts.getD 92 (.tup []), ts.getD 93 (.tup [])] := expand_ts 94 ts hl
  have hq : ∀ x : Blk, (m.set id x).length = m.length := fun x => List.length_set
  have hap2 : ∀ (l : List Blk) (x y : Blk), (m.set id x ++ l).set id y = m.set id y ++ l := fun l x y => by rw [List.set_append_left _ _ (by rw [List.length_set]; exact hid), List.set_set]
  have hap3 : ∀ (l : List Blk) (x : Blk), (m.set id x ++ l)[id]? = some x := fun l x => by rw [List.getElem?_append_left (by rw [List.length_set]; exact hid)]; exact List.getElem?_set_self hid
  have hself : ∀ x : Blk, (m.set id x)[id]? = some x := fun x => List.getElem?_set_self hid
  have g0 := fun (x a : Blk) (l : Mem) => app_at0 (hq x) a l
  have g1 := fun (x a b : Blk) (l : Mem) => app_at1 (hq x) a b l
  have s0 := fun (x a c : Blk) (l : Mem) => app_set0 (hq x) a c l
  have s1 := fun (x a b c : Blk) (l : Mem) => app_set1 (hq x) a b c l
  have hid1 : id < m.length + 1 := by omega
  have hid2 : id < m.length + 2 := by omega
  have hwl := word_len (skipB r)
  have hpl := place_drop (suf_skip hr) hwl
  have hle := place_le (s := s) (r := skipB r)
  have hlen := suf_len (suf_skip hr)
  have hwr : IntKind.i64.wrap ((placeOf10 s (skipB r) : Int) + (wordOf (skipB r)).length) = ((placeOf10 s ((skipB r).drop (wordOf (skipB r)).length) : Nat) : Int) := by rw [wrap_i64 (by omega) (by omega), hpl]; omega
  have hr1 : (skipB r).drop (wordOf (skipB r)).length <:+ s := suf_drop (suf_skip hr) _
  have hpc : pChange r = (pName ((skipB r).drop (wordOf (skipB r)).length)).bind fun t r' => pRest 1 t r' := by unfold pChange; rw [hop]; rfl
  unfold ChOut
  simp only [hpc, pRest_1]
  rw [hx]
  generalize (skipB r).drop (wordOf (skipB r)).length = r1 at *
  generalize wordOf (skipB r) = wd at *
  have hC1 := fun X => rd_name u hs hr1 j (by omega) id (m.set id (rdB s r1) ++ X) (hap3 _ _)
  simp only [hap2] at hC1
  have hr2 := pName_rest hr1
  cases hp1 : pName r1 with
  | bad e q =>
    rw [hp1] at hC1
    simp only [PR.out, PR.rest] at hC1
    try unfold zDdl at *
    unfold rdB rdCells at *
    simp (maxSteps := 8000000) [chB, XCode.snd, XCode.fst, Fn.f_ddltext_reader_change, h0, h2, h3, h4, hself, hq, hid, hid1, hid2, hwr, hC1, hp1,  g0, g1, s0, s1, hap2, hap3, PR.bind, PR.rest, chR]
    exact ⟨_, _, ⟨rfl, rfl⟩, rfl, _, rfl⟩
  | ok n1 r2 =>
    rw [hp1] at hC1 hr2
    simp only [PR.out, PR.rest] at hC1 hr2
    obtain ⟨o1, m1, hC2, hR1, l1, rfl⟩ := rd_columns w hs hr2 j (by omega) id (m.set id (rdB s r2) ++ [.cells (zDdl 0), .cells [.p (.int .i64 1), .p (.str n1), .p (.str []), .p (.str []), .p (.str []), .p (.int .i64 0), .p (.int .i64 0), .p (.bool false), .p (.int .i64 0), .p (.int .i64 0), .p (.str []), .p .nils]]) (hap3 _ _)
    rw [hap2] at hC2
    have hr3 := pCols_rest hr2
    cases hp2 : pCols r2 with
    | bad e q =>
      rw [hp2] at hC2 hR1
      simp only [colsR] at hR1
      subst hR1
      simp only [PR.rest] at hC2
      unfold zDdl at *
      unfold rdB rdCells at *
      simp (maxSteps := 8000000) [chB, XCode.snd, XCode.fst, Fn.f_ddltext_reader_change, h0, h2, h3, h4, hself, hq, hid, hid1, hid2, hwr, hC1, hp1, hC2, hp2,  g0, g1, s0, s1, hap2, hap3, PR.bind, PR.rest, chR]
      exact ⟨_, _, ⟨rfl, rfl⟩, rfl, _, rfl⟩
    | ok n2 r3 =>
      rw [hp2] at hC2 hR1 hr3
      simp only [colsR] at hR1
      obtain ⟨hcne, tk, rfl⟩ := hR1
      simp only [PR.rest] at hC2 hr3
      have hC3 := fun X => rd_want u hs hr3 wKey j (by omega) id (m.set id (rdB s r3) ++ X) (hap3 _ _)
      simp only [hap2] at hC3
      have hr4 := pWant_rest wKey hr3
      unfold wKey at *
      cases hp3 : pWant [107, 101, 121] r3 with
      | bad e q =>
        rw [hp3] at hC3
        simp only [PR.out, PR.rest] at hC3
        try unfold zDdl at *
        unfold rdB rdCells at *
        simp (maxSteps := 8000000) [chB, XCode.snd, XCode.fst, Fn.f_ddltext_reader_change, h0, h2, h3, h4, hself, hq, hid, hid1, hid2, hwr, hC1, hp1, hC2, hp2, hC3, hp3,  g0, g1, s0, s1, hap2, hap3, PR.bind, PR.rest, chR]
        exact ⟨_, _, ⟨rfl, rfl⟩, rfl, _, rfl⟩
      | ok n3 r4 =>
        rw [hp3] at hC3 hr4
        simp only [PR.out, PR.rest] at hC3 hr4
        have hC4 := fun X => rd_name u hs hr4 j (by omega) id (m.set id (rdB s r4) ++ X) (hap3 _ _)
        simp only [hap2] at hC4
        have hr5 := pName_rest hr4
        cases hp4 : pName r4 with
        | bad e q =>
          rw [hp4] at hC4
          simp only [PR.out, PR.rest] at hC4
          try unfold zDdl at *
          unfold rdB rdCells at *
          simp (maxSteps := 8000000) [chB, XCode.snd, XCode.fst, Fn.f_ddltext_reader_change, h0, h2, h3, h4, hself, hq, hid, hid1, hid2, hwr, hC1, hp1, hC2, hp2, hC3, hp3, hC4, hp4,  g0, g1, s0, s1, hap2, hap3, PR.bind, PR.rest, chR]
          exact ⟨_, _, ⟨rfl, rfl⟩, rfl, _, rfl⟩
        | ok n4 r5 =>
          rw [hp4] at hC4 hr5
          simp only [PR.out, PR.rest] at hC4 hr5
          unfold zDdl at *
          unfold rdB rdCells at *
          simp (maxSteps := 8000000) [chB, XCode.snd, XCode.fst, Fn.f_ddltext_reader_change, h0, h2, h3, h4, hself, hq, hid, hid1, hid2, hwr, hC1, hp1, hC2, hp2, hC3, hp3, hC4, hp4,  g0, g1, s0, s1, hap2, hap3, PR.bind, PR.rest, chR]
          exact ⟨_, _, ⟨rfl, rfl⟩, ⟨_, .inr ⟨hcne, _, rfl⟩, rfl⟩, _, rfl⟩
theorem ch_2 (w : S10 E) {s r : List UInt8} (hs : (s.length : Int) ≤ 1000000000) (hr : r <:+ s) (j : Nat) (hk : s.length + 350 ≤ j + 1) (id : Nat) (m : Mem) (hid : id < m.length) (hop : opOf (wordOf (skipB r)) = 2) (st : St) (hst : ChSt s r id m 2 st) :
    Wp (den E (denF E (j + 1)) (j + 1) chB st) (ChOut s r id m) := by
  have u := w.u
  obtain ⟨ts, m', ds⟩ := st
  obtain ⟨h1, hl, h0, h2, h3, h4, hm⟩ := hst
  simp only at h1 hl h0 h2 h3 h4 hm
  subst h1 hm
  have hx : ts = [ts.getD 0 (.tup []), ts.getD 1 (.tup []), ts.getD 2 (.tup []), ts.getD 3 (.tup []), ts.getD 4 (.tup []), ts.getD 5 (.tup []), ts.getD 6 (.tup []), ts.getD 7 (.tup []), ts.getD 8 (.tup []), ts.getD 9 (.tup []), ts.getD 10 (.tup []), ts.getD 11 (.tup []), ts.getD 12 (.tup []), ts.getD 13 (.tup []), ts.getD 14 (.tup []), ts.getD 15 (.tup []), ts.getD 16 (.tup []), ts.getD 17 (.tup []), ts.getD 18 (.tup []), ts.getD 19 (.tup []), ts.getD 20 (.tup []), ts.getD 21 (.tup []), ts.getD 22 (.tup []), ts.getD 23 (.tup []), ts.getD 24 (.tup []), ts.getD 25 (.tup []), ts.getD 26 (.tup []), ts.getD 27 (.tup []), ts.getD 28 (.tup []), ts.getD 29 (.tup []), ts.getD 30 (.tup []), ts.getD 31 (.tup []), ts.getD 32 (.tup []), ts.getD 33 (.tup []), ts.getD 34 (.tup []), ts.getD 35 (.tup []), ts.getD 36 (.tup []), ts.getD 37 (.tup []), ts.getD 38 (.tup []), ts.getD 39 (.tup []), ts.getD 40 (.tup []), ts.getD 41 (.tup []), ts.getD 42 (.tup []), ts.getD 43 (.tup []), ts.getD 44 (.tup []), ts.getD 45 (.tup []), ts.getD 46 (.tup []), ts.getD 47 (.tup []), ts.getD 48 (.tup []), ts.getD 49 (.tup []), ts.getD 50 (.tup []), ts.getD 51 (.tup []), ts.getD 52 (.tup []), ts.getD 53 (.tup []), ts.getD 54 (.tup []), ts.getD 55 (.tup []), ts.getD 56 (.tup []), ts.getD 57 (.tup []), ts.getD 58 (.tup []), ts.getD 59 (.tup []), ts.getD 60 (.tup []), ts.getD 61 (.tup []), ts.getD 62 (.tup []), ts.getD 63 (.tup []), ts.getD 64 (.tup []), ts.getD 65 (.tup []), ts.getD 66 (.tup []), ts.getD 67 (.tup []), ts.getD 68 (.tup []), ts.getD 69 (.tup []), ts.getD 70 (.tup []), ts.getD 71 (.tup []), ts.getD 72 (.tup []), ts.getD 73 (.tup []), ts.getD 74 (.tup []), ts.getD 75 (.tup []), ts.getD 76 (.tup []), ts.getD 77 (.tup []), ts.getD 78 (.tup []), ts.getD 79 (.tup []), ts.getD 80 (.tup []), ts.getD 81 (.tup []), ts.getD 82 (.tup []), ts.getD 83 (.tup []), ts.getD 84 (.tup []), ts.getD 85 (.tup []), ts.getD 86 (.tup []), ts.getD 87 (.tup []), ts.getD 88 (.tup []), ts.getD 89 (.tup []), ts.getD 90 (.tup []), ts.getD 91 (.tup []), ts.getD 92 (.tup []), ts.getD 93 (.tup [])] := expand_ts 94 ts hl
  have hq : ∀ x : Blk, (m.set id x).length = m.length := fun x => List.length_set
  have hap2 : ∀ (l : List Blk) (x y : Blk), (m.set id x ++ l).set id y = m.set id y ++ l := fun l x y => by rw [List.set_append_left _ _ (by rw [List.length_set]; exact hid), List.set_set]
  have hap3 : ∀ (l : List Blk) (x : Blk), (m.set id x ++ l)[id]? = some x := fun l x => by rw [List.getElem?_append_left (by rw [List.length_set]; exact hid)]; exact List.getElem?_set_self hid
  have hself : ∀ x : Blk, (m.set id x)[id]? = some x := fun x => List.getElem?_set_self hid
  have g0 := fun (x a : Blk) (l : Mem) => app_at0 (hq x) a l
  have g1 := fun (x a b : Blk) (l : Mem) => app_at1 (hq x) a b l
  have s0 := fun (x a c : Blk) (l : Mem) => app_set0 (hq x) a c l
  have s1 := fun (x a b c : Blk) (l : Mem) => app_set1 (hq x) a b c l
  have hid1 : id < m.length + 1 := by omega
  have hid2 : id < m.length + 2 := by omega
  have hwl := word_len (skipB r)
  have hpl := place_drop (suf_skip hr) hwl
  have hle := place_le (s := s) (r := skipB r)
  have hlen := suf_len (suf_skip hr)
  have hwr : IntKind.i64.wrap ((placeOf10 s (skipB r) : Int) + (wordOf (skipB r)).length) = ((placeOf10 s ((skipB r).drop (wordOf (skipB r)).length) : Nat) : Int) := by rw [wrap_i64 (by omega) (by omega), hpl]; omega
  have hr1 : (skipB r).drop (wordOf (skipB r)).length <:+ s := suf_drop (suf_skip hr) _
  have hpc : pChange r = (pName ((skipB r).drop (wordOf (skipB r)).length)).bind fun t r' => pRest 2 t r' := by unfold pChange; rw [hop]; rfl
  unfold ChOut
  simp only [hpc, pRest_2]
  rw [hx]
  generalize (skipB r).drop (wordOf (skipB r)).length = r1 at *
  generalize wordOf (skipB r) = wd at *
  have hC1 := fun X => rd_name u hs hr1 j (by omega) id (m.set id (rdB s r1) ++ X) (hap3 _ _)
  simp only [hap2] at hC1
  have hr2 := pName_rest hr1
  cases hp1 : pName r1 with
  | bad e q =>
    rw [hp1] at hC1
    simp only [PR.out, PR.rest] at hC1
    try unfold zDdl at *
    unfold rdB rdCells at *
    simp (maxSteps := 8000000) [chB, XCode.snd, XCode.fst, Fn.f_ddltext_reader_change, h0, h2, h3, h4, hself, hq, hid, hid1, hid2, hwr, hC1, hp1,  g0, g1, s0, s1, hap2, hap3, PR.bind, PR.rest, chR]
    exact ⟨_, _, ⟨rfl, rfl⟩, rfl, _, rfl⟩
  | ok n1 r2 =>
    rw [hp1] at hC1 hr2
    simp only [PR.out, PR.rest] at hC1 hr2
    unfold zDdl at *
    unfold rdB rdCells at *
    simp (maxSteps := 8000000) [chB, XCode.snd, XCode.fst, Fn.f_ddltext_reader_change, h0, h2, h3, h4, hself, hq, hid, hid1, hid2, hwr, hC1, hp1,  g0, g1, s0, s1, hap2, hap3, PR.bind, PR.rest, chR]
    exact ⟨_, _, ⟨rfl, rfl⟩, ⟨_, .inl ⟨rfl, rfl⟩, rfl⟩, _, rfl⟩
theorem ch_3 (w : S10 E) {s r : List UInt8} (hs : (s.length : Int) ≤ 1000000000) (hr : r <:+ s) (j : Nat) (hk : s.length + 350 ≤ j + 1) (id : Nat) (m : Mem) (hid : id < m.length) (hop : opOf (wordOf (skipB r)) = 3) (st : St) (hst : ChSt s r id m 3 st) :
    Wp (den E (denF E (j + 1)) (j + 1) chB st) (ChOut s r id m) := by
  have u := w.u
  obtain ⟨ts, m', ds⟩ := st
  obtain ⟨h1, hl, h0, h2, h3, h4, hm⟩ := hst
  simp only at h1 hl h0 h2 h3 h4 hm
  subst h1 hm
  have hx : ts = [ts.getD 0 (.tup []), ts.getD 1 (.tup []), ts.getD 2 (.tup []), ts.getD 3 (.tup []), ts.getD 4 (.tup []), ts.getD 5 (.tup []), ts.getD 6 (.tup []), ts.getD 7 (.tup []), ts.getD 8 (.tup []), ts.getD 9 (.tup []), ts.getD 10 (.tup []), ts.getD 11 (.tup []), ts.getD 12 (.tup []), ts.getD 13 (.tup []), ts.getD 14 (.tup []), ts.getD 15 (.tup []), ts.getD 16 (.tup []), ts.getD 17 (.tup []), ts.getD 18 (.tup []), ts.getD 19 (.tup []), ts.getD 20 (.tup []), ts.getD 21 (.tup []), ts.getD 22 (.tup []), ts.getD 23 (.tup []), ts.getD 24 (.tup []), ts.getD 25 (.tup []), ts.getD 26 (.tup []), ts.getD 27 (.tup []), ts.getD 28 (.tup []), ts.getD 29 (.tup []), ts.getD 30 (.tup []), ts.getD 31 (.tup []), ts.getD 32 (.tup []), ts.getD 33 (.tup []), ts.getD 34 (.tup []), ts.getD 35 (.tup []), ts.getD 36 (.tup []), ts.getD 37 (.tup []), ts.getD 38 (.tup []), ts.getD 39 (.tup []), ts.getD 40 (.tup []), ts.getD 41 (.tup []), ts.getD 42 (.tup []), ts.getD 43 (.tup []), ts.getD 44 (.tup []), ts.getD 45 (.tup []), ts.getD 46 (.tup []), ts.getD 47 (.tup []), ts.getD 48 (.tup []), ts.getD 49 (.tup []), ts.getD 50 (.tup []), ts.getD 51 (.tup []), ts.getD 52 (.tup []), ts.getD 53 (.tup []), ts.getD 54 (.tup []), ts.getD 55 (.tup []), ts.getD 56 (.tup []), ts.getD 57 (.tup []), ts.getD 58 (.tup []), ts.getD 59 (.tup []), ts.getD 60 (.tup []), ts.getD 61 (.tup []), ts.getD 62 (.tup []), ts.getD 63 (.tup []), ts.getD 64 (.tup []), ts.getD 65 (.tup []), ts.getD 66 (.tup []), ts.getD 67 (.tup []), ts.getD 68 (.tup []), ts.getD 69 (.tup []), ts.getD 70 (.tup []), ts.getD 71 (.tup []), ts.getD 72 (.tup []), ts.getD 73 (.tup []), ts.getD 74 (.tup []), ts.getD 75 (.tup []), ts.getD 76 (.tup []), ts.getD 77 (.tup []), ts.getD 78 (.tup []), ts.getD 79 (.tup []), ts.getD 80 (.tup []), ts.getD 81 (.tup []), ts.getD 82 (.tup []), ts.getD 83 (.tup []), ts.getD 84 (.tup []), ts.getD 85 (.tup []), ts.getD 86 (.tup []), ts.getD 87 (.tup []), ts.getD 88 (.tup []), ts.getD 89 (.tup []), ts.getD 90 (.tup []), ts.getD 91 (.tup []), ts.getD 92 (.tup []), ts.getD 93 (.tup [])] := expand_ts 94 ts hl
  have hq : ∀ x : Blk, (m.set id x).length = m.length := fun x => List.length_set
  have hap2 : ∀ (l : List Blk) (x y : Blk), (m.set id x ++ l).set id y = m.set id y ++ l := fun l x y => by rw [List.set_append_left _ _ (by rw [List.length_set]; exact hid), List.set_set]
  have hap3 : ∀ (l : List Blk) (x : Blk), (m.set id x ++ l)[id]? = some x := fun l x => by rw [List.getElem?_append_left (by rw [List.length_set]; exact hid)]; exact List.getElem?_set_self hid
  have hself : ∀ x : Blk, (m.set id x)[id]? = some x := fun x => List.getElem?_set_self hid
  have g0 := fun (x a : Blk) (l : Mem) => app_at0 (hq x) a l
  have g1 := fun (x a b : Blk) (l : Mem) => app_at1 (hq x) a b l
  have s0 := fun (x a c : Blk) (l : Mem) => app_set0 (hq x) a c l
  have s1 := fun (x a b c : Blk) (l : Mem) => app_set1 (hq x) a b c l
  have hid1 : id < m.length + 1 := by omega
  have hid2 : id < m.length + 2 := by omega
  have hwl := word_len (skipB r)
  have hpl := place_drop (suf_skip hr) hwl
  have hle := place_le (s := s) (r := skipB r)
  have hlen := suf_len (suf_skip hr)
  have hwr : IntKind.i64.wrap ((placeOf10 s (skipB r) : Int) + (wordOf (skipB r)).length) = ((placeOf10 s ((skipB r).drop (wordOf (skipB r)).length) : Nat) : Int) := by rw [wrap_i64 (by omega) (by omega), hpl]; omega
  have hr1 : (skipB r).drop (wordOf (skipB r)).length <:+ s := suf_drop (suf_skip hr) _
  have hpc : pChange r = (pName ((skipB r).drop (wordOf (skipB r)).length)).bind fun t r' => pRest 3 t r' := by unfold pChange; rw [hop]; rfl
  unfold ChOut
  simp only [hpc, pRest_3]
  rw [hx]
  generalize (skipB r).drop (wordOf (skipB r)).length = r1 at *
  generalize wordOf (skipB r) = wd at *
  have hC1 := fun X => rd_name u hs hr1 j (by omega) id (m.set id (rdB s r1) ++ X) (hap3 _ _)
  simp only [hap2] at hC1
  have hr2 := pName_rest hr1
  cases hp1 : pName r1 with
  | bad e q =>
    rw [hp1] at hC1
    simp only [PR.out, PR.rest] at hC1
    try unfold zDdl at *
    unfold rdB rdCells at *
    simp (maxSteps := 8000000) [chB, XCode.snd, XCode.fst, Fn.f_ddltext_reader_change, h0, h2, h3, h4, hself, hq, hid, hid1, hid2, hwr, hC1, hp1,  g0, g1, s0, s1, hap2, hap3, PR.bind, PR.rest, chR]
    exact ⟨_, _, ⟨rfl, rfl⟩, rfl, _, rfl⟩
  | ok n1 r2 =>
    rw [hp1] at hC1 hr2
    simp only [PR.out, PR.rest] at hC1 hr2
    have hC2 := fun X => rd_want u hs hr2 wTo j (by omega) id (m.set id (rdB s r2) ++ X) (hap3 _ _)
    simp only [hap2] at hC2
    have hr3 := pWant_rest wTo hr2
    unfold wTo at *
    cases hp2 : pWant [116, 111] r2 with
    | bad e q =>
      rw [hp2] at hC2
      simp only [PR.out, PR.rest] at hC2
      try unfold zDdl at *
      unfold rdB rdCells at *
      simp (maxSteps := 8000000) [chB, XCode.snd, XCode.fst, Fn.f_ddltext_reader_change, h0, h2, h3, h4, hself, hq, hid, hid1, hid2, hwr, hC1, hp1, hC2, hp2,  g0, g1, s0, s1, hap2, hap3, PR.bind, PR.rest, chR]
      exact ⟨_, _, ⟨rfl, rfl⟩, rfl, _, rfl⟩
    | ok n2 r3 =>
      rw [hp2] at hC2 hr3
      simp only [PR.out, PR.rest] at hC2 hr3
      have hC3 := fun X => rd_name u hs hr3 j (by omega) id (m.set id (rdB s r3) ++ X) (hap3 _ _)
      simp only [hap2] at hC3
      have hr4 := pName_rest hr3
      cases hp3 : pName r3 with
      | bad e q =>
        rw [hp3] at hC3
        simp only [PR.out, PR.rest] at hC3
        try unfold zDdl at *
        unfold rdB rdCells at *
        simp (maxSteps := 8000000) [chB, XCode.snd, XCode.fst, Fn.f_ddltext_reader_change, h0, h2, h3, h4, hself, hq, hid, hid1, hid2, hwr, hC1, hp1, hC2, hp2, hC3, hp3,  g0, g1, s0, s1, hap2, hap3, PR.bind, PR.rest, chR]
        exact ⟨_, _, ⟨rfl, rfl⟩, rfl, _, rfl⟩
      | ok n3 r4 =>
        rw [hp3] at hC3 hr4
        simp only [PR.out, PR.rest] at hC3 hr4
        unfold zDdl at *
        unfold rdB rdCells at *
        simp (maxSteps := 8000000) [chB, XCode.snd, XCode.fst, Fn.f_ddltext_reader_change, h0, h2, h3, h4, hself, hq, hid, hid1, hid2, hwr, hC1, hp1, hC2, hp2, hC3, hp3,  g0, g1, s0, s1, hap2, hap3, PR.bind, PR.rest, chR]
        exact ⟨_, _, ⟨rfl, rfl⟩, ⟨_, .inl ⟨rfl, rfl⟩, rfl⟩, _, rfl⟩
theorem ch_4 (w : S10 E) {s r : List UInt8} (hs : (s.length : Int) ≤ 1000000000) (hr : r <:+ s) (j : Nat) (hk : s.length + 350 ≤ j + 1) (id : Nat) (m : Mem) (hid : id < m.length) (hop : opOf (wordOf (skipB r)) = 4) (st : St) (hst : ChSt s r id m 4 st) :
    Wp (den E (denF E (j + 1)) (j + 1) chB st) (ChOut s r id m) := by
  have u := w.u
  obtain ⟨ts, m', ds⟩ := st
  obtain ⟨h1, hl, h0, h2, h3, h4, hm⟩ := hst
  simp only at h1 hl h0 h2 h3 h4 hm
  subst h1 hm
  have hx : ts = [ts.getD 0 (.tup []), ts.getD 1 (.tup []), ts.getD 2 (.tup []), ts.getD 3 (.tup []), ts.getD 4 (.tup []), ts.getD 5 (.tup []), ts.getD 6 (.tup []), ts.getD 7 (.tup []), ts.getD 8 (.tup []), ts.getD 9 (.tup []), ts.getD 10 (.tup []), ts.getD 11 (.tup []), ts.getD 12 (.tup []), ts.getD 13 (.tup []), ts.getD 14 (.tup []), ts.getD 15 (.tup []), ts.getD 16 (.tup []), ts.getD 17 (.tup []), ts.getD 18 (.tup []), ts.getD 19 (.tup []), ts.getD 20 (.tup []), ts.getD 21 (.tup []), ts.getD 22 (.tup []), ts.getD 23 (.tup []), ts.getD 24 (.tup []), ts.getD 25 (.tup []), ts.getD 26 (.tup []), ts.getD 27 (.tup []), ts.getD 28 (.tup []), ts.getD 29 (.tup []), ts.getD 30 (.tup []), ts.getD 31 (.tup []), ts.getD 32 (.tup []), ts.getD 33 (.tup []), ts.getD 34 (.tup []), ts.getD 35 (.tup []), ts.getD 36 (.tup []), ts.getD 37 (.tup []), ts.getD 38 (.tup []), ts.getD 39 (.tup []), ts.getD 40 (.tup []), ts.getD 41 (.tup []), ts.getD 42 (.tup []), ts.getD 43 (.tup []), ts.getD 44 (.tup []), ts.getD 45 (.tup []), ts.getD 46 (.tup []), ts.getD 47 (.tup []), ts.getD 48 (.tup []), ts.getD 49 (.tup []), ts.getD 50 (.tup []), ts.getD 51 (.tup []), ts.getD 52 (.tup []), ts.getD 53 (.tup []), ts.getD 54 (.tup []), ts.getD 55 (.tup []), ts.getD 56 (.tup []), ts.getD 57 (.tup []), ts.getD 58 (.tup []), ts.getD 59 (.tup []), ts.getD 60 (.tup []), ts.getD 61 (.tup []), ts.getD 62 (.tup []), ts.getD 63 (.tup []), ts.getD 64 (.tup []), ts.getD 65 (.tup []), ts.getD 66 (.tup []), ts.getD 67 (.tup []), ts.getD 68 (.tup []), ts.getD 69 (.tup []), ts.getD 70 (.tup []), ts.getD 71 (.tup []), ts.getD 72 (.tup []), ts.getD 73 (.tup []), ts.getD 74 (.tup []), ts.getD 75 (.tup []), ts.getD 76 (.tup []), ts.getD 77 (.tup []), ts.getD 78 (.tup []), ts.getD 79 (.tup []), ts.getD 80 (.tup []), ts.getD 81 (.tup []), ts.getD 82 (.tup []), ts.getD 83 (.tup []), ts.getD 84 (.tup []), ts.getD 85 (.tup []), ts.getD 86 (.tup []), ts.getD 87 (.tup []), ts.getD 88 (.tup []), ts.getD 89 (.tup []), ts.getD 90 (.tup []), ts.getD 91 (.tup []), ts.getD 92 (.tup []), ts.getD 93 (.tup [])] := expand_ts 94 ts hl
  have hq : ∀ x : Blk, (m.set id x).length = m.length := fun x => List.length_set
  have hap2 : ∀ (l : List Blk) (x y : Blk), (m.set id x ++ l).set id y = m.set id y ++ l := fun l x y => by rw [List.set_append_left _ _ (by rw [List.length_set]; exact hid), List.set_set]
  have hap3 : ∀ (l : List Blk) (x : Blk), (m.set id x ++ l)[id]? = some x := fun l x => by rw [List.getElem?_append_left (by rw [List.length_set]; exact hid)]; exact List.getElem?_set_self hid
  have hself : ∀ x : Blk, (m.set id x)[id]? = some x := fun x => List.getElem?_set_self hid
  have g0 := fun (x a : Blk) (l : Mem) => app_at0 (hq x) a l
  have g1 := fun (x a b : Blk) (l : Mem) => app_at1 (hq x) a b l
  have s0 := fun (x a c : Blk) (l : Mem) => app_set0 (hq x) a c l
  have s1 := fun (x a b c : Blk) (l : Mem) => app_set1 (hq x) a b c l
  have hid1 : id < m.length + 1 := by omega
  have hid2 : id < m.length + 2 := by omega
  have hwl := word_len (skipB r)
  have hpl := place_drop (suf_skip hr) hwl
  have hle := place_le (s := s) (r := skipB r)
  have hlen := suf_len (suf_skip hr)
  have hwr : IntKind.i64.wrap ((placeOf10 s (skipB r) : Int) + (wordOf (skipB r)).length) = ((placeOf10 s ((skipB r).drop (wordOf (skipB r)).length) : Nat) : Int) := by rw [wrap_i64 (by omega) (by omega), hpl]; omega
  have hr1 : (skipB r).drop (wordOf (skipB r)).length <:+ s := suf_drop (suf_skip hr) _
  have hpc : pChange r = (pName ((skipB r).drop (wordOf (skipB r)).length)).bind fun t r' => pRest 4 t r' := by unfold pChange; rw [hop]; rfl
  unfold ChOut
  simp only [hpc, pRest_4]
  rw [hx]
  generalize (skipB r).drop (wordOf (skipB r)).length = r1 at *
  generalize wordOf (skipB r) = wd at *
  have hC1 := fun X => rd_name u hs hr1 j (by omega) id (m.set id (rdB s r1) ++ X) (hap3 _ _)
  simp only [hap2] at hC1
  have hr2 := pName_rest hr1
  cases hp1 : pName r1 with
  | bad e q =>
    rw [hp1] at hC1
    simp only [PR.out, PR.rest] at hC1
    try unfold zDdl at *
    unfold rdB rdCells at *
    simp (maxSteps := 8000000) [chB, XCode.snd, XCode.fst, Fn.f_ddltext_reader_change, h0, h2, h3, h4, hself, hq, hid, hid1, hid2, hwr, hC1, hp1,  g0, g1, s0, s1, hap2, hap3, PR.bind, PR.rest, chR]
    exact ⟨_, _, ⟨rfl, rfl⟩, rfl, _, rfl⟩
  | ok n1 r2 =>
    rw [hp1] at hC1 hr2
    simp only [PR.out, PR.rest] at hC1 hr2
    obtain ⟨l1, hC2⟩ := rd_column w hs hr2 j (by omega) id (m.set id (rdB s r2) ++ [.cells (zDdl 0), .cells [.p (.int .i64 4), .p (.str n1), .p (.str []), .p (.str []), .p (.str []), .p (.int .i64 0), .p (.int .i64 0), .p (.bool false), .p (.int .i64 0), .p (.int .i64 0), .p (.str []), .p .nils]]) (hap3 _ _)
    rw [hap2] at hC2
    have hr3 := pCol_rest hr2
    cases hp2 : pCol r2 with
    | bad e q =>
      rw [hp2] at hC2
      simp only [PR.out, PR.rest] at hC2
      unfold zDdl at *
      unfold rdB rdCells at *
      simp (maxSteps := 8000000) [chB, XCode.snd, XCode.fst, Fn.f_ddltext_reader_change, h0, h2, h3, h4, hself, hq, hid, hid1, hid2, hwr, hC1, hp1, hC2, hp2,  g0, g1, s0, s1, hap2, hap3, PR.bind, PR.rest, chR]
      exact ⟨_, _, ⟨rfl, rfl⟩, rfl, _, rfl⟩
    | ok n2 r3 =>
      rw [hp2] at hC2 hr3
      simp only [PR.out, PR.rest] at hC2 hr3
      unfold colOut colP at hC2
      have gC : ∀ x a b c : Blk, (m.set id x ++ a :: b :: (l1 ++ [c]))[m.length + (l1.length + 1 + 1)]? = some c := fun x a b c => by
        rw [List.getElem?_append_right (by rw [hq]; omega), hq, Nat.add_sub_cancel_left, List.getElem?_cons_succ, List.getElem?_cons_succ, List.getElem?_append_right (Nat.le_refl _), Nat.sub_self]; rfl
      have sC : ∀ x a b c d : Blk, (m.set id x ++ a :: b :: (l1 ++ [c])).set (m.length + (l1.length + 1 + 1)) d = m.set id x ++ a :: b :: (l1 ++ [d]) := fun x a b c d => by
        rw [List.set_append_right _ _ (by rw [hq]; omega), hq, Nat.add_sub_cancel_left, List.set_cons_succ, List.set_cons_succ, List.set_append_right _ _ (Nat.le_refl _), Nat.sub_self]; rfl
      unfold zDdl at *
      unfold rdB rdCells at *
      simp (maxSteps := 8000000) [chB, XCode.snd, XCode.fst, Fn.f_ddltext_reader_change, h0, h2, h3, h4, hself, hq, hid, hid1, hid2, hwr, hC1, hp1, hC2, hp2,  g0, g1, s0, s1, hap2, hap3, PR.bind, PR.rest, chR, gC, sC]
      exact ⟨_, _, ⟨rfl, rfl⟩, ⟨_, .inl ⟨rfl, rfl⟩, rfl⟩, _, rfl⟩
theorem ch_5 (w : S10 E) {s r : List UInt8} (hs : (s.length : Int) ≤ 1000000000) (hr : r <:+ s) (j : Nat) (hk : s.length + 350 ≤ j + 1) (id : Nat) (m : Mem) (hid : id < m.length) (hop : opOf (wordOf (skipB r)) = 5) (st : St) (hst : ChSt s r id m 5 st) :
    Wp (den E (denF E (j + 1)) (j + 1) chB st) (ChOut s r id m) := by
  have u := w.u
  obtain ⟨ts, m', ds⟩ := st
  obtain ⟨h1, hl, h0, h2, h3, h4, hm⟩ := hst
  simp only at h1 hl h0 h2 h3 h4 hm
  subst h1 hm
  have hx : ts = [ts.getD 0 (.tup []), ts.getD 1 (.tup []), ts.getD 2 (.tup []), ts.getD 3 (.tup []), ts.getD 4 (.tup []), ts.getD 5 (.tup []), ts.getD 6 (.tup []), ts.getD 7 (.tup []), ts.getD 8 (.tup []), ts.getD 9 (.tup []), ts.getD 10 (.tup []), ts.getD 11 (.tup []), ts.getD 12 (.tup []), ts.getD 13 (.tup []), ts.getD 14 (.tup []), ts.getD 15 (.tup []), ts.getD 16 (.tup []), ts.getD 17 (.tup []), ts.getD 18 (.tup []), ts.getD 19 (.tup []), ts.getD 20 (.tup []), ts.getD 21 (.tup []), ts.getD 22 (.tup []), ts.getD 23 (.tup []), ts.getD 24 (.tup []), ts.getD 25 (.tup []), ts.getD 26 (.tup []), ts.getD 27 (.tup []), ts.getD 28 (.tup []), ts.getD 29 (.tup []), ts.getD 30 (.tup []), ts.getD 31 (.tup []), ts.getD 32 (.tup []), ts.getD 33 (.tup []), ts.getD 34 (.tup []), ts.getD 35 (.tup []), ts.getD 36 (.tup []), ts.getD 37 (.tup []), ts.getD 38 (.tup []), ts.getD 39 (.tup []), ts.getD 40 (.tup []), ts.getD 41 (.tup []), ts.getD 42 (.tup []), ts.getD 43 (.tup []), ts.getD 44 (.tup []), ts.getD 45 (.tup []), ts.getD 46 (.tup []), ts.getD 47 (.tup []), ts.getD 48 (.tup []), ts.getD 49 (.tup []), ts.getD 50 (.tup []), ts.getD 51 (.tup []), ts.getD 52 (.tup []), ts.getD 53 (.tup []), ts.getD 54 (.tup []), ts.getD 55 (.tup []), ts.getD 56 (.tup []), ts.getD 57 (.tup []), ts.getD 58 (.tup []), ts.getD 59 (.tup []), ts.getD 60 (.tup []), ts.getD 61 (.tup []), ts.getD 62 (.tup []), ts.getD 63 (.tup []), ts.getD 64 (.tup []), ts.getD 65 (.tup []), ts.getD 66 (.tup []), ts.getD 67 (.tup []), ts.getD 68 (.tup []), ts.getD 69 (.tup []), ts.getD 70 (.tup []), ts.getD 71 (.tup []), ts.getD 72 (.tup []), ts.getD 73 (.tup []), ts.getD 74 (.tup []), ts.getD 75 (.tup []), ts.getD 76 (.tup []), ts.getD 77 (.tup []), ts.getD 78 (.tup []), ts.getD 79 (.tup []), ts.getD 80 (.tup []), ts.getD 81 (.tup []), ts.getD 82 (.tup []), ts.getD 83 (.tup []), ts.getD 84 (.tup []), ts.getD 85 (.tup []), ts.getD 86 (.tup []), ts.getD 87 (.tup []), ts.getD 88 (.tup []), ts.getD 89 (.tup []), ts.getD 90 (.tup []), ts.getD 91 (.tup []), ts.getD 92 (.tup []), ts.getD 93 (.tup [])] := expand_ts 94 ts hl
  have hq : ∀ x : Blk, (m.set id x).length = m.length := fun x => List.length_set
  have hap2 : ∀ (l : List Blk) (x y : Blk), (m.set id x ++ l).set id y = m.set id y ++ l := fun l x y => by rw [List.set_append_left _ _ (by rw [List.length_set]; exact hid), List.set_set]
  have hap3 : ∀ (l : List Blk) (x : Blk), (m.set id x ++ l)[id]? = some x := fun l x => by rw [List.getElem?_append_left (by rw [List.length_set]; exact hid)]; exact List.getElem?_set_self hid
  have hself : ∀ x : Blk, (m.set id x)[id]? = some x := fun x => List.getElem?_set_self hid
  have g0 := fun (x a : Blk) (l : Mem) => app_at0 (hq x) a l
  have g1 := fun (x a b : Blk) (l : Mem) => app_at1 (hq x) a b l
  have s0 := fun (x a c : Blk) (l : Mem) => app_set0 (hq x) a c l
  have s1 := fun (x a b c : Blk) (l : Mem) => app_set1 (hq x) a b c l
  have hid1 : id < m.length + 1 := by omega
  have hid2 : id < m.length + 2 := by omega
  have hwl := word_len (skipB r)
  have hpl := place_drop (suf_skip hr) hwl
  have hle := place_le (s := s) (r := skipB r)
  have hlen := suf_len (suf_skip hr)
  have hwr : IntKind.i64.wrap ((placeOf10 s (skipB r) : Int) + (wordOf (skipB r)).length) = ((placeOf10 s ((skipB r).drop (wordOf (skipB r)).length) : Nat) : Int) := by rw [wrap_i64 (by omega) (by omega), hpl]; omega
  have hr1 : (skipB r).drop (wordOf (skipB r)).length <:+ s := suf_drop (suf_skip hr) _
  have hpc : pChange r = (pName ((skipB r).drop (wordOf (skipB r)).length)).bind fun t r' => pRest 5 t r' := by unfold pChange; rw [hop]; rfl
  unfold ChOut
  simp only [hpc, pRest_5]
  rw [hx]
  generalize (skipB r).drop (wordOf (skipB r)).length = r1 at *
  generalize wordOf (skipB r) = wd at *
  have hC1 := fun X => rd_name u hs hr1 j (by omega) id (m.set id (rdB s r1) ++ X) (hap3 _ _)
  simp only [hap2] at hC1
  have hr2 := pName_rest hr1
  cases hp1 : pName r1 with
  | bad e q =>
    rw [hp1] at hC1
    simp only [PR.out, PR.rest] at hC1
    try unfold zDdl at *
    unfold rdB rdCells at *
    simp (maxSteps := 8000000) [chB, XCode.snd, XCode.fst, Fn.f_ddltext_reader_change, h0, h2, h3, h4, hself, hq, hid, hid1, hid2, hwr, hC1, hp1,  g0, g1, s0, s1, hap2, hap3, PR.bind, PR.rest, chR]
    exact ⟨_, _, ⟨rfl, rfl⟩, rfl, _, rfl⟩
  | ok n1 r2 =>
    rw [hp1] at hC1 hr2
    simp only [PR.out, PR.rest] at hC1 hr2
    have hC2 := fun X => rd_name u hs hr2 j (by omega) id (m.set id (rdB s r2) ++ X) (hap3 _ _)
    simp only [hap2] at hC2
    have hr3 := pName_rest hr2
    cases hp2 : pName r2 with
    | bad e q =>
      rw [hp2] at hC2
      simp only [PR.out, PR.rest] at hC2
      try unfold zDdl at *
      unfold rdB rdCells at *
      simp (maxSteps := 8000000) [chB, XCode.snd, XCode.fst, Fn.f_ddltext_reader_change, h0, h2, h3, h4, hself, hq, hid, hid1, hid2, hwr, hC1, hp1, hC2, hp2,  g0, g1, s0, s1, hap2, hap3, PR.bind, PR.rest, chR]
      exact ⟨_, _, ⟨rfl, rfl⟩, rfl, _, rfl⟩
    | ok n2 r3 =>
      rw [hp2] at hC2 hr3
      simp only [PR.out, PR.rest] at hC2 hr3
      unfold zDdl at *
      unfold rdB rdCells at *
      simp (maxSteps := 8000000) [chB, XCode.snd, XCode.fst, Fn.f_ddltext_reader_change, h0, h2, h3, h4, hself, hq, hid, hid1, hid2, hwr, hC1, hp1, hC2, hp2,  g0, g1, s0, s1, hap2, hap3, PR.bind, PR.rest, chR]
      exact ⟨_, _, ⟨rfl, rfl⟩, ⟨_, .inl ⟨rfl, rfl⟩, rfl⟩, _, rfl⟩
theorem ch_6 (w : S10 E) {s r : List UInt8} (hs : (s.length : Int) ≤ 1000000000) (hr : r <:+ s) (j : Nat) (hk : s.length + 350 ≤ j + 1) (id : Nat) (m : Mem) (hid : id < m.length) (hop : opOf (wordOf (skipB r)) = 6) (st : St) (hst : ChSt s r id m 6 st) :
    Wp (den E (denF E (j + 1)) (j + 1) chB st) (ChOut s r id m) := by
  have u := w.u
  obtain ⟨ts, m', ds⟩ := st
  obtain ⟨h1, hl, h0, h2, h3, h4, hm⟩ := hst
  simp only at h1 hl h0 h2 h3 h4 hm
  subst h1 hm
  have hx : ts = [ts.getD 0 (.tup []), ts.getD 1 (.tup []), ts.getD 2 (.tup []), ts.getD 3 (.tup []), ts.getD 4 (.tup []), ts.getD 5 (.tup []), ts.getD 6 (.tup []), ts.getD 7 (.tup []), ts.getD 8 (.tup []), ts.getD 9 (.tup []), ts.getD 10 (.tup []), ts.getD 11 (.tup []), ts.getD 12 (.tup []), ts.getD 13 (.tup []), ts.getD 14 (.tup []), ts.getD 15 (.tup []), ts.getD 16 (.tup []), ts.getD 17 (.tup []), ts.getD 18 (.tup []), ts.getD 19 (.tup []), ts.getD 20 (.tup []), ts.getD 21 (.tup []), ts.getD 22 (.tup []), ts.getD 23 (.tup []), ts.getD 24 (.tup []), ts.getD 25 (.tup []), ts.getD 26 (.tup []), ts.getD 27 (.tup []), ts.getD 28 (.tup []), ts.getD 29 (.tup []), ts.getD 30 (.tup []), ts.getD 31 (.tup []), ts.getD 32 (.tup []), ts.getD 33 (.tup []), ts.getD 34 (.tup []), ts.getD 35 (.tup []), ts.getD 36 (.tup []), ts.getD 37 (.tup []), ts.getD 38 (.tup []), ts.getD 39 (.tup []), ts.getD 40 (.tup []), ts.getD 41 (.tup []), ts.getD 42 (.tup []), ts.getD 43 (.tup []), ts.getD 44 (.tup []), ts.getD 45 (.tup []), ts.getD 46 (.tup []), ts.getD 47 (.tup []), ts.getD 48 (.tup []), ts.getD 49 (.tup []), ts.getD 50 (.tup []), ts.getD 51 (.tup []), ts.getD 52 (.tup []), ts.getD 53 (.tup []), ts.getD 54 (.tup []), ts.getD 55 (.tup []), ts.getD 56 (.tup []), ts.getD 57 (.tup []), ts.getD 58 (.tup []), ts.getD 59 (.tup []), ts.getD 60 (.tup []), ts.getD 61 (.tup []), ts.getD 62 (.tup []), ts.getD 63 (.tup []), ts.getD 64 (.tup []), ts.getD 65 (.tup []), ts.getD 66 (.tup []), ts.getD 67 (.tup []), ts.getD 68 (.tup []), ts.getD 69 (.tup []), ts.getD 70 (.tup []), ts.getD 71 (.tup []), ts.getD 72 (.tup []), ts.getD 73 (.tup []), ts.getD 74 (.tup []), ts.getD 75 (.tup []), ts.getD 76 (.tup []), ts.getD 77 (.tup []), ts.getD 78 (.tup []), ts.getD 79 (.tup []), ts.getD 80 (.tup []), ts.getD 81 (.tup []), ts.getD 82 (.tup []), ts.getD 83 (.tup []), ts.getD 84 (.tup []), ts.getD 85 (.tup []), ts.getD 86 (.tup []), ts.getD 87 (.tup []), ts.getD 88 (.tup []), ts.getD 89 (.tup []), ts.getD 90 (.tup []), ts.getD 91 (.tup []), ts.getD 92 (.tup []), ts.getD 93 (.tup [])] := expand_ts 94 ts hl
  have hq : ∀ x : Blk, (m.set id x).length = m.length := fun x => List.length_set
  have hap2 : ∀ (l : List Blk) (x y : Blk), (m.set id x ++ l).set id y = m.set id y ++ l := fun l x y => by rw [List.set_append_left _ _ (by rw [List.length_set]; exact hid), List.set_set]
  have hap3 : ∀ (l : List Blk) (x : Blk), (m.set id x ++ l)[id]? = some x := fun l x => by rw [List.getElem?_append_left (by rw [List.length_set]; exact hid)]; exact List.getElem?_set_self hid
  have hself : ∀ x : Blk, (m.set id x)[id]? = some x := fun x => List.getElem?_set_self hid
  have g0 := fun (x a : Blk) (l : Mem) => app_at0 (hq x) a l
  have g1 := fun (x a b : Blk) (l : Mem) => app_at1 (hq x) a b l
  have s0 := fun (x a c : Blk) (l : Mem) => app_set0 (hq x) a c l
  have s1 := fun (x a b c : Blk) (l : Mem) => app_set1 (hq x) a b c l
  have hid1 : id < m.length + 1 := by omega
  have hid2 : id < m.length + 2 := by omega
  have hwl := word_len (skipB r)
  have hpl := place_drop (suf_skip hr) hwl
  have hle := place_le (s := s) (r := skipB r)
  have hlen := suf_len (suf_skip hr)
  have hwr : IntKind.i64.wrap ((placeOf10 s (skipB r) : Int) + (wordOf (skipB r)).length) = ((placeOf10 s ((skipB r).drop (wordOf (skipB r)).length) : Nat) : Int) := by rw [wrap_i64 (by omega) (by omega), hpl]; omega
  have hr1 : (skipB r).drop (wordOf (skipB r)).length <:+ s := suf_drop (suf_skip hr) _
  have hpc : pChange r = (pName ((skipB r).drop (wordOf (skipB r)).length)).bind fun t r' => pRest 6 t r' := by unfold pChange; rw [hop]; rfl
  unfold ChOut
  simp only [hpc, pRest_6]
  rw [hx]
  generalize (skipB r).drop (wordOf (skipB r)).length = r1 at *
  generalize wordOf (skipB r) = wd at *
  have hC1 := fun X => rd_name u hs hr1 j (by omega) id (m.set id (rdB s r1) ++ X) (hap3 _ _)
  simp only [hap2] at hC1
  have hr2 := pName_rest hr1
  cases hp1 : pName r1 with
  | bad e q =>
    rw [hp1] at hC1
    simp only [PR.out, PR.rest] at hC1
    try unfold zDdl at *
    unfold rdB rdCells at *
    simp (maxSteps := 8000000) [chB, XCode.snd, XCode.fst, Fn.f_ddltext_reader_change, h0, h2, h3, h4, hself, hq, hid, hid1, hid2, hwr, hC1, hp1,  g0, g1, s0, s1, hap2, hap3, PR.bind, PR.rest, chR]
    exact ⟨_, _, ⟨rfl, rfl⟩, rfl, _, rfl⟩
  | ok n1 r2 =>
    rw [hp1] at hC1 hr2
    simp only [PR.out, PR.rest] at hC1 hr2
    have hC2 := fun X => rd_name u hs hr2 j (by omega) id (m.set id (rdB s r2) ++ X) (hap3 _ _)
    simp only [hap2] at hC2
    have hr3 := pName_rest hr2
    cases hp2 : pName r2 with
    | bad e q =>
      rw [hp2] at hC2
      simp only [PR.out, PR.rest] at hC2
      try unfold zDdl at *
      unfold rdB rdCells at *
      simp (maxSteps := 8000000) [chB, XCode.snd, XCode.fst, Fn.f_ddltext_reader_change, h0, h2, h3, h4, hself, hq, hid, hid1, hid2, hwr, hC1, hp1, hC2, hp2,  g0, g1, s0, s1, hap2, hap3, PR.bind, PR.rest, chR]
      exact ⟨_, _, ⟨rfl, rfl⟩, rfl, _, rfl⟩
    | ok n2 r3 =>
      rw [hp2] at hC2 hr3
      simp only [PR.out, PR.rest] at hC2 hr3
      have hC3 := fun X => rd_want u hs hr3 wTo j (by omega) id (m.set id (rdB s r3) ++ X) (hap3 _ _)
      simp only [hap2] at hC3
      have hr4 := pWant_rest wTo hr3
      unfold wTo at *
      cases hp3 : pWant [116, 111] r3 with
      | bad e q =>
        rw [hp3] at hC3
        simp only [PR.out, PR.rest] at hC3
        try unfold zDdl at *
        unfold rdB rdCells at *
        simp (maxSteps := 8000000) [chB, XCode.snd, XCode.fst, Fn.f_ddltext_reader_change, h0, h2, h3, h4, hself, hq, hid, hid1, hid2, hwr, hC1, hp1, hC2, hp2, hC3, hp3,  g0, g1, s0, s1, hap2, hap3, PR.bind, PR.rest, chR]
        exact ⟨_, _, ⟨rfl, rfl⟩, rfl, _, rfl⟩
      | ok n3 r4 =>
        rw [hp3] at hC3 hr4
        simp only [PR.out, PR.rest] at hC3 hr4
        have hC4 := fun X => rd_name u hs hr4 j (by omega) id (m.set id (rdB s r4) ++ X) (hap3 _ _)
        simp only [hap2] at hC4
        have hr5 := pName_rest hr4
        cases hp4 : pName r4 with
        | bad e q =>
          rw [hp4] at hC4
          simp only [PR.out, PR.rest] at hC4
          try unfold zDdl at *
          unfold rdB rdCells at *
          simp (maxSteps := 8000000) [chB, XCode.snd, XCode.fst, Fn.f_ddltext_reader_change, h0, h2, h3, h4, hself, hq, hid, hid1, hid2, hwr, hC1, hp1, hC2, hp2, hC3, hp3, hC4, hp4,  g0, g1, s0, s1, hap2, hap3, PR.bind, PR.rest, chR]
          exact ⟨_, _, ⟨rfl, rfl⟩, rfl, _, rfl⟩
        | ok n4 r5 =>
          rw [hp4] at hC4 hr5
          simp only [PR.out, PR.rest] at hC4 hr5
          unfold zDdl at *
          unfold rdB rdCells at *
          simp (maxSteps := 8000000) [chB, XCode.snd, XCode.fst, Fn.f_ddltext_reader_change, h0, h2, h3, h4, hself, hq, hid, hid1, hid2, hwr, hC1, hp1, hC2, hp2, hC3, hp3, hC4, hp4,  g0, g1, s0, s1, hap2, hap3, PR.bind, PR.rest, chR]
          exact ⟨_, _, ⟨rfl, rfl⟩, ⟨_, .inl ⟨rfl, rfl⟩, rfl⟩, _, rfl⟩
theorem ch_7 (w : S10 E) {s r : List UInt8} (hs : (s.length : Int) ≤ 1000000000) (hr : r <:+ s) (j : Nat) (hk : s.length + 350 ≤ j + 1) (id : Nat) (m : Mem) (hid : id < m.length) (hop : opOf (wordOf (skipB r)) = 7) (st : St) (hst : ChSt s r id m 7 st) :
    Wp (den E (denF E (j + 1)) (j + 1) chB st) (ChOut s r id m) := by
  have u := w.u
  obtain ⟨ts, m', ds⟩ := st
  obtain ⟨h1, hl, h0, h2, h3, h4, hm⟩ := hst
  simp only at h1 hl h0 h2 h3 h4 hm
  subst h1 hm
  have hx : ts = [ts.getD 0 (.tup []), ts.getD 1 (.tup []), ts.getD 2 (.tup []), ts.getD 3 (.tup []), ts.getD 4 (.tup []), ts.getD 5 (.tup []), ts.getD 6 (.tup []), ts.getD 7 (.tup []), ts.getD 8 (.tup []), ts.getD 9 (.tup []), ts.getD 10 (.tup []), ts.getD 11 (.tup []), ts.getD 12 (.tup []), ts.getD 13 (.tup []), ts.getD 14 (.tup []), ts.getD 15 (.tup []), ts.getD 16 (.tup []), ts.getD 17 (.tup []), ts.getD 18 (.tup []), ts.getD 19 (.tup []), ts.getD 20 (.tup []), ts.getD 21 (.tup []), ts.getD 22 (.tup []), ts.getD 23 (.tup []), ts.getD 24 (.tup []), ts.getD 25 (.tup []), ts.getD 26 (.tup []), ts.getD 27 (.tup []), ts.getD 28 (.tup []), ts.getD 29 (.tup []), ts.getD 30 (.tup []), ts.getD 31 (.tup []), ts.getD 32 (.tup []), ts.getD 33 (.tup []), ts.getD 34 (.tup []), ts.getD 35 (.tup []), ts.getD 36 (.tup []), ts.getD 37 (.tup []), ts.getD 38 (.tup []), ts.getD 39 (.tup []), ts.getD 40 (.tup []), ts.getD 41 (.tup []), ts.getD 42 (.tup []), ts.getD 43 (.tup []), ts.getD 44 (.tup []), ts.getD 45 (.tup []), ts.getD 46 (.tup []), ts.getD 47 (.tup []), ts.getD 48 (.tup []), ts.getD 49 (.tup []), ts.getD 50 (.tup []), ts.getD 51 (.tup []), ts.getD 52 (.tup []), ts.getD 53 (.tup []), ts.getD 54 (.tup []), ts.getD 55 (.tup []), ts.getD 56 (.tup []), ts.getD 57 (.tup []), ts.getD 58 (.tup []), ts.getD 59 (.tup []), ts.getD 60 (.tup []), ts.getD 61 (.tup []), ts.getD 62 (.tup []), ts.getD 63 (.tup []), ts.getD 64 (.tup []), ts.getD 65 (.tup []), ts.getD 66 (.tup []), ts.getD 67 (.tup []), ts.getD 68 (.tup []), ts.getD 69 (.tup []), ts.getD 70 (.tup []), ts.getD 71 (.tup []), ts.getD 72 (.tup []), ts.getD 73 (.tup []), ts.getD 74 (.tup []), ts.getD 75 (.tup []), ts.getD 76 (.tup []), ts.getD 77 (.tup []), ts.getD 78 (.tup []), ts.getD 79 (.tup []), ts.getD 80 (.tup []), ts.getD 81 (.tup []), ts.getD 82 (.tup []), ts.getD 83 (.tup []), ts.getD 84 (.tup []), ts.getD 85 (.tup []), ts.getD 86 (.tup []), ts.getD 87 (.tup []), ts.getD 88 (.tup []), ts.getD 89 (.tup []), ts.getD 90 (.tup []), ts.getD 91 (.tup []), ts.getD 92 (.tup []), ts.getD 93 (.tup [])] := expand_ts 94 ts hl
  have hq : ∀ x : Blk, (m.set id x).length = m.length := fun x => List.length_set
  have hap2 : ∀ (l : List Blk) (x y : Blk), (m.set id x ++ l).set id y = m.set id y ++ l := fun l x y => by rw [List.set_append_left _ _ (by rw [List.length_set]; exact hid), List.set_set]
  have hap3 : ∀ (l : List Blk) (x : Blk), (m.set id x ++ l)[id]? = some x := fun l x => by rw [List.getElem?_append_left (by rw [List.length_set]; exact hid)]; exact List.getElem?_set_self hid
  have hself : ∀ x : Blk, (m.set id x)[id]? = some x := fun x => List.getElem?_set_self hid
  have g0 := fun (x a : Blk) (l : Mem) => app_at0 (hq x) a l
  have g1 := fun (x a b : Blk) (l : Mem) => app_at1 (hq x) a b l
  have s0 := fun (x a c : Blk) (l : Mem) => app_set0 (hq x) a c l
  have s1 := fun (x a b c : Blk) (l : Mem) => app_set1 (hq x) a b c l
  have hid1 : id < m.length + 1 := by omega
  have hid2 : id < m.length + 2 := by omega
  have hwl := word_len (skipB r)
  have hpl := place_drop (suf_skip hr) hwl
  have hle := place_le (s := s) (r := skipB r)
  have hlen := suf_len (suf_skip hr)
  have hwr : IntKind.i64.wrap ((placeOf10 s (skipB r) : Int) + (wordOf (skipB r)).length) = ((placeOf10 s ((skipB r).drop (wordOf (skipB r)).length) : Nat) : Int) := by rw [wrap_i64 (by omega) (by omega), hpl]; omega
  have hr1 : (skipB r).drop (wordOf (skipB r)).length <:+ s := suf_drop (suf_skip hr) _
  have hpc : pChange r = (pName ((skipB r).drop (wordOf (skipB r)).length)).bind fun t r' => pRest 7 t r' := by unfold pChange; rw [hop]; rfl
  unfold ChOut
  simp only [hpc, pRest_7]
  rw [hx]
  generalize (skipB r).drop (wordOf (skipB r)).length = r1 at *
  generalize wordOf (skipB r) = wd at *
  have hC1 := fun X => rd_name u hs hr1 j (by omega) id (m.set id (rdB s r1) ++ X) (hap3 _ _)
  simp only [hap2] at hC1
  have hr2 := pName_rest hr1
  cases hp1 : pName r1 with
  | bad e q =>
    rw [hp1] at hC1
    simp only [PR.out, PR.rest] at hC1
    try unfold zDdl at *
    unfold rdB rdCells at *
    simp (maxSteps := 8000000) [chB, XCode.snd, XCode.fst, Fn.f_ddltext_reader_change, h0, h2, h3, h4, hself, hq, hid, hid1, hid2, hwr, hC1, hp1,  g0, g1, s0, s1, hap2, hap3, PR.bind, PR.rest, chR]
    exact ⟨_, _, ⟨rfl, rfl⟩, rfl, _, rfl⟩
  | ok n1 r2 =>
    rw [hp1] at hC1 hr2
    simp only [PR.out, PR.rest] at hC1 hr2
    have hC2 := fun X => rd_name u hs hr2 j (by omega) id (m.set id (rdB s r2) ++ X) (hap3 _ _)
    simp only [hap2] at hC2
    have hr3 := pName_rest hr2
    cases hp2 : pName r2 with
    | bad e q =>
      rw [hp2] at hC2
      simp only [PR.out, PR.rest] at hC2
      try unfold zDdl at *
      unfold rdB rdCells at *
      simp (maxSteps := 8000000) [chB, XCode.snd, XCode.fst, Fn.f_ddltext_reader_change, h0, h2, h3, h4, hself, hq, hid, hid1, hid2, hwr, hC1, hp1, hC2, hp2,  g0, g1, s0, s1, hap2, hap3, PR.bind, PR.rest, chR]
      exact ⟨_, _, ⟨rfl, rfl⟩, rfl, _, rfl⟩
    | ok n2 r3 =>
      rw [hp2] at hC2 hr3
      simp only [PR.out, PR.rest] at hC2 hr3
      obtain ⟨x1, y1, hC3⟩ := rd_kind u w.kind w.ty hs hr3 j (by omega) id (m.set id (rdB s r3) ++ [.cells (zDdl 0), .cells [.p (.int .i64 7), .p (.str n1), .p (.str n2), .p (.str []), .p (.str []), .p (.int .i64 0), .p (.int .i64 0), .p (.bool false), .p (.int .i64 0), .p (.int .i64 0), .p (.str []), .p .nils]]) (hap3 _ _)
      rw [hap2] at hC3
      have hr4 := pKind_rest hr3
      cases hp3 : pKind r3 with
      | bad e q =>
        rw [hp3] at hC3
        simp only [PR.out, PR.rest] at hC3
        unfold zDdl at *
        unfold rdB rdCells at *
        simp (maxSteps := 8000000) [chB, XCode.snd, XCode.fst, Fn.f_ddltext_reader_change, h0, h2, h3, h4, hself, hq, hid, hid1, hid2, hwr, hC1, hp1, hC2, hp2, hC3, hp3,  g0, g1, s0, s1, hap2, hap3, PR.bind, PR.rest, chR]
        exact ⟨_, _, ⟨rfl, rfl⟩, rfl, _, rfl⟩
      | ok n3 r4 =>
        rw [hp3] at hC3 hr4
        simp only [PR.out, PR.rest] at hC3 hr4
        unfold zDdl at *
        unfold rdB rdCells at *
        simp (maxSteps := 8000000) [chB, XCode.snd, XCode.fst, Fn.f_ddltext_reader_change, h0, h2, h3, h4, hself, hq, hid, hid1, hid2, hwr, hC1, hp1, hC2, hp2, hC3, hp3,  g0, g1, s0, s1, hap2, hap3, PR.bind, PR.rest, chR]
        exact ⟨_, _, ⟨rfl, rfl⟩, ⟨_, .inl ⟨rfl, rfl⟩, rfl⟩, _, rfl⟩
theorem ch_8 (w : S10 E) {s r : List UInt8} (hs : (s.length : Int) ≤ 1000000000) (hr : r <:+ s) (j : Nat) (hk : s.length + 350 ≤ j + 1) (id : Nat) (m : Mem) (hid : id < m.length) (hop : opOf (wordOf (skipB r)) = 8) (st : St) (hst : ChSt s r id m 8 st) :
    Wp (den E (denF E (j + 1)) (j + 1) chB st) (ChOut s r id m) := by
  have u := w.u
  obtain ⟨ts, m', ds⟩ := st
  obtain ⟨h1, hl, h0, h2, h3, h4, hm⟩ := hst
  simp only at h1 hl h0 h2 h3 h4 hm
  subst h1 hm
  have hx : ts = [ts.getD 0 (.tup []), ts.getD 1 (.tup []), ts.getD 2 (.tup []), ts.getD 3 (.tup []), ts.getD 4 (.tup []), ts.getD 5 (.tup []), ts.getD 6 (.tup []), ts.getD 7 (.tup []), ts.getD 8 (.tup []), ts.getD 9 (.tup []), ts.getD 10 (.tup []), ts.getD 11 (.tup []), ts.getD 12 (.tup []), ts.getD 13 (.tup []), ts.getD 14 (.tup []), ts.getD 15 (.tup []), ts.getD 16 (.tup []), ts.getD 17 (.tup []), ts.getD 18 (.tup []), ts.getD 19 (.tup []), ts.getD 20 (.tup []), ts.getD 21 (.tup []), ts.getD 22 (.tup []), ts.getD 23 (.tup []), ts.getD 24 (.tup []), ts.getD 25 (.tup []), ts.getD 26 (.tup []), ts.getD 27 (.tup []), ts.getD 28 (.tup []), ts.getD 29 (.tup []), ts.getD 30 (.tup []), ts.getD 31 (.tup []), ts.getD 32 (.tup []), ts.getD 33 (.tup []), ts.getD 34 (.tup []), ts.getD 35 (.tup []), ts.getD 36 (.tup []), ts.getD 37 (.tup []), ts.getD 38 (.tup []), ts.getD 39 (.tup []), ts.getD 40 (.tup []), ts.getD 41 (.tup []), ts.getD 42 (.tup []), ts.getD 43 (.tup []), ts.getD 44 (.tup []), ts.getD 45 (.tup []), ts.getD 46 (.tup []), ts.getD 47 (.tup []), ts.getD 48 (.tup []), ts.getD 49 (.tup []), ts.getD 50 (.tup []), ts.getD 51 (.tup []), ts.getD 52 (.tup []), ts.getD 53 (.tup []), ts.getD 54 (.tup []), ts.getD 55 (.tup []), ts.getD 56 (.tup []), ts.getD 57 (.tup []), ts.getD 58 (.tup []), ts.getD 59 (.tup []), ts.getD 60 (.tup []), ts.getD 61 (.tup []), ts.getD 62 (.tup []), ts.getD 63 (.tup []), ts.getD 64 (.tup []), ts.getD 65 (.tup []), ts.getD 66 (.tup []), ts.getD 67 (.tup []), ts.getD 68 (.tup []), ts.getD 69 (.tup []), ts.getD 70 (.tup []), ts.getD 71 (.tup []), ts.getD 72 (.tup []), ts.getD 73 (.tup []), ts.getD 74 (.tup []), ts.getD 75 (.tup []), ts.getD 76 (.tup []), ts.getD 77 (.tup []), ts.getD 78 (.tup []), ts.getD 79 (.tup []), ts.getD 80 (.tup []), ts.getD 81 (.tup []), ts.getD 82 (.tup []), ts.getD 83 (.tup []), ts.getD 84 (.tup []), ts.getD 85 (.tup []), ts.getD 86 (.tup []), ts.getD 87 (.tup []), ts.getD 88 (.tup []), ts.getD 89 (.tup []), ts.getD 90 (.tup []), ts.getD 91 (.tup []), ts.getD 92 (.tup []), ts.getD 93 (.tup [])] := expand_ts 94 ts hl
  have hq : ∀ x : Blk, (m.set id x).length = m.length := fun x => List.length_set
  have hap2 : ∀ (l : List Blk) (x y : Blk), (m.set id x ++ l).set id y = m.set id y ++ l := fun l x y => by rw [List.set_append_left _ _ (by rw [List.length_set]; exact hid), List.set_set]
  have hap3 : ∀ (l : List Blk) (x : Blk), (m.set id x ++ l)[id]? = some x := fun l x => by rw [List.getElem?_append_left (by rw [List.length_set]; exact hid)]; exact List.getElem?_set_self hid
  have hself : ∀ x : Blk, (m.set id x)[id]? = some x := fun x => List.getElem?_set_self hid
  have g0 := fun (x a : Blk) (l : Mem) => app_at0 (hq x) a l
  have g1 := fun (x a b : Blk) (l : Mem) => app_at1 (hq x) a b l
  have s0 := fun (x a c : Blk) (l : Mem) => app_set0 (hq x) a c l
  have s1 := fun (x a b c : Blk) (l : Mem) => app_set1 (hq x) a b c l
  have hid1 : id < m.length + 1 := by omega
  have hid2 : id < m.length + 2 := by omega
  have hwl := word_len (skipB r)
  have hpl := place_drop (suf_skip hr) hwl
  have hle := place_le (s := s) (r := skipB r)
  have hlen := suf_len (suf_skip hr)
  have hwr : IntKind.i64.wrap ((placeOf10 s (skipB r) : Int) + (wordOf (skipB r)).length) = ((placeOf10 s ((skipB r).drop (wordOf (skipB r)).length) : Nat) : Int) := by rw [wrap_i64 (by omega) (by omega), hpl]; omega
  have hr1 : (skipB r).drop (wordOf (skipB r)).length <:+ s := suf_drop (suf_skip hr) _
  have hpc : pChange r = (pName ((skipB r).drop (wordOf (skipB r)).length)).bind fun t r' => pRest 8 t r' := by unfold pChange; rw [hop]; rfl
  unfold ChOut
  simp only [hpc, pRest_8]
  rw [hx]
  generalize (skipB r).drop (wordOf (skipB r)).length = r1 at *
  generalize wordOf (skipB r) = wd at *
  have hC1 := fun X => rd_name u hs hr1 j (by omega) id (m.set id (rdB s r1) ++ X) (hap3 _ _)
  simp only [hap2] at hC1
  have hr2 := pName_rest hr1
  cases hp1 : pName r1 with
  | bad e q =>
    rw [hp1] at hC1
    simp only [PR.out, PR.rest] at hC1
    try unfold zDdl at *
    unfold rdB rdCells at *
    simp (maxSteps := 8000000) [chB, XCode.snd, XCode.fst, Fn.f_ddltext_reader_change, h0, h2, h3, h4, hself, hq, hid, hid1, hid2, hwr, hC1, hp1,  g0, g1, s0, s1, hap2, hap3, PR.bind, PR.rest, chR]
    exact ⟨_, _, ⟨rfl, rfl⟩, rfl, _, rfl⟩
  | ok n1 r2 =>
    rw [hp1] at hC1 hr2
    simp only [PR.out, PR.rest] at hC1 hr2
    have hC2 := fun X => rd_name u hs hr2 j (by omega) id (m.set id (rdB s r2) ++ X) (hap3 _ _)
    simp only [hap2] at hC2
    have hr3 := pName_rest hr2
    cases hp2 : pName r2 with
    | bad e q =>
      rw [hp2] at hC2
      simp only [PR.out, PR.rest] at hC2
      try unfold zDdl at *
      unfold rdB rdCells at *
      simp (maxSteps := 8000000) [chB, XCode.snd, XCode.fst, Fn.f_ddltext_reader_change, h0, h2, h3, h4, hself, hq, hid, hid1, hid2, hwr, hC1, hp1, hC2, hp2,  g0, g1, s0, s1, hap2, hap3, PR.bind, PR.rest, chR]
      exact ⟨_, _, ⟨rfl, rfl⟩, rfl, _, rfl⟩
    | ok n2 r3 =>
      rw [hp2] at hC2 hr3
      simp only [PR.out, PR.rest] at hC2 hr3
      obtain ⟨x1, y1, hC3⟩ := rd_value u w.value w.va hs hr3 true j (by omega) id (m.set id (rdB s r3) ++ [.cells (zDdl 0), .cells [.p (.int .i64 8), .p (.str n1), .p (.str n2), .p (.str []), .p (.str []), .p (.int .i64 0), .p (.int .i64 0), .p (.bool false), .p (.int .i64 0), .p (.int .i64 0), .p (.str []), .p .nils]]) (hap3 _ _)
      rw [hap2] at hC3
      have hr4 := pValue_rest true hr3
      cases hp3 : pValue true r3 with
      | bad e q =>
        rw [hp3] at hC3
        simp only [PR.out, PR.rest] at hC3
        unfold zDdl at *
        unfold rdB rdCells at *
        simp (maxSteps := 8000000) [chB, XCode.snd, XCode.fst, Fn.f_ddltext_reader_change, h0, h2, h3, h4, hself, hq, hid, hid1, hid2, hwr, hC1, hp1, hC2, hp2, hC3, hp3,  g0, g1, s0, s1, hap2, hap3, PR.bind, PR.rest, chR]
        exact ⟨_, _, ⟨rfl, rfl⟩, rfl, _, rfl⟩
      | ok n3 r4 =>
        rw [hp3] at hC3 hr4
        simp only [PR.out, PR.rest] at hC3 hr4
        simp only [vOut] at hC3
        unfold zDdl at *
        unfold rdB rdCells at *
        simp (maxSteps := 8000000) [chB, XCode.snd, XCode.fst, Fn.f_ddltext_reader_change, h0, h2, h3, h4, hself, hq, hid, hid1, hid2, hwr, hC1, hp1, hC2, hp2, hC3, hp3,  g0, g1, s0, s1, hap2, hap3, PR.bind, PR.rest, chR]
        exact ⟨_, _, ⟨rfl, rfl⟩, ⟨_, .inl ⟨rfl, rfl⟩, rfl⟩, _, rfl⟩
end Hx
