/-
  HxU10n: the program's reader of changes: types.
-/
import Derived.Test.YtifcegbomagcpaaDoorHxSimp
import Derived.Test.YtifcegbomagcpaaDoorHxU10a
namespace Hx
open Go
section
variable {E : Env} {call : Caller} {dst : Option Nat} {g : Option (Nat × Bool)} {c : Nat} {r : List XOper} {st : St}
@[simp] theorem ops_panic {x : X} : denOpers E call none (⟨dst, .panic x, g, c⟩ :: r) st = match wants st.ts g with
    | none => none
    | some false => denOpers E call none r ⟨putT st.ts dst (.tup []), st.m, st.ds⟩
    | some true => match evX E st.ts x with
      | .p (.iface t v) => some (.pan (.p (.iface t v)), st)
      | .iface t v => some (.pan (.iface t v), st)
      | _ => none := by
  rw [denOpers, denOper]
  cases wants st.ts g with
  | none => rfl
  | some b =>
    cases b with
    | false => rfl
    | true =>
      simp only [Option.isSome_none, cond_false]
      generalize evX E st.ts x = q
      cases q with
      | p v => cases v <;> rfl
      | _ => rfl
@[simp] theorem ops_dfr {f : X} {args : List X} : denOpers E call none (⟨dst, .dfr f args, g, c⟩ :: r) st = match wants st.ts g with
    | none => none
    | some false => denOpers E call none r ⟨putT st.ts dst (.tup []), st.m, st.ds⟩
    | some true => match fnOf (evX E st.ts f) with
      | none => none
      | some _ => denOpers E call none r ⟨putT st.ts dst (.tup []), st.m, (evX E st.ts f, args.map (evX E st.ts)) :: st.ds⟩ := by
  rw [denOpers, denOper]
  cases wants st.ts g with
  | none => rfl
  | some b =>
    cases b with
    | false => rfl
    | true =>
      simp only [Option.isSome_none, cond_false]
      cases fnOf (evX E st.ts f) <;> rfl
end
end Hx

namespace Hx
open Go
set_option linter.unusedSimpArgs false
set_option linter.unusedVariables false
set_option maxHeartbeats 4000000
variable {E : Env}
attribute [-simp] List.getD_eq_getElem?_getD getElem?_pos
structure R10 (E : Env) : Prop where
  n04 : N04 E
  left : E.fn 239 = some Fn.f_ddltext_reader_left
  bad : E.fn 240 = some Fn.f_ddltext_bad
  peek : E.fn 251 = some Fn.f_ddltext_reader_peek
  take : E.fn 272 = some Fn.f_ddltext_reader_take
  want : E.fn 254 = some Fn.f_ddltext_reader_want
  sign : E.fn 271 = some Fn.f_ddltext_reader_sign
  name : E.fn 252 = some Fn.f_ddltext_reader_name
  nright : E.fn 270 = some Fn.f_name_Right
def rdB (s r : List UInt8) : Blk := rdCells s (placeOf10 s r)
theorem drop_suf {s r : List UInt8} (h : r <:+ s) : s.drop (placeOf10 s r) = r := by
  obtain ⟨t, ht⟩ := h
  unfold placeOf10
  subst ht
  rw [List.length_append, Nat.add_sub_cancel, List.drop_left]
theorem place_le {s r : List UInt8} : placeOf10 s r ≤ s.length := by unfold placeOf10; omega
theorem suf_skip {s r : List UInt8} (h : r <:+ s) : skipB r <:+ s := (List.dropWhile_suffix isBl).trans h
theorem suf_drop {s r : List UInt8} (h : r <:+ s) (n : Nat) : r.drop n <:+ s := (List.drop_suffix n r).trans h
theorem suf_len {s r : List UInt8} (h : r <:+ s) : r.length ≤ s.length := h.length_le
theorem place_drop {s r : List UInt8} (h : r <:+ s) {n : Nat} (hn : n ≤ r.length) : placeOf10 s (r.drop n) = placeOf10 s r + n := by
  have := suf_len h
  unfold placeOf10
  rw [List.length_drop]
  omega
def flt (e : Int) : AV := .p (.iface 2 (.agg [.int .i64 e]))
def PR.out {α : Type} (f : α → AV) : PR α → Out
  | .bad e _ => .pan (flt e)
  | .ok v _ => .ret (f v)
def PR.rest {α : Type} : PR α → List UInt8
  | .bad _ r => r
  | .ok _ r => r
theorem rd_left' (u : R10 E) {s r : List UInt8} (hs : (s.length : Int) ≤ 1000000000) (hr : r <:+ s) (k : Nat) (hk : s.length + 4 ≤ k) (id : Nat) (m : Mem) (hm : m[id]? = some (rdB s r)) :
    denF E (k + 1) 239 [.ptr id 0] m = some (.ret (.p (.str (skipB r))), m.set id (rdB s (skipB r))) := by
  have := rd_left u.left s hs (placeOf10 s r) place_le k hk id m hm
  rw [drop_suf hr] at this
  exact this
theorem rd_bad (u : R10 E) (k : Nat) (e : Int) (m : Mem) : denF E (k + 1) 240 [.p (.int .i64 e)] m = some (.pan (flt e), m) := by
  refine denF_wp u.bad rfl (args' := [.p (.int .i64 e)]) rfl ?_
  simp [Fn.f_ddltext_bad, flt]
theorem rd_peek (u : R10 E) {s r : List UInt8} (hs : (s.length : Int) ≤ 1000000000) (hr : r <:+ s) (k : Nat) (hk : s.length + 5 ≤ k) (id : Nat) (m : Mem) (hm : m[id]? = some (rdB s r)) :
    denF E (k + 1) 251 [.ptr id 0] m = some (.ret (.p (.str (wordOf (skipB r)))), m.set id (rdB s (skipB r))) := by
  refine denF_wp_own u.peek rfl ?_
  obtain ⟨j, rfl⟩ : ∃ j, k = j + 1 := ⟨k - 1, by omega⟩
  have hL := rd_left' u hs hr j (by omega) id m hm
  have hlen := suf_len (suf_skip hr)
  have hN := fun m => name_Read u.n04 (skipB r) (by omega) j (by omega) m
  have hnl := nameLen_le (skipB r)
  simp [Fn.f_ddltext_reader_peek, hL, hN, hnl, wordOf]
theorem word_len (r : List UInt8) : (wordOf r).length ≤ r.length := by unfold wordOf; rw [List.length_take]; omega
theorem rd_take (u : R10 E) {s r : List UInt8} (hs : (s.length : Int) ≤ 1000000000) (hr : r <:+ s) (w : List UInt8) (k : Nat) (hk : s.length + 6 ≤ k) (id : Nat) (m : Mem) (hm : m[id]? = some (rdB s r)) :
    denF E (k + 1) 272 [.ptr id 0, .p (.str w)] m = some (.ret (.p (.bool (pTake w r).1)), m.set id (rdB s (pTake w r).2)) := by
  refine denF_wp_own u.take rfl ?_
  obtain ⟨j, rfl⟩ : ∃ j, k = j + 1 := ⟨k - 1, by omega⟩
  have hP := rd_peek u hs hr j (by omega) id m hm
  have hid : id < m.length := by
    rcases Nat.lt_or_ge id m.length with hl | hl
    · exact hl
    · rw [List.getElem?_eq_none hl] at hm; cases hm
  have hself : ∀ x : Blk, (m.set id x)[id]? = some x := fun x => List.getElem?_set_self hid
  have hset : ∀ x y : Blk, (m.set id x).set id y = m.set id y := fun x y => List.set_set ..
  unfold pTake
  by_cases h : wordOf (skipB r) = w
  · have hwl := word_len (skipB r)
    have hpl := place_drop (suf_skip hr) hwl
    have hle := place_le (s := s) (r := skipB r)
    rw [if_pos h]
    rw [h] at hP hpl hwl
    have hlen := suf_len (suf_skip hr)
    have hw : IntKind.i64.wrap ((placeOf10 s (skipB r) : Int) + w.length) = ((placeOf10 s ((skipB r).drop w.length) : Nat) : Int) := by rw [wrap_i64 (by omega) (by omega), hpl]; omega
    unfold rdB rdCells at *
    simp [Fn.f_ddltext_reader_take, hP, hid, hself, hset, hw, bne]
  · rw [if_neg h]
    have hb : (wordOf (skipB r) == w) = false := by simpa using h
    simp [Fn.f_ddltext_reader_take, hP, hb, bne]
theorem rd_want (u : R10 E) {s r : List UInt8} (hs : (s.length : Int) ≤ 1000000000) (hr : r <:+ s) (w : List UInt8) (k : Nat) (hk : s.length + 7 ≤ k) (id : Nat) (m : Mem) (hm : m[id]? = some (rdB s r)) :
    denF E (k + 1) 254 [.ptr id 0, .p (.str w)] m = some ((pWant w r).out (fun _ => .tup []), m.set id (rdB s (pWant w r).rest)) := by
  refine denF_wp_own u.want rfl ?_
  obtain ⟨j, rfl⟩ : ∃ j, k = j + 1 := ⟨k - 1, by omega⟩
  have hT := rd_take u hs hr w j (by omega) id m hm
  have hB := fun m => rd_bad u j 5 m
  unfold pTake at hT
  unfold pWant
  by_cases h : wordOf (skipB r) = w
  · rw [if_pos h] at hT ⊢
    simp [Fn.f_ddltext_reader_want, hT, PR.out, PR.rest]
  · rw [if_neg h] at hT ⊢
    simp [Fn.f_ddltext_reader_want, hT, hB, PR.out, PR.rest, flt]
end Hx

namespace Hx
open Go
set_option linter.unusedSimpArgs false
set_option linter.unusedVariables false
set_option maxHeartbeats 4000000
variable {E : Env}
attribute [-simp] List.getD_eq_getElem?_getD getElem?_pos
theorem name_Right (u : R10 E) (w : List UInt8) (hw : (w.length : Int) ≤ 1000000000) (k : Nat) (hk : w.length + 5 ≤ k) (m : Mem) :
    denF E (k + 1) 270 [.p (.str w)] m = some (.ret (.p (.bool (rightN w))), m) := by
  refine denF_wp u.nright rfl (args' := [.p (.str w)]) rfl ?_
  obtain ⟨j, rfl⟩ : ∃ j, k = j + 1 := ⟨k - 1, by omega⟩
  have hN := fun m => name_Read u.n04 w (by omega) j (by omega) m
  unfold rightN
  cases w with
  | nil => simp [Fn.f_name_Right, bne]
  | cons c w =>
    by_cases h : (c :: w).length ≤ 16
    · have h1 : decide (((c :: w).length : Int) ≤ 16) = true := by simpa using (by omega : ((c :: w).length : Int) ≤ 16)
      have h2 : ((nameLen (c :: w) : Int) == ((c :: w).length : Int)) = decide (nameLen (c :: w) = (c :: w).length) := by
        by_cases h3 : nameLen (c :: w) = (c :: w).length
        · rw [h3]; simp
        · rw [decide_eq_false h3]; simpa using (by omega : ¬ ((nameLen (c :: w) : Int) = ((c :: w).length : Int)))
      generalize hq : c :: w = q at *
      have hb : (q == []) = false := by subst hq; rfl
      have he : q.isEmpty = false := by subst hq; rfl
      have h1' : ((q.length : Int) ≤ 16) := by omega
      simp [Fn.f_name_Right, hN, hb, he, h, h1', h2, bne]
    · generalize hq : c :: w = q at *
      have hb : (q == []) = false := by subst hq; rfl
      have he : q.isEmpty = false := by subst hq; rfl
      have h1' : ¬ ((q.length : Int) ≤ 16) := by omega
      simp [Fn.f_name_Right, hN, hb, he, h, h1', bne]
theorem own_id {id : Nat} {m : Mem} {x : Blk} (hm : m[id]? = some x) : id < m.length := by
  rcases Nat.lt_or_ge id m.length with hl | hl
  · exact hl
  · rw [List.getElem?_eq_none hl] at hm; cases hm
theorem rd_sign (u : R10 E) {s r : List UInt8} (hs : (s.length : Int) ≤ 1000000000) (hr : r <:+ s) (c : UInt8) (k : Nat) (hk : s.length + 5 ≤ k) (id : Nat) (m : Mem) (hm : m[id]? = some (rdB s r)) :
    denF E (k + 1) 271 [.ptr id 0, .p (.int .u8 c.toNat)] m = some (.ret (.p (.bool (pSign c r).1)), m.set id (rdB s (pSign c r).2)) := by
  refine denF_wp_own u.sign rfl ?_
  obtain ⟨j, rfl⟩ : ∃ j, k = j + 1 := ⟨k - 1, by omega⟩
  have hL := rd_left' u hs hr j (by omega) id m hm
  have hid := own_id hm
  have hself : ∀ x : Blk, (m.set id x)[id]? = some x := fun x => List.getElem?_set_self hid
  have hset : ∀ x y : Blk, (m.set id x).set id y = m.set id y := fun x y => List.set_set ..
  have hsuf := suf_skip hr
  unfold pSign
  cases hq : skipB r with
  | nil =>
    rw [hq] at hL
    simp [Fn.f_ddltext_reader_sign, hL]
  | cons b q =>
    rw [hq] at hL hsuf
    have hb : ((b :: q) == []) = false := rfl
    have hpl := place_drop hsuf (n := 1) (by simp)
    have hlen := suf_len hsuf
    have hle := place_le (s := s) (r := b :: q)
    have hw : IntKind.i64.wrap ((placeOf10 s (b :: q) : Int) + 1) = ((placeOf10 s q : Nat) : Int) := by
      rw [wrap_i64 (by omega) (by omega)]
      have : placeOf10 s q = placeOf10 s (b :: q) + 1 := hpl
      omega
    by_cases h : b = c
    · subst h
      unfold rdB rdCells at *
      simp [Fn.f_ddltext_reader_sign, hL, hb, hid, hself, hset, hw, bne]
    · have hne : ((b.toNat : Int) == (c.toNat : Int)) = false := by
        rw [beq_eq_false_iff_ne]; intro e; exact h (UInt8.toNat_inj.1 (by omega))
      simp [Fn.f_ddltext_reader_sign, hL, hb, h, hne, bne]
theorem rd_name (u : R10 E) {s r : List UInt8} (hs : (s.length : Int) ≤ 1000000000) (hr : r <:+ s) (k : Nat) (hk : s.length + 7 ≤ k) (id : Nat) (m : Mem) (hm : m[id]? = some (rdB s r)) :
    denF E (k + 1) 252 [.ptr id 0] m = some ((pName r).out (fun w => .p (.str w)), m.set id (rdB s (pName r).rest)) := by
  refine denF_wp_own u.name rfl ?_
  obtain ⟨j, rfl⟩ : ∃ j, k = j + 1 := ⟨k - 1, by omega⟩
  have hP := rd_peek u hs hr j (by omega) id m hm
  have hid := own_id hm
  have hself : ∀ x : Blk, (m.set id x)[id]? = some x := fun x => List.getElem?_set_self hid
  have hset : ∀ x y : Blk, (m.set id x).set id y = m.set id y := fun x y => List.set_set ..
  have hB5 := fun m => rd_bad u j 5 m
  have hB8 := fun m => rd_bad u j 8 m
  have hwl := word_len (skipB r)
  have hpl := place_drop (suf_skip hr) hwl
  have hle := place_le (s := s) (r := skipB r)
  have hlen := suf_len (suf_skip hr)
  have hR := fun m => name_Right u (wordOf (skipB r)) (by omega) j (by omega) m
  have hw : IntKind.i64.wrap ((placeOf10 s (skipB r) : Int) + (wordOf (skipB r)).length) = ((placeOf10 s ((skipB r).drop (wordOf (skipB r)).length) : Nat) : Int) := by rw [wrap_i64 (by omega) (by omega), hpl]; omega
  unfold pName
  generalize wordOf (skipB r) = w at *
  by_cases h : w = []
  · subst h
    simp [Fn.f_ddltext_reader_name, hP, hB5, PR.out, PR.rest, flt]
  · have hb : (w == []) = false := by simpa using h
    rw [if_neg h]
    cases hr : rightN w with
    | false => rw [hr] at hR; simp [Fn.f_ddltext_reader_name, hP, hb, hR, hB8, PR.out, PR.rest, flt]
    | true =>
      rw [hr] at hR
      unfold rdB rdCells at *
      simp [Fn.f_ddltext_reader_name, hP, hb, hR, hid, hself, hset, hw, PR.out, PR.rest]
end Hx

namespace Hx
open Go
set_option maxHeartbeats 2000000
def rdTy (s : List UInt8) : Int × Int × Int × Int := match readT s with
  | .tup [.p (.agg [.int _ k, .int _ m]), .p (.int _ z), .p (.int _ e)] => (k, m, z, e)
  | _ => (0, 0, 0, 0)
def pKind (r : List UInt8) : PR (Int × Int) :=
  if (rdTy (skipB r)).2.2.2 = 0 then .ok ((rdTy (skipB r)).1, (rdTy (skipB r)).2.1) ((skipB r).drop (rdTy (skipB r)).2.2.1.toNat) else .bad (rdTy (skipB r)).2.2.2 (skipB r)
theorem readT_far (s : List UInt8) : ∃ (k m : Int) (z : Nat) (e : Int), readT s = rT k m z e ∧ z ≤ s.length ∧ (e ≠ 0 → z = 0) := by
  have hn := nameLen_le s
  obtain ⟨v, e, z, hN, hz⟩ := numS_form (s.drop (nameLen s + 1))
  have e1 : nS (numS (s.drop (nameLen s + 1))) = z := by rw [hN]; rfl
  unfold readT
  rw [e1]
  split
  · exact ⟨_, _, nameLen s, 0, rfl, hn, fun h => absurd rfl h⟩
  split
  · exact ⟨0, 0, 0, 5, rfl, Nat.zero_le _, fun _ => rfl⟩
  split
  · exact ⟨0, 0, 0, _, rfl, Nat.zero_le _, fun _ => rfl⟩
  split
  · exact ⟨0, 0, 0, 5, rfl, Nat.zero_le _, fun _ => rfl⟩
  split
  · exact ⟨0, 0, 0, 10, rfl, Nat.zero_le _, fun _ => rfl⟩
  · rename_i h _
    have h1 : s[nameLen s + 1 + (z : Int).toNat]? = some 41 := by simpa using h
    obtain ⟨h2, _⟩ := List.getElem?_eq_some_iff.1 h1
    refine ⟨kindW (s.take (nameLen s)), nN (numS (s.drop (nameLen s + 1))), nameLen s + 1 + z + 1, 0, ?_, by omega, fun h => absurd rfl h⟩
    rw [show ((nameLen s + 1 + z + 1 : Nat) : Int) = (nameLen s : Int) + 1 + z + 1 from by omega]
theorem rdTy_of {s : List UInt8} {k m z e : Int} (h : readT s = rT k m z e) : rdTy s = (k, m, z, e) := by unfold rdTy; rw [h]; rfl
end Hx

namespace Hx
open Go
set_option linter.unusedSimpArgs false
set_option linter.unusedVariables false
set_option maxHeartbeats 8000000
set_option maxRecDepth 20000
variable {E : Env}
attribute [-simp] List.getD_eq_getElem?_getD getElem?_pos
def TyOk (E : Env) (f : Nat) : Prop := ∀ s : List UInt8, (s.length : Int) ≤ 1000000000 → ∀ k, s.length + 40 ≤ k → ∀ m, denF E (k + 1) f [.p (.str s)] m = some (.ret (readT s), m)
theorem app_at0 {m q : Mem} (h : q.length = m.length) (a : Blk) (l : Mem) : (q ++ a :: l)[m.length]? = some a := by
  rw [List.getElem?_append_right (by omega), h, Nat.sub_self]; rfl
theorem app_at1 {m q : Mem} (h : q.length = m.length) (a b : Blk) (l : Mem) : (q ++ a :: b :: l)[m.length + 1]? = some b := by
  rw [List.getElem?_append_right (by omega), h, Nat.add_sub_cancel_left]; rfl
theorem app_set0 {m q : Mem} (h : q.length = m.length) (a c : Blk) (l : Mem) : (q ++ a :: l).set m.length c = q ++ c :: l := by
  rw [List.set_append_right _ _ (by omega), h, Nat.sub_self]; rfl
theorem app_set1 {m q : Mem} (h : q.length = m.length) (a b c : Blk) (l : Mem) : (q ++ a :: b :: l).set (m.length + 1) c = q ++ a :: c :: l := by
  rw [List.set_append_right _ _ (by omega), h, Nat.add_sub_cancel_left]; rfl
theorem rd_kind (u : R10 E) (hn : E.fn 256 = some Fn.f_ddltext_reader_kind) (ty : TyOk E 89) {s r : List UInt8} (hs : (s.length : Int) ≤ 1000000000) (hr : r <:+ s) (k : Nat) (hk : s.length + 45 ≤ k) (id : Nat) (m : Mem) (hm : m[id]? = some (rdB s r)) :
    ∃ x y, denF E (k + 1) 256 [.ptr id 0] m = some ((pKind r).out (fun t => .p (.agg [.int .i64 t.1, .int .i64 t.2])), m.set id (rdB s (pKind r).rest) ++ [x, y]) := by
  have hid := own_id hm
  obtain ⟨j, rfl⟩ : ∃ j, k = j + 1 := ⟨k - 1, by omega⟩
  have hlen := suf_len (suf_skip hr)
  have hle := place_le (s := s) (r := skipB r)
  obtain ⟨kd, mx, z, e, hT, hz, hz0⟩ := readT_far (skipB r)
  have hT' := rdTy_of hT
  have hpl := place_drop (suf_skip hr) hz
  have hR := fun m => ty (skipB r) (by omega) j (by omega) m
  rw [hT] at hR
  refine ⟨.cells [.p (.int .i64 (if e = 0 then kd else 0)), .p (.int .i64 (if e = 0 then mx else 0))], .cells [.p (.int .i64 kd), .p (.int .i64 mx)], ?_⟩
  refine denF_wp_own hn rfl ?_
  have hL := fun m' hm' => rd_left' u hs hr j (by omega) id m' hm'
  have hid2 : id < (m ++ [Blk.cells [.p (.int .i64 0), .p (.int .i64 0)]]).length := by rw [List.length_append]; omega
  have hget : (m ++ [Blk.cells [.p (.int .i64 0), .p (.int .i64 0)]])[id]? = some (rdB s r) := by rw [List.getElem?_append_left hid]; exact hm
  have hL1 := hL _ hget
  have happ : ∀ (l : List Blk) (x : Blk), id < l.length → (m ++ l).set id x = m.set id x ++ l := fun l x _ => by rw [List.set_append_left _ _ hid]
  have hap1 : ∀ (l : List Blk) (x : Blk), (m ++ l).set id x = m.set id x ++ l := fun l x => by rw [List.set_append_left _ _ hid]
  have hap2 : ∀ (l : List Blk) (x y : Blk), (m.set id x ++ l).set id y = m.set id y ++ l := fun l x y => by rw [List.set_append_left _ _ (by rw [List.length_set]; exact hid), List.set_set]
  have hap3 : ∀ (l : List Blk) (x : Blk), (m.set id x ++ l)[id]? = some x := fun l x => by rw [List.getElem?_append_left (by rw [List.length_set]; exact hid)]; exact List.getElem?_set_self hid
  rw [hap1] at hL1
  have hB := fun m => rd_bad u j e m
  have hw : IntKind.i64.wrap ((placeOf10 s (skipB r) : Int) + z) = ((placeOf10 s ((skipB r).drop z) : Nat) : Int) := by rw [wrap_i64 (by omega) (by omega), hpl]; omega
  have hq : ∀ x : Blk, (m.set id x).length = m.length := fun x => List.length_set
  have g0 := fun (x a : Blk) (l : Mem) => app_at0 (hq x) a l
  have g1 := fun (x a b : Blk) (l : Mem) => app_at1 (hq x) a b l
  have s0 := fun (x a c : Blk) (l : Mem) => app_set0 (hq x) a c l
  have s1 := fun (x a b c : Blk) (l : Mem) => app_set1 (hq x) a b c l
  unfold pKind
  rw [hT']
  unfold rT tP at hR
  by_cases he : e = 0
  · subst he
    unfold rdB rdCells at *
    simp [Fn.f_ddltext_reader_kind, hL1, hR, hap1, hap2, hap3, g0, g1, s0, s1, hid, hw, PR.out, PR.rest, bne]
  · have hb : (e == 0) = false := by simpa using he
    simp [Fn.f_ddltext_reader_kind, hL1, hR, hB, hap1, hap2, hap3, g0, g1, s0, s1, hid, hb, he, PR.out, PR.rest, bne]
end Hx
