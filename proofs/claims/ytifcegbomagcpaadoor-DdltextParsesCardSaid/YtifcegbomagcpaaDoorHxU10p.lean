/-
  HxU10p: the document's reader of changes behind an error: nothing is read any more.
-/
import Derived.Test.YtifcegbomagcpaaDoorHxU05c
import Derived.Test.YtifcegbomagcpaaDoorHxSimp2
import Derived.Test.YtifcegbomagcpaaDoorHxU10l
namespace Hx
open Go
set_option linter.unusedSimpArgs false
set_option linter.unusedVariables false
set_option maxHeartbeats 8000000
variable {E : Env}
attribute [-simp] List.getD_eq_getElem?_getD getElem?_pos
def wInt : List UInt8 := [105, 110, 116]
def wLong : List UInt8 := [108, 111, 110, 103]
def wText : List UInt8 := [116, 101, 120, 116]
def wBytes : List UInt8 := [98, 121, 116, 101, 115]
def kindW (s : List UInt8) : Int := if wInt == s then 1 else if wLong == s then 2 else if wText == s then 3 else if wBytes == s then 4 else 0
structure T06s (E : Env) : Prop where
  right : E.fn 84 = some Fn.f_typ_Right
  long : E.fn 95 = some Fn.f_typ_long
structure X06 (E : Env) : Prop where
  n04 : N04 E
  m05 : M05 E
  t06 : T06s E
  words : E.gl 2 = [.str [], .str [105, 110, 116], .str [108, 111, 110, 103], .str [116, 101, 120, 116], .str [98, 121, 116, 101, 115]]
  kindOf : E.fn 98 = some Fn.f_typ_kindOf
  read : E.fn 89 = some Fn.f_typ_Read
  print : E.fn 93 = some Fn.f_typ_Print
  vdigits : E.fn 39 = some Fn.f_value_Digits
def KInv (s : List UInt8) (i : Nat) (st : St) : Prop := (1 ≤ i ∧ i ≤ 5 ∧ (1 < i → (wInt == s) = false) ∧ (2 < i → (wLong == s) = false) ∧ (3 < i → (wText == s) = false) ∧ (4 < i → (wBytes == s) = false)) ∧ Live Fn.f_typ_kindOf_k0 (Fn.f_typ_kindOf_s0 (.p (.str s)) (.p (.int .i64 i))) [] st
theorem KInv.mk {s : List UInt8} {i : Nat} {st : St} (h : 1 ≤ i ∧ i ≤ 5 ∧ (1 < i → (wInt == s) = false) ∧ (2 < i → (wLong == s) = false) ∧ (3 < i → (wText == s) = false) ∧ (4 < i → (wBytes == s) = false)) (l : Live Fn.f_typ_kindOf_k0 (Fn.f_typ_kindOf_s0 (.p (.str s)) (.p (.int .i64 i))) [] st) : KInv s i st := ⟨h, l⟩
theorem typ_kindOf (u : X06 E) (k : Nat) (hk : 10 ≤ k) (s : List UInt8) (m : Mem) : denF E (k + 1) 98 [.p (.str s)] m = some (.ret (.p (.int .i64 (kindW s))), m) := by
  refine denF_wp u.kindOf rfl (args' := [.p (.str s)]) rfl ?_
  have hg := u.words
  simp [Fn.f_typ_kindOf]
  refine (loop_wp (α := Nat) (I := fun i st => KInv s i st) (meas := fun i => 5 - i)
    (Q := fun e st => st.ds = [] ∧ ((e = .exit 0 ∧ kindW s = 0 ∧ st.ts.length = 14) ∨ (e = .ret ∧ st.ts.getD 2 (.tup []) = .p (.int .i64 (kindW s))))) ?_ k 1 _ (KInv.mk ⟨by omega, by omega, by omega, by omega, by omega, by omega⟩ ⟨rfl, rfl, rfl, rfl⟩) (by omega)).mono ?_
  · rintro i st ⟨⟨h1, h5, a1, a2, a3, a4⟩, hlive⟩
    rw [loopF_live hlive]
    have : i = 1 ∨ i = 2 ∨ i = 3 ∨ i = 4 ∨ i = 5 := by omega
    have w1 : IntKind.i64.wrap (1 + 1) = 2 := rfl
    have w2 : IntKind.i64.wrap (2 + 1) = 3 := rfl
    have w3 : IntKind.i64.wrap (3 + 1) = 4 := rfl
    have w4 : IntKind.i64.wrap (4 + 1) = 5 := rfl
    have v2 : IntKind.i64.wrap 2 = 2 := rfl
    have v3 : IntKind.i64.wrap 3 = 3 := rfl
    have v4 : IntKind.i64.wrap 4 = 4 := rfl
    have v5 : IntKind.i64.wrap 5 = 5 := rfl
    unfold kindW
    rcases this with rfl | rfl | rfl | rfl | rfl
    · cases hz : (wInt == s) with
      | true =>
        have hz' : ([105, 110, 116] == s) = true := hz
        simp [Fn.f_typ_kindOf_b0, Fn.f_typ_kindOf_s0, hg, hz', asNat, asInt]
      | false =>
        have hz' : ([105, 110, 116] == s) = false := hz
        simp [Fn.f_typ_kindOf_b0, Fn.f_typ_kindOf_s0, hg, hz', asNat, asInt, v2]
        exact ⟨2, by omega, KInv.mk ⟨by omega, by omega, fun _ => hz, by omega, by omega, by omega⟩ ⟨rfl, rfl, rfl, rfl⟩⟩
    · have b1 := a1 (by omega)
      cases hz : (wLong == s) with
      | true =>
        have hz' : ([108, 111, 110, 103] == s) = true := hz
        simp [Fn.f_typ_kindOf_b0, Fn.f_typ_kindOf_s0, hg, hz', asNat, asInt, b1]
      | false =>
        have hz' : ([108, 111, 110, 103] == s) = false := hz
        simp [Fn.f_typ_kindOf_b0, Fn.f_typ_kindOf_s0, hg, hz', asNat, asInt, v3]
        exact ⟨3, by omega, KInv.mk ⟨by omega, by omega, fun _ => b1, fun _ => hz, by omega, by omega⟩ ⟨rfl, rfl, rfl, rfl⟩⟩
    · have b1 := a1 (by omega)
      have b2 := a2 (by omega)
      cases hz : (wText == s) with
      | true =>
        have hz' : ([116, 101, 120, 116] == s) = true := hz
        simp [Fn.f_typ_kindOf_b0, Fn.f_typ_kindOf_s0, hg, hz', asNat, asInt, b1, b2]
      | false =>
        have hz' : ([116, 101, 120, 116] == s) = false := hz
        simp [Fn.f_typ_kindOf_b0, Fn.f_typ_kindOf_s0, hg, hz', asNat, asInt, v4]
        exact ⟨4, by omega, KInv.mk ⟨by omega, by omega, fun _ => b1, fun _ => b2, fun _ => hz, by omega⟩ ⟨rfl, rfl, rfl, rfl⟩⟩
    · have b1 := a1 (by omega)
      have b2 := a2 (by omega)
      have b3 := a3 (by omega)
      cases hz : (wBytes == s) with
      | true =>
        have hz' : ([98, 121, 116, 101, 115] == s) = true := hz
        simp [Fn.f_typ_kindOf_b0, Fn.f_typ_kindOf_s0, hg, hz', asNat, asInt, b1, b2, b3]
      | false =>
        have hz' : ([98, 121, 116, 101, 115] == s) = false := hz
        simp [Fn.f_typ_kindOf_b0, Fn.f_typ_kindOf_s0, hg, hz', asNat, asInt, v5]
        exact ⟨5, by omega, KInv.mk ⟨by omega, by omega, fun _ => b1, fun _ => b2, fun _ => b3, fun _ => hz⟩ ⟨rfl, rfl, rfl, rfl⟩⟩
    · have b1 := a1 (by omega)
      have b2 := a2 (by omega)
      have b3 := a3 (by omega)
      have b4 := a4 (by omega)
      simp [Fn.f_typ_kindOf_b0, Fn.f_typ_kindOf_s0, b1, b2, b3, b4]
  · rintro e st ⟨h0, h⟩
    obtain ⟨ts, m', ds⟩ := st
    simp only at h0 h
    subst h0
    rcases h with ⟨rfl, h1, h2⟩ | ⟨rfl, h1⟩
    · rw [h1]
      match ts, h2 with
      | t0 :: t1 :: t2 :: t3 :: t4 :: t5 :: t6 :: t7 :: t8 :: t9 :: t10 :: t11 :: t12 :: t13 :: [], h2 => simp
    · simp [h1]
def rT (k m size e : Int) : AV := .tup [.p (tP k m), .p (.int .i64 size), .p (.int .i64 e)]
def nN : AV → Int
  | .tup [.p (.int _ n), _, _] => n
  | _ => 0
def nS : AV → Int
  | .tup [_, .p (.int _ n), _] => n
  | _ => 0
def nE : AV → Int
  | .tup [_, _, .p (.int _ n)] => n
  | _ => 0
theorem numS_form (s : List UInt8) : ∃ (v e : Int) (z : Nat), numS s = numT v z e ∧ z ≤ s.length := by
  unfold numS
  generalize hb : (s.head? == some 45) = neg
  have hl : ahead neg + (runD neg s).length ≤ s.length := by
    have h1 : ahead neg ≤ s.length := by
      cases neg with
      | false => exact Nat.zero_le _
      | true =>
        cases s with
        | nil => simp at hb
        | cons c r => simp [ahead]
    unfold runD
    have := (List.takeWhile_prefix isDig (l := s.drop (ahead neg))).length_le
    rw [List.length_drop] at this
    omega
  unfold numO
  split
  · exact ⟨0, 5, 0, rfl, Nat.zero_le _⟩
  split
  · exact ⟨_, 0, _, rfl, hl⟩
  · exact ⟨0, 10, 0, rfl, Nat.zero_le _⟩
def readT (s : List UInt8) : AV :=
  if kindW (s.take (nameLen s)) = 1 ∨ kindW (s.take (nameLen s)) = 2 then rT (kindW (s.take (nameLen s))) 0 (nameLen s) 0
  else if kindW (s.take (nameLen s)) = 0 ∨ s[nameLen s]? ≠ some 40 then rT 0 0 0 5
  else if nE (numS (s.drop (nameLen s + 1))) ≠ 0 then rT 0 0 0 (nE (numS (s.drop (nameLen s + 1))))
  else if s[nameLen s + 1 + (nS (numS (s.drop (nameLen s + 1)))).toNat]? ≠ some 41 then rT 0 0 0 5
  else if nN (numS (s.drop (nameLen s + 1))) < 1 ∨ 120 < nN (numS (s.drop (nameLen s + 1))) then rT 0 0 0 10
  else rT (kindW (s.take (nameLen s))) (nN (numS (s.drop (nameLen s + 1)))) ((nameLen s : Int) + 1 + nS (numS (s.drop (nameLen s + 1))) + 1) 0
end Hx

namespace Hx
open Go
set_option maxHeartbeats 2000000
def rdTy (s : List UInt8) : Int × Int × Int × Int := match readT s with
  | .tup [.p (.agg [.int _ k, .int _ m]), .p (.int _ z), .p (.int _ e)] => (k, m, z, e)
  | _ => (0, 0, 0, 0)
def pKind (r : List UInt8) : PR (Int × Int) :=
  if (rdTy (skipB r)).2.2.2 = 0 then .ok ((rdTy (skipB r)).1, (rdTy (skipB r)).2.1) ((skipB r).drop (rdTy (skipB r)).2.2.1.toNat) else .bad (rdTy (skipB r)).2.2.2 (skipB r)
theorem readT_far (s : List UInt8) : ∃ (k m : Int) (z : Nat) (e : Int), readT s = rT k m z e ∧ z ≤ s.length ∧ (e ≠ 0 → z = 0) := by
  have hn := nameLen_le s
  obtain ⟨v, e, z, hN, hz⟩ := numS_form (s.drop (nameLen s + 1))
  have e1 : nS (numS (s.drop (nameLen s + 1))) = z := by rw [hN]; rfl
  unfold readT
  rw [e1]
  split
  · exact ⟨_, _, nameLen s, 0, rfl, hn, fun h => absurd rfl h⟩
  split
  · exact ⟨0, 0, 0, 5, rfl, Nat.zero_le _, fun _ => rfl⟩
  split
  · exact ⟨0, 0, 0, _, rfl, Nat.zero_le _, fun _ => rfl⟩
  split
  · exact ⟨0, 0, 0, 5, rfl, Nat.zero_le _, fun _ => rfl⟩
  split
  · exact ⟨0, 0, 0, 10, rfl, Nat.zero_le _, fun _ => rfl⟩
  · rename_i h _
    have h1 : s[nameLen s + 1 + (z : Int).toNat]? = some 41 := by simpa using h
    obtain ⟨h2, _⟩ := List.getElem?_eq_some_iff.1 h1
    refine ⟨kindW (s.take (nameLen s)), nN (numS (s.drop (nameLen s + 1))), nameLen s + 1 + z + 1, 0, ?_, by omega, fun h => absurd rfl h⟩
    rw [show ((nameLen s + 1 + z + 1 : Nat) : Int) = (nameLen s : Int) + 1 + z + 1 from by omega]
theorem rdTy_of {s : List UInt8} {k m z e : Int} (h : readT s = rT k m z e) : rdTy s = (k, m, z, e) := by unfold rdTy; rw [h]; rfl
end Hx

namespace Hx
open Go
set_option linter.unusedSimpArgs false
set_option linter.unusedVariables false
set_option maxHeartbeats 8000000
set_option maxRecDepth 20000
variable {E : Env}
attribute [-simp] List.getD_eq_getElem?_getD getElem?_pos
def TyOk (E : Env) (f : Nat) : Prop := ∀ s : List UInt8, (s.length : Int) ≤ 1000000000 → ∀ k, s.length + 40 ≤ k → ∀ m, denF E (k + 1) f [.p (.str s)] m = some (.ret (readT s), m)
theorem app_at0 {m q : Mem} (h : q.length = m.length) (a : Blk) (l : Mem) : (q ++ a :: l)[m.length]? = some a := by
  rw [List.getElem?_append_right (by omega), h, Nat.sub_self]; rfl
theorem app_at1 {m q : Mem} (h : q.length = m.length) (a b : Blk) (l : Mem) : (q ++ a :: b :: l)[m.length + 1]? = some b := by
  rw [List.getElem?_append_right (by omega), h, Nat.add_sub_cancel_left]; rfl
theorem app_set0 {m q : Mem} (h : q.length = m.length) (a c : Blk) (l : Mem) : (q ++ a :: l).set m.length c = q ++ c :: l := by
  rw [List.set_append_right _ _ (by omega), h, Nat.sub_self]; rfl
theorem app_set1 {m q : Mem} (h : q.length = m.length) (a b c : Blk) (l : Mem) : (q ++ a :: b :: l).set (m.length + 1) c = q ++ a :: c :: l := by
  rw [List.set_append_right _ _ (by omega), h, Nat.add_sub_cancel_left]; rfl
theorem rd_kind (u : R10 E) (hn : E.fn 256 = some Fn.f_ddltext_reader_kind) (ty : TyOk E 89) {s r : List UInt8} (hs : (s.length : Int) ≤ 1000000000) (hr : r <:+ s) (k : Nat) (hk : s.length + 45 ≤ k) (id : Nat) (m : Mem) (hm : m[id]? = some (rdB s r)) :
    ∃ x y, denF E (k + 1) 256 [.ptr id 0] m = some ((pKind r).out (fun t => .p (.agg [.int .i64 t.1, .int .i64 t.2])), m.set id (rdB s (pKind r).rest) ++ [x, y]) := by
  have hid := own_id hm
  obtain ⟨j, rfl⟩ : ∃ j, k = j + 1 := ⟨k - 1, by omega⟩
  have hlen := suf_len (suf_skip hr)
  have hle := place_le (s := s) (r := skipB r)
  obtain ⟨kd, mx, z, e, hT, hz, hz0⟩ := readT_far (skipB r)
  have hT' := rdTy_of hT
  have hpl := place_drop (suf_skip hr) hz
  have hR := fun m => ty (skipB r) (by omega) j (by omega) m
  rw [hT] at hR
  refine ⟨.cells [.p (.int .i64 (if e = 0 then kd else 0)), .p (.int .i64 (if e = 0 then mx else 0))], .cells [.p (.int .i64 kd), .p (.int .i64 mx)], ?_⟩
  refine denF_wp_own hn rfl ?_
  have hL := fun m' hm' => rd_left' u hs hr j (by omega) id m' hm'
  have hid2 : id < (m ++ [Blk.cells [.p (.int .i64 0), .p (.int .i64 0)]]).length := by rw [List.length_append]; omega
  have hget : (m ++ [Blk.cells [.p (.int .i64 0), .p (.int .i64 0)]])[id]? = some (rdB s r) := by rw [List.getElem?_append_left hid]; exact hm
  have hL1 := hL _ hget
  have happ : ∀ (l : List Blk) (x : Blk), id < l.length → (m ++ l).set id x = m.set id x ++ l := fun l x _ => by rw [List.set_append_left _ _ hid]
  have hap1 : ∀ (l : List Blk) (x : Blk), (m ++ l).set id x = m.set id x ++ l := fun l x => by rw [List.set_append_left _ _ hid]
  have hap2 : ∀ (l : List Blk) (x y : Blk), (m.set id x ++ l).set id y = m.set id y ++ l := fun l x y => by rw [List.set_append_left _ _ (by rw [List.length_set]; exact hid), List.set_set]
  have hap3 : ∀ (l : List Blk) (x : Blk), (m.set id x ++ l)[id]? = some x := fun l x => by rw [List.getElem?_append_left (by rw [List.length_set]; exact hid)]; exact List.getElem?_set_self hid
  rw [hap1] at hL1
  have hB := fun m => rd_bad u j e m
  have hw : IntKind.i64.wrap ((placeOf10 s (skipB r) : Int) + z) = ((placeOf10 s ((skipB r).drop z) : Nat) : Int) := by rw [wrap_i64 (by omega) (by omega), hpl]; omega
  have hq : ∀ x : Blk, (m.set id x).length = m.length := fun x => List.length_set
  have g0 := fun (x a : Blk) (l : Mem) => app_at0 (hq x) a l
  have g1 := fun (x a b : Blk) (l : Mem) => app_at1 (hq x) a b l
  have s0 := fun (x a c : Blk) (l : Mem) => app_set0 (hq x) a c l
  have s1 := fun (x a b c : Blk) (l : Mem) => app_set1 (hq x) a b c l
  unfold pKind
  rw [hT']
  unfold rT tP at hR
  by_cases he : e = 0
  · subst he
    unfold rdB rdCells at *
    simp [Fn.f_ddltext_reader_kind, hL1, hR, hap1, hap2, hap3, g0, g1, s0, s1, hid, hw, PR.out, PR.rest, bne]
  · have hb : (e == 0) = false := by simpa using he
    simp [Fn.f_ddltext_reader_kind, hL1, hR, hB, hap1, hap2, hap3, g0, g1, s0, s1, hid, hb, he, PR.out, PR.rest, bne]
end Hx

namespace Hx
open Go
set_option linter.unusedSimpArgs false
set_option linter.unusedVariables false
set_option maxHeartbeats 8000000
set_option maxRecDepth 20000
variable {E : Env}
attribute [-simp] List.getD_eq_getElem?_getD getElem?_pos
theorem P_kind (u : P10 E) (hn : E.fn 264 = some Fn.f_haulageref10_P_kind) (bl : BlanksOk E) (ty : TyOk E 90) (f90 : E.fn 90 = some Fn.f_haulageref06_Read) {s r : List UInt8} (hs : (s.length : Int) ≤ 1000000000) (hr : r <:+ s) (k : Nat) (hk : s.length + 45 ≤ k) (id : Nat) (m : Mem) (hm : m[id]? = some (pB s r 0)) :
    ∃ x y kd mx, denF E (k + 1) 264 [.ptr id 0] m = some (.ret (.p (.agg [.int .i64 kd, .int .i64 mx])), m.set id (pB s (pKind r).rest (pKind r).err) ++ [x, y])
      ∧ ∀ t q, pKind r = .ok t q → t = (kd, mx) := by
  have hid := own_id hm
  obtain ⟨j, rfl⟩ : ∃ j, k = j + 1 := ⟨k - 1, by omega⟩
  have hlen := suf_len (suf_skip hr)
  have hle := place_le (s := s) (r := skipB r)
  have hdr := drop_suf (suf_skip hr)
  obtain ⟨kd, mx, z, e, hT, hz, hz0⟩ := readT_far (skipB r)
  have hT' := rdTy_of hT
  have hpl := place_drop (suf_skip hr) hz
  have hR := fun m => ty (skipB r) (by omega) j (by omega) m
  rw [hT] at hR
  have hle2 : ((placeOf10 s (skipB r) : Nat) : Int) ≤ s.length := by omega
  have hap1 : ∀ (l : List Blk) (x : Blk), (m ++ l).set id x = m.set id x ++ l := fun l x => by rw [List.set_append_left _ _ hid]
  have hap2 : ∀ (l : List Blk) (x y : Blk), (m.set id x ++ l).set id y = m.set id y ++ l := fun l x y => by rw [List.set_append_left _ _ (by rw [List.length_set]; exact hid), List.set_set]
  have hap3 : ∀ (l : List Blk) (x : Blk), (m.set id x ++ l)[id]? = some x := fun l x => by rw [List.getElem?_append_left (by rw [List.length_set]; exact hid)]; exact List.getElem?_set_self hid
  have hget : (m ++ [Blk.cells [.p (.int .i64 0), .p (.int .i64 0)]])[id]? = some (pB s r 0) := by rw [List.getElem?_append_left hid]; exact hm
  have hB := bl hs hr j (by omega) id _ hget
  rw [hap1] at hB
  have hbad := fun (l : List Blk) => P_bad0 u (s := s) (r := skipB r) e j id (m.set id (pB s (skipB r) 0) ++ l) (hap3 _ _)
  simp only [hap2] at hbad
  have hw : IntKind.i64.wrap ((placeOf10 s (skipB r) : Int) + z) = ((placeOf10 s ((skipB r).drop z) : Nat) : Int) := by rw [wrap_i64 (by omega) (by omega), hpl]; omega
  have hq : ∀ x : Blk, (m.set id x).length = m.length := fun x => List.length_set
  have g0 := fun (x a : Blk) (l : Mem) => app_at0 (hq x) a l
  have g1 := fun (x a b : Blk) (l : Mem) => app_at1 (hq x) a b l
  have s0 := fun (x a c : Blk) (l : Mem) => app_set0 (hq x) a c l
  have s1 := fun (x a b c : Blk) (l : Mem) => app_set1 (hq x) a b c l
  have hid1 : id < m.length + 1 := by omega
  have hid2 : id < m.length + 2 := by omega
  have hid3 : id < m.length + 1 + 1 := by omega
  have p90 : Fn.f_haulageref06_Read.pure = true := rfl
  have hend : (pKind r).rest = (skipB r).drop z ∧ (pKind r).err = e ∧ ∀ t q, pKind r = .ok t q → t = (kd, mx) := by
    unfold pKind
    rw [hT']
    by_cases he : e = 0
    · subst he; refine ⟨by simp [PR.rest], by simp [PR.err], ?_⟩; intro t q h; simp at h; exact h.1.symm
    · have := hz0 he; subst this; simp [he, PR.rest, PR.err]
  refine ⟨.cells [.p (.int .i64 kd), .p (.int .i64 mx)], .cells [.p (.int .i64 kd), .p (.int .i64 mx)], kd, mx, ?_, hend.2.2⟩
  rw [hend.1, hend.2.1]
  refine denF_wp_own hn rfl ?_
  unfold rT tP at hR
  unfold pB at *
  simp (maxSteps := 4000000) [Fn.f_haulageref10_P_kind, hB, hR, hdr, hle, hle2, f90, p90, hbad, hap1, hap2, hap3, g0, g1, s0, s1, hid, hid1, hid2, hid3, hw, bne]
end Hx

namespace Hx
open Go
set_option linter.unusedSimpArgs false
set_option linter.unusedVariables false
set_option maxHeartbeats 8000000
set_option maxRecDepth 20000
variable {E : Env}
attribute [-simp] List.getD_eq_getElem?_getD getElem?_pos
theorem set_own {id : Nat} {m : Mem} {x : Blk} (hm : m[id]? = some x) : m.set id x = m := by
  obtain ⟨h1, h2⟩ := List.getElem?_eq_some_iff.1 hm
  rw [← h2, List.set_getElem_self]
theorem app_at0' (m : Mem) (a : Blk) (l : Mem) : (m ++ a :: l)[m.length]? = some a := by
  rw [List.getElem?_append_right (by omega), Nat.sub_self]; rfl
theorem P_blanks1 (u : P10 E) {s r : List UInt8} {e : Int} (he : e ≠ 0) (k : Nat) (hk : 2 ≤ k) (id : Nat) (m : Mem) (hm : m[id]? = some (pB s r e)) :
    denF E (k + 1) 242 [.ptr id 0] m = some (.ret (.tup []), m) := by
  refine denF_wp_own u.blanks rfl ?_
  have hid := own_id hm
  have hb : (e == 0) = false := by simpa using he
  simp [Fn.f_haulageref10_P_blanks]
  refine (loop_wp (α := Unit) (I := fun _ st => Live Fn.f_haulageref10_P_blanks_k0 (Fn.f_haulageref10_P_blanks_s0 (.ptr id 0)) m st) (meas := fun _ => 0)
    (Q := fun e st => e = .exit 0 ∧ st.ds = [] ∧ st.m = m) ?_ k () _ ⟨rfl, rfl, rfl, rfl⟩ (by omega)).mono ?_
  · rintro _ st hlive
    rw [loopF_live hlive]
    unfold pB at *
    simp (maxSteps := 4000000) [Fn.f_haulageref10_P_blanks_b0, Fn.f_haulageref10_P_blanks_s0, hid, hm, hb]
  · rintro e st ⟨he, hds, hm⟩
    subst he
    simp [hds, hm]
theorem P_name1 (u : P10 E) (hn : E.fn 260 = some Fn.f_haulageref10_P_name) {s r : List UInt8} {e : Int} (he : e ≠ 0) (hs : (s.length : Int) ≤ 1000000000) (hr : r <:+ s) (k : Nat) (hk : s.length + 9 ≤ k) (id : Nat) (m : Mem) (hm : m[id]? = some (pB s r e)) :
    denF E (k + 1) 260 [.ptr id 0] m = some (.ret (.p (.str [])), m) := by
  refine denF_wp_own hn rfl ?_
  obtain ⟨j, rfl⟩ : ∃ j, k = j + 1 := ⟨k - 1, by omega⟩
  obtain ⟨i, rfl⟩ : ∃ i, j = i + 1 := ⟨j - 1, by omega⟩
  have hid := own_id hm
  have hb : (e == 0) = false := by simpa using he
  have hB := P_blanks1 u he i (by omega) id m hm
  have hP := P_peek u hs hr (i + 1) (by omega) id m hid (e := e) (by rw [set_own hm]; exact hB)
  rw [set_own hm] at hP
  unfold pB at *
  simp [Fn.f_haulageref10_P_name, hP, hid, hm, hb, bne]
theorem P_want1 (u : P10 E) (hn : E.fn 262 = some Fn.f_haulageref10_P_want) {s r : List UInt8} {e : Int} (he : e ≠ 0) (w : List UInt8) (k : Nat) (hk : 4 ≤ k) (id : Nat) (m : Mem) (hm : m[id]? = some (pB s r e)) :
    denF E (k + 1) 262 [.ptr id 0, .p (.str w)] m = some (.ret (.tup []), m) := by
  refine denF_wp_own hn rfl ?_
  obtain ⟨j, rfl⟩ : ∃ j, k = j + 1 := ⟨k - 1, by omega⟩
  have hid := own_id hm
  have hb : (e == 0) = false := by simpa using he
  have hB := P_blanks1 u he j (by omega) id m hm
  unfold pB at *
  simp [Fn.f_haulageref10_P_want, hB, hid, hm, hb, bne]
theorem P_kind1 (u : P10 E) (hn : E.fn 264 = some Fn.f_haulageref10_P_kind) {s r : List UInt8} {e : Int} (he : e ≠ 0) (k : Nat) (hk : 4 ≤ k) (id : Nat) (m : Mem) (hm : m[id]? = some (pB s r e)) :
    denF E (k + 1) 264 [.ptr id 0] m = some (.ret (.p (.agg [.int .i64 0, .int .i64 0])), m ++ [.cells [.p (.int .i64 0), .p (.int .i64 0)]]) := by
  refine denF_wp_own hn rfl ?_
  obtain ⟨j, rfl⟩ : ∃ j, k = j + 1 := ⟨k - 1, by omega⟩
  have hid := own_id hm
  have hid1 : id < m.length + 1 := by omega
  have hb : (e == 0) = false := by simpa using he
  have hget : (m ++ [Blk.cells [.p (.int .i64 0), .p (.int .i64 0)]])[id]? = some (pB s r e) := by rw [List.getElem?_append_left hid]; exact hm
  have hB := P_blanks1 u he j (by omega) id _ hget
  have g0 := fun (a : Blk) (l : Mem) => app_at0' m a l
  unfold pB at *
  simp [Fn.f_haulageref10_P_kind, hB, hid, hid1, hget, hm, hb, g0, bne]
end Hx
