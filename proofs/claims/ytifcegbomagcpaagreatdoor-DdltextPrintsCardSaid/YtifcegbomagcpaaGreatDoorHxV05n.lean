/-
  HxV05n: the value that a text begins with, as the document reads it: her pieces; the numbers.
-/
import Derived.Test.YtifcegbomagcpaaGreatDoorHxV05m
import Derived.Test.YtifcegbomagcpaaGreatDoorHxFn05
import Derived.Test.YtifcegbomagcpaaGreatDoorHxM05b
import Derived.Test.YtifcegbomagcpaaGreatDoorHxV05f
namespace Hx
open Go
set_option linter.unusedSimpArgs false
set_option linter.unusedVariables false
set_option maxHeartbeats 8000000
set_option maxRecDepth 20000
variable {E : Env}
attribute [-simp] List.getD_eq_getElem?_getD getElem?_pos
def printS (a n : Int) (s : List UInt8) : List UInt8 :=
  if a = 1 then digits n else if a = 2 then digits n ++ [108] else if a = 3 then 34 :: (quotes s ++ [34]) else if a = 4 then 120 :: 34 :: (hexes s ++ [34]) else [110, 117, 108, 108]
def PbInv (a n : Int) (s : List UInt8) (i : Nat) (st : St) : Prop := ∃ (t : Nat) (m : Mem), i ≤ s.length ∧ t ≠ 0 ∧ m[t]? = some (.tok 1 (2 + 2 * i)) ∧ m[0]? = some (.cells [.p (.int .i64 a), .p (.int .i64 n), .p (.str s)]) ∧
  Live Fn.f_value_Print_k0 (Fn.f_value_Print_s0 (.ptr 0 0) (.tv 1 (byteRows (120 :: 34 :: hexes (s.take i))) t) (.p (.int .i64 s.length)) (.p (.int .i64 i))) m st
theorem PbInv.mk {a n : Int} {s : List UInt8} {i : Nat} {st : St} (t : Nat) (m : Mem) (h1 : i ≤ s.length) (h2 : t ≠ 0) (h3 : m[t]? = some (.tok 1 (2 + 2 * i))) (h4 : m[0]? = some (.cells [.p (.int .i64 a), .p (.int .i64 n), .p (.str s)]))
  (h5 : Live Fn.f_value_Print_k0 (Fn.f_value_Print_s0 (.ptr 0 0) (.tv 1 (byteRows (120 :: 34 :: hexes (s.take i))) t) (.p (.int .i64 s.length)) (.p (.int .i64 i))) m st) : PbInv a n s i st := ⟨t, m, h1, h2, h3, h4, h5⟩
theorem value_Print (u : P05 E) (a n : Int) (s : List UInt8) (hn : isI64 n) (hs : (s.length : Int) ≤ 1000000000) (k : Nat) (hk : s.length + 60 ≤ k) (m : Mem) :
    denF E (k + 1) 43 [.p (.agg [.int .i64 a, .int .i64 n, .str s])] m = some (.ret (if rightV a n s then .tup [.p (.str (printS a n s)), .p (.int .i64 0)] else .tup [.p (.str []), .p (.int .i64 2)]), m) := by
  refine denF_wp u.print rfl (args' := [.p (.agg [.int .i64 a, .int .i64 n, .str s])]) rfl ?_
  obtain ⟨j, rfl⟩ : ∃ j, k = j + 25 := ⟨k - 25, by omega⟩
  have hR := fun m => value_Right u.w.v a n s hn (by omega) (j + 24) (by omega) m
  have hD := fun m => value_Digits u.vdig j n hn.1 hn.2 m
  have hQ := fun m => name_Quote u.h.q s hs (j + 24) (by omega) m
  unfold vP at hR
  unfold printS
  cases hr : rightV a n s with
  | false =>
    rw [hr] at hR
    simp [Fn.f_value_Print, hR]
  | true =>
    rw [hr] at hR
    have hdl := digits_64 hn.1 hn.2
    have hdl2 : (digits n).length + 1 ≤ strLim := by unfold strLim; omega
    by_cases h1 : a = 1
    · subst h1
      simp [Fn.f_value_Print, hR, hD]
    have b1 : (a == 1) = false := by simpa using h1
    by_cases h2 : a = 2
    · subst h2
      simp [Fn.f_value_Print, hR, hD, hdl2]
    have b2 : (a == 2) = false := by simpa using h2
    by_cases h3 : a = 3
    · subst h3
      simp [Fn.f_value_Print, hR, hQ]
    have b3 : (a == 3) = false := by simpa using h3
    by_cases h4 : ¬ a = 4
    · have b4 : (a == 4) = false := by simpa using h4
      simp [Fn.f_value_Print, hR, b1, b2, b3, b4, h1, h2, h3, h4]
    obtain rfl := Classical.not_not.1 h4
    simp [Fn.f_value_Print, hR]
    refine (loop_wp (α := Nat) (I := fun i st => PbInv 4 n s i st) (meas := fun i => s.length - i)
      (Q := fun e st => e = .exit 1 ∧ st.ds = [] ∧ st.ts.length = 57 ∧ ∃ t, st.ts.getD 4 (.tup []) = .tv 1 (byteRows (120 :: 34 :: hexes s)) t ∧ st.m[t]? = some (.tok 1 (2 + 2 * s.length))) ?_ (j + 25) 0 _
      (PbInv.mk 1 _ (Nat.zero_le _) (by decide) rfl rfl ⟨rfl, rfl, rfl, rfl⟩) (by omega)).mono ?_
    · rintro i st ⟨t, m, hi0, ht0, ht, hm0, hlive⟩
      rw [loopF_live hlive]
      by_cases hi : i < s.length
      · have hi' : (i : Int) < s.length := by omega
        obtain ⟨c, hc⟩ : ∃ c, s[i]? = some c := ⟨_, List.getElem?_eq_getElem hi⟩
        have hw : IntKind.i64.wrap ((i : Int) + 1) = ((i + 1 : Nat) : Int) := by rw [wrap_i64 (by omega) (by omega)]; omega
        have hcl := UInt8.toNat_lt c
        have hqs : hexes (s.take (i + 1)) = hexes (s.take i) ++ hexC c := by rw [take_snoc hc, hexes_snoc]
        have hl := hexes_len (s.take i)
        have htl : (s.take i).length = i := by rw [List.length_take]; omega
        have x1 := hexS_at (n := c.toNat / 16) (by omega)
        have x2 := hexS_at (n := c.toNat % 16) (by omega)
        have d1 := fdiv16 c.toNat
        have d2 : bitsI .and .u8 (c.toNat : Int) 15 = some ((c.toNat % 16 : Nat) : Int) := by
          rw [and_u8_15 (by omega) (by omega)]
          rfl
        unfold hexC at hqs
        generalize hq1 : c.toNat / 16 = q1 at *
        generalize hq2 : c.toNat % 16 = q2 at *
        have ml := get_lt hm0
        have ht2 : ∀ z : Blk, (m ++ [z])[t]? = some (.tok 1 (2 + 2 * i)) := fun z => get_app ht _
        have hbl : (byteRows (120 :: 34 :: hexes (s.take i))).length = 2 + 2 * i := by rw [byteRows_len', List.length_cons, List.length_cons, hl, htl]; omega
        have happ : byteRows (120 :: 34 :: hexes (s.take (i + 1))) = byteRows (120 :: 34 :: hexes (s.take i)) ++ [[PV.int .u8 (hexd q1).toNat], [PV.int .u8 (hexd q2).toNat]] := by
          rw [hqs]; simp [byteRows, byteRow]
        generalize hX : byteRows (120 :: 34 :: hexes (s.take i)) = X at *
        have hb2 : 2 + 2 * i + 2 ≤ room := by unfold room; omega
        simp [Fn.f_value_Print_b0, Fn.f_value_Print_s0, hi, hi', hc, hw, hm0, ml, d1, d2, x1, x2, ht2, hbl, hb2, -Int.natCast_add]
        refine ⟨i + 1, by omega, PbInv.mk t _ hi ht0 ?_ ?_ ⟨rfl, by simp [keep, Fn.f_value_Print_k0, Fn.f_value_Print_s0, happ], rfl, rfl⟩⟩
        · rw [get_set (ht2 _)]
          have : 2 + 2 * i + 2 = 2 + 2 * (i + 1) := by omega
          rw [this]
        · rw [get_ne ht0]
          exact get_app hm0 _
      · have hi' : ¬ (i : Int) < s.length := by omega
        have hi2 : i = s.length := by omega
        have e : s.take i = s := List.take_of_length_le (by omega)
        rw [e] at hlive
        simp [Fn.f_value_Print_b0, Fn.f_value_Print_s0, hi, hi', e]
        rw [← hi2]
        exact ht
    · rintro e st ⟨rfl, h1, h2, t, h3, ht⟩
      obtain ⟨ts, m', ds⟩ := st
      simp only at h1 h2 h3 ht
      subst h1
      have hl := hexes_len s
      have hbl : (byteRows (120 :: 34 :: hexes s)).length = 2 + 2 * s.length := by rw [byteRows_len', List.length_cons, List.length_cons, hl]; omega
      have happ : byteRows (120 :: 34 :: hexes s) ++ [[PV.int .u8 34]] = byteRows (120 :: 34 :: (hexes s ++ [34])) := by simp [byteRows, byteRow]
      have hun := unBytes_rows' (120 :: 34 :: (hexes s ++ [34]))
      have hb2 : 2 + 2 * s.length + 1 ≤ room := by unfold room; omega
      generalize byteRows (120 :: 34 :: hexes s) = X at *
      have ht2 : ∀ z : Blk, (m' ++ [z])[t]? = some (.tok 1 (2 + 2 * s.length)) := fun z => get_app ht _
      match ts, h2, h3 with
      | t0 :: t1 :: t2 :: t3 :: t4 :: t5 :: t6 :: t7 :: t8 :: t9 :: t10 :: t11 :: t12 :: t13 :: t14 :: t15 :: t16 :: t17 :: t18 :: t19 :: t20 :: t21 :: t22 :: t23 :: t24 :: t25 :: t26 :: t27 :: t28 :: t29 :: t30 :: t31 :: t32 :: t33 :: t34 :: t35 :: t36 :: t37 :: t38 :: t39 :: t40 :: t41 :: t42 :: t43 :: t44 :: t45 :: t46 :: t47 :: t48 :: t49 :: t50 :: t51 :: t52 :: t53 :: t54 :: t55 :: t56 :: [], h2, h3 =>
        simp only [getD_zero', getD_succ'] at h3
        subst h3
        simp [ht2, hbl, hb2, happ, hun]
theorem ref_VPrint (u : P05 E) (h44 : E.fn 44 = some Fn.f_haulageref05_Print) (h60 : E.fn 60 = some Fn.f_haulageref04_Quote) (a n : Int) (s : List UInt8) (hn : isI64 n) (hs : (s.length : Int) ≤ 1000000000) (k : Nat) (hk : s.length + 60 ≤ k) (m : Mem) :
    denF E (k + 1) 44 [.p (.agg [.int .i64 a, .int .i64 n, .str s])] m = some (.ret (.p (.str (printS a n s))), m) := by
  refine denF_wp h44 rfl (args' := [.p (.agg [.int .i64 a, .int .i64 n, .str s])]) rfl ?_
  obtain ⟨j, rfl⟩ : ∃ j, k = j + 25 := ⟨k - 25, by omega⟩
  have hD := fun m => ref_Digits' u.rdig n hn.1 hn.2 (j + 3) m
  have hQ := fun m => ref_Quote u.h.q h60 s hs (j + 24) (by omega) m
  have hH := fun m => ref_hex u.h s hs (j + 24) (by omega) m
  unfold printS
  have hdl := digits_64 hn.1 hn.2
  have hdl2 : (digits n).length + 1 ≤ strLim := by unfold strLim; omega
  have hl := hexes_len s
  have hl1 : (hexes s).length + 1 + 1 ≤ strLim := by unfold strLim; omega
  have hl2 : (hexes s).length + 1 + 1 + 1 ≤ strLim := by unfold strLim; omega
  have hl3 : 2 + (hexes s).length ≤ strLim := by unfold strLim; omega
  by_cases h1 : a = 1
  · subst h1
    simp [Fn.f_haulageref05_Print, hD]
  have b1 : (a == 1) = false := by simpa using h1
  by_cases h2 : a = 2
  · subst h2
    simp [Fn.f_haulageref05_Print, hD, hdl2]
  have b2 : (a == 2) = false := by simpa using h2
  by_cases h3 : a = 3
  · subst h3
    simp [Fn.f_haulageref05_Print, hQ]
  have b3 : (a == 3) = false := by simpa using h3
  by_cases h4 : a = 4
  · subst h4
    simp [Fn.f_haulageref05_Print, hH, hl1, hl2, hl3]
  have b4 : (a == 4) = false := by simpa using h4
  simp [Fn.f_haulageref05_Print, b1, b2, b3, b4, h1, h2, h3, h4]
end Hx

namespace Hx
open Go
set_option linter.unusedSimpArgs false
set_option linter.unusedVariables false
set_option maxHeartbeats 4000000
set_option maxRecDepth 20000
variable {E : Env}
attribute [-simp] List.getD_eq_getElem?_getD getElem?_pos
structure D05 (E : Env) : Prop where
  m : M05 E
  vdig : E.fn 39 = some Fn.f_value_Digits
  rdig : E.fn 40 = some Fn.f_haulageref05_Digits
end Hx

namespace Hx
open Go
set_option linter.unusedSimpArgs false
set_option linter.unusedVariables false
set_option maxHeartbeats 8000000
set_option maxRecDepth 20000
variable {E : Env}
attribute [-simp] List.getD_eq_getElem?_getD getElem?_pos
theorem printS_len {a n : Int} {s : List UInt8} (hn : isI64 n) : (printS a n s).length ≤ 4 * s.length + 25 := by
  have h1 := digits_64 hn.1 hn.2
  have h2 := quotes_len s
  have h3 := hexes_len s
  unfold printS
  split
  · omega
  split
  · rw [List.length_append]; simp; omega
  split
  · simp; omega
  split
  · simp; omega
  · simp
end Hx

namespace Hx
open Go
def opWords : List (List UInt8) := [[99, 114, 101, 97, 116, 101], [100, 114, 111, 112], [114, 101, 110, 97, 109, 101], [97, 100, 100], [99, 117, 116], [99, 97, 108, 108], [119, 105, 100, 101, 110], [112, 114, 101, 115, 101, 116]]
end Hx

namespace Hx
open Go
def pValue (null : Bool) (r : List UInt8) : PR (Int × Int × List UInt8) :=
  if (readR (skipB r)).2.2.2.2 ≠ 0 then .bad (readR (skipB r)).2.2.2.2 (skipB r)
  else if (readR (skipB r)).1 = 0 ∧ null = false then .bad 11 (skipB r)
  else .ok ((readR (skipB r)).1, (readR (skipB r)).2.1, (readR (skipB r)).2.2.1) ((skipB r).drop (readR (skipB r)).2.2.2.1.toNat)
structure Col where
  name : List UInt8
  kind : Int
  max : Int
  null : Bool
  dk : Int
  dn : Int
  ds : List UInt8
def wNul : List UInt8 := [110, 117, 108, 108]
def wDef : List UInt8 := [100, 101, 102, 97, 117, 108, 116]
def pColTail (n : List UInt8) (t : Int × Int) (null : Bool) (r : List UInt8) : PR Col :=
  if (pTake wDef r).1 then (pValue false (pTake wDef r).2).bind fun v r => .ok ⟨n, t.1, t.2, null, v.1, v.2.1, v.2.2⟩ r else .ok ⟨n, t.1, t.2, null, 0, 0, []⟩ (pTake wDef r).2
def pCol (r : List UInt8) : PR Col := (pName r).bind fun n r => (pKind r).bind fun t r => pColTail n t (pTake wNul r).1 (pTake wNul r).2
def pColsF : Nat → List Col → List UInt8 → PR (List Col)
  | 0, _, r => .bad 3 (skipB r)
  | k + 1, l, r => (pCol (skipB r)).bind fun c r => if (pSign 44 r).1 then pColsF k (l ++ [c]) (pSign 44 r).2 else (pWantS 41 (pSign 44 r).2).bind fun _ r => .ok (l ++ [c]) r
structure Ddl where
  op : Int
  table : List UInt8 := []
  column : List UInt8 := []
  to : List UInt8 := []
  key : List UInt8 := []
  kind : Int := 0
  max : Int := 0
  null : Bool := false
  dk : Int := 0
  dn : Int := 0
  ds : List UInt8 := []
  cols : List Col := []
def wKey : List UInt8 := [107, 101, 121]
def wTo : List UInt8 := [116, 111]
end Hx

namespace Hx
open Go
set_option maxHeartbeats 2000000
end Hx

namespace Hx
open Go
set_option linter.unusedSimpArgs false
set_option linter.unusedVariables false
set_option maxHeartbeats 8000000
set_option maxRecDepth 20000
variable {E : Env}
attribute [-simp] List.getD_eq_getElem?_getD getElem?_pos
def ValOk (E : Env) (f : Nat) : Prop := ∀ s : List UInt8, (s.length : Int) ≤ 1000000000 → ∀ k, s.length + 300 ≤ k → ∀ m, denF E (k + 1) f [.p (.str s)] m = some (.ret (rdV (readR s)), m)
end Hx

namespace Hx
open Go
set_option linter.unusedSimpArgs false
set_option linter.unusedVariables false
set_option maxHeartbeats 4000000
set_option maxRecDepth 20000
variable {E : Env}
attribute [-simp] List.getD_eq_getElem?_getD getElem?_pos
structure P10 (E : Env) : Prop where
  n04 : N04 E
  blanks : E.fn 242 = some Fn.f_haulageref10_P_blanks
  bad : E.fn 243 = some Fn.f_haulageref10_P_bad
  peek : E.fn 258 = some Fn.f_haulageref10_P_peek
  nright : E.fn 188 = some Fn.f_haulageref04_Right
def pB (s r : List UInt8) (e : Int) : Blk := .cells [.p (.str s), .p (.int .i64 (placeOf10 s r)), .p (.int .i64 e)]
theorem ref_NRightN (n04 : N04 E) (nright : E.fn 188 = some Fn.f_haulageref04_Right) (w : List UInt8) (hw : (w.length : Int) ≤ 1000000000) (k : Nat) (hk : w.length + 5 ≤ k) (m : Mem) :
    denF E (k + 1) 188 [.p (.str w)] m = some (.ret (.p (.bool (rightN w))), m) := by
  refine denF_wp nright rfl (args' := [.p (.str w)]) rfl ?_
  obtain ⟨j, rfl⟩ : ∃ j, k = j + 1 := ⟨k - 1, by omega⟩
  have hN := fun m => ref_NRead n04 w (by omega) j (by omega) m
  unfold rightN
  cases w with
  | nil => simp [Fn.f_haulageref04_Right]
  | cons c w =>
    have h0 : (0 : Int) < ((c :: w).length : Int) := by simp only [List.length_cons]; omega
    by_cases h : (c :: w).length ≤ 16
    · have h2 : ((nameLen (c :: w) : Int) == ((c :: w).length : Int)) = decide (nameLen (c :: w) = (c :: w).length) := by
        by_cases h3 : nameLen (c :: w) = (c :: w).length
        · rw [h3]; simp
        · rw [decide_eq_false h3]; simpa using (by omega : ¬ ((nameLen (c :: w) : Int) = ((c :: w).length : Int)))
      generalize hq : c :: w = q at *
      have he : q.isEmpty = false := by subst hq; rfl
      have h1' : ((q.length : Int) ≤ 16) := by omega
      have h0' : 0 < q.length := by omega
      simp [Fn.f_haulageref04_Right, hN, h0, h0', he, h, h1', h2]
    · generalize hq : c :: w = q at *
      have he : q.isEmpty = false := by subst hq; rfl
      have h1' : ¬ ((q.length : Int) ≤ 16) := by omega
      have h0' : 0 < q.length := by omega
      simp [Fn.f_haulageref04_Right, hN, h0, h0', he, h, h1']
end Hx

namespace Hx
open Go
set_option linter.unusedSimpArgs false
set_option linter.unusedVariables false
set_option maxHeartbeats 8000000
set_option maxRecDepth 20000
variable {E : Env}
attribute [-simp] List.getD_eq_getElem?_getD getElem?_pos
end Hx

namespace Hx
open Go
set_option maxHeartbeats 2000000
end Hx

namespace Hx
open Go
set_option linter.unusedSimpArgs false
set_option linter.unusedVariables false
set_option maxHeartbeats 16000000
set_option maxRecDepth 20000
variable {E : Env}
attribute [-simp] List.getD_eq_getElem?_getD getElem?_pos
structure S10 (E : Env) : Prop where
  u : R10 E
  kind : E.fn 256 = some Fn.f_ddltext_reader_kind
  value : E.fn 257 = some Fn.f_ddltext_reader_value
  column : E.fn 255 = some Fn.f_ddltext_reader_column
  columns : E.fn 253 = some Fn.f_ddltext_reader_columns
  ty : TyOk E 89
  va : ValOk E 26
def colP (c : Col) : List PV := [.int .i64 0, .str c.name, .int .i64 c.kind, .int .i64 c.max, .bool c.null, .int .i64 c.dk, .int .i64 c.dn, .str c.ds]
end Hx

namespace Hx
open Go
set_option linter.unusedSimpArgs false
set_option linter.unusedVariables false
set_option maxHeartbeats 16000000
set_option maxRecDepth 20000
variable {E : Env}
attribute [-simp] List.getD_eq_getElem?_getD getElem?_pos
def GrX (n : Nat) (rows : List (List PV)) (ov : AV) (a : Nat) (x : Mem) : Prop := (rows = [] ∧ ov = .p .nils) ∨ (rows ≠ [] ∧ ∃ t, ov = .tv n rows (a + t) ∧ x[t]? = some (.tok n rows.length))
def ColI (s : List UInt8) (id : Nat) (m : Mem) (P : PR (List Col)) (a : List Col × List UInt8) (st : St) : Prop :=
  ∃ (ov : AV) (x : Mem), a.1.length ≤ 10 ∧ a.2 <:+ s ∧ pColsF (10 - a.1.length) a.1 a.2 = P ∧ GrX 8 (a.1.map colP) ov m.length x ∧ Live Fn.f_ddltext_reader_columns_k0 (Fn.f_ddltext_reader_columns_s0 (.ptr id 0) ov) (m.set id (rdB s a.2) ++ x) st
theorem ColI.mk {s : List UInt8} {id : Nat} {m : Mem} {P : PR (List Col)} {st : St} (l : List Col) (r : List UInt8) (ov : AV) (x : Mem) (h1 : l.length ≤ 10) (h2 : r <:+ s) (h3 : pColsF (10 - l.length) l r = P) (h4 : GrX 8 (l.map colP) ov m.length x) (h5 : Live Fn.f_ddltext_reader_columns_k0 (Fn.f_ddltext_reader_columns_s0 (.ptr id 0) ov) (m.set id (rdB s r) ++ x) st) : ColI s id m P (l, r) st := ⟨ov, x, h1, h2, h3, h4, h5⟩
theorem GrX.first (row : List PV) (a : Nat) (X : Mem) : GrX 8 [row] (.tv 8 [row] (a + (X.length + 1))) a (X ++ [Blk.tok 8 1, Blk.tok 8 1]) :=
  .inr ⟨by simp, X.length + 1, rfl, by rw [List.getElem?_append_right (by omega), Nat.add_sub_cancel_left]; rfl⟩
theorem GrX.more {rows : List (List PV)} (row : List PV) (a : Nat) {X : Mem} {t : Nat} {b : Blk} (h : X[t]? = some b) : GrX 8 (rows ++ [row]) (.tv 8 (rows ++ [row]) (a + t)) a (X.set t (.tok 8 (rows.length + 1))) :=
  .inr ⟨by simp, t, rfl, by rw [List.getElem?_set_self (get_lt h)]; simp⟩
end Hx

namespace Hx
open Go
set_option linter.unusedSimpArgs false
set_option linter.unusedVariables false
set_option maxHeartbeats 8000000
set_option maxRecDepth 20000
variable {E : Env}
attribute [-simp] List.getD_eq_getElem?_getD getElem?_pos
def XCode.fst : XCode → XCode | .seq a _ => a | c => c
def XCode.snd : XCode → XCode | .seq _ b => b | c => c
end Hx
