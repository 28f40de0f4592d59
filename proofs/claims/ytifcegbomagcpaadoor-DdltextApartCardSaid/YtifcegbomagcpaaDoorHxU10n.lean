/-
  HxU10n: the program's reader of changes: types.
-/
import Derived.Test.YtifcegbomagcpaaDoorHxU06g
import Derived.Test.YtifcegbomagcpaaDoorHxU05g
import Derived.Test.YtifcegbomagcpaaDoorHxRow
import Derived.Test.YtifcegbomagcpaaDoorHxU05b
import Derived.Test.YtifcegbomagcpaaDoorHxFn10
import Derived.Test.YtifcegbomagcpaaDoorHxSimp
namespace Hx
open Go
set_option linter.unusedSimpArgs false
set_option linter.unusedVariables false
set_option maxHeartbeats 8000000
variable {E : Env}
attribute [-simp] List.getD_eq_getElem?_getD getElem?_pos
theorem head_drop (s : List UInt8) (n : Nat) (c : UInt8) : ((s.drop n).head? == some c) = decide (s[n]? = some c) := by
  rw [Bool.eq_iff_iff, List.head?_drop]
  simp
theorem readT_cases (s : List UInt8) (Q : Prop) {n : Nat} (hn : nameLen s = n) {kd : Int} (hk : kindW (s.take n) = kd) {v e : Int} {z : Nat} (hN : numS (s.drop (n + 1)) = numT v z e)
    (q1 : kd = 1 ∨ kd = 2 → readT s = rT kd 0 n 0 → Q)
    (q0 : ¬ (kd = 1 ∨ kd = 2) → kd = 0 → readT s = rT 0 0 0 5 → Q)
    (q2 : ¬ (kd = 1 ∨ kd = 2) → kd ≠ 0 → s[n]? ≠ some 40 → readT s = rT 0 0 0 5 → Q)
    (q3 : ¬ (kd = 1 ∨ kd = 2) → kd ≠ 0 → s[n]? = some 40 → e ≠ 0 → readT s = rT 0 0 0 e → Q)
    (q4 : ¬ (kd = 1 ∨ kd = 2) → kd ≠ 0 → s[n]? = some 40 → e = 0 → s[n + 1 + z]? ≠ some 41 → readT s = rT 0 0 0 5 → Q)
    (q5 : ¬ (kd = 1 ∨ kd = 2) → kd ≠ 0 → s[n]? = some 40 → e = 0 → s[n + 1 + z]? = some 41 → (v < 1 ∨ 120 < v) → readT s = rT 0 0 0 10 → Q)
    (q6 : ¬ (kd = 1 ∨ kd = 2) → kd ≠ 0 → s[n]? = some 40 → e = 0 → s[n + 1 + z]? = some 41 → ¬ (v < 1 ∨ 120 < v) → readT s = rT kd v (n + 1 + z + 1) 0 → Q) : Q := by
  have hr : readT s = if kd = 1 ∨ kd = 2 then rT kd 0 n 0 else if kd = 0 ∨ s[n]? ≠ some 40 then rT 0 0 0 5 else if e ≠ 0 then rT 0 0 0 e
      else if s[n + 1 + z]? ≠ some 41 then rT 0 0 0 5 else if v < 1 ∨ 120 < v then rT 0 0 0 10 else rT kd v (n + 1 + z + 1) 0 := by
    unfold readT
    rw [hn, hk, hN]
    have e1 : nE (numT v z e) = e := rfl
    have e2 : nS (numT v z e) = z := rfl
    have e3 : nN (numT v z e) = v := rfl
    rw [e1, e2, e3, Int.toNat_natCast]
  by_cases h1 : kd = 1 ∨ kd = 2
  · exact q1 h1 (by rw [hr, if_pos h1])
  rw [if_neg h1] at hr
  by_cases h0 : kd = 0
  · exact q0 h1 h0 (by rw [hr, if_pos (.inl h0)])
  by_cases h2 : s[n]? = some 40
  · rw [if_neg (fun h => h.elim h0 (fun g => g h2))] at hr
    by_cases h3 : e = 0
    · rw [if_neg (by simpa using h3)] at hr
      by_cases h4 : s[n + 1 + z]? = some 41
      · rw [if_neg (by simpa using h4)] at hr
        by_cases h5 : v < 1 ∨ 120 < v
        · exact q5 h1 h0 h2 h3 h4 h5 (by rw [hr, if_pos h5])
        · exact q6 h1 h0 h2 h3 h4 h5 (by rw [hr, if_neg h5])
      · exact q4 h1 h0 h2 h3 h4 (by rw [hr, if_pos h4])
    · exact q3 h1 h0 h2 h3 (by rw [hr, if_pos h3])
  · exact q2 h1 h0 h2 (by rw [hr, if_pos (.inr h2)])
theorem typ_Read (u : X06 E) (s : List UInt8) (hs : (s.length : Int) ≤ 1000000000) (k : Nat) (hk : s.length + 40 ≤ k) (m : Mem) : denF E (k + 1) 89 [.p (.str s)] m = some (.ret (readT s), m) := by
  refine denF_wp u.read rfl (args' := [.p (.str s)]) rfl ?_
  obtain ⟨j, rfl⟩ : ∃ j, k = j + 2 := ⟨k - 2, by omega⟩
  have hA := fun m => name_Read u.n04 s (by omega) (j + 1) (by omega) m
  have hn := nameLen_le s
  obtain ⟨n, hnn⟩ : ∃ n, nameLen s = n := ⟨_, rfl⟩
  rw [hnn] at hA hn
  have hB := fun m => typ_kindOf u (j + 1) (by omega) (s.take n) m
  obtain ⟨kd, hkd⟩ : ∃ kd, kindW (s.take n) = kd := ⟨_, rfl⟩
  rw [hkd] at hB
  have hC := fun m => has_prefix1 u.m05 j (s.drop n) 40 m
  rw [head_drop] at hC
  obtain ⟨v, e, z, hN, hz⟩ := numS_form (s.drop (n + 1))
  have hD := fun m => value_Number u.m05 (s.drop (n + 1)) (by rw [List.length_drop]; omega) (j + 1) (by rw [List.length_drop]; omega) m
  rw [hN] at hD
  rw [List.length_drop] at hz
  have hF := fun m => has_prefix1 u.m05 j (s.drop (n + 1 + z)) 41 m
  rw [head_drop] at hF
  have w1 : IntKind.i64.wrap ((n : Int) + 1) = n + 1 := wrap_i64 (by omega) (by omega)
  have t1 : ((n : Int) + 1).toNat = n + 1 := by omega
  have p1 : (0 : Int) ≤ (n : Int) + 1 := by omega
  unfold numT at hD
  refine readT_cases s _ hnn hkd hN ?_ ?_ ?_ ?_ ?_ ?_ ?_
  · intro h1 hr
    rw [hr]
    rcases h1 with rfl | rfl
    · simp (maxSteps := 1000000) [Fn.f_typ_Read, hA, hB, hn, bounds, asNat, asInt, rT, tP]
    · simp (maxSteps := 1000000) [Fn.f_typ_Read, hA, hB, hn, bounds, asNat, asInt, rT, tP]
  · intro h1 h0 hr
    rw [hr]
    subst h0
    simp (maxSteps := 1000000) [Fn.f_typ_Read, hA, hB, hn, bounds, asNat, asInt, rT, tP]
  all_goals
    intro h1 h0
    have b1 : (kd == 1) = false := by simp; omega
    have b2 : (kd == 2) = false := by simp; omega
    have b0 : (kd == 0) = false := by simpa using h0
  · intro h2 hr
    rw [hr]
    rw [decide_eq_false h2] at hC
    simp (maxSteps := 1000000) [Fn.f_typ_Read, hA, hB, hn, bounds, asNat, asInt, b0, b1, b2, hC, rT, tP]
  all_goals
    intro h2
    have hlt : n < s.length := (List.getElem?_eq_some_iff.1 h2).1
    have hlt' : n + 1 ≤ s.length := hlt
    have hz2 : n + 1 + z ≤ s.length := by omega
    have w2 : IntKind.i64.wrap ((n : Int) + 1 + z) = n + 1 + z := wrap_i64 (by omega) (by omega)
    have t2 : ((n : Int) + 1 + z).toNat = n + 1 + z := by omega
    have p2 : (0 : Int) ≤ (n : Int) + 1 + z := by omega
    have w3 : IntKind.i64.wrap ((n : Int) + 1 + z + 1) = n + 1 + z + 1 := wrap_i64 (by omega) (by omega)
    rw [decide_eq_true h2] at hC
  · intro h3 hr
    rw [hr]
    have e0 : (e == 0) = false := by simpa using h3
    simp (maxSteps := 1000000) [Fn.f_typ_Read, hA, hB, hn, bounds, asNat, asInt, b0, b1, b2, hC, w1, t1, p1, hlt', hD, e0, bne, rT, tP]
  all_goals
    intro h3
    subst h3
  · intro h4 hr
    rw [hr]
    rw [decide_eq_false h4] at hF
    simp (maxSteps := 1000000) [Fn.f_typ_Read, hA, hB, hn, bounds, asNat, asInt, b0, b1, b2, hC, w1, t1, p1, hlt', hD, w2, t2, p2, hz2, hF, bne, rT, tP]
  · intro h4 h5 hr
    rw [hr]
    rw [decide_eq_true h4] at hF
    by_cases g1 : v < 1
    · simp (maxSteps := 1000000) [Fn.f_typ_Read, hA, hB, hn, bounds, asNat, asInt, b0, b1, b2, hC, w1, t1, p1, hlt', hD, w2, t2, p2, hz2, hF, bne, rT, tP, g1]
    · have g2 : 120 < v := by omega
      simp (maxSteps := 1000000) [Fn.f_typ_Read, hA, hB, hn, bounds, asNat, asInt, b0, b1, b2, hC, w1, t1, p1, hlt', hD, w2, t2, p2, hz2, hF, bne, rT, tP, g1, g2]
  · intro h4 h5 hr
    rw [hr]
    rw [decide_eq_true h4] at hF
    have g1 : ¬ v < 1 := by omega
    have g2 : ¬ 120 < v := by omega
    simp (maxSteps := 1000000) [Fn.f_typ_Read, hA, hB, hn, bounds, asNat, asInt, b0, b1, b2, hC, w1, t1, p1, hlt', hD, w2, t2, p2, hz2, hF, bne, rT, tP, g1, g2, w3]
end Hx

namespace Hx
open Go
set_option linter.unusedSimpArgs false
set_option linter.unusedVariables false
set_option maxHeartbeats 8000000
variable {E : Env}
attribute [-simp] List.getD_eq_getElem?_getD getElem?_pos
end Hx

namespace Hx
open Go Go.RowKit
def strData {H : Type} (zs : List (List UInt8)) : DataW H := .agg (zs.map fun z => .lit (.string z))
def strV (z : List UInt8) : Value := .string ⟨z.toArray⟩
theorem cells_of_strs {H : Type} {enc : TypeId × Value → H} {P : Program} {w : World} {base : Nat} {sp : Nat → Bool} {held : Bool} {fuel : Nat} {t e : TypeId} {n : Nat} {cs : List Value} {zs : List (List UInt8)} {p : List MemPlace}
    (ht : P.underlying t = some (.array n e)) (he : P.underlying e = some .string) (hce : P.cellsOf e = 1) (hct : P.cellsOf t = n)
    (h : DataW.trod enc P w base sp held fuel t cs = some (strData zs, p)) : cs = zs.map strV := by
  cases fuel with
  | zero => simp [DataW.trod] at h
  | succ fuel =>
    simp only [DataW.trod, ht, hce, hct, Nat.mul_one] at h
    split at h
    · rename_i hl
      obtain ⟨xs, hm, hx⟩ := Option.map_eq_some_iff.1 h
      have hxs : xs.map (·.1) = zs.map fun z => (DataW.lit (.string z) : DataW H) := by
        have := congrArg Prod.fst hx
        simpa [strData] using this
      have hxl : xs.length = n := by simpa using Lib.mapM_length hm
      have hzl : zs.length = n := by
        have := congrArg List.length hxs
        simp at this
        omega
      apply List.ext_getElem?
      intro i
      by_cases hi : i < n
      · obtain ⟨b, hb, hf⟩ := Lib.mapM_at hm i i (by simp [hi])
        obtain ⟨z, hc, rfl, _⟩ := DataW.trod_string he hf
        have h1 : cs[i]? = some (.string z) := by
          have := congrArg (·[0]?) hc
          simpa [List.getElem?_take, List.getElem?_drop] using this
        have h2 : (xs.map (·.1))[i]? = some (DataW.lit (.string z.data.toList) : DataW H) := by simp [hb]
        rw [hxs] at h2
        simp only [List.getElem?_map, Option.map_eq_some_iff, DataW.lit.injEq, Lit.string.injEq] at h2
        obtain ⟨z', hz', hzz⟩ := h2
        subst hzz
        rw [h1, List.getElem?_map, hz']
        rfl
      · rw [List.getElem?_eq_none (by omega), List.getElem?_eq_none (by simp; omega)]
    · cases h
theorem strs_of {P : Program} {W : World} {name : String} {zs : List (List UInt8)} {rest : List (String × DataW Unit)} {g : Nat} {t e : TypeId} {n : Nat}
    (hg : P.globalNamed name = some g) (hty : (P.globals[g]?).map (·.type) = some t) (ht : P.underlying t = some (.array n e)) (he : P.underlying e = some .string) (hce : P.cellsOf e = 1) (hct : P.cellsOf t = n)
    (h : laidMet P ((name, strData zs) :: rest) W) : W.var? P name = some (zs.map strV).toArray := by
  obtain ⟨ps, ⟨g', t', cs, fuel, p, q, hg', ht', hvar, hd, _, _⟩, _⟩ := h
  obtain rfl := Option.some.inj (hg.symm.trans hg')
  obtain rfl := Option.some.inj (hty.symm.trans ht')
  rw [hvar, ← cells_of_strs ht he hce hct hd]
theorem gl_strs {F : Fix} {W : World} {name : String} {g : Nat} : ∀ {zs : List (List UInt8)} {n : Nat}, (∀ i, i < zs.length → W.cell? ⟨g, n + i, none⟩ = (zs.map strV)[i]?) → RPcells F (cx0 W) g n (zs.map .str)
  | [], n, _ => by simp [RPcells]
  | z :: zs, n, h => by
    simp only [List.map_cons, RPcells]
    have h0 := h 0 (by simp)
    simp only [Nat.add_zero, List.map_cons, List.getElem?_cons_zero] at h0
    refine ⟨⟨cx0_safe.2 ?_, rfl, _, h0, by simp [RP, strV]⟩, gl_strs (name := name) fun i hi => ?_⟩
    · simp only [World.cell?] at h0
      cases hh : W.heap[g]? with
      | none => rw [hh] at h0; cases h0
      | some o => exact (Array.getElem?_eq_some_iff.1 hh).1
    · have := h (i + 1) (by simpa using hi)
      rw [show n + 1 + i = n + (i + 1) by omega]
      simpa using this
end Hx

namespace Hx
open Go
inductive PR (α : Type) where
  | bad (e : Int) (r : List UInt8)
  | ok (v : α) (r : List UInt8)
def PR.bind {α β : Type} (p : PR α) (f : α → List UInt8 → PR β) : PR β := match p with
  | .bad e r => .bad e r
  | .ok v r => f v r
def isBl (c : UInt8) : Bool := (c.toNat : Int) == 32 || ((c.toNat : Int) == 9 || (c.toNat : Int) == 10)
def skipB (r : List UInt8) : List UInt8 := r.dropWhile isBl
def wordOf (r : List UInt8) : List UInt8 := r.take (nameLen r)
def rightN (w : List UInt8) : Bool := !w.isEmpty && (decide (w.length ≤ 16) && decide (nameLen w = w.length))
def pName (r : List UInt8) : PR (List UInt8) :=
  if wordOf (skipB r) = [] then .bad 5 (skipB r) else if rightN (wordOf (skipB r)) then .ok (wordOf (skipB r)) ((skipB r).drop (wordOf (skipB r)).length) else .bad 8 (skipB r)
def pTake (w r : List UInt8) : Bool × List UInt8 := if wordOf (skipB r) = w then (true, (skipB r).drop w.length) else (false, skipB r)
def pWant (w r : List UInt8) : PR Unit := if wordOf (skipB r) = w then .ok () ((skipB r).drop w.length) else .bad 5 (skipB r)
def pSign (c : UInt8) (r : List UInt8) : Bool × List UInt8 := if (skipB r).head? = some c then (true, (skipB r).tail) else (false, skipB r)
def pWantS (c : UInt8) (r : List UInt8) : PR Unit := if (skipB r).head? = some c then .ok () (skipB r).tail else .bad 5 (skipB r)
theorem skipB_cons (c : UInt8) (r : List UInt8) : skipB (c :: r) = if isBl c then skipB r else c :: r := by
  unfold skipB
  rw [List.dropWhile_cons]
end Hx

namespace Hx
open Go
set_option linter.unusedSimpArgs false
set_option linter.unusedVariables false
set_option maxHeartbeats 4000000
variable {E : Env}
attribute [-simp] List.getD_eq_getElem?_getD getElem?_pos
end Hx

namespace Hx
open Go
section
variable {E : Env} {call : Caller} {dst : Option Nat} {g : Option (Nat × Bool)} {c : Nat} {r : List XOper} {st : St}
@[simp] theorem ops_panic {x : X} : denOpers E call none (⟨dst, .panic x, g, c⟩ :: r) st = match wants st.ts g with
    | none => none
    | some false => denOpers E call none r ⟨putT st.ts dst (.tup []), st.m, st.ds⟩
    | some true => match evX E st.ts x with
      | .p (.iface t v) => some (.pan (.p (.iface t v)), st)
      | .iface t v => some (.pan (.iface t v), st)
      | _ => none := by
  rw [denOpers, denOper]
  cases wants st.ts g with
  | none => rfl
  | some b =>
    cases b with
    | false => rfl
    | true =>
      simp only [Option.isSome_none, cond_false]
      generalize evX E st.ts x = q
      cases q with
      | p v => cases v <;> rfl
      | _ => rfl
@[simp] theorem ops_dfr {f : X} {args : List X} : denOpers E call none (⟨dst, .dfr f args, g, c⟩ :: r) st = match wants st.ts g with
    | none => none
    | some false => denOpers E call none r ⟨putT st.ts dst (.tup []), st.m, st.ds⟩
    | some true => match fnOf (evX E st.ts f) with
      | none => none
      | some _ => denOpers E call none r ⟨putT st.ts dst (.tup []), st.m, (evX E st.ts f, args.map (evX E st.ts)) :: st.ds⟩ := by
  rw [denOpers, denOper]
  cases wants st.ts g with
  | none => rfl
  | some b =>
    cases b with
    | false => rfl
    | true =>
      simp only [Option.isSome_none, cond_false]
      cases fnOf (evX E st.ts f) <;> rfl
end
end Hx

namespace Hx
open Go
set_option linter.unusedSimpArgs false
set_option linter.unusedVariables false
set_option maxHeartbeats 4000000
variable {E : Env}
attribute [-simp] List.getD_eq_getElem?_getD getElem?_pos
structure R10 (E : Env) : Prop where
  n04 : N04 E
  left : E.fn 239 = some Fn.f_ddltext_reader_left
  bad : E.fn 240 = some Fn.f_ddltext_bad
  peek : E.fn 251 = some Fn.f_ddltext_reader_peek
  take : E.fn 272 = some Fn.f_ddltext_reader_take
  want : E.fn 254 = some Fn.f_ddltext_reader_want
  sign : E.fn 271 = some Fn.f_ddltext_reader_sign
  name : E.fn 252 = some Fn.f_ddltext_reader_name
  nright : E.fn 270 = some Fn.f_name_Right
def flt (e : Int) : AV := .p (.iface 2 (.agg [.int .i64 e]))
def PR.out {α : Type} (f : α → AV) : PR α → Out
  | .bad e _ => .pan (flt e)
  | .ok v _ => .ret (f v)
def PR.rest {α : Type} : PR α → List UInt8
  | .bad _ r => r
  | .ok _ r => r
end Hx

namespace Hx
open Go
set_option linter.unusedSimpArgs false
set_option linter.unusedVariables false
set_option maxHeartbeats 4000000
variable {E : Env}
attribute [-simp] List.getD_eq_getElem?_getD getElem?_pos
theorem name_Right (u : R10 E) (w : List UInt8) (hw : (w.length : Int) ≤ 1000000000) (k : Nat) (hk : w.length + 5 ≤ k) (m : Mem) :
    denF E (k + 1) 270 [.p (.str w)] m = some (.ret (.p (.bool (rightN w))), m) := by
  refine denF_wp u.nright rfl (args' := [.p (.str w)]) rfl ?_
  obtain ⟨j, rfl⟩ : ∃ j, k = j + 1 := ⟨k - 1, by omega⟩
  have hN := fun m => name_Read u.n04 w (by omega) j (by omega) m
  unfold rightN
  cases w with
  | nil => simp [Fn.f_name_Right, bne]
  | cons c w =>
    by_cases h : (c :: w).length ≤ 16
    · have h1 : decide (((c :: w).length : Int) ≤ 16) = true := by simpa using (by omega : ((c :: w).length : Int) ≤ 16)
      have h2 : ((nameLen (c :: w) : Int) == ((c :: w).length : Int)) = decide (nameLen (c :: w) = (c :: w).length) := by
        by_cases h3 : nameLen (c :: w) = (c :: w).length
        · rw [h3]; simp
        · rw [decide_eq_false h3]; simpa using (by omega : ¬ ((nameLen (c :: w) : Int) = ((c :: w).length : Int)))
      generalize hq : c :: w = q at *
      have hb : (q == []) = false := by subst hq; rfl
      have he : q.isEmpty = false := by subst hq; rfl
      have h1' : ((q.length : Int) ≤ 16) := by omega
      simp [Fn.f_name_Right, hN, hb, he, h, h1', h2, bne]
    · generalize hq : c :: w = q at *
      have hb : (q == []) = false := by subst hq; rfl
      have he : q.isEmpty = false := by subst hq; rfl
      have h1' : ¬ ((q.length : Int) ≤ 16) := by omega
      simp [Fn.f_name_Right, hN, hb, he, h, h1', bne]
end Hx

namespace Hx
open Go
set_option maxHeartbeats 2000000
def rdTy (s : List UInt8) : Int × Int × Int × Int := match readT s with
  | .tup [.p (.agg [.int _ k, .int _ m]), .p (.int _ z), .p (.int _ e)] => (k, m, z, e)
  | _ => (0, 0, 0, 0)
def pKind (r : List UInt8) : PR (Int × Int) :=
  if (rdTy (skipB r)).2.2.2 = 0 then .ok ((rdTy (skipB r)).1, (rdTy (skipB r)).2.1) ((skipB r).drop (rdTy (skipB r)).2.2.1.toNat) else .bad (rdTy (skipB r)).2.2.2 (skipB r)
theorem rdTy_of {s : List UInt8} {k m z e : Int} (h : readT s = rT k m z e) : rdTy s = (k, m, z, e) := by unfold rdTy; rw [h]; rfl
end Hx

namespace Hx
open Go
set_option linter.unusedSimpArgs false
set_option linter.unusedVariables false
set_option maxHeartbeats 8000000
set_option maxRecDepth 20000
variable {E : Env}
attribute [-simp] List.getD_eq_getElem?_getD getElem?_pos
def TyOk (E : Env) (f : Nat) : Prop := ∀ s : List UInt8, (s.length : Int) ≤ 1000000000 → ∀ k, s.length + 40 ≤ k → ∀ m, denF E (k + 1) f [.p (.str s)] m = some (.ret (readT s), m)
end Hx
