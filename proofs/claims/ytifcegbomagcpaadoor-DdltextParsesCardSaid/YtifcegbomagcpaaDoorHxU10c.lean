/-
  HxU10c: the program's reader of changes: signs and names.
-/
import Derived.Test.YtifcegbomagcpaaDoorHxV05b
import Derived.Test.YtifcegbomagcpaaDoorHxU05
import Derived.Test.YtifcegbomagcpaaDoorHxFn10
import Derived.Test.YtifcegbomagcpaaDoorHxSimp
namespace Hx
open Go Go.RowKit
def strData {H : Type} (zs : List (List UInt8)) : DataW H := .agg (zs.map fun z => .lit (.string z))
def strV (z : List UInt8) : Value := .string ⟨z.toArray⟩
theorem cells_of_strs {H : Type} {enc : TypeId × Value → H} {P : Program} {w : World} {base : Nat} {sp : Nat → Bool} {held : Bool} {fuel : Nat} {t e : TypeId} {n : Nat} {cs : List Value} {zs : List (List UInt8)} {p : List MemPlace}
    (ht : P.underlying t = some (.array n e)) (he : P.underlying e = some .string) (hce : P.cellsOf e = 1) (hct : P.cellsOf t = n)
    (h : DataW.trod enc P w base sp held fuel t cs = some (strData zs, p)) : cs = zs.map strV := by
  cases fuel with
  | zero => simp [DataW.trod] at h
  | succ fuel =>
    simp only [DataW.trod, ht, hce, hct, Nat.mul_one] at h
    split at h
    · rename_i hl
      obtain ⟨xs, hm, hx⟩ := Option.map_eq_some_iff.1 h
      have hxs : xs.map (·.1) = zs.map fun z => (DataW.lit (.string z) : DataW H) := by
        have := congrArg Prod.fst hx
        simpa [strData] using this
      have hxl : xs.length = n := by simpa using Lib.mapM_length hm
      have hzl : zs.length = n := by
        have := congrArg List.length hxs
        simp at this
        omega
      apply List.ext_getElem?
      intro i
      by_cases hi : i < n
      · obtain ⟨b, hb, hf⟩ := Lib.mapM_at hm i i (by simp [hi])
        obtain ⟨z, hc, rfl, _⟩ := DataW.trod_string he hf
        have h1 : cs[i]? = some (.string z) := by
          have := congrArg (·[0]?) hc
          simpa [List.getElem?_take, List.getElem?_drop] using this
        have h2 : (xs.map (·.1))[i]? = some (DataW.lit (.string z.data.toList) : DataW H) := by simp [hb]
        rw [hxs] at h2
        simp only [List.getElem?_map, Option.map_eq_some_iff, DataW.lit.injEq, Lit.string.injEq] at h2
        obtain ⟨z', hz', hzz⟩ := h2
        subst hzz
        rw [h1, List.getElem?_map, hz']
        rfl
      · rw [List.getElem?_eq_none (by omega), List.getElem?_eq_none (by simp; omega)]
    · cases h
theorem strs_of {P : Program} {W : World} {name : String} {zs : List (List UInt8)} {rest : List (String × DataW Unit)} {g : Nat} {t e : TypeId} {n : Nat}
    (hg : P.globalNamed name = some g) (hty : (P.globals[g]?).map (·.type) = some t) (ht : P.underlying t = some (.array n e)) (he : P.underlying e = some .string) (hce : P.cellsOf e = 1) (hct : P.cellsOf t = n)
    (h : laidMet P ((name, strData zs) :: rest) W) : W.var? P name = some (zs.map strV).toArray := by
  obtain ⟨ps, ⟨g', t', cs, fuel, p, q, hg', ht', hvar, hd, _, _⟩, _⟩ := h
  obtain rfl := Option.some.inj (hg.symm.trans hg')
  obtain rfl := Option.some.inj (hty.symm.trans ht')
  rw [hvar, ← cells_of_strs ht he hce hct hd]
theorem gl_strs {F : Fix} {W : World} {name : String} {g : Nat} : ∀ {zs : List (List UInt8)} {n : Nat}, (∀ i, i < zs.length → W.cell? ⟨g, n + i, none⟩ = (zs.map strV)[i]?) → RPcells F (cx0 W) g n (zs.map .str)
  | [], n, _ => by simp [RPcells]
  | z :: zs, n, h => by
    simp only [List.map_cons, RPcells]
    have h0 := h 0 (by simp)
    simp only [Nat.add_zero, List.map_cons, List.getElem?_cons_zero] at h0
    refine ⟨⟨cx0_safe.2 ?_, rfl, _, h0, by simp [RP, strV]⟩, gl_strs (name := name) fun i hi => ?_⟩
    · simp only [World.cell?] at h0
      cases hh : W.heap[g]? with
      | none => rw [hh] at h0; cases h0
      | some o => exact (Array.getElem?_eq_some_iff.1 hh).1
    · have := h (i + 1) (by simpa using hi)
      rw [show n + 1 + i = n + (i + 1) by omega]
      simpa using this
end Hx

namespace Hx
open Go
inductive PR (α : Type) where
  | bad (e : Int) (r : List UInt8)
  | ok (v : α) (r : List UInt8)
def PR.bind {α β : Type} (p : PR α) (f : α → List UInt8 → PR β) : PR β := match p with
  | .bad e r => .bad e r
  | .ok v r => f v r
def isBl (c : UInt8) : Bool := (c.toNat : Int) == 32 || ((c.toNat : Int) == 9 || (c.toNat : Int) == 10)
def skipB (r : List UInt8) : List UInt8 := r.dropWhile isBl
def wordOf (r : List UInt8) : List UInt8 := r.take (nameLen r)
def rightN (w : List UInt8) : Bool := !w.isEmpty && (decide (w.length ≤ 16) && decide (nameLen w = w.length))
def pName (r : List UInt8) : PR (List UInt8) :=
  if wordOf (skipB r) = [] then .bad 5 (skipB r) else if rightN (wordOf (skipB r)) then .ok (wordOf (skipB r)) ((skipB r).drop (wordOf (skipB r)).length) else .bad 8 (skipB r)
def pTake (w r : List UInt8) : Bool × List UInt8 := if wordOf (skipB r) = w then (true, (skipB r).drop w.length) else (false, skipB r)
def pWant (w r : List UInt8) : PR Unit := if wordOf (skipB r) = w then .ok () ((skipB r).drop w.length) else .bad 5 (skipB r)
def pSign (c : UInt8) (r : List UInt8) : Bool × List UInt8 := if (skipB r).head? = some c then (true, (skipB r).tail) else (false, skipB r)
def pWantS (c : UInt8) (r : List UInt8) : PR Unit := if (skipB r).head? = some c then .ok () (skipB r).tail else .bad 5 (skipB r)
def placeOf10 (s r : List UInt8) : Nat := s.length - r.length
theorem drop_place {s : List UInt8} {i : Nat} (h : i ≤ s.length) : s.drop (placeOf10 s (skipB (s.drop i))) = skipB (s.drop i) := by
  have hs : skipB (s.drop i) <:+ s := (List.dropWhile_suffix isBl).trans (List.drop_suffix i s)
  obtain ⟨t, ht⟩ := hs
  unfold placeOf10
  generalize skipB (s.drop i) = q at *
  subst ht
  rw [List.length_append, Nat.add_sub_cancel, List.drop_left]
theorem skipB_cons (c : UInt8) (r : List UInt8) : skipB (c :: r) = if isBl c then skipB r else c :: r := by
  unfold skipB
  rw [List.dropWhile_cons]
end Hx

namespace Hx
open Go
set_option linter.unusedSimpArgs false
set_option linter.unusedVariables false
set_option maxHeartbeats 4000000
variable {E : Env}
attribute [-simp] List.getD_eq_getElem?_getD getElem?_pos
def rdCells (s : List UInt8) (i : Nat) : Blk := .cells [.p (.str s), .p (.int .i64 i)]
theorem rd_left (h : E.fn 239 = some Fn.f_ddltext_reader_left) (s : List UInt8) (hs : (s.length : Int) ≤ 1000000000) (i : Nat) (hi : i ≤ s.length) (k : Nat) (hk : s.length + 4 ≤ k) (id : Nat) (m : Mem) (hm : m[id]? = some (rdCells s i)) :
    denF E (k + 1) 239 [.ptr id 0] m = some (.ret (.p (.str (skipB (s.drop i)))), m.set id (rdCells s (placeOf10 s (skipB (s.drop i))))) := by
  refine denF_wp_own h rfl ?_
  have hid : id < m.length := by
    rcases Nat.lt_or_ge id m.length with hl | hl
    · exact hl
    · rw [List.getElem?_eq_none hl] at hm; cases hm
  have hself : ∀ x : Blk, (m.set id x)[id]? = some x := fun x => List.getElem?_set_self hid
  have hset : ∀ x y : Blk, (m.set id x).set id y = m.set id y := fun x y => List.set_set ..
  have hm0 : m = m.set id (rdCells s i) := by
    obtain ⟨h1, h2⟩ := List.getElem?_eq_some_iff.1 hm
    rw [← h2, List.set_getElem_self]
  simp [Fn.f_ddltext_reader_left]
  refine (loop_wp (α := Nat) (I := fun j st => j ≤ s.length ∧ skipB (s.drop j) = skipB (s.drop i) ∧ Live Fn.f_ddltext_reader_left_k0 (Fn.f_ddltext_reader_left_s0 (.ptr id 0)) (m.set id (rdCells s j)) st) (meas := fun j => s.length - j)
    (Q := fun e st => e = .exit 0 ∧ st.ds = [] ∧ st.ts.length = 42 ∧ st.ts.getD 0 (.tup []) = .ptr id 0 ∧ st.m = m.set id (rdCells s (placeOf10 s (skipB (s.drop i))))) ?_ k i _ ⟨hi, rfl, rfl, rfl, hm0, rfl⟩ (by omega)).mono ?_
  · rintro j st ⟨hj, hsk, hlive⟩
    rw [loopF_live hlive]
    unfold rdCells at *
    by_cases hlt : j < s.length
    · have hlt' : (j : Int) < s.length := by omega
      obtain ⟨c, hc⟩ : ∃ c, s[j]? = some c := ⟨_, List.getElem?_eq_getElem hlt⟩
      rw [drop_at hc, skipB_cons] at hsk
      have hw : IntKind.i64.wrap ((j : Int) + 1) = ((j + 1 : Nat) : Int) := by rw [wrap_i64 (by omega) (by omega)]; omega
      unfold isBl at hsk
      have hstop : c :: s.drop (j + 1) = skipB (s.drop i) → j = placeOf10 s (skipB (s.drop i)) := by
        intro h
        unfold placeOf10
        rw [← h, ← drop_at hc, List.length_drop]
        omega
      cases h32 : ((c.toNat : Int) == 32) with
      | true =>
        rw [h32] at hsk
        simp only [Bool.true_or, if_true] at hsk
        simp [Fn.f_ddltext_reader_left_b0, Fn.f_ddltext_reader_left_s0, hid, hself, hset, hlt, hlt', hc, h32, hw, -Int.natCast_add]
        exact ⟨j + 1, by omega, hlt, hsk, rfl, rfl, rfl, rfl⟩
      | false =>
        cases h9 : ((c.toNat : Int) == 9) with
        | true =>
          rw [h32, h9] at hsk
          simp only [Bool.true_or, Bool.or_true, if_true] at hsk
          simp [Fn.f_ddltext_reader_left_b0, Fn.f_ddltext_reader_left_s0, hid, hself, hset, hlt, hlt', hc, h32, h9, hw, -Int.natCast_add]
          exact ⟨j + 1, by omega, hlt, hsk, rfl, rfl, rfl, rfl⟩
        | false =>
          cases h10 : ((c.toNat : Int) == 10) with
          | true =>
            rw [h32, h9, h10] at hsk
            simp only [Bool.or_true, if_true] at hsk
            simp [Fn.f_ddltext_reader_left_b0, Fn.f_ddltext_reader_left_s0, hid, hself, hset, hlt, hlt', hc, h32, h9, h10, hw, -Int.natCast_add]
            exact ⟨j + 1, by omega, hlt, hsk, rfl, rfl, rfl, rfl⟩
          | false =>
            rw [h32, h9, h10] at hsk
            simp only [Bool.or_false, Bool.false_eq_true, if_false] at hsk
            have := hstop hsk
            simp [Fn.f_ddltext_reader_left_b0, Fn.f_ddltext_reader_left_s0, hid, hself, hset, hlt, hlt', hc, h32, h9, h10]
            rw [← this]
    · have hlt' : ¬ (j : Int) < s.length := by omega
      have hnil : s.drop j = [] := List.drop_eq_nil_of_le (by omega)
      rw [hnil] at hsk
      have : j = placeOf10 s (skipB (s.drop i)) := by
        unfold placeOf10
        rw [← hsk]
        simp [skipB]
        omega
      simp [Fn.f_ddltext_reader_left_b0, Fn.f_ddltext_reader_left_s0, hid, hself, hset, hlt, hlt']
      rw [← this]
  · rintro e st ⟨rfl, h1, h2, h3, h4⟩
    obtain ⟨ts, m', ds⟩ := st
    simp only at h1 h2 h3 h4
    subst h1 h4
    have hx : ts = [ts.getD 0 (.tup []), ts.getD 1 (.tup []), ts.getD 2 (.tup []), ts.getD 3 (.tup []), ts.getD 4 (.tup []), ts.getD 5 (.tup []), ts.getD 6 (.tup []), ts.getD 7 (.tup []), ts.getD 8 (.tup []), ts.getD 9 (.tup []), ts.getD 10 (.tup []), ts.getD 11 (.tup []), ts.getD 12 (.tup []), ts.getD 13 (.tup []), ts.getD 14 (.tup []), ts.getD 15 (.tup []), ts.getD 16 (.tup []), ts.getD 17 (.tup []), ts.getD 18 (.tup []), ts.getD 19 (.tup []), ts.getD 20 (.tup []), ts.getD 21 (.tup []), ts.getD 22 (.tup []), ts.getD 23 (.tup []), ts.getD 24 (.tup []), ts.getD 25 (.tup []), ts.getD 26 (.tup []), ts.getD 27 (.tup []), ts.getD 28 (.tup []), ts.getD 29 (.tup []), ts.getD 30 (.tup []), ts.getD 31 (.tup []), ts.getD 32 (.tup []), ts.getD 33 (.tup []), ts.getD 34 (.tup []), ts.getD 35 (.tup []), ts.getD 36 (.tup []), ts.getD 37 (.tup []), ts.getD 38 (.tup []), ts.getD 39 (.tup []), ts.getD 40 (.tup []), ts.getD 41 (.tup [])] := expand_ts 42 ts h2
    have hdp := drop_place hi
    have hle : placeOf10 s (skipB (s.drop i)) ≤ s.length := by unfold placeOf10; omega
    rw [hx]
    unfold rdCells at *
    simp [h3, hid, hself, hle, hdp]
end Hx

namespace Hx
open Go
section
variable {E : Env} {call : Caller} {dst : Option Nat} {g : Option (Nat × Bool)} {c : Nat} {r : List XOper} {st : St}
@[simp] theorem ops_panic {x : X} : denOpers E call none (⟨dst, .panic x, g, c⟩ :: r) st = match wants st.ts g with
    | none => none
    | some false => denOpers E call none r ⟨putT st.ts dst (.tup []), st.m, st.ds⟩
    | some true => match evX E st.ts x with
      | .p (.iface t v) => some (.pan (.p (.iface t v)), st)
      | .iface t v => some (.pan (.iface t v), st)
      | _ => none := by
  rw [denOpers, denOper]
  cases wants st.ts g with
  | none => rfl
  | some b =>
    cases b with
    | false => rfl
    | true =>
      simp only [Option.isSome_none, cond_false]
      generalize evX E st.ts x = q
      cases q with
      | p v => cases v <;> rfl
      | _ => rfl
@[simp] theorem ops_dfr {f : X} {args : List X} : denOpers E call none (⟨dst, .dfr f args, g, c⟩ :: r) st = match wants st.ts g with
    | none => none
    | some false => denOpers E call none r ⟨putT st.ts dst (.tup []), st.m, st.ds⟩
    | some true => match fnOf (evX E st.ts f) with
      | none => none
      | some _ => denOpers E call none r ⟨putT st.ts dst (.tup []), st.m, (evX E st.ts f, args.map (evX E st.ts)) :: st.ds⟩ := by
  rw [denOpers, denOper]
  cases wants st.ts g with
  | none => rfl
  | some b =>
    cases b with
    | false => rfl
    | true =>
      simp only [Option.isSome_none, cond_false]
      cases fnOf (evX E st.ts f) <;> rfl
end
end Hx

namespace Hx
open Go
set_option linter.unusedSimpArgs false
set_option linter.unusedVariables false
set_option maxHeartbeats 4000000
variable {E : Env}
attribute [-simp] List.getD_eq_getElem?_getD getElem?_pos
structure R10 (E : Env) : Prop where
  n04 : N04 E
  left : E.fn 239 = some Fn.f_ddltext_reader_left
  bad : E.fn 240 = some Fn.f_ddltext_bad
  peek : E.fn 251 = some Fn.f_ddltext_reader_peek
  take : E.fn 272 = some Fn.f_ddltext_reader_take
  want : E.fn 254 = some Fn.f_ddltext_reader_want
  sign : E.fn 271 = some Fn.f_ddltext_reader_sign
  name : E.fn 252 = some Fn.f_ddltext_reader_name
  nright : E.fn 270 = some Fn.f_name_Right
def rdB (s r : List UInt8) : Blk := rdCells s (placeOf10 s r)
theorem drop_suf {s r : List UInt8} (h : r <:+ s) : s.drop (placeOf10 s r) = r := by
  obtain ⟨t, ht⟩ := h
  unfold placeOf10
  subst ht
  rw [List.length_append, Nat.add_sub_cancel, List.drop_left]
theorem place_le {s r : List UInt8} : placeOf10 s r ≤ s.length := by unfold placeOf10; omega
theorem suf_skip {s r : List UInt8} (h : r <:+ s) : skipB r <:+ s := (List.dropWhile_suffix isBl).trans h
theorem suf_drop {s r : List UInt8} (h : r <:+ s) (n : Nat) : r.drop n <:+ s := (List.drop_suffix n r).trans h
theorem suf_len {s r : List UInt8} (h : r <:+ s) : r.length ≤ s.length := h.length_le
theorem place_drop {s r : List UInt8} (h : r <:+ s) {n : Nat} (hn : n ≤ r.length) : placeOf10 s (r.drop n) = placeOf10 s r + n := by
  have := suf_len h
  unfold placeOf10
  rw [List.length_drop]
  omega
def flt (e : Int) : AV := .p (.iface 2 (.agg [.int .i64 e]))
def PR.out {α : Type} (f : α → AV) : PR α → Out
  | .bad e _ => .pan (flt e)
  | .ok v _ => .ret (f v)
def PR.rest {α : Type} : PR α → List UInt8
  | .bad _ r => r
  | .ok _ r => r
theorem rd_left' (u : R10 E) {s r : List UInt8} (hs : (s.length : Int) ≤ 1000000000) (hr : r <:+ s) (k : Nat) (hk : s.length + 4 ≤ k) (id : Nat) (m : Mem) (hm : m[id]? = some (rdB s r)) :
    denF E (k + 1) 239 [.ptr id 0] m = some (.ret (.p (.str (skipB r))), m.set id (rdB s (skipB r))) := by
  have := rd_left u.left s hs (placeOf10 s r) place_le k hk id m hm
  rw [drop_suf hr] at this
  exact this
theorem rd_bad (u : R10 E) (k : Nat) (e : Int) (m : Mem) : denF E (k + 1) 240 [.p (.int .i64 e)] m = some (.pan (flt e), m) := by
  refine denF_wp u.bad rfl (args' := [.p (.int .i64 e)]) rfl ?_
  simp [Fn.f_ddltext_bad, flt]
theorem rd_peek (u : R10 E) {s r : List UInt8} (hs : (s.length : Int) ≤ 1000000000) (hr : r <:+ s) (k : Nat) (hk : s.length + 5 ≤ k) (id : Nat) (m : Mem) (hm : m[id]? = some (rdB s r)) :
    denF E (k + 1) 251 [.ptr id 0] m = some (.ret (.p (.str (wordOf (skipB r)))), m.set id (rdB s (skipB r))) := by
  refine denF_wp_own u.peek rfl ?_
  obtain ⟨j, rfl⟩ : ∃ j, k = j + 1 := ⟨k - 1, by omega⟩
  have hL := rd_left' u hs hr j (by omega) id m hm
  have hlen := suf_len (suf_skip hr)
  have hN := fun m => name_Read u.n04 (skipB r) (by omega) j (by omega) m
  have hnl := nameLen_le (skipB r)
  simp [Fn.f_ddltext_reader_peek, hL, hN, hnl, wordOf]
theorem word_len (r : List UInt8) : (wordOf r).length ≤ r.length := by unfold wordOf; rw [List.length_take]; omega
theorem rd_take (u : R10 E) {s r : List UInt8} (hs : (s.length : Int) ≤ 1000000000) (hr : r <:+ s) (w : List UInt8) (k : Nat) (hk : s.length + 6 ≤ k) (id : Nat) (m : Mem) (hm : m[id]? = some (rdB s r)) :
    denF E (k + 1) 272 [.ptr id 0, .p (.str w)] m = some (.ret (.p (.bool (pTake w r).1)), m.set id (rdB s (pTake w r).2)) := by
  refine denF_wp_own u.take rfl ?_
  obtain ⟨j, rfl⟩ : ∃ j, k = j + 1 := ⟨k - 1, by omega⟩
  have hP := rd_peek u hs hr j (by omega) id m hm
  have hid : id < m.length := by
    rcases Nat.lt_or_ge id m.length with hl | hl
    · exact hl
    · rw [List.getElem?_eq_none hl] at hm; cases hm
  have hself : ∀ x : Blk, (m.set id x)[id]? = some x := fun x => List.getElem?_set_self hid
  have hset : ∀ x y : Blk, (m.set id x).set id y = m.set id y := fun x y => List.set_set ..
  unfold pTake
  by_cases h : wordOf (skipB r) = w
  · have hwl := word_len (skipB r)
    have hpl := place_drop (suf_skip hr) hwl
    have hle := place_le (s := s) (r := skipB r)
    rw [if_pos h]
    rw [h] at hP hpl hwl
    have hlen := suf_len (suf_skip hr)
    have hw : IntKind.i64.wrap ((placeOf10 s (skipB r) : Int) + w.length) = ((placeOf10 s ((skipB r).drop w.length) : Nat) : Int) := by rw [wrap_i64 (by omega) (by omega), hpl]; omega
    unfold rdB rdCells at *
    simp [Fn.f_ddltext_reader_take, hP, hid, hself, hset, hw, bne]
  · rw [if_neg h]
    have hb : (wordOf (skipB r) == w) = false := by simpa using h
    simp [Fn.f_ddltext_reader_take, hP, hb, bne]
theorem rd_want (u : R10 E) {s r : List UInt8} (hs : (s.length : Int) ≤ 1000000000) (hr : r <:+ s) (w : List UInt8) (k : Nat) (hk : s.length + 7 ≤ k) (id : Nat) (m : Mem) (hm : m[id]? = some (rdB s r)) :
    denF E (k + 1) 254 [.ptr id 0, .p (.str w)] m = some ((pWant w r).out (fun _ => .tup []), m.set id (rdB s (pWant w r).rest)) := by
  refine denF_wp_own u.want rfl ?_
  obtain ⟨j, rfl⟩ : ∃ j, k = j + 1 := ⟨k - 1, by omega⟩
  have hT := rd_take u hs hr w j (by omega) id m hm
  have hB := fun m => rd_bad u j 5 m
  unfold pTake at hT
  unfold pWant
  by_cases h : wordOf (skipB r) = w
  · rw [if_pos h] at hT ⊢
    simp [Fn.f_ddltext_reader_want, hT, PR.out, PR.rest]
  · rw [if_neg h] at hT ⊢
    simp [Fn.f_ddltext_reader_want, hT, hB, PR.out, PR.rest, flt]
end Hx

namespace Hx
open Go
set_option linter.unusedSimpArgs false
set_option linter.unusedVariables false
set_option maxHeartbeats 4000000
variable {E : Env}
attribute [-simp] List.getD_eq_getElem?_getD getElem?_pos
theorem name_Right (u : R10 E) (w : List UInt8) (hw : (w.length : Int) ≤ 1000000000) (k : Nat) (hk : w.length + 5 ≤ k) (m : Mem) :
    denF E (k + 1) 270 [.p (.str w)] m = some (.ret (.p (.bool (rightN w))), m) := by
  refine denF_wp u.nright rfl (args' := [.p (.str w)]) rfl ?_
  obtain ⟨j, rfl⟩ : ∃ j, k = j + 1 := ⟨k - 1, by omega⟩
  have hN := fun m => name_Read u.n04 w (by omega) j (by omega) m
  unfold rightN
  cases w with
  | nil => simp [Fn.f_name_Right, bne]
  | cons c w =>
    by_cases h : (c :: w).length ≤ 16
    · have h1 : decide (((c :: w).length : Int) ≤ 16) = true := by simpa using (by omega : ((c :: w).length : Int) ≤ 16)
      have h2 : ((nameLen (c :: w) : Int) == ((c :: w).length : Int)) = decide (nameLen (c :: w) = (c :: w).length) := by
        by_cases h3 : nameLen (c :: w) = (c :: w).length
        · rw [h3]; simp
        · rw [decide_eq_false h3]; simpa using (by omega : ¬ ((nameLen (c :: w) : Int) = ((c :: w).length : Int)))
      generalize hq : c :: w = q at *
      have hb : (q == []) = false := by subst hq; rfl
      have he : q.isEmpty = false := by subst hq; rfl
      have h1' : ((q.length : Int) ≤ 16) := by omega
      simp [Fn.f_name_Right, hN, hb, he, h, h1', h2, bne]
    · generalize hq : c :: w = q at *
      have hb : (q == []) = false := by subst hq; rfl
      have he : q.isEmpty = false := by subst hq; rfl
      have h1' : ¬ ((q.length : Int) ≤ 16) := by omega
      simp [Fn.f_name_Right, hN, hb, he, h, h1', bne]
theorem own_id {id : Nat} {m : Mem} {x : Blk} (hm : m[id]? = some x) : id < m.length := by
  rcases Nat.lt_or_ge id m.length with hl | hl
  · exact hl
  · rw [List.getElem?_eq_none hl] at hm; cases hm
theorem rd_sign (u : R10 E) {s r : List UInt8} (hs : (s.length : Int) ≤ 1000000000) (hr : r <:+ s) (c : UInt8) (k : Nat) (hk : s.length + 5 ≤ k) (id : Nat) (m : Mem) (hm : m[id]? = some (rdB s r)) :
    denF E (k + 1) 271 [.ptr id 0, .p (.int .u8 c.toNat)] m = some (.ret (.p (.bool (pSign c r).1)), m.set id (rdB s (pSign c r).2)) := by
  refine denF_wp_own u.sign rfl ?_
  obtain ⟨j, rfl⟩ : ∃ j, k = j + 1 := ⟨k - 1, by omega⟩
  have hL := rd_left' u hs hr j (by omega) id m hm
  have hid := own_id hm
  have hself : ∀ x : Blk, (m.set id x)[id]? = some x := fun x => List.getElem?_set_self hid
  have hset : ∀ x y : Blk, (m.set id x).set id y = m.set id y := fun x y => List.set_set ..
  have hsuf := suf_skip hr
  unfold pSign
  cases hq : skipB r with
  | nil =>
    rw [hq] at hL
    simp [Fn.f_ddltext_reader_sign, hL]
  | cons b q =>
    rw [hq] at hL hsuf
    have hb : ((b :: q) == []) = false := rfl
    have hpl := place_drop hsuf (n := 1) (by simp)
    have hlen := suf_len hsuf
    have hle := place_le (s := s) (r := b :: q)
    have hw : IntKind.i64.wrap ((placeOf10 s (b :: q) : Int) + 1) = ((placeOf10 s q : Nat) : Int) := by
      rw [wrap_i64 (by omega) (by omega)]
      have : placeOf10 s q = placeOf10 s (b :: q) + 1 := hpl
      omega
    by_cases h : b = c
    · subst h
      unfold rdB rdCells at *
      simp [Fn.f_ddltext_reader_sign, hL, hb, hid, hself, hset, hw, bne]
    · have hne : ((b.toNat : Int) == (c.toNat : Int)) = false := by
        rw [beq_eq_false_iff_ne]; intro e; exact h (UInt8.toNat_inj.1 (by omega))
      simp [Fn.f_ddltext_reader_sign, hL, hb, h, hne, bne]
theorem rd_name (u : R10 E) {s r : List UInt8} (hs : (s.length : Int) ≤ 1000000000) (hr : r <:+ s) (k : Nat) (hk : s.length + 7 ≤ k) (id : Nat) (m : Mem) (hm : m[id]? = some (rdB s r)) :
    denF E (k + 1) 252 [.ptr id 0] m = some ((pName r).out (fun w => .p (.str w)), m.set id (rdB s (pName r).rest)) := by
  refine denF_wp_own u.name rfl ?_
  obtain ⟨j, rfl⟩ : ∃ j, k = j + 1 := ⟨k - 1, by omega⟩
  have hP := rd_peek u hs hr j (by omega) id m hm
  have hid := own_id hm
  have hself : ∀ x : Blk, (m.set id x)[id]? = some x := fun x => List.getElem?_set_self hid
  have hset : ∀ x y : Blk, (m.set id x).set id y = m.set id y := fun x y => List.set_set ..
  have hB5 := fun m => rd_bad u j 5 m
  have hB8 := fun m => rd_bad u j 8 m
  have hwl := word_len (skipB r)
  have hpl := place_drop (suf_skip hr) hwl
  have hle := place_le (s := s) (r := skipB r)
  have hlen := suf_len (suf_skip hr)
  have hR := fun m => name_Right u (wordOf (skipB r)) (by omega) j (by omega) m
  have hw : IntKind.i64.wrap ((placeOf10 s (skipB r) : Int) + (wordOf (skipB r)).length) = ((placeOf10 s ((skipB r).drop (wordOf (skipB r)).length) : Nat) : Int) := by rw [wrap_i64 (by omega) (by omega), hpl]; omega
  unfold pName
  generalize wordOf (skipB r) = w at *
  by_cases h : w = []
  · subst h
    simp [Fn.f_ddltext_reader_name, hP, hB5, PR.out, PR.rest, flt]
  · have hb : (w == []) = false := by simpa using h
    rw [if_neg h]
    cases hr : rightN w with
    | false => rw [hr] at hR; simp [Fn.f_ddltext_reader_name, hP, hb, hR, hB8, PR.out, PR.rest, flt]
    | true =>
      rw [hr] at hR
      unfold rdB rdCells at *
      simp [Fn.f_ddltext_reader_name, hP, hb, hR, hid, hself, hset, hw, PR.out, PR.rest]
end Hx
