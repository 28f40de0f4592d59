/-
  HxS15h: a row is moved from one table to another one, as the document says.
-/
import Derived.Test.YtfobhbameffplaaHxS15b
import Derived.Test.YtfobhbameffplaaHxS15f
namespace Hx
open Go
set_option linter.unusedSimpArgs false
set_option linter.unusedVariables false
set_option maxHeartbeats 8000000
variable {E : Env}
attribute [-simp] List.getD_eq_getElem?_getD getElem?_pos
theorem ascii_signs : ∀ (k : Nat) (t : List UInt8), t.length ≤ k → (∀ c ∈ t, c.toNat < 128) → (signs t).isSome = true
  | 0, t, hk, h => by
    have : t = [] := List.length_eq_zero_iff.1 (by omega)
    subst this
    rfl
  | k + 1, [], hk, h => rfl
  | k + 1, c :: r, hk, h => by
    have hc : c.toNat < 128 := h c (by simp)
    have hu : utf8 (c.toNat : Int) = [c] := by
      rw [utf8_1 (by omega), byte_self]
    have hr := readU_utf8 (n := (c.toNat : Int)) (by rw [isSign_iff]; omega) r
    rw [hu] at hr
    have hr' : readU (c :: r) = some ((c.toNat : Int), 1) := hr
    rw [signs_step (by simp), hr']
    have := ascii_signs k r (by simpa using hk) (fun x hx => h x (List.mem_cons_of_mem _ hx))
    have hd : (c :: r).drop (1 : Int).toNat = r := rfl
    simp only [hd]
    cases hq : signs r with
    | none => rw [hq] at this; cases this
    | some l => rfl
def okW (k mx : Int) (v : Val) : Bool := zvB v || fitsB k mx v
def castW (v : Val) (k : Int) : Val := if zvB v then zv else if k < 3 then (k, v.2.1, []) else (k, 0, castS v.1 v.2.1 v.2.2)
theorem rightV_of {k n : Int} {s : List UInt8} (h : (k = 0 ∧ n = 0 ∧ s = []) ∨ (k = 1 ∧ s = [] ∧ fits32 n = true) ∨ (k = 2 ∧ s = []) ∨ (k = 3 ∧ n = 0 ∧ s.length ≤ 120 ∧ (signs s).isSome = true) ∨ (k = 4 ∧ n = 0 ∧ s.length ≤ 120)) : rightV k n s = true := by
  rcases h with ⟨rfl, rfl, rfl⟩ | ⟨rfl, rfl, h⟩ | ⟨rfl, rfl⟩ | ⟨rfl, rfl, h1, h2⟩ | ⟨rfl, rfl, h1⟩ <;> simp_all [rightV]
theorem fitsB_of {k mx : Int} {v : Val} (h : fitsB k mx v = true) : rightT k mx = true ∧ rightV v.1 v.2.1 v.2.2 = true ∧ v.1 = k ∧ (k < 3 ∨ (v.2.2.length : Int) ≤ mx) := by
  unfold fitsB at h
  simp only [Bool.and_eq_true, Bool.or_eq_true, beq_iff_eq, decide_eq_true_eq] at h
  exact ⟨h.1, h.2.1, h.2.2.1, h.2.2.2⟩
theorem fitsB_mk {k mx : Int} {v : Val} (h : rightT k mx = true ∧ rightV v.1 v.2.1 v.2.2 = true ∧ v.1 = k ∧ (k < 3 ∨ (v.2.2.length : Int) ≤ mx)) : fitsB k mx v = true := by
  unfold fitsB
  simp only [Bool.and_eq_true, Bool.or_eq_true, beq_iff_eq, decide_eq_true_eq]
  exact ⟨h.1, h.2.1, h.2.2.1, h.2.2.2⟩
theorem okW_right {k mx : Int} {v : Val} (h : okW k mx v = true) : rightV v.1 v.2.1 v.2.2 = true ∧ v.2.2.length ≤ 120 := by
  unfold okW at h
  rw [Bool.or_eq_true] at h
  rcases h with h | h
  · rw [zvB_iff] at h
    subst h
    exact ⟨rfl, Nat.zero_le _⟩
  · obtain ⟨_, h2, _, _⟩ := fitsB_of h
    refine ⟨h2, ?_⟩
    rcases rightV_cases h2 with ⟨_, _, e⟩ | ⟨_, e, _⟩ | ⟨_, e⟩ | ⟨_, _, e, _⟩ | ⟨_, _, e⟩
    · rw [e]; simp
    · rw [e]; simp
    · rw [e]; simp
    · exact e
    · exact e
theorem castS_lenB {a ma n : Int} {s : List UInt8} {bk bm : Int} (hn : isI64 n) (hw : wideT bk bm a ma = true) (hf : fitsB a ma (a, n, s) = true) (hb : ¬ bk < 3) : ((castS a n s).length : Int) ≤ bm := by
  rw [wide_iff] at hw
  obtain ⟨w1, w2, w3, w4⟩ := hw
  obtain ⟨f1, f2, -, f4⟩ := fitsB_of hf
  simp only at f2 f4
  have hb' : bk = 3 ∨ bk = 4 := by rcases right_cases w1 with ⟨rfl, _⟩ | ⟨rfl, _⟩ | ⟨rfl, _⟩ | ⟨rfl, _⟩ <;> omega
  have w4 := w4 hb'
  unfold castS
  rcases right_cases w2 with ⟨rfl, rfl⟩ | ⟨rfl, rfl⟩ | ⟨rfl, _⟩ | ⟨rfl, _⟩
  · rw [need_1] at w4
    rw [if_neg (by omega)]
    rcases rightV_cases f2 with h | ⟨_, _, h⟩ | h | h | h <;> try omega
    unfold fits32 at h
    have h := of_decide_eq_true h
    have := digits_32 h.1 h.2
    omega
  · rw [need_2] at w4
    rw [if_neg (by omega)]
    have := digits_64 hn.1 hn.2
    omega
  · rw [need_3] at w4
    rw [if_pos (by omega)]
    omega
  · rw [need_4] at w4
    rw [if_pos (by omega)]
    omega
theorem cast_wide {a ma : Int} {v : Val} {bk bm : Int} (hn : isI64 v.2.1) (hw : wideT bk bm a ma = true) (hf : okW a ma v = true) :
    castV v.1 v.2.1 v.2.2 bk bm = castR (castW v bk).1 (castW v bk).2.1 (castW v bk).2.2 0 ∧ okW bk bm (castW v bk) = true ∧ isI64 (castW v bk).2.1 := by
  have hw0 := hw
  rw [wide_iff] at hw
  obtain ⟨w1, w2, w3, w4⟩ := hw
  unfold castW
  unfold okW at hf
  cases hz : zvB v with
  | true =>
    rw [if_pos rfl]
    rw [zvB_iff] at hz
    subst hz
    refine ⟨?_, rfl, by simp [isI64, zv]⟩
    unfold castV zv
    rw [show rightV 0 0 [] = true from rfl, w1]
    rfl
  | false =>
  rw [if_neg (by simp)]
  rw [hz, Bool.false_or] at hf
  obtain ⟨v1, n, s⟩ := v
  obtain ⟨f1, f2, f3, f4⟩ := fitsB_of hf
  simp only at f2 f3 f4 hn
  subst f3
  have hlen := castS_lenB hn hw0 hf
  have ha : v1 ≠ 0 := by rcases right_cases w2 with ⟨rfl, _⟩ | ⟨rfl, _⟩ | ⟨rfl, _⟩ | ⟨rfl, _⟩ <;> omega
  by_cases hb : bk < 3
  · simp only [if_pos hb]
    refine ⟨?_, ?_, hn⟩
    · unfold castV
      rw [f2, w1, Bool.and_self, if_pos rfl, if_neg ha, if_neg (by omega), if_pos hb]
    · unfold okW
      rw [Bool.or_eq_true]
      refine .inr (fitsB_mk ⟨w1, ?_, rfl, .inl hb⟩)
      apply rightV_of
      rcases right_cases w1 with ⟨rfl, rfl⟩ | ⟨rfl, rfl⟩ | ⟨rfl, _⟩ | ⟨rfl, _⟩ <;> try omega
      · have : v1 = 1 := by rcases right_cases w2 with ⟨rfl, _⟩ | ⟨rfl, _⟩ | ⟨rfl, _⟩ | ⟨rfl, _⟩ <;> omega
        subst this
        rcases rightV_cases f2 with h | ⟨_, _, h⟩ | h | h | h <;> try omega
        exact .inr (.inl ⟨rfl, rfl, h⟩)
      · exact .inr (.inr (.inl ⟨rfl, rfl⟩))
  · have hl := hlen hb
    simp only [if_neg hb]
    refine ⟨?_, ?_, by simp [isI64]⟩
    · unfold castV
      rw [f2, w1, Bool.and_self, if_pos rfl, if_neg ha, if_neg (by omega), if_neg hb, if_neg (by omega)]
    · unfold okW
      rw [Bool.or_eq_true]
      refine .inr (fitsB_mk ⟨w1, ?_, rfl, .inr hl⟩)
      apply rightV_of
      simp only
      rcases right_cases w1 with ⟨rfl, rfl⟩ | ⟨rfl, rfl⟩ | ⟨rfl, _⟩ | ⟨rfl, _⟩ <;> try omega
      · refine .inr (.inr (.inr (.inl ⟨by simp, by simp, by omega, ?_⟩)))
        unfold castS
        split
        · rcases rightV_cases f2 with h | h | h | h | h <;> try omega
          exact h.2.2.2
        · exact ascii_signs _ _ (Nat.le_refl _) fun c hc => digits_mem hc
      · exact .inr (.inr (.inr (.inr ⟨by simp, by simp, by omega⟩)))
end Hx

namespace Hx
open Go
set_option linter.unusedSimpArgs false
set_option linter.unusedVariables false
set_option maxHeartbeats 64000000
set_option maxRecDepth 20000
variable {E : Env}
attribute [-simp] List.getD_eq_getElem?_getD getElem?_pos
def placeAt (t : Tbl) (i : Int) : Int := posI (fun c : Int × Col => c.1 == i) t.cols 0
structure D15 (E : Env) : Prop extends C15 E where
  place : E.fn 202 = some Fn.f_haulageref13_place
  move : E.fn 199 = some Fn.f_haulageref13_Move
  moved : E.fn 181 = some Fn.f_haulageref15_moved
  cast : E.fn 82 = some Fn.f_haulageref06_Cast
  digits : E.fn 40 = some Fn.f_haulageref05_Digits
theorem p202 : Fn.f_haulageref13_place.pure = true := rfl
theorem p199 : Fn.f_haulageref13_Move.pure = true := rfl
theorem p82 : Fn.f_haulageref06_Cast.pure = true := rfl
theorem ref_place (h : E.fn 202 = some Fn.f_haulageref13_place) {t : Tbl} (ht : TblF t) (n : Int) (hn : (t.cols.length : Int) ≤ 1000000) (k : Nat) (hk : t.cols.length + 3 ≤ k) (m : Mem) :
    denF E (k + 1) 202 [.p (.agg (tblP t)), .p (.int .i64 n)] m = some (.ret (.p (.int .i64 (placeAt t n))), m) := by
  have f1 := ht.flat
  unfold PV.flat at f1
  have hmain : Wp (iter (loopF E (denF E k) k Fn.f_haulageref13_place_k0 Fn.f_haulageref13_place_b0) k ⟨[.p (.agg (tblP t)), .p (.int .i64 n), .ptr 0 0, .tup [], .p (.int .i64 0), .p (.int .i64 0)] ++ List.replicate 16 (.tup []), [.cells ((tblP t).map .p)], []⟩)
      (fun e st => st.ds = [] ∧ st.ts.length = 22 ∧ ((e = .exit 0 ∧ placeAt t n = -1) ∨ (e = .ret ∧ st.ts.getD 4 (.tup []) = .p (.int .i64 (placeAt t n))))) := by
    refine loop_wp (α := Nat) (I := fun i st => i ≤ t.cols.length ∧ placeAt t n = posI (fun c : Int × Col => c.1 == n) (t.cols.drop i) i ∧ Live Fn.f_haulageref13_place_k0 (Fn.f_haulageref13_place_s0 (.p (.int .i64 n)) (.ptr 0 0) (.p (.int .i64 i))) [.cells ((tblP t).map .p)] st) (meas := fun i => t.cols.length - i) ?_ k 0 _ ⟨Nat.zero_le _, rfl, rfl, rfl, rfl, rfl⟩ (by omega)
    rintro i st ⟨hi, hv, hlive⟩
    rw [loopF_live hlive]
    by_cases hlt : i < t.cols.length
    · have hlt' : (i : Int) < t.cols.length := by omega
      obtain ⟨c, hc⟩ : ∃ c, t.cols[i]? = some c := ⟨_, List.getElem?_eq_getElem hlt⟩
      have hw : IntKind.i64.wrap ((i : Int) + 1) = ((i + 1 : Nat) : Int) := by rw [wrap_i64 (by omega) (by omega)]; omega
      rw [posI_step hc] at hv
      generalize placeAt t n = r at *
      rcases ht with ⟨hs, hs2⟩ | hs2
      · rw [hs] at hlt; simp at hlt
      cases q : (fun c : Int × Col => c.1 == n) c with
      | true =>
        simp only at q
        simp only [q, if_true] at hv
        simp [Fn.f_haulageref13_place_b0, Fn.f_haulageref13_place_s0, tblP, colQ, hs2, hlt, hlt', hc, q, hv]
      | false =>
        simp only at q
        simp only [q, Bool.false_eq_true, if_false] at hv
        simp [Fn.f_haulageref13_place_b0, Fn.f_haulageref13_place_s0, tblP, colQ, hs2, hlt, hlt', hc, q, hw, -Int.natCast_add]
        exact ⟨i + 1, by omega, hlt, hv, rfl, rfl, rfl, rfl⟩
    · have hlt' : ¬ (i : Int) < t.cols.length := by omega
      rw [List.drop_eq_nil_of_le (by omega)] at hv
      have hv0 : placeAt t n = -1 := hv
      clear hv
      generalize placeAt t n = r at *
      rcases ht with ⟨hs, hs2⟩ | hs2
      · rw [hs] at hi hlt'
        obtain rfl : i = 0 := by simpa using hi
        simp [Fn.f_haulageref13_place_b0, Fn.f_haulageref13_place_s0, tblP, colQ, hs2, hv0]
      · simp [Fn.f_haulageref13_place_b0, Fn.f_haulageref13_place_s0, tblP, colQ, hs2, hlt', hv0]
  obtain ⟨e, st, hrun, hds, hlen, hq⟩ := hmain
  obtain ⟨ts', m', ds⟩ := st
  simp only at hds hlen hq
  subst hds
  simp only [List.replicate, List.cons_append, List.nil_append, tblP, List.map_cons, List.map_nil] at hrun
  refine denF_wp h rfl (args' := [.p (.agg (tblP t)), .p (.int .i64 n)]) rfl ?_
  rcases hq with ⟨rfl, hq⟩ | ⟨rfl, hq⟩
  · have hx := expand_ts 22 ts' hlen
    simp only [List.range, List.range.loop, List.map_cons, List.map_nil] at hx
    simp [Fn.f_haulageref13_place, tblP, f1, hrun]
    rw [hx]
    simp [hq]
  · simp [Fn.f_haulageref13_place, tblP, f1, hrun, hq]
def moveC (f : Tbl) (r : Row) (c : Int × Col) : Val := if 0 ≤ placeAt f c.1 then castW (r.getD (placeAt f c.1).toNat zv) c.2.kind else dflt c
def moveR (f t : Tbl) (r : Row) : Row := t.cols.map (moveC f r)
def MvOk (f t : Tbl) : Prop := ∀ c ∈ t.cols, okW c.2.kind c.2.max (dflt c) = true ∧ isI64 c.2.dn ∧ ∀ k : Nat, placeAt f c.1 = (k : Int) → ∃ c0, f.cols[k]? = some c0 ∧ wideT c.2.kind c.2.max c0.2.kind c0.2.max = true
structure RowFit (t : Tbl) (r : Row) : Prop where
  len : r.length = t.cols.length
  ok : ∀ (i : Nat) c v, t.cols[i]? = some c → r[i]? = some v → okW c.2.kind c.2.max v = true ∧ isI64 v.2.1
theorem placeAt_vals (t : Tbl) (i : Int) : placeAt t i = -1 ∨ ∃ k : Nat, placeAt t i = (k : Int) ∧ k < t.cols.length := by
  rcases posI_cases (fun c : Int × Col => c.1 == i) t.cols 0 with ⟨h, _⟩ | ⟨j, x, h1, h2, _⟩
  · exact .inl h
  · refine .inr ⟨j, ?_, (List.getElem?_eq_some_iff.1 h2).1⟩
    unfold placeAt
    rw [h1]; simp
structure MoveInv (f t : Tbl) (r : Row) (i : Nat) (m : Mem) (av : AV) : Prop where
  m0 : m[0]? = some (.cells ((tblP f).map .p))
  m1 : m[1]? = some (.cells ((tblP t).map .p))
  o : OutG 3 m (((moveR f t r).take i).map valP) av
theorem ref_Move (u : D15 E) {f t : Tbl} (hf : TblF f) (ht : TblF t) (hfl : f.cols.length ≤ 20) (htl : t.cols.length ≤ 20) (htn : t.cols ≠ []) (hmv : MvOk f t) {r : Row} (hr : RowFit f r) (n : Nat) (hn : 500 ≤ n) (m : Mem) :
    denF E (n + 1) 199 [.p (.agg (tblP f)), .p (.agg (tblP t)), .p (.vals 3 (r.map valP))] m = some (.ret (.tup [.p (.vals 3 ((moveR f t r).map valP)), .p (.int .i64 0)]), m) := by
  obtain ⟨j, rfl⟩ : ∃ j, n = j + 1 := ⟨n - 1, by omega⟩
  have f1 := hf.flat
  have f2 := ht.flat
  unfold PV.flat at f1 f2
  have hs2 : t.sl = .vals 8 (t.cols.map colQ) := by
    rcases ht with ⟨h, _⟩ | h
    · exact absurd h htn
    · exact h
  have hP := fun i m => ref_place u.place hf i (by omega) j (by omega) m
  simp only [tblP] at hP
  have hmain : ∀ st, Live Fn.f_haulageref13_Move_k0 (Fn.f_haulageref13_Move_s0 (.p (.vals 3 (r.map valP))) (.ptr 0 0) (.ptr 1 0) (.p .nils) (.p (.int .i64 0))) [.cells ((tblP f).map .p), .cells ((tblP t).map .p)] st →
      Wp (iter (loopF E (denF E (j + 1)) (j + 1) Fn.f_haulageref13_Move_k0 Fn.f_haulageref13_Move_b0) (j + 1) st)
      (fun e st => e = .exit 0 ∧ st.ds = [] ∧ st.ts.length = 52 ∧ OutG 3 st.m ((moveR f t r).map valP) (st.ts.getD 8 (.tup []))) := by
    intro st0 hst0
    refine loop_wp (α := Nat × Mem × AV) (I := fun s st => s.1 ≤ t.cols.length ∧ MoveInv f t r s.1 s.2.1 s.2.2 ∧ Live Fn.f_haulageref13_Move_k0 (Fn.f_haulageref13_Move_s0 (.p (.vals 3 (r.map valP))) (.ptr 0 0) (.ptr 1 0) s.2.2 (.p (.int .i64 s.1))) s.2.1 st) (meas := fun s => t.cols.length - s.1) ?_ (j + 1) (0, [.cells ((tblP f).map .p), .cells ((tblP t).map .p)], .p .nils) _ ⟨Nat.zero_le _, ⟨rfl, rfl, .inl ⟨rfl, rfl⟩⟩, hst0⟩ (by simp only [Nat.sub_zero]; omega)
    rintro ⟨i, m, av⟩ st ⟨hi, ⟨m0, m1, ho⟩, hlive⟩
    simp only at hi m0 m1 ho hlive
    rw [loopF_live hlive]
    by_cases hlt : i < t.cols.length
    · have hlt' : (i : Int) < t.cols.length := by omega
      obtain ⟨c, hc⟩ : ∃ c, t.cols[i]? = some c := ⟨_, List.getElem?_eq_getElem hlt⟩
      obtain ⟨w1, w2, w3⟩ := hmv c (List.mem_of_getElem? hc)
      have hw : IntKind.i64.wrap ((i : Int) + 1) = ((i + 1 : Nat) : Int) := by rw [wrap_i64 (by omega) (by omega)]; omega
      have hmi : (moveR f t r)[i]? = some (moveC f r c) := by unfold moveR; rw [List.getElem?_map, hc]; rfl
      have key : ∃ av' m', appR 3 32 (m ++ [.cells ((colQ c).map .p), .cells ((valP (moveC f r c)).map .p)]) av (.p (.vals 3 [valP (moveC f r c)])) = some (av', m') ∧ MoveInv f t r (i + 1) m' av' := by
        have hl : ((moveR f t r).take i).length ≤ 20 := by rw [List.length_take]; omega
        obtain ⟨av', m', h1, h2, h3, h4⟩ := appR_out (b := 32) (out_app ho [.cells ((colQ c).map .p), .cells ((valP (moveC f r c)).map .p)]) (valP (moveC f r c)) (by rw [List.length_map]; omega) (by rw [List.length_map]; omega)
        refine ⟨av', m', h1, h4 _ _ (get_app5 m0), h4 _ _ (get_app5 m1), ?_⟩
        obtain ⟨q1, q2⟩ := List.getElem?_eq_some_iff.1 hmi
        rw [List.take_succ_eq_append_getElem q1, q2, List.map_append]
        exact h2
      obtain ⟨av', m', ha, hinv⟩ := key
      have g0 : ∀ l : Mem, (m ++ l)[0]? = some (.cells ((tblP f).map .p)) := fun l => get_app5 m0
      have g1 : ∀ l : Mem, (m ++ l)[1]? = some (.cells ((tblP t).map .p)) := fun l => get_app5 m1
      have hPc := fun m => hP c.1 m
      simp only [tblP, List.map_cons, List.map_nil, hs2] at m0 m1 g0 g1
      rcases placeAt_vals f c.1 with q | ⟨k, q, hk⟩
      · have hx : moveC f r c = dflt c := by unfold moveC; rw [q]; rfl
        rw [q] at hPc
        rw [hx] at ha
        simp only [colQ, valP, dflt, List.map_cons, List.map_nil] at ha
        simp (maxSteps := 4000000) [Fn.f_haulageref13_Move_b0, Fn.f_haulageref13_Move_s0, colQ, hs2, hlt, hlt', hc, hw, m0, m1, g0, g1, ln_at0, ln_set0, ln_at1, ln_set1, hPc, u.place, p202, ha, -Int.natCast_add]
        exact ⟨i + 1, by omega, hlt, _, _, hinv, rfl, rfl, rfl, rfl⟩
      · obtain ⟨c0, hc0, hwd⟩ := w3 k q
        obtain ⟨v, hv⟩ : ∃ v, r[k]? = some v := ⟨_, List.getElem?_eq_getElem (by rw [hr.len]; exact hk)⟩
        obtain ⟨v1, v2⟩ := hr.ok k c0 v hc0 hv
        obtain ⟨hcast, -, -⟩ := cast_wide v2 hwd v1
        have hC := fun m => ref_CastQ u.q3 u.q1 u.vright u.tright u.digits u.cast v.1 v.2.1 c.2.kind c.2.max v.2.2 v2 (by have := (okW_right v1).2; omega) j (by have := (okW_right v1).2; omega) m
        rw [hcast] at hC
        have hx : moveC f r c = castW v c.2.kind := by
          unfold moveC
          rw [q, if_pos (by omega), Int.toNat_natCast, List.getD_eq_getElem?_getD, hv]; rfl
        rw [q] at hPc
        rw [hx] at ha
        generalize castW v c.2.kind = w at ha hC
        simp only [colQ, valP, dflt, List.map_cons, List.map_nil] at ha
        simp only [castR, vP, tP] at hC
        have hk0 : (0 : Int) ≤ k := by omega
        simp (maxSteps := 4000000) [Fn.f_haulageref13_Move_b0, Fn.f_haulageref13_Move_s0, colQ, valP, hs2, hlt, hlt', hc, hw, hv, m0, m1, g0, g1, ln_at0, ln_set0, ln_at1, ln_set1, hPc, u.place, p202, hC, u.cast, p82, ha, bne, -Int.natCast_add]
        exact ⟨i + 1, by omega, hlt, _, _, hinv, rfl, rfl, rfl, rfl⟩
    · have hlt' : ¬ (i : Int) < t.cols.length := by omega
      obtain rfl : i = t.cols.length := by omega
      have hlm : (moveR f t r).length = t.cols.length := by simp [moveR]
      rw [List.take_of_length_le (by omega)] at ho
      simp only [tblP, List.map_cons, List.map_nil, hs2] at m1
      simp (maxSteps := 4000000) [Fn.f_haulageref13_Move_b0, Fn.f_haulageref13_Move_s0, m1]
      exact ho
  refine denF_wp u.move rfl (args' := [.p (.agg (tblP f)), .p (.agg (tblP t)), .p (.vals 3 (r.map valP))]) rfl ?_
  simp (maxSteps := 4000000) [Fn.f_haulageref13_Move, tblP, f1, f2]
  refine (hmain _ ⟨rfl, rfl, rfl, rfl⟩).mono ?_
  rintro e st ⟨rfl, hds, hlen, ho⟩
  obtain ⟨ts', m', ds⟩ := st
  simp only at hds hlen ho
  subst hds
  have hx := expand_ts 52 ts' hlen
  simp only [List.range, List.range.loop, List.map_cons, List.map_nil] at hx
  have hne : (moveR f t r).map valP ≠ [] := by
    intro h
    have h1 := congrArg List.length h
    simp only [moveR, List.length_map, List.length_nil] at h1
    exact htn (List.length_eq_zero_iff.1 h1)
  rcases ho with ⟨h, _⟩ | ⟨tok, h8, _⟩
  · exact absurd h hne
  rw [h8] at hx
  rw [hx]
  simp
end Hx
