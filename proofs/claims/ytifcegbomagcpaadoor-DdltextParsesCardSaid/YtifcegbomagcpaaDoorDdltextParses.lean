/- The law DdltextParses: for every input that the row lets in, the call answers true, and each argument reads as it did: no condition besides. -/
import Derived.Test.YtifcegbomagcpaaDoorHxM10s
import Derived.Test.YtifcegbomagcpaaDoorHx
import Derived.Test.YtifcegbomagcpaaDoorTie
import Derived.Test.YtifcegbomagcpaaDoorCards
import Derived.Test.YtifcegbomagcpaaDoorHxV05s
import Derived.Test.YtifcegbomagcpaaDoorHxU06i
import Derived.Test.YtifcegbomagcpaaDoorHxV05b
import Derived.Test.YtifcegbomagcpaaDoorHxU10c
import Derived.WalkKit
namespace Hx
open Go
set_option linter.unusedSimpArgs false
set_option linter.unusedVariables false
set_option maxHeartbeats 32000000
set_option maxRecDepth 20000
variable {E : Env}
attribute [-simp] List.getD_eq_getElem?_getD getElem?_pos
theorem eq_colQ (a b : Int × Col) : eqTree (.struct [(0, 1, .int), (1, 1, .str), (2, 2, (.struct [(0, 1, .int), (1, 1, .int)])), (4, 1, .bool), (5, 3, (.struct [(0, 1, .int), (1, 1, .int), (2, 1, .str)]))]) (.agg (colQ a)) (.agg (colQ b)) = some (sameQ a b) := by
  simp [eqTree, eqFs, partP, EqT.agg, colQ, sameQ]
theorem sameQs_len : ∀ {a b : List (Int × Col)}, a.length ≠ b.length → sameQs a b = false
  | [], [], h => absurd rfl h
  | [], _ :: _, _ => rfl
  | _ :: _, [], _ => rfl
  | a :: l, b :: l', h => by
    unfold sameQs
    rw [sameQs_len (by simpa using h), Bool.and_false]
theorem sameQs_step {a b : List (Int × Col)} {i : Nat} {x y : Int × Col} (hx : a[i]? = some x) (hy : b[i]? = some y) : sameQs (a.drop i) (b.drop i) = (sameQ x y && sameQs (a.drop (i + 1)) (b.drop (i + 1))) := by
  obtain ⟨h1, h2⟩ := List.getElem?_eq_some_iff.1 hx
  obtain ⟨h3, h4⟩ := List.getElem?_eq_some_iff.1 hy
  rw [List.drop_eq_getElem_cons h1, List.drop_eq_getElem_cons h3, h2, h4]
  rfl
theorem ref_SameCols (h : E.fn 193 = some Fn.f_haulageref08_SameCols) {sa sb : PV} {a b : List (Int × Col)} (ha : SlQ sa a) (hb : SlQ sb b) (hl : (a.length : Int) ≤ 1000000000) (k : Nat) (hk : a.length + 3 ≤ k) (m : Mem) :
    denF E (k + 1) 193 [.p sa, .p sb] m = some (.ret (.p (.bool (sameQs a b))), m) := by
  refine denF_wp h rfl (args' := [.p sa, .p sb]) rfl ?_
  by_cases hne : a.length = b.length
  · have hstart : Wp (iter (loopF E (denF E k) k Fn.f_haulageref08_SameCols_k0 Fn.f_haulageref08_SameCols_b0) k ⟨[.p sa, .p sb, .tup [], .tup [], .p (.bool false), .p (.int .i64 0), .p sa, .p (.int .i64 a.length), .p sb, .p (.int .i64 b.length), .p (.bool false), .tup [], .tup [], .tup [], .tup [], .tup [], .tup [], .tup [], .tup [], .tup [], .tup [], .tup [], .tup [], .tup [], .tup [], .tup []], [], []⟩)
        (fun e st => st.ds = [] ∧ st.ts.length = 26 ∧ ((e = .exit 0 ∧ sameQs a b = true) ∨ (e = .ret ∧ sameQs a b = false ∧ st.ts.getD 4 (.tup []) = .p (.bool false)))) := by
      refine loop_wp (α := Nat) (I := fun i st => i ≤ a.length ∧ sameQs (a.drop i) (b.drop i) = sameQs a b ∧ Live Fn.f_haulageref08_SameCols_k0 (Fn.f_haulageref08_SameCols_s0 (.p sa) (.p sb) (.p (.int .i64 i))) [] st) (meas := fun i => a.length - i) ?_ k 0 _ ⟨Nat.zero_le _, rfl, rfl, rfl, rfl, rfl⟩ (by omega)
      rintro i st ⟨hi, hs, hlive⟩
      rw [loopF_live hlive]
      by_cases hlt : i < a.length
      · have hlt' : (i : Int) < a.length := by omega
        obtain ⟨x, hx⟩ : ∃ x, a[i]? = some x := ⟨_, List.getElem?_eq_getElem hlt⟩
        obtain ⟨y, hy⟩ : ∃ y, b[i]? = some y := ⟨_, List.getElem?_eq_getElem (by omega)⟩
        rw [sameQs_step hx hy] at hs
        have hw : IntKind.i64.wrap ((i : Int) + 1) = ((i + 1 : Nat) : Int) := by rw [wrap_i64 (by omega) (by omega)]; omega
        have hE := eq_colQ x y
        have hlx : (colQ x).length = 8 := rfl
        have hly : (colQ y).length = 8 := rfl
        have htx : (colQ x).take 8 = colQ x := rfl
        have hty : (colQ y).take 8 = colQ y := rfl
        rcases ha with ⟨rfl, rfl⟩ | rfl
        · simp at hlt
        rcases hb with ⟨rfl, rfl⟩ | rfl
        · simp at hy
        cases hq : sameQ x y with
        | false =>
          rw [hq] at hs hE
          rw [Bool.false_and] at hs
          simp [Fn.f_haulageref08_SameCols_b0, Fn.f_haulageref08_SameCols_s0, hlt, hlt', hx, hy, hE, hlx, hly, htx, hty, hs.symm]
        | true =>
          rw [hq] at hs hE
          rw [Bool.true_and] at hs
          simp [Fn.f_haulageref08_SameCols_b0, Fn.f_haulageref08_SameCols_s0, hlt, hlt', hx, hy, hE, hlx, hly, htx, hty, hw, -Int.natCast_add]
          exact ⟨i + 1, by omega, hlt, hs, rfl, rfl, rfl, rfl⟩
      · have hlt' : ¬ (i : Int) < a.length := by omega
        have e1 : a.drop i = [] := List.drop_eq_nil_of_le (by omega)
        have e2 : b.drop i = [] := List.drop_eq_nil_of_le (by omega)
        rw [e1, e2] at hs
        have hs' : sameQs a b = true := hs.symm
        rcases ha with ⟨rfl, rfl⟩ | rfl
        · obtain rfl : i = 0 := by simpa using hi
          simp [Fn.f_haulageref08_SameCols_b0, Fn.f_haulageref08_SameCols_s0, hs']
        · simp [Fn.f_haulageref08_SameCols_b0, Fn.f_haulageref08_SameCols_s0, hlt', hs']
    have hbf : ((a.length : Int) == (b.length : Int)) = true := by simpa using (by omega : (a.length : Int) = b.length)
    have hfin : ∀ (Q : Ex → St → Prop), (∀ e st, st.ds = [] ∧ st.ts.length = 26 ∧ ((e = .exit 0 ∧ sameQs a b = true) ∨ (e = .ret ∧ sameQs a b = false ∧ st.ts.getD 4 (.tup []) = .p (.bool false))) → Q e st) → Wp (iter (loopF E (denF E k) k Fn.f_haulageref08_SameCols_k0 Fn.f_haulageref08_SameCols_b0) k ⟨[.p sa, .p sb, .tup [], .tup [], .p (.bool false), .p (.int .i64 0), .p sa, .p (.int .i64 a.length), .p sb, .p (.int .i64 b.length), .p (.bool false), .tup [], .tup [], .tup [], .tup [], .tup [], .tup [], .tup [], .tup [], .tup [], .tup [], .tup [], .tup [], .tup [], .tup [], .tup []], [], []⟩) Q := fun Q hQ => hstart.mono hQ
    have hbn : ((a.length : Int) == (b.length : Int)) = true := hbf
    rcases ha with ⟨rfl, rfl⟩ | rfl <;> rcases hb with ⟨rfl, rfl⟩ | rfl
    all_goals
      try simp only [List.length_nil, Int.natCast_zero] at hbn hfin
      simp [Fn.f_haulageref08_SameCols, bne, hbn]
      refine hfin _ ?_
      rintro e st ⟨hds, hlen, ⟨rfl, hsq⟩ | ⟨rfl, hsq, h4⟩⟩
      · obtain ⟨ts, m', ds⟩ := st
        simp only at hds hlen
        subst hds
        have hx : ts = [ts.getD 0 (.tup []), ts.getD 1 (.tup []), ts.getD 2 (.tup []), ts.getD 3 (.tup []), ts.getD 4 (.tup []), ts.getD 5 (.tup []), ts.getD 6 (.tup []), ts.getD 7 (.tup []), ts.getD 8 (.tup []), ts.getD 9 (.tup []), ts.getD 10 (.tup []), ts.getD 11 (.tup []), ts.getD 12 (.tup []), ts.getD 13 (.tup []), ts.getD 14 (.tup []), ts.getD 15 (.tup []), ts.getD 16 (.tup []), ts.getD 17 (.tup []), ts.getD 18 (.tup []), ts.getD 19 (.tup []), ts.getD 20 (.tup []), ts.getD 21 (.tup []), ts.getD 22 (.tup []), ts.getD 23 (.tup []), ts.getD 24 (.tup []), ts.getD 25 (.tup [])] := expand_ts 26 ts hlen
        rw [hx]
        simp [hsq]
      · simp [hds, h4, hsq]
  · have hbf : ((a.length : Int) == (b.length : Int)) = false := by simpa using (by omega : ¬ (a.length : Int) = b.length)
    rw [sameQs_len hne]
    rcases ha with ⟨rfl, rfl⟩ | rfl <;> rcases hb with ⟨rfl, rfl⟩ | rfl
    · exact absurd rfl hne
    all_goals
      try simp only [List.length_nil, Int.natCast_zero] at hbf
      simp [Fn.f_haulageref08_SameCols, bne, hbf]
structure L09 (E : Env) : Prop where
  same : E.fn 178 = some Fn.f_haulageref09_Same
  cols : E.fn 193 = some Fn.f_haulageref08_SameCols
theorem ref_Same (u : L09 E) (x y : Ddl) {sa sb : PV} {a b : List (Int × Col)} (ha : SlQ sa a) (hb : SlQ sb b) (hl : (a.length : Int) ≤ 1000000000) (k : Nat) (hk : a.length + 4 ≤ k) (m : Mem) :
    denF E (k + 1) 178 [.p (.agg (dV x sa)), .p (.agg (dV y sb))] m = some (.ret (.p (.bool (sameH x y && sameQs a b))), m) := by
  refine denF_wp u.same rfl (args' := [.p (.agg (dV x sa)), .p (.agg (dV y sb))]) rfl ?_
  obtain ⟨j, rfl⟩ : ∃ j, k = j + 1 := ⟨k - 1, by omega⟩
  have hC := fun m => ref_SameCols u.cols ha hb hl j (by omega) m
  have fa : sa.flat = true := by rcases ha with ⟨_, rfl⟩ | rfl <;> rfl
  have fb : sb.flat = true := by rcases hb with ⟨_, rfl⟩ | rfl <;> rfl
  unfold PV.flat at fa fb
  have hT := fun a b c d : Int => @eq_tP a b c d
  have hV := fun (a b c d : Int) (s t : List UInt8) => @eq_vP a b c d s t
  unfold sameH
  cases q1 : (x.op == y.op)
  · simp (maxSteps := 8000000) [Fn.f_haulageref09_Same, dV, fa, fb, q1]
  cases q2 : (x.table == y.table)
  · simp (maxSteps := 8000000) [Fn.f_haulageref09_Same, dV, fa, fb, q1, q2]
  cases q3 : (x.column == y.column)
  · simp (maxSteps := 8000000) [Fn.f_haulageref09_Same, dV, fa, fb, q1, q2, q3]
  cases q4 : (x.to == y.to)
  · simp (maxSteps := 8000000) [Fn.f_haulageref09_Same, dV, fa, fb, q1, q2, q3, q4]
  cases q5 : (x.key == y.key)
  · simp (maxSteps := 8000000) [Fn.f_haulageref09_Same, dV, fa, fb, q1, q2, q3, q4, q5]
  cases q6 : (x.kind == y.kind && x.max == y.max)
  · simp (maxSteps := 8000000) [Fn.f_haulageref09_Same, dV, fa, fb, hT, q1, q2, q3, q4, q5, q6]
  cases q7 : (x.null == y.null)
  · simp (maxSteps := 8000000) [Fn.f_haulageref09_Same, dV, fa, fb, hT, q1, q2, q3, q4, q5, q6, q7]
  cases q8 : (x.dk == y.dk && (x.dn == y.dn && x.ds == y.ds))
  · simp (maxSteps := 8000000) [Fn.f_haulageref09_Same, dV, fa, fb, hT, hV, q1, q2, q3, q4, q5, q6, q7, q8]
  · simp (maxSteps := 8000000) [Fn.f_haulageref09_Same, dV, fa, fb, hT, hV, hC, q1, q2, q3, q4, q5, q6, q7, q8]
theorem bind_ok {α β : Type} {p : PR α} {f : α → List UInt8 → PR β} {v : β} {q : List UInt8} (h : p.bind f = .ok v q) : ∃ a r, p = .ok a r ∧ f a r = .ok v q := by
  cases p with
  | bad e r => cases h
  | ok a r => exact ⟨a, r, rfl, h⟩
theorem pColsF_len : ∀ (k : Nat) (l : List Col) {r q : List UInt8} {cs : List Col}, pColsF k l r = .ok cs q → cs.length ≤ l.length + k
  | 0, _, _, _, _, h => by cases h
  | k + 1, l, r, q, cs, h => by
    rw [pColsF_succ] at h
    obtain ⟨c, r1, _, h⟩ := bind_ok h
    split at h
    · have := pColsF_len k _ h
      simp at this
      omega
    · obtain ⟨_, r2, _, h⟩ := bind_ok h
      cases h
      simp
theorem pChange_len {r q : List UInt8} {d : Ddl} (h : pChange r = .ok d q) : d.cols.length ≤ 10 := by
  unfold pChange at h
  split at h
  · cases h
  obtain ⟨t, r1, _, h⟩ := bind_ok h
  unfold pRest at h
  split at h
  · obtain ⟨cs, r2, hc, h⟩ := bind_ok h
    obtain ⟨_, r3, _, h⟩ := bind_ok h
    obtain ⟨_, r4, _, h⟩ := bind_ok h
    cases h
    unfold pCols at hc
    obtain ⟨_, r5, _, hc⟩ := bind_ok hc
    have := pColsF_len _ _ hc
    simpa using this
  split at h
  · cases h; simp
  split at h
  · obtain ⟨_, r2, _, h⟩ := bind_ok h
    obtain ⟨_, r3, _, h⟩ := bind_ok h
    cases h; simp
  split at h
  · obtain ⟨_, r2, _, h⟩ := bind_ok h
    cases h; simp
  split at h
  · obtain ⟨_, r2, _, h⟩ := bind_ok h
    cases h; simp
  split at h
  · obtain ⟨_, r2, _, h⟩ := bind_ok h
    obtain ⟨_, r3, _, h⟩ := bind_ok h
    obtain ⟨_, r4, _, h⟩ := bind_ok h
    cases h; simp
  split at h
  · obtain ⟨_, r2, _, h⟩ := bind_ok h
    obtain ⟨_, r3, _, h⟩ := bind_ok h
    cases h; simp
  · obtain ⟨_, r2, _, h⟩ := bind_ok h
    obtain ⟨_, r3, _, h⟩ := bind_ok h
    cases h; simp
theorem parseV_form (s : List UInt8) : ∃ (d : Ddl) (n e : Int), parseV s = .tup [.p (.agg (ddlP d)), .p (.int .i64 n), .p (.int .i64 e)] ∧ d.cols.length ≤ 10 := by
  unfold parseV
  cases h : pAll s with
  | bad e r => exact ⟨_, _, _, rfl, by simp⟩
  | ok d r =>
    refine ⟨_, _, _, rfl, ?_⟩
    unfold pAll at h
    obtain ⟨d', r1, h1, h2⟩ := bind_ok h
    split at h2
    · cases h2; exact pChange_len h1
    · cases h2
theorem law_DdltextParses (w : T10 E) (v : V10 E) (u : L09 E) (h : E.fn 228 = some Fn.f_haulagelaw10_DdltextParses) (k : Nat) (hlv : ∀ m, denF E (k + 2999) 231 [] m = some (.ret (.p (.bool true)), m)) {x0 : PV} (c0 : Conf .str x0) (m : Mem) :
    denF E (k + 3000) 228 [.p x0] m = some (.ret (.p (.bool true)), m) := by
  simp only [Conf] at c0
  obtain ⟨s, rfl, _⟩ := c0
  rw [denF_pure h rfl]
  by_cases hs : (1500 : Int) < s.length
  · simp (maxSteps := 1000000) [Fn.f_haulagelaw10_DdltextParses, hlv, hs]
  have h1 := fun m => ddl_Parse w s (by omega) (k + 2998) (by omega) m
  have h2 := fun m => ref_Parse v s (by omega) (k + 2998) (by omega) m
  obtain ⟨d, n, e, hP, hc⟩ := parseV_form s
  rw [hP] at h1 h2
  have hq := slQ_of d.cols
  have h3 := fun m => ref_Same u d d hq hq (by simp; omega) (k + 2998) (by simp; omega) m
  rw [sameH_self, sameQs_self] at h3
  have hfl : (slP 8 (d.cols.map colP)).flat = true := by rcases hq with ⟨_, h⟩ | h <;> rw [h] <;> rfl
  unfold PV.flat at hfl
  rw [ddlP_dV] at h1 h2
  generalize slP 8 (d.cols.map colP) = sl at *
  unfold dV at *
  simp (maxSteps := 4000000) [Fn.f_haulagelaw10_DdltextParses, hlv, hs, h1, h2, h3, hfl]
end Hx

namespace Go.Proofs.YtifcegbomagcpaaDoor.Tab
open Go _root_.Hx Go.RowKit
def gl (g : Nat) : List PV := match g with
  | 0 => []
  | 1 => [.int .i64 0, .int .i64 0, .int .i64 128, .int .i64 2048, .int .i64 65536]
  | 2 => [.str [], .str [105, 110, 116], .str [108, 111, 110, 103], .str [116, 101, 120, 116], .str [98, 121, 116, 101, 115]]
  | 3 => [.str [], .str [99, 114, 101, 97, 116, 101], .str [100, 114, 111, 112], .str [114, 101, 110, 97, 109, 101], .str [97, 100, 100], .str [99, 117, 116], .str [99, 97, 108, 108], .str [119, 105, 100, 101, 110], .str [112, 114, 101, 115, 101, 116]]
  | _ => []
def E : Env := envOf L gl
theorem link : Link F E := link_of all_ok
theorem gn0 : Tryd.prog.globalNamed "haulage/utf.least" = some 3 := by kernel_rfl
theorem gt0 : (Tryd.prog.globals[3]?).map (·.type) = some 146 := by kernel_rfl
theorem ua0 : Tryd.prog.underlying 146 = some (.array 5 3) := by kernel_rfl
theorem ue0 : Tryd.prog.underlying 3 = some (.int .i64) := by kernel_rfl
theorem ca0 : Tryd.prog.cellsOf 146 = 5 := by kernel_rfl
theorem ce0 : Tryd.prog.cellsOf 3 = 1 := by kernel_rfl
theorem tab0 {W : World} (h : laidMetH Tryd.prog [("haulage/utf.least", Rows.laid_haulage_utf_least), ("haulage/typ.words", Rows.laid_haulage_typ_words), ("haulage/ddltext.words", Rows.laid_haulage_ddltext_words)] W) : Lib.TabIs Tryd.prog W "haulage/utf.least" .i64 [0, 0, 128, 2048, 65536] :=
  Lib.tabIs_of_head (rest := [("haulage/typ.words", Rows.laid_haulage_typ_words), ("haulage/ddltext.words", Rows.laid_haulage_ddltext_words)]) gn0 gt0 ua0 ue0 ce0 ca0 h
theorem gn1 : Tryd.prog.globalNamed "haulage/typ.words" = some 1 := by kernel_rfl
theorem gt1 : (Tryd.prog.globals[1]?).map (·.type) = some 107 := by kernel_rfl
theorem ua1 : Tryd.prog.underlying 107 = some (.array 5 9) := by kernel_rfl
theorem ue1 : Tryd.prog.underlying 9 = some (.string) := by kernel_rfl
theorem ca1 : Tryd.prog.cellsOf 107 = 5 := by kernel_rfl
theorem ce1 : Tryd.prog.cellsOf 9 = 1 := by kernel_rfl
theorem tab1 {W : World} (h : laidMetH Tryd.prog [("haulage/utf.least", Rows.laid_haulage_utf_least), ("haulage/typ.words", Rows.laid_haulage_typ_words), ("haulage/ddltext.words", Rows.laid_haulage_ddltext_words)] W) : W.var? Tryd.prog "haulage/typ.words" = some (([[], [105, 110, 116], [108, 111, 110, 103], [116, 101, 120, 116], [98, 121, 116, 101, 115]] : List (List UInt8)).map strV).toArray :=
  strs_of (rest := []) gn1 gt1 ua1 ue1 ce1 ca1 (h.filter fun x => x.1 == "haulage/typ.words")
theorem gn2 : Tryd.prog.globalNamed "haulage/ddltext.words" = some 0 := by kernel_rfl
theorem gt2 : (Tryd.prog.globals[0]?).map (·.type) = some 67 := by kernel_rfl
theorem ua2 : Tryd.prog.underlying 67 = some (.array 9 9) := by kernel_rfl
theorem ue2 : Tryd.prog.underlying 9 = some (.string) := by kernel_rfl
theorem ca2 : Tryd.prog.cellsOf 67 = 9 := by kernel_rfl
theorem ce2 : Tryd.prog.cellsOf 9 = 1 := by kernel_rfl
theorem tab2 {W : World} (h : laidMetH Tryd.prog [("haulage/utf.least", Rows.laid_haulage_utf_least), ("haulage/typ.words", Rows.laid_haulage_typ_words), ("haulage/ddltext.words", Rows.laid_haulage_ddltext_words)] W) : W.var? Tryd.prog "haulage/ddltext.words" = some (([[], [99, 114, 101, 97, 116, 101], [100, 114, 111, 112], [114, 101, 110, 97, 109, 101], [97, 100, 100], [99, 117, 116], [99, 97, 108, 108], [119, 105, 100, 101, 110], [112, 114, 101, 115, 101, 116]] : List (List UInt8)).map strV).toArray :=
  strs_of (rest := []) gn2 gt2 ua2 ue2 ce2 ca2 (h.filter fun x => x.1 == "haulage/ddltext.words")
theorem globs {W : World} (h : laidMetH Tryd.prog [("haulage/utf.least", Rows.laid_haulage_utf_least), ("haulage/typ.words", Rows.laid_haulage_typ_words), ("haulage/ddltext.words", Rows.laid_haulage_ddltext_words)] W) : ∀ g, RPcells F (cx0 W) (F.gnum g) 0 (E.gl g) := by
  intro g
  match g with
  | 0 => exact trivial
  | 1 => exact gl_tab (F := F) (k := .i64) (zs := [0, 0, 128, 2048, 65536]) (name := "haulage/utf.least") gn0 (by intro i hi; rw [Nat.zero_add]; exact (tab0 h).cell gn0 i hi)
  | 2 => exact gl_strs (F := F) (zs := [[], [105, 110, 116], [108, 111, 110, 103], [116, 101, 120, 116], [98, 121, 116, 101, 115]]) (name := "haulage/typ.words") (by intro i hi; rw [Nat.zero_add]; show W.cell? ⟨1, i, none⟩ = _; have := World.var?_cell gn1 (tab1 h) i; simpa using this)
  | 3 => exact gl_strs (F := F) (zs := [[], [99, 114, 101, 97, 116, 101], [100, 114, 111, 112], [114, 101, 110, 97, 109, 101], [97, 100, 100], [99, 117, 116], [99, 97, 108, 108], [119, 105, 100, 101, 110], [112, 114, 101, 115, 101, 116]]) (name := "haulage/ddltext.words") (by intro i hi; rw [Nat.zero_add]; show W.cell? ⟨0, i, none⟩ = _; have := World.var?_cell gn2 (tab2 h) i; simpa using this)
  | _ + 4 => exact trivial
noncomputable def laidWorld (os : Os) : World :=
  { World.holding Tryd.prog os ⟨#[], #[], []⟩ with heap := ((((World.holding Tryd.prog os ⟨#[], #[], []⟩).heap.modify 3 fun | .cells _ t frozen => .cells #[.int .i64 0, .int .i64 0, .int .i64 128, .int .i64 2048, .int .i64 65536] t frozen | o => o).modify 1 fun | .cells _ t frozen => .cells #[.string ⟨#[]⟩, .string ⟨#[105, 110, 116]⟩, .string ⟨#[108, 111, 110, 103]⟩, .string ⟨#[116, 101, 120, 116]⟩, .string ⟨#[98, 121, 116, 101, 115]⟩] t frozen | o => o).modify 0 fun | .cells _ t frozen => .cells #[.string ⟨#[]⟩, .string ⟨#[99, 114, 101, 97, 116, 101]⟩, .string ⟨#[100, 114, 111, 112]⟩, .string ⟨#[114, 101, 110, 97, 109, 101]⟩, .string ⟨#[97, 100, 100]⟩, .string ⟨#[99, 117, 116]⟩, .string ⟨#[99, 97, 108, 108]⟩, .string ⟨#[119, 105, 100, 101, 110]⟩, .string ⟨#[112, 114, 101, 115, 101, 116]⟩] t frozen | o => o) }
theorem n04 : N04 E := ⟨rfl, rfl, rfl, rfl, rfl⟩
theorem m05 : M05 E := ⟨rfl, rfl, rfl, rfl, rfl⟩
theorem x06 : X06 E := ⟨n04, m05, ⟨rfl, rfl⟩, rfl, rfl, rfl, rfl, rfl⟩
theorem w05 : W05 E := ⟨⟨⟨⟨rfl, rfl, rfl, rfl, rfl, rfl, rfl, rfl, rfl⟩, rfl, rfl, rfl, rfl, rfl, rfl⟩, ⟨rfl, rfl, rfl, rfl⟩, rfl⟩, rfl, rfl, rfl, rfl⟩
theorem q05 : Q05 E := ⟨rfl, rfl, rfl, rfl, rfl, rfl, rfl, rfl, rfl, rfl, rfl⟩
theorem h05 : H05 E := ⟨q05, rfl⟩
theorem p05 : P05 E := ⟨w05, h05, m05, rfl, rfl, n04, rfl, rfl, rfl, rfl, rfl⟩
theorem r10 : R10 E := ⟨n04, rfl, rfl, rfl, rfl, rfl, rfl, rfl, rfl⟩
theorem l09 : L09 E := ⟨rfl, rfl⟩
theorem s10 : S10 E := ⟨r10, rfl, rfl, rfl, rfl, fun s hs k hk m => typ_Read x06 s hs k hk m, fun s hs k hk m => value_Read p05 s hs k (by omega) m⟩
theorem t10 : T10 E := ⟨s10, rfl, rfl, rfl, rfl⟩
theorem r05 : R05 E := ⟨rfl, rfl, rfl, rfl, rfl, rfl⟩
theorem p10 : P10 E := ⟨n04, rfl, rfl, rfl, rfl⟩
theorem d10 : D10 E := ⟨p10, rfl, rfl, rfl, rfl, rfl, rfl, rfl, rfl, fun s hs k hk m => ref_TRead x06 rfl (fun s hs k hk m => ref_Number m05 rfl s hs k hk m) s hs k hk m, fun s hs k hk m => ref_VRead p05 r05 s hs k hk m⟩
theorem v10 : V10 E := ⟨d10, rfl, rfl, rfl⟩
theorem lives (k : Nat) (m : Mem) : denF E (k + 119) 231 [] m = some (.ret (.p (.bool true)), m) := by
  kernel_rfl
end Go.Proofs.YtifcegbomagcpaaDoor.Tab

namespace Go.Proofs.YtifcegbomagcpaaDoor.ddltextParses
open Go _root_.Hx Go.ChangeShapes Go.WideShapes Go.ChangeAt Go.RowKit
theorem own : ownKnob Tryd.prog.godebug = none := by kernel_rfl
theorem sh9 : shp Tryd.prog 8 9 = some [.str] := by kernel_rfl
theorem no9 : isStruct (Tryd.prog.underlying 9) = false := by kernel_rfl
theorem tb : Tryd.prog.underlying 4 = some .bool := by kernel_rfl
theorem laidOut : laidOutB Tryd.prog = true := by kernel_rfl
theorem read : ∀ t ∈ Tryd.f3.params.toList, Tryd.prog.readableRec t = true ∧ t < Tryd.prog.types.size := by
  intro t ht
  rw [Tryd.params3] at ht
  simp only [List.mem_cons, List.not_mem_nil, or_false] at ht
  rcases ht with rfl <;> exact ⟨by kernel_rfl, of_decide_eq_true (by kernel_rfl)⟩
set_option maxRecDepth 100000 in
theorem contract (H : Type) (enc : TypeId × Value → H) (W : World) (base : Nat) (args : Array Value) (ds gs : List (DataW H)) (before : List MemPlace)
    (hval : ∀ (j : Nat) t v, Tryd.f3.params[j]? = some t → args[j]? = some v → Value.okWide Tryd.prog W .any base t v)
    (hW : DataW.Whole enc Tryd.prog Tryd.f3.params.toList Rows.ddltextParsesSpec.vars false W args.toList ds gs before) (hL : laidMetH Tryd.prog Rows.ddltextParsesRow.laid W) :
    Calls Tryd.prog 3 args W fun e W' => ∃ v, e = .returned v ∧ Rows.ddltextParsesSpec.post enc Tryd.prog Tryd.f3 false true false false W args v W' := by
  have hW' := hW
  obtain ⟨p, q, hA0, hV, rfl, hfz, hnd⟩ := hW
  have hA : DataW.TrodAll enc Tryd.prog W 0 (fun _ => true) true Tryd.f3.params.toList args.toList ds p := hA0
  obtain ⟨hgs, _⟩ := trodVars_none hV
  rw [Tryd.params3] at hA hval
  obtain ⟨v0, vs0, d0, ds0, p0, q0, hargs, hds, hp0, h0, r0⟩ := trodAll_cons hA
  obtain ⟨rfl, rfl, _⟩ := trodAll_nil r0
  obtain rfl : args = #[v0] := by cases args; simp_all
  obtain ⟨x0, c0, a0⟩ := arg_one (F := Tab.F) (enc := enc) sh9 no9 (hval 0 9 v0 rfl rfl) h0
  have ha : Rs Tab.F (cx0 W) [.p x0] [v0] := by simp only [Rs]; exact ⟨v0, _, rfl, a0, rfl⟩
  refine (calls_true (g := 228) Tab.link (Tab.globs hL) ha (law_DdltextParses Tab.t10 Tab.v10 Tab.l09 rfl 0 (Tab.lives 2880) c0 [])).mono fun e W' ⟨he, hb⟩ => ⟨_, he, ?_⟩
  exact post_true (tb := 4) hW' rfl (by rw [hds, hgs]; rfl) (by kernel_rfl) tb laidOut read hb
theorem laid_met (os : Os) : laidMet Tryd.prog Rows.ddltextParsesRow.laid ((Tab.laidWorld os).forCall (fun _ _ => 0) ⟨#[], (#[(.string ⟨#[]⟩)] : Array Value), []⟩).memory :=
  laidMet_of_run' 8 (by kernel_rfl) (by kernel_rfl)
theorem reads (os : Os) {H : Type} (enc : TypeId × Value → H) : ∃ places, DataW.whole enc Tryd.prog ((Tab.laidWorld os).forCall (fun _ _ => 0) ⟨#[], (#[(.string ⟨#[]⟩)] : Array Value), []⟩).memory Tryd.f3.params.toList Rows.ddltextParsesSpec.vars false (#[(.string ⟨#[]⟩)] : Array Value).toList 8 = some ([(.lit (.string []))], [], places) :=
  ⟨[], by kernel_rfl⟩
set_option maxRecDepth 100000 in
theorem lifted (os : Os) (started : os.Started) (H : Type) (enc : TypeId × Value → H) (F : Stop.Interp) :
    ReturnsInHanded {} Tryd.checked os 3 .any ((OpenSpec.ofChange Rows.ddltextParsesSpec).preRow enc Tryd.prog Tryd.f3 Rows.ddltextParsesRow.domain false Rows.ddltextParsesRow.laid) (((OpenSpec.ofChange Rows.ddltextParsesSpec).at F).post enc Tryd.prog Tryd.f3 false true false false) := by
  obtain ⟨places, hx⟩ := reads os enc
  refine returnsInHanded_of_row (C := Tryd.checked) (s := OpenSpec.ofChange Rows.ddltextParsesSpec) own started (by kernel_rfl) Tryd.func3
    (witness_row_at (enc := enc) (C := Tryd.checked) false (Tab.laidWorld os) (#[(.string ⟨#[]⟩)] : Array Value) rfl (by kernel_rfl) (by kernel_rfl) (by kernel_rfl)
      (OpenSpec.preRow_of_cond 8 hx (by kernel_rfl) (fun k hk => by cases hk) (by kernel_rfl) (laid_met os))) ?_
  intro W base args ds gs before hval hW _ _ _ hL _ _
  exact contract H enc W base args ds gs before hval hW hL
theorem said : Rows.DdltextParsesSaid :=
  OpenClaim.holds_of_cond 3 Tryd.f3 rfl rfl rfl rfl rfl rfl rfl ⟨rfl, rfl, rfl, rfl, rfl⟩ rfl rfl rfl rfl rfl (by kernel_rfl) Tryd.func3 (by kernel_rfl)
    (of_decide_eq_true (by kernel_rfl)) (by unfold Func.isWrapper; first | (rw [if_pos (by decide +kernel)]; kernel_rfl) | (rw [if_neg (by decide +kernel)]; exact ⟨rfl, rfl⟩))
    (fun os started H enc _ F => by rw [OpenClaim.pre_eq_preRow]; exact lifted os started H enc F)
theorem plain (f : FuncId) (fn : Func) (hf : Tryd.pinned.checked.prog.funcNamed Rows.ddltextParsesRow.func = some f) (hfn : Tryd.pinned.checked.prog.funcs[f]? = some fn) :
    true = Tryd.pinned.checked.prog.looks [] ∧ ∀ (j : Nat) t, fn.params[j]? = some t → Tryd.pinned.checked.prog.wantsStandIn t = false := by
  obtain rfl : f = 3 := Option.some.inj ((show Tryd.prog.funcNamed Rows.ddltextParsesRow.func = some 3 by kernel_rfl).symm.trans hf) |>.symm
  obtain rfl : fn = Tryd.f3 := (Option.some.inj (Tryd.func3.symm.trans hfn)).symm
  refine ⟨by kernel_rfl, fun j t ht => ?_⟩
  rw [Tryd.params3] at ht
  have := Array.mem_of_getElem? ht
  simp only [List.mem_toArray, List.mem_cons, List.not_mem_nil, or_false] at this
  rcases this with rfl
  · exact (show Tryd.prog.wantsStandIn 9 = false by kernel_rfl)
theorem card : Rows.DdltextParsesCardSaid :=
  Claim7.holds_tied_plain_at .later [] _ _ _ _ said (fun _ h => by cases h) (by kernel_rfl) (fun _ h => by cases h) ddltextParses_row_tie rfl ⟨rfl, rfl⟩ (by kernel_rfl) rfl plain (by kernel_rfl)
end Go.Proofs.YtifcegbomagcpaaDoor.ddltextParses
