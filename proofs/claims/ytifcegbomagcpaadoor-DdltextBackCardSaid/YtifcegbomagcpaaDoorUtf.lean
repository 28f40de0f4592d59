/- The laws of this seat on the evaluator. -/
import Derived.Test.YtifcegbomagcpaaDoorHxQ10c
import Derived.Test.YtifcegbomagcpaaDoorHxQ10f
import Derived.Test.YtifcegbomagcpaaDoorHx
import Derived.Test.YtifcegbomagcpaaDoorTie
import Derived.Test.YtifcegbomagcpaaDoorCards
import Derived.Test.YtifcegbomagcpaaDoorHxV05s
import Derived.Test.YtifcegbomagcpaaDoorHxU10a
import Derived.Test.YtifcegbomagcpaaDoorHxV05b
import Derived.WalkKit
namespace Hx
open Go
set_option linter.unusedSimpArgs false
set_option linter.unusedVariables false
set_option maxHeartbeats 64000000
set_option maxRecDepth 20000
variable {E : Env}
attribute [-simp] List.getD_eq_getElem?_getD getElem?_pos
def backV (d : Ddl) (cols : List Col) (n : Nat) : AV := .tup [.p (.agg (ddlP (readBack d cols))), .p (.int .i64 n), .p (.int .i64 0)]
theorem noB : blanksL [] := by intro c hc; cases hc
theorem parse_print {d : Ddl} {rows : List (Int × Col)} (hcan : canQ d rows = true) (hn : isI64 d.dn) (hi : ∀ c ∈ rows, isI64 c.2.dn) : parseV (printQ d (rows.map (·.2))) = backV d (rows.map (·.2)) (printQ d (rows.map (·.2))).length := by
  have h1 := pAll_L (g := []) (B := []) (Z := []) noB noB noB (by intro c hc; cases hc) d rows hcan hn hi
  simp only [List.nil_append, List.append_nil, printL_nil] at h1
  unfold parseV
  rw [h1]
  rfl
theorem gOf_blanks (n : Nat) : blanksL (gOf n) := by
  intro c hc
  have := List.mem_of_mem_take hc
  simp only [List.mem_cons, List.not_mem_nil, or_false] at this
  rcases this with rfl | rfl | rfl <;> decide
theorem parse_loose {d : Ddl} {rows : List (Int × Col)} (hcan : canQ d rows = true) (hn : isI64 d.dn) (hi : ∀ c ∈ rows, isI64 c.2.dn) {T : List UInt8} (hT : printQ d (rows.map (·.2)) = T) (hp : plainB T = true) (n : Nat) :
    parseV (([10] : List UInt8) ++ looseF (gOf n) false T ++ [32, 9]) = backV d (rows.map (·.2)) (([10] : List UInt8) ++ looseF (gOf n) false T ++ [32, 9]).length := by
  have h1 := pAll_L (g := gOf n) (B := [10]) (Z := [32, 9]) (gOf_blanks n) (by intro c hc; simp only [List.mem_cons, List.not_mem_nil, or_false] at hc; subst hc; decide)
    (by intro c hc; simp only [List.mem_cons, List.not_mem_nil, or_false] at hc; rcases hc with rfl | rfl <;> decide) (by intro c hc; cases hc; decide) d rows hcan hn hi
  subst hT
  rw [loose_print _ d rows hcan hp]
  unfold parseV
  rw [List.append_assoc, h1]
  rfl
theorem looseF_len (g : List UInt8) (hg : g.length ≤ 2) : ∀ (q : Bool) (s : List UInt8), (looseF g q s).length ≤ 3 * s.length
  | _, [] => by simp [looseF]
  | q, c :: r => by
    have := looseF_len g hg (flipQ q c) r
    rw [looseF_cons]
    simp only [List.length_cons, List.length_append]
    split
    · omega
    · simp; omega
theorem idsZ_with : ∀ {rows : List (Int × Col)}, idsZ rows = true → withZ (rows.map (·.2)) = rows
  | [], _ => rfl
  | (i, c) :: l, h => by
    unfold idsZ at h
    simp only [List.all_cons, Bool.and_eq_true, beq_iff_eq] at h
    have := idsZ_with (rows := l) h.2
    unfold withZ at this ⊢
    simp only [List.map_cons]
    rw [this, h.1]
theorem same_back {d : Ddl} {rows : List (Int × Col)} (hcan : canQ d rows = true) : sameH (readBack d (rows.map (·.2))) d = true ∧ sameQs (withZ (readBack d (rows.map (·.2))).cols) rows = true := by
  obtain ⟨h1, h2⟩ := can_plain hcan
  constructor
  · rw [sameH_iff, h1]; rfl
  · rw [sameQs_iff]
    unfold readBack
    simp only
    rcases h2 with ⟨o, z⟩ | ⟨o, r⟩
    · rw [if_pos o]; exact idsZ_with z
    · rw [if_neg o, r]; rfl
structure B10 (E : Env) : Prop where
  t : T10 E
  w : W10 E
  l : L09 E
  f : F09 E
  plain : E.fn 235 = some Fn.f_haulagelaw10_plainText
  loose : E.fn 236 = some Fn.f_haulagelaw10_loose
def bkR : XCode := Fn.f_haulagelaw10_DdltextBack.body.snd.snd.snd.snd
def bkOk (e : Ex) (st : St) : Prop := ∃ out1 m1, leave Fn.f_haulagelaw10_DdltextBack (some (e, st)) = some (out1, m1) ∧ stripOut out1 = some (.ret (.p (.bool true)))
theorem bk_body : Fn.f_haulagelaw10_DdltextBack.body = .seq Fn.f_haulagelaw10_DdltextBack.body.fst (.seq Fn.f_haulagelaw10_DdltextBack.body.snd.fst (.seq Fn.f_haulagelaw10_DdltextBack.body.snd.snd.fst (.seq Fn.f_haulagelaw10_DdltextBack.body.snd.snd.snd.fst bkR))) := rfl
theorem back2 (u : B10 E) (s : List UInt8) (hs : (s.length : Int) ≤ 1500) (j : Nat) (hj : 499000 ≤ j) (ts : List AV) (M : Mem) (hts : ts.length = 129) (h1 : ts.getD 1 (.tup []) = .p (.str s)) :
    Wp (den E (denF E (j + 1)) (j + 1) bkR ⟨ts, M, []⟩) bkOk := by
  have hx : ts = [ts.getD 0 (.tup []), ts.getD 1 (.tup []), ts.getD 2 (.tup []), ts.getD 3 (.tup []), ts.getD 4 (.tup []), ts.getD 5 (.tup []), ts.getD 6 (.tup []), ts.getD 7 (.tup []), ts.getD 8 (.tup []), ts.getD 9 (.tup []), ts.getD 10 (.tup []), ts.getD 11 (.tup []), ts.getD 12 (.tup []), ts.getD 13 (.tup []), ts.getD 14 (.tup []), ts.getD 15 (.tup []), ts.getD 16 (.tup []), ts.getD 17 (.tup []), ts.getD 18 (.tup []), ts.getD 19 (.tup []), ts.getD 20 (.tup []), ts.getD 21 (.tup []), ts.getD 22 (.tup []), ts.getD 23 (.tup []), ts.getD 24 (.tup []), ts.getD 25 (.tup []), ts.getD 26 (.tup []), ts.getD 27 (.tup []), ts.getD 28 (.tup []), ts.getD 29 (.tup []), ts.getD 30 (.tup []), ts.getD 31 (.tup []), ts.getD 32 (.tup []), ts.getD 33 (.tup []), ts.getD 34 (.tup []), ts.getD 35 (.tup []), ts.getD 36 (.tup []), ts.getD 37 (.tup []), ts.getD 38 (.tup []), ts.getD 39 (.tup []), ts.getD 40 (.tup []), ts.getD 41 (.tup []), ts.getD 42 (.tup []), ts.getD 43 (.tup []), ts.getD 44 (.tup []), ts.getD 45 (.tup []), ts.getD 46 (.tup []), ts.getD 47 (.tup []), ts.getD 48 (.tup []), ts.getD 49 (.tup []), ts.getD 50 (.tup []), ts.getD 51 (.tup []), ts.getD 52 (.tup []), ts.getD 53 (.tup []), ts.getD 54 (.tup []), ts.getD 55 (.tup []), ts.getD 56 (.tup []), ts.getD 57 (.tup []), ts.getD 58 (.tup []), ts.getD 59 (.tup []), ts.getD 60 (.tup []), ts.getD 61 (.tup []), ts.getD 62 (.tup []), ts.getD 63 (.tup []), ts.getD 64 (.tup []), ts.getD 65 (.tup []), ts.getD 66 (.tup []), ts.getD 67 (.tup []), ts.getD 68 (.tup []), ts.getD 69 (.tup []), ts.getD 70 (.tup []), ts.getD 71 (.tup []), ts.getD 72 (.tup []), ts.getD 73 (.tup []), ts.getD 74 (.tup []), ts.getD 75 (.tup []), ts.getD 76 (.tup []), ts.getD 77 (.tup []), ts.getD 78 (.tup []), ts.getD 79 (.tup []), ts.getD 80 (.tup []), ts.getD 81 (.tup []), ts.getD 82 (.tup []), ts.getD 83 (.tup []), ts.getD 84 (.tup []), ts.getD 85 (.tup []), ts.getD 86 (.tup []), ts.getD 87 (.tup []), ts.getD 88 (.tup []), ts.getD 89 (.tup []), ts.getD 90 (.tup []), ts.getD 91 (.tup []), ts.getD 92 (.tup []), ts.getD 93 (.tup []), ts.getD 94 (.tup []), ts.getD 95 (.tup []), ts.getD 96 (.tup []), ts.getD 97 (.tup []), ts.getD 98 (.tup []), ts.getD 99 (.tup []), ts.getD 100 (.tup []), ts.getD 101 (.tup []), ts.getD 102 (.tup []), ts.getD 103 (.tup []), ts.getD 104 (.tup []), ts.getD 105 (.tup []), ts.getD 106 (.tup []), ts.getD 107 (.tup []), ts.getD 108 (.tup []), ts.getD 109 (.tup []), ts.getD 110 (.tup []), ts.getD 111 (.tup []), ts.getD 112 (.tup []), ts.getD 113 (.tup []), ts.getD 114 (.tup []), ts.getD 115 (.tup []), ts.getD 116 (.tup []), ts.getD 117 (.tup []), ts.getD 118 (.tup []), ts.getD 119 (.tup []), ts.getD 120 (.tup []), ts.getD 121 (.tup []), ts.getD 122 (.tup []), ts.getD 123 (.tup []), ts.getD 124 (.tup []), ts.getD 125 (.tup []), ts.getD 126 (.tup []), ts.getD 127 (.tup []), ts.getD 128 (.tup [])] := expand_ts 129 ts hts
  rw [hx]
  have g0 := fun (x : Blk) (l : Mem) => app_at0 (m := M) (q := M) rfl x l
  have s0 := fun (x y : Blk) (l : Mem) => app_set0 (m := M) (q := M) rfl x y l
  have g1 := fun (x y : Blk) (l : Mem) => app_at1 (m := M) (q := M) rfl x y l
  have s1 := fun (x y z : Blk) (l : Mem) => app_set1 (m := M) (q := M) rfl x y z l
  have hP := fun m => ddl_Parse u.t s (by omega) j (by omega) m
  unfold bkOk
  unfold parseV at hP
  cases hp : pAll s with
  | bad e q =>
    rw [hp] at hP
    simp only at hP
    have hpe : e ≠ 0 := by
      unfold pAll at hp
      have hsane : ((pChange s).bind fun d r => if skipB r = [] then PR.ok d [] else .bad 6 (skipB r)).sane := bind_sane (pChange_sane s) (fun v r => by
        split
        · exact ok_sane _ _
        · intro e q h; cases h; decide)
      exact hsane e q hp
    have hb : (e == 0) = false := by simpa using hpe
    have hS := fun m => ref_Same u.l { op := 0 } { op := 0 } (a := []) (b := []) (sa := .nils) (sb := .nils) (.inl ⟨rfl, rfl⟩) (.inl ⟨rfl, rfl⟩) (by simp) j (by simp; omega) m
    rw [sameH_self] at hS
    have e0 : sameQs [] [] = true := rfl
    rw [e0, Bool.and_self] at hS
    have hz : ddlP { op := 0 } = [.int .i64 0, .str [], .str [], .str [], .str [], .int .i64 0, .int .i64 0, .bool false, .int .i64 0, .int .i64 0, .str [], .nils] := rfl
    rw [hz] at hP
    unfold dV at hS
    simp only at hS
    have hle := place_le (s := s) (r := q)
    have hle' : ((placeOf10 s q : Nat) : Int) ≤ s.length := by omega
    simp (maxSteps := 8000000) [bkR, XCode.snd, XCode.fst, Fn.f_haulagelaw10_DdltextBack, h1, hP, hb, hS, g0, s0, hle, hle', bne]
  | ok d q =>
    rw [hp] at hP
    simp only at hP
    obtain ⟨hcan, hn, hi, hl⟩ := pAll_inv hp
    have hcz : ∀ c ∈ withZ d.cols, smallC c.2 := by
      intro c hc
      unfold withZ at hc
      obtain ⟨x, hx', rfl⟩ := List.mem_map.1 hc
      have hcc : colCan x = true := by
        rcases can_plain hcan with ⟨_, ⟨o, _⟩ | ⟨o, hr⟩⟩
        · have := hcan
          unfold canQ canTail at this
          simp only [if_pos o, Bool.and_eq_true] at this
          exact List.all_eq_true.1 this.2.2.1 (0, x) (by unfold withZ; exact List.mem_map.2 ⟨x, hx', rfl⟩)
        · unfold withZ at hr
          rw [List.map_eq_nil_iff] at hr
          rw [hr] at hx'
          cases hx'
      unfold colCan at hcc
      simp only [Bool.and_eq_true] at hcc
      have a1 := rightN_len hcc.1
      have a2 := rightV_len hcc.2.2
      show smallC x
      exact ⟨by omega, by omega, hi x hx'⟩
    have hds : d.ds.length ≤ 120 := by
      have hcan' := hcan
      unfold canQ plainQ at hcan'
      simp only [Bool.and_eq_true, decide_eq_true_eq] at hcan'
      obtain ⟨⟨hop, _, hsame⟩, _, htail⟩ := hcan'
      have hk := congrArg Ddl.ds ((sameH_iff _ _).1 hsame)
      unfold canTail at htail
      have hd0 : d.bare.ds = d.ds := rfl
      rw [hd0] at hk
      rcases (by omega : d.op = 1 ∨ d.op = 2 ∨ d.op = 3 ∨ d.op = 4 ∨ d.op = 5 ∨ d.op = 6 ∨ d.op = 7 ∨ d.op = 8) with h | h | h | h | h | h | h | h
      all_goals simp [h, keepOf, Ddl.bare] at hk htail
      all_goals first | (rw [hk]; simp; done) | (have := rightV_len htail.2.2; omega) | (have := rightV_len htail.2; omega)
    have hq := slQ_of d.cols
    have hsd : smallD d := ⟨hn, by omega⟩
    have hwl : (withZ d.cols).length = d.cols.length := by unfold withZ; rw [List.length_map]
    have hPr := fun m => ddl_Print u.w u.t.words d (rows := withZ d.cols) hq hsd hcz (by omega) j (by omega) m
    rw [hcan, withZ_map] at hPr
    simp only [if_true] at hPr
    have hi' : ∀ c ∈ withZ d.cols, isI64 c.2.dn := fun c hc => (hcz c hc).2.2
    have htl := printQ_len hcan hn hcz
    have hpp := parse_print hcan hn hi'
    rw [withZ_map] at htl hpp
    have hP2 := fun m => ddl_Parse u.t (printQ d d.cols) (by omega) j (by omega) m
    rw [hpp] at hP2
    obtain ⟨sb1, sb2⟩ := same_back hcan
    rw [withZ_map] at sb1 sb2
    have hq2 := slQ_of (readBack d d.cols).cols
    have hlen2 : (readBack d d.cols).cols.length ≤ 10 := by
      unfold readBack; simp only; split
      · exact hl
      · simp
    have hS := fun m => ref_Same u.l d (readBack d d.cols) hq hq2 (by simp; omega) j (by simp; omega) m
    have hsm : (sameH d (readBack d d.cols) && sameQs (d.cols.map fun c => (0, c)) ((readBack d d.cols).cols.map fun c => (0, c))) = true := by
      rw [sameH_comm, sb1, Bool.true_and, sameQs_iff]
      exact ((sameQs_iff _ _).1 sb2).symm
    rw [hsm] at hS
    unfold backV at hP2
    rw [ddlP_dV] at hP hP2
    have f1 := hq.flat
    have f2 := hq2.flat
    unfold PV.flat at f1 f2
    generalize slP 8 (d.cols.map colP) = sl1 at *
    generalize slP 8 ((readBack d d.cols).cols.map colP) = sl2 at *
    generalize readBack d d.cols = y at *
    generalize printQ d d.cols = T at *
    unfold dV at *
    simp (maxSteps := 8000000) [bkR, XCode.snd, XCode.fst, Fn.f_haulagelaw10_DdltextBack, h1, hP, hPr, hP2, hS, f1, f2, g0, s0, g1, s1, bne]
theorem law_DdltextBack (u : B10 E) (h : E.fn 229 = some Fn.f_haulagelaw10_DdltextBack) (k : Nat) (hlv : ∀ m, denF E (k + 499999) 231 [] m = some (.ret (.p (.bool true)), m)) {x0 : List PV} {x1 x2 : PV} (c0 : Confs ddlSh x0) (c1 : Conf .str x1) (c2 : Conf (.int .u8) x2) (hk : sizeL x0 ≤ k) (m : Mem) :
    denF E (k + 500000) 229 [.p (.agg x0), .p x1, .p x2] m = some (.ret (.p (.bool true)), m) := by
  obtain ⟨d, sl, rows, rfl, _, ha, hd, hi⟩ := conf_ddl c0
  simp only [Conf] at c1 c2
  obtain ⟨s, rfl, _⟩ := c1
  obtain ⟨mn, rfl, hm1, hm2⟩ := c2
  have hds : d.ds.length ≤ k := by
    simp [sizeL, dV, strSz] at hk
    omega
  have hfl := ha.flat
  unfold PV.flat at hfl
  refine denF_wp h rfl (args' := [.p (.agg (dV d sl)), .p (.str s), .p (.int .u8 mn)]) rfl ?_
  show Wp _ bkOk
  rw [bk_body]
  have hF := fun m => law_Few u.f d ha (k + 499998) (by omega) m
  cases hb : fewB d rows with
  | false =>
    rw [hb] at hF
    unfold dV at hF
    unfold bkOk
    simp (maxSteps := 8000000) [XCode.snd, XCode.fst, Fn.f_haulagelaw10_DdltextBack, dV, hfl, hlv, hF]
  | true =>
  rw [hb] at hF
  by_cases hs : (1500 : Int) < s.length
  · have hs' : 1500 < s.length := by omega
    unfold dV at hF
    unfold bkOk
    simp (maxSteps := 8000000) [XCode.snd, XCode.fst, Fn.f_haulagelaw10_DdltextBack, dV, hfl, hlv, hF, hs, hs']
  have hs' : ¬ 1500 < s.length := by omega
  unfold fewB at hb
  simp only [Bool.and_eq_true, decide_eq_true_eq] at hb
  obtain ⟨_, hl, hsh⟩ := hb
  have hsm : ∀ c ∈ rows, smallC c.2 := fun c hc => ⟨by have := (shorts_mem hsh hc).1; omega, by have := (shorts_mem hsh hc).2; omega, hi c hc⟩
  have h1 := fun m => ddl_Print u.w u.t.words d ha hd hsm (by omega) (k + 499998) (by omega) m
  have hB := fun ts M hts q => back2 u s (by omega) (k + 499998) (by omega) ts M hts q
  cases hcan : canQ d rows with
  | false =>
    rw [hcan] at h1
    simp only [Bool.false_eq_true, if_false] at h1
    unfold dV at hF h1
    simp (maxSteps := 8000000) [XCode.snd, XCode.fst, Fn.f_haulagelaw10_DdltextBack, dV, hfl, hlv, hF, hs, hs', h1]
    exact hB _ _ rfl rfl
  | true =>
    rw [hcan] at h1
    simp only [if_true] at h1
    have hlen := printQ_len hcan hd.1 hsm
    have hpp := parse_print hcan hd.1 hi
    have h2 := fun m => ddl_Parse u.t (printQ d (rows.map (·.2))) (by omega) (k + 499998) (by omega) m
    rw [hpp] at h2
    obtain ⟨sb1, sb2⟩ := same_back hcan
    have hq2 := slQ_of (readBack d (rows.map (·.2))).cols
    have hrl : (readBack d (rows.map (·.2))).cols.length ≤ 20 := by
      unfold readBack; simp only; split
      · rw [List.length_map]; omega
      · simp
    have h3 := fun m => ref_Same u.l (readBack d (rows.map (·.2))) d hq2 ha (by simp; omega) (k + 499998) (by simp; omega) m
    have hsame : (sameH (readBack d (rows.map (·.2))) d && sameQs ((readBack d (rows.map (·.2))).cols.map fun c => (0, c)) rows) = true := by
      rw [sb1, Bool.true_and]; exact sb2
    rw [hsame] at h3
    have h4 := fun m => plainText_at u.plain (printQ d (rows.map (·.2))) (by omega) (k + 499998) (by omega) m
    have f2 := hq2.flat
    unfold PV.flat at f2
    cases hpl : plainB (printQ d (rows.map (·.2))) with
    | false =>
      rw [hpl] at h4
      unfold backV at h2
      rw [ddlP_dV] at h2
      generalize slP 8 ((readBack d (rows.map (·.2))).cols.map colP) = sl2 at *
      generalize readBack d (rows.map (·.2)) = y at *
      generalize printQ d (rows.map (·.2)) = T at *
      unfold dV at hF h1 h2 h3
      simp (maxSteps := 8000000) [XCode.snd, XCode.fst, Fn.f_haulagelaw10_DdltextBack, dV, hfl, f2, hlv, hF, hs, hs', h1, h2, h3, h4, bne]
      exact hB _ _ rfl rfl
    | true =>
      rw [hpl] at h4
      obtain ⟨n, hn, hn2⟩ : ∃ n : Nat, mn.tmod 3 = n ∧ n ≤ 2 := by
        have e1 : IntKind.u8.min = 0 := rfl
        rw [e1] at hm1
        refine ⟨(mn.tmod 3).toNat, ?_, ?_⟩
        · rw [Int.tmod_eq_emod_of_nonneg hm1]; omega
        · rw [Int.tmod_eq_emod_of_nonneg hm1]; omega
      have h5 := fun m => loose_at u.loose (printQ d (rows.map (·.2))) hpl (by omega) mn n hn hn2 (k + 499998) (by omega) m
      have hll := looseF_len (gOf n) (by unfold gOf; rw [List.length_take]; omega) false (printQ d (rows.map (·.2)))
      have hpl2 := parse_loose hcan hd.1 hi rfl hpl n
      have h6 := fun m => ddl_Parse u.t (([10] : List UInt8) ++ looseF (gOf n) false (printQ d (rows.map (·.2))) ++ [32, 9]) (by simp only [List.length_append, List.length_cons, List.length_nil]; omega) (k + 499998) (by simp only [List.length_append, List.length_cons, List.length_nil]; omega) m
      rw [hpl2] at h6
      have hlim : (looseF (gOf n) false (printQ d (rows.map (·.2)))).length ≤ 450000 := by omega
      unfold backV at h2 h6
      rw [ddlP_dV] at h2 h6
      generalize slP 8 ((readBack d (rows.map (·.2))).cols.map colP) = sl2 at *
      generalize readBack d (rows.map (·.2)) = y at *
      generalize looseF (gOf n) false (printQ d (rows.map (·.2))) = LL at *
      generalize printQ d (rows.map (·.2)) = T at *
      have l1 : 1 + LL.length ≤ strLim := by unfold strLim; omega
      have l2 : LL.length + 1 ≤ strLim := by unfold strLim; omega
      have l3 : LL.length + 1 + 2 ≤ strLim := by unfold strLim; omega
      have l4 : LL.length + 2 + 1 ≤ strLim := by unfold strLim; omega
      have l5 : LL.length + 3 ≤ strLim := by unfold strLim; omega
      simp only [List.cons_append, List.nil_append] at h6
      unfold dV at hF h1 h2 h3 h6
      simp (maxSteps := 8000000) [XCode.snd, XCode.fst, Fn.f_haulagelaw10_DdltextBack, dV, hfl, f2, hlv, hF, hs, hs', h1, h2, h3, h4, h5, h6, l1, l2, l3, l4, l5, bne]
      exact hB _ _ rfl rfl
end Hx

namespace Go.Proofs.YtifcegbomagcpaaDoor.Tab
open Go _root_.Hx Go.RowKit
def gl (g : Nat) : List PV := match g with
  | 0 => []
  | 1 => [.int .i64 0, .int .i64 0, .int .i64 128, .int .i64 2048, .int .i64 65536]
  | 2 => [.str [], .str [105, 110, 116], .str [108, 111, 110, 103], .str [116, 101, 120, 116], .str [98, 121, 116, 101, 115]]
  | 3 => [.str [], .str [99, 114, 101, 97, 116, 101], .str [100, 114, 111, 112], .str [114, 101, 110, 97, 109, 101], .str [97, 100, 100], .str [99, 117, 116], .str [99, 97, 108, 108], .str [119, 105, 100, 101, 110], .str [112, 114, 101, 115, 101, 116]]
  | _ => []
def E : Env := envOf L gl
theorem link : Link F E := link_of all_ok
theorem gn0 : Tryd.prog.globalNamed "haulage/utf.least" = some 3 := by kernel_rfl
theorem gt0 : (Tryd.prog.globals[3]?).map (·.type) = some 146 := by kernel_rfl
theorem ua0 : Tryd.prog.underlying 146 = some (.array 5 3) := by kernel_rfl
theorem ue0 : Tryd.prog.underlying 3 = some (.int .i64) := by kernel_rfl
theorem ca0 : Tryd.prog.cellsOf 146 = 5 := by kernel_rfl
theorem ce0 : Tryd.prog.cellsOf 3 = 1 := by kernel_rfl
theorem tab0 {W : World} (h : laidMetH Tryd.prog [("haulage/utf.least", Rows.laid_haulage_utf_least), ("haulage/typ.words", Rows.laid_haulage_typ_words), ("haulage/ddltext.words", Rows.laid_haulage_ddltext_words)] W) : Lib.TabIs Tryd.prog W "haulage/utf.least" .i64 [0, 0, 128, 2048, 65536] :=
  Lib.tabIs_of_head (rest := [("haulage/typ.words", Rows.laid_haulage_typ_words), ("haulage/ddltext.words", Rows.laid_haulage_ddltext_words)]) gn0 gt0 ua0 ue0 ce0 ca0 h
theorem gn1 : Tryd.prog.globalNamed "haulage/typ.words" = some 1 := by kernel_rfl
theorem gt1 : (Tryd.prog.globals[1]?).map (·.type) = some 107 := by kernel_rfl
theorem ua1 : Tryd.prog.underlying 107 = some (.array 5 9) := by kernel_rfl
theorem ue1 : Tryd.prog.underlying 9 = some (.string) := by kernel_rfl
theorem ca1 : Tryd.prog.cellsOf 107 = 5 := by kernel_rfl
theorem ce1 : Tryd.prog.cellsOf 9 = 1 := by kernel_rfl
theorem tab1 {W : World} (h : laidMetH Tryd.prog [("haulage/utf.least", Rows.laid_haulage_utf_least), ("haulage/typ.words", Rows.laid_haulage_typ_words), ("haulage/ddltext.words", Rows.laid_haulage_ddltext_words)] W) : W.var? Tryd.prog "haulage/typ.words" = some (([[], [105, 110, 116], [108, 111, 110, 103], [116, 101, 120, 116], [98, 121, 116, 101, 115]] : List (List UInt8)).map strV).toArray :=
  strs_of (rest := []) gn1 gt1 ua1 ue1 ce1 ca1 (h.filter fun x => x.1 == "haulage/typ.words")
theorem gn2 : Tryd.prog.globalNamed "haulage/ddltext.words" = some 0 := by kernel_rfl
theorem gt2 : (Tryd.prog.globals[0]?).map (·.type) = some 67 := by kernel_rfl
theorem ua2 : Tryd.prog.underlying 67 = some (.array 9 9) := by kernel_rfl
theorem ue2 : Tryd.prog.underlying 9 = some (.string) := by kernel_rfl
theorem ca2 : Tryd.prog.cellsOf 67 = 9 := by kernel_rfl
theorem ce2 : Tryd.prog.cellsOf 9 = 1 := by kernel_rfl
theorem tab2 {W : World} (h : laidMetH Tryd.prog [("haulage/utf.least", Rows.laid_haulage_utf_least), ("haulage/typ.words", Rows.laid_haulage_typ_words), ("haulage/ddltext.words", Rows.laid_haulage_ddltext_words)] W) : W.var? Tryd.prog "haulage/ddltext.words" = some (([[], [99, 114, 101, 97, 116, 101], [100, 114, 111, 112], [114, 101, 110, 97, 109, 101], [97, 100, 100], [99, 117, 116], [99, 97, 108, 108], [119, 105, 100, 101, 110], [112, 114, 101, 115, 101, 116]] : List (List UInt8)).map strV).toArray :=
  strs_of (rest := []) gn2 gt2 ua2 ue2 ce2 ca2 (h.filter fun x => x.1 == "haulage/ddltext.words")
theorem globs {W : World} (h : laidMetH Tryd.prog [("haulage/utf.least", Rows.laid_haulage_utf_least), ("haulage/typ.words", Rows.laid_haulage_typ_words), ("haulage/ddltext.words", Rows.laid_haulage_ddltext_words)] W) : ∀ g, RPcells F (cx0 W) (F.gnum g) 0 (E.gl g) := by
  intro g
  match g with
  | 0 => exact trivial
  | 1 => exact gl_tab (F := F) (k := .i64) (zs := [0, 0, 128, 2048, 65536]) (name := "haulage/utf.least") gn0 (by intro i hi; rw [Nat.zero_add]; exact (tab0 h).cell gn0 i hi)
  | 2 => exact gl_strs (F := F) (zs := [[], [105, 110, 116], [108, 111, 110, 103], [116, 101, 120, 116], [98, 121, 116, 101, 115]]) (name := "haulage/typ.words") (by intro i hi; rw [Nat.zero_add]; show W.cell? ⟨1, i, none⟩ = _; have := World.var?_cell gn1 (tab1 h) i; simpa using this)
  | 3 => exact gl_strs (F := F) (zs := [[], [99, 114, 101, 97, 116, 101], [100, 114, 111, 112], [114, 101, 110, 97, 109, 101], [97, 100, 100], [99, 117, 116], [99, 97, 108, 108], [119, 105, 100, 101, 110], [112, 114, 101, 115, 101, 116]]) (name := "haulage/ddltext.words") (by intro i hi; rw [Nat.zero_add]; show W.cell? ⟨0, i, none⟩ = _; have := World.var?_cell gn2 (tab2 h) i; simpa using this)
  | _ + 4 => exact trivial
noncomputable def laidWorld (os : Os) : World :=
  { World.holding Tryd.prog os ⟨#[], #[], []⟩ with heap := ((((World.holding Tryd.prog os ⟨#[], #[], []⟩).heap.modify 3 fun | .cells _ t frozen => .cells #[.int .i64 0, .int .i64 0, .int .i64 128, .int .i64 2048, .int .i64 65536] t frozen | o => o).modify 1 fun | .cells _ t frozen => .cells #[.string ⟨#[]⟩, .string ⟨#[105, 110, 116]⟩, .string ⟨#[108, 111, 110, 103]⟩, .string ⟨#[116, 101, 120, 116]⟩, .string ⟨#[98, 121, 116, 101, 115]⟩] t frozen | o => o).modify 0 fun | .cells _ t frozen => .cells #[.string ⟨#[]⟩, .string ⟨#[99, 114, 101, 97, 116, 101]⟩, .string ⟨#[100, 114, 111, 112]⟩, .string ⟨#[114, 101, 110, 97, 109, 101]⟩, .string ⟨#[97, 100, 100]⟩, .string ⟨#[99, 117, 116]⟩, .string ⟨#[99, 97, 108, 108]⟩, .string ⟨#[119, 105, 100, 101, 110]⟩, .string ⟨#[112, 114, 101, 115, 101, 116]⟩] t frozen | o => o) }
theorem n04 : N04 E := ⟨rfl, rfl, rfl, rfl, rfl⟩
theorem m05 : M05 E := ⟨rfl, rfl, rfl, rfl, rfl⟩
theorem x06 : X06 E := ⟨n04, m05, ⟨rfl, rfl⟩, rfl, rfl, rfl, rfl, rfl⟩
theorem w05 : W05 E := ⟨⟨⟨⟨rfl, rfl, rfl, rfl, rfl, rfl, rfl, rfl, rfl⟩, rfl, rfl, rfl, rfl, rfl, rfl⟩, ⟨rfl, rfl, rfl, rfl⟩, rfl⟩, rfl, rfl, rfl, rfl⟩
theorem q05 : Q05 E := ⟨rfl, rfl, rfl, rfl, rfl, rfl, rfl, rfl, rfl, rfl, rfl⟩
theorem h05 : H05 E := ⟨q05, rfl⟩
theorem p05 : P05 E := ⟨w05, h05, m05, rfl, rfl, n04, rfl, rfl, rfl, rfl, rfl⟩
theorem r10 : R10 E := ⟨n04, rfl, rfl, rfl, rfl, rfl, rfl, rfl, rfl⟩
theorem l09 : L09 E := ⟨rfl, rfl⟩
theorem s10 : S10 E := ⟨r10, rfl, rfl, rfl, rfl, fun s hs k hk m => typ_Read x06 s hs k hk m, fun s hs k hk m => value_Read p05 s hs k (by omega) m⟩
theorem t10 : T10 E := ⟨s10, rfl, rfl, rfl, rfl⟩
theorem c09 : C09 E := ⟨l09, rfl, rfl⟩
theorem v06 : V06 E := ⟨⟨⟨rfl, rfl, rfl, rfl, rfl, rfl, rfl, rfl, rfl⟩, rfl, rfl, rfl, rfl, rfl, rfl⟩, ⟨rfl, rfl, rfl, rfl⟩, rfl⟩
theorem c10 : C10 E := ⟨c09, r10, v06, rfl, rfl, rfl, rfl, rfl⟩
theorem w10 : W10 E := ⟨c10, q05, p05, x06, rfl, rfl, rfl, rfl, rfl, rfl, rfl⟩
theorem f09 : F09 E := ⟨rfl, rfl, rfl⟩
theorem b10 : B10 E := ⟨t10, w10, l09, f09, rfl, rfl⟩
theorem lives (k : Nat) (m : Mem) : denF E (k + 119) 231 [] m = some (.ret (.p (.bool true)), m) := by
  kernel_rfl
end Go.Proofs.YtifcegbomagcpaaDoor.Tab
