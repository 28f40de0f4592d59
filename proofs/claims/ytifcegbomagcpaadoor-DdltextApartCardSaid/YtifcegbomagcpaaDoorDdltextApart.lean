/- The law DdltextApart: for every input that the row lets in, the call answers true, and each argument reads as it did: no condition besides. -/
import Derived.Test.YtifcegbomagcpaaDoorHx
import Derived.Test.YtifcegbomagcpaaDoorTie
import Derived.Test.YtifcegbomagcpaaDoorCards
import Derived.Test.YtifcegbomagcpaaDoorHxU06g
import Derived.Test.YtifcegbomagcpaaDoorHxU10n
import Derived.Test.YtifcegbomagcpaaDoorHxV05b
import Derived.Test.YtifcegbomagcpaaDoorHxQ10c
import Derived.WalkKit
namespace Go.Proofs.YtifcegbomagcpaaDoor.Tab
open Go _root_.Hx Go.RowKit
def gl (g : Nat) : List PV := match g with
  | 0 => []
  | 1 => [.int .i64 0, .int .i64 0, .int .i64 128, .int .i64 2048, .int .i64 65536]
  | 2 => [.str [], .str [105, 110, 116], .str [108, 111, 110, 103], .str [116, 101, 120, 116], .str [98, 121, 116, 101, 115]]
  | 3 => [.str [], .str [99, 114, 101, 97, 116, 101], .str [100, 114, 111, 112], .str [114, 101, 110, 97, 109, 101], .str [97, 100, 100], .str [99, 117, 116], .str [99, 97, 108, 108], .str [119, 105, 100, 101, 110], .str [112, 114, 101, 115, 101, 116]]
  | _ => []
def E : Env := envOf L gl
theorem link : Link F E := link_of all_ok
theorem gn0 : Tryd.prog.globalNamed "haulage/utf.least" = some 3 := by kernel_rfl
theorem gt0 : (Tryd.prog.globals[3]?).map (·.type) = some 146 := by kernel_rfl
theorem ua0 : Tryd.prog.underlying 146 = some (.array 5 3) := by kernel_rfl
theorem ue0 : Tryd.prog.underlying 3 = some (.int .i64) := by kernel_rfl
theorem ca0 : Tryd.prog.cellsOf 146 = 5 := by kernel_rfl
theorem ce0 : Tryd.prog.cellsOf 3 = 1 := by kernel_rfl
theorem tab0 {W : World} (h : laidMetH Tryd.prog [("haulage/utf.least", Rows.laid_haulage_utf_least), ("haulage/typ.words", Rows.laid_haulage_typ_words), ("haulage/ddltext.words", Rows.laid_haulage_ddltext_words)] W) : Lib.TabIs Tryd.prog W "haulage/utf.least" .i64 [0, 0, 128, 2048, 65536] :=
  Lib.tabIs_of_head (rest := [("haulage/typ.words", Rows.laid_haulage_typ_words), ("haulage/ddltext.words", Rows.laid_haulage_ddltext_words)]) gn0 gt0 ua0 ue0 ce0 ca0 h
theorem gn1 : Tryd.prog.globalNamed "haulage/typ.words" = some 1 := by kernel_rfl
theorem gt1 : (Tryd.prog.globals[1]?).map (·.type) = some 107 := by kernel_rfl
theorem ua1 : Tryd.prog.underlying 107 = some (.array 5 9) := by kernel_rfl
theorem ue1 : Tryd.prog.underlying 9 = some (.string) := by kernel_rfl
theorem ca1 : Tryd.prog.cellsOf 107 = 5 := by kernel_rfl
theorem ce1 : Tryd.prog.cellsOf 9 = 1 := by kernel_rfl
theorem tab1 {W : World} (h : laidMetH Tryd.prog [("haulage/utf.least", Rows.laid_haulage_utf_least), ("haulage/typ.words", Rows.laid_haulage_typ_words), ("haulage/ddltext.words", Rows.laid_haulage_ddltext_words)] W) : W.var? Tryd.prog "haulage/typ.words" = some (([[], [105, 110, 116], [108, 111, 110, 103], [116, 101, 120, 116], [98, 121, 116, 101, 115]] : List (List UInt8)).map strV).toArray :=
  strs_of (rest := []) gn1 gt1 ua1 ue1 ce1 ca1 (h.filter fun x => x.1 == "haulage/typ.words")
theorem gn2 : Tryd.prog.globalNamed "haulage/ddltext.words" = some 0 := by kernel_rfl
theorem gt2 : (Tryd.prog.globals[0]?).map (·.type) = some 67 := by kernel_rfl
theorem ua2 : Tryd.prog.underlying 67 = some (.array 9 9) := by kernel_rfl
theorem ue2 : Tryd.prog.underlying 9 = some (.string) := by kernel_rfl
theorem ca2 : Tryd.prog.cellsOf 67 = 9 := by kernel_rfl
theorem ce2 : Tryd.prog.cellsOf 9 = 1 := by kernel_rfl
theorem tab2 {W : World} (h : laidMetH Tryd.prog [("haulage/utf.least", Rows.laid_haulage_utf_least), ("haulage/typ.words", Rows.laid_haulage_typ_words), ("haulage/ddltext.words", Rows.laid_haulage_ddltext_words)] W) : W.var? Tryd.prog "haulage/ddltext.words" = some (([[], [99, 114, 101, 97, 116, 101], [100, 114, 111, 112], [114, 101, 110, 97, 109, 101], [97, 100, 100], [99, 117, 116], [99, 97, 108, 108], [119, 105, 100, 101, 110], [112, 114, 101, 115, 101, 116]] : List (List UInt8)).map strV).toArray :=
  strs_of (rest := []) gn2 gt2 ua2 ue2 ce2 ca2 (h.filter fun x => x.1 == "haulage/ddltext.words")
theorem globs {W : World} (h : laidMetH Tryd.prog [("haulage/utf.least", Rows.laid_haulage_utf_least), ("haulage/typ.words", Rows.laid_haulage_typ_words), ("haulage/ddltext.words", Rows.laid_haulage_ddltext_words)] W) : ∀ g, RPcells F (cx0 W) (F.gnum g) 0 (E.gl g) := by
  intro g
  match g with
  | 0 => exact trivial
  | 1 => exact gl_tab (F := F) (k := .i64) (zs := [0, 0, 128, 2048, 65536]) (name := "haulage/utf.least") gn0 (by intro i hi; rw [Nat.zero_add]; exact (tab0 h).cell gn0 i hi)
  | 2 => exact gl_strs (F := F) (zs := [[], [105, 110, 116], [108, 111, 110, 103], [116, 101, 120, 116], [98, 121, 116, 101, 115]]) (name := "haulage/typ.words") (by intro i hi; rw [Nat.zero_add]; show W.cell? ⟨1, i, none⟩ = _; have := World.var?_cell gn1 (tab1 h) i; simpa using this)
  | 3 => exact gl_strs (F := F) (zs := [[], [99, 114, 101, 97, 116, 101], [100, 114, 111, 112], [114, 101, 110, 97, 109, 101], [97, 100, 100], [99, 117, 116], [99, 97, 108, 108], [119, 105, 100, 101, 110], [112, 114, 101, 115, 101, 116]]) (name := "haulage/ddltext.words") (by intro i hi; rw [Nat.zero_add]; show W.cell? ⟨0, i, none⟩ = _; have := World.var?_cell gn2 (tab2 h) i; simpa using this)
  | _ + 4 => exact trivial
noncomputable def laidWorld (os : Os) : World :=
  { World.holding Tryd.prog os ⟨#[], #[], []⟩ with heap := ((((World.holding Tryd.prog os ⟨#[], #[], []⟩).heap.modify 3 fun | .cells _ t frozen => .cells #[.int .i64 0, .int .i64 0, .int .i64 128, .int .i64 2048, .int .i64 65536] t frozen | o => o).modify 1 fun | .cells _ t frozen => .cells #[.string ⟨#[]⟩, .string ⟨#[105, 110, 116]⟩, .string ⟨#[108, 111, 110, 103]⟩, .string ⟨#[116, 101, 120, 116]⟩, .string ⟨#[98, 121, 116, 101, 115]⟩] t frozen | o => o).modify 0 fun | .cells _ t frozen => .cells #[.string ⟨#[]⟩, .string ⟨#[99, 114, 101, 97, 116, 101]⟩, .string ⟨#[100, 114, 111, 112]⟩, .string ⟨#[114, 101, 110, 97, 109, 101]⟩, .string ⟨#[97, 100, 100]⟩, .string ⟨#[99, 117, 116]⟩, .string ⟨#[99, 97, 108, 108]⟩, .string ⟨#[119, 105, 100, 101, 110]⟩, .string ⟨#[112, 114, 101, 115, 101, 116]⟩] t frozen | o => o) }
theorem n04 : N04 E := ⟨rfl, rfl, rfl, rfl, rfl⟩
theorem m05 : M05 E := ⟨rfl, rfl, rfl, rfl, rfl⟩
theorem x06 : X06 E := ⟨n04, m05, ⟨rfl, rfl⟩, rfl, rfl, rfl, rfl, rfl⟩
theorem w05 : W05 E := ⟨⟨⟨⟨rfl, rfl, rfl, rfl, rfl, rfl, rfl, rfl, rfl⟩, rfl, rfl, rfl, rfl, rfl, rfl⟩, ⟨rfl, rfl, rfl, rfl⟩, rfl⟩, rfl, rfl, rfl, rfl⟩
theorem q05 : Q05 E := ⟨rfl, rfl, rfl, rfl, rfl, rfl, rfl, rfl, rfl, rfl, rfl⟩
theorem h05 : H05 E := ⟨q05, rfl⟩
theorem p05 : P05 E := ⟨w05, h05, m05, rfl, rfl, n04, rfl, rfl, rfl, rfl, rfl⟩
theorem r10 : R10 E := ⟨n04, rfl, rfl, rfl, rfl, rfl, rfl, rfl, rfl⟩
theorem l09 : L09 E := ⟨rfl, rfl⟩
theorem s10 : S10 E := ⟨r10, rfl, rfl, rfl, rfl, fun s hs k hk m => typ_Read x06 s hs k hk m, fun s hs k hk m => value_Read p05 s hs k (by omega) m⟩
theorem t10 : T10 E := ⟨s10, rfl, rfl, rfl, rfl⟩
theorem c09 : C09 E := ⟨l09, rfl, rfl⟩
theorem v06 : V06 E := ⟨⟨⟨rfl, rfl, rfl, rfl, rfl, rfl, rfl, rfl, rfl⟩, rfl, rfl, rfl, rfl, rfl, rfl⟩, ⟨rfl, rfl, rfl, rfl⟩, rfl⟩
theorem c10 : C10 E := ⟨c09, r10, v06, rfl, rfl, rfl, rfl, rfl⟩
theorem w10 : W10 E := ⟨c10, q05, p05, x06, rfl, rfl, rfl, rfl, rfl, rfl, rfl⟩
theorem f09 : F09 E := ⟨rfl, rfl, rfl⟩
theorem lives (k : Nat) (m : Mem) : denF E (k + 119) 231 [] m = some (.ret (.p (.bool true)), m) := by
  kernel_rfl
end Go.Proofs.YtifcegbomagcpaaDoor.Tab

namespace Go.Proofs.YtifcegbomagcpaaDoor.ddltextApart
open Go _root_.Hx Go.ChangeShapes Go.WideShapes Go.ChangeAt Go.RowKit
theorem own : ownKnob Tryd.prog.godebug = none := by kernel_rfl
theorem sh29 : shp Tryd.prog 8 29 = some [.int .i64, .str, .str, .str, .str, .int .i64, .int .i64, .bool, .int .i64, .int .i64, .str, .slice 8 [.int .i64, .str, .int .i64, .int .i64, .bool, .int .i64, .int .i64, .str]] := by kernel_rfl
theorem is29 : isStruct (Tryd.prog.underlying 29) = true := by kernel_rfl
theorem tb : Tryd.prog.underlying 4 = some .bool := by kernel_rfl
theorem laidOut : laidOutB Tryd.prog = true := by kernel_rfl
theorem read : ∀ t ∈ Tryd.f5.params.toList, Tryd.prog.readableRec t = true ∧ t < Tryd.prog.types.size := by
  intro t ht
  rw [Tryd.params5] at ht
  simp only [List.mem_cons, List.not_mem_nil, or_false] at ht
  rcases ht with rfl | rfl <;> exact ⟨by kernel_rfl, of_decide_eq_true (by kernel_rfl)⟩
set_option maxRecDepth 100000 in
theorem contract (H : Type) (enc : TypeId × Value → H) (W : World) (base : Nat) (args : Array Value) (ds gs : List (DataW H)) (before : List MemPlace)
    (hval : ∀ (j : Nat) t v, Tryd.f5.params[j]? = some t → args[j]? = some v → Value.okWide Tryd.prog W .any base t v)
    (hW : DataW.Whole enc Tryd.prog Tryd.f5.params.toList Rows.ddltextApartSpec.vars false W args.toList ds gs before) (hL : laidMetH Tryd.prog Rows.ddltextApartRow.laid W) :
    Calls Tryd.prog 5 args W fun e W' => ∃ v, e = .returned v ∧ Rows.ddltextApartSpec.post enc Tryd.prog Tryd.f5 false true false false W args v W' := by
  have hW' := hW
  obtain ⟨p, q, hA0, hV, rfl, hfz, hnd⟩ := hW
  have hA : DataW.TrodAll enc Tryd.prog W 0 (fun _ => true) true Tryd.f5.params.toList args.toList ds p := hA0
  obtain ⟨hgs, _⟩ := trodVars_none hV
  rw [Tryd.params5] at hA hval
  obtain ⟨v0, vs0, d0, ds0, p0, q0, hargs, hds, hp0, h0, r0⟩ := trodAll_cons hA
  obtain ⟨v1, vs1, d1, ds1, p1, q1, rfl, rfl, hp1, h1, r1⟩ := trodAll_cons r0
  obtain ⟨rfl, rfl, _⟩ := trodAll_nil r1
  obtain rfl : args = #[v0, v1] := by cases args; simp_all
  obtain ⟨x0, c0, a0⟩ := arg_agg (F := Tab.F) (enc := enc) sh29 is29 (hval 0 29 v0 rfl rfl) h0
  obtain ⟨x1, c1, a1⟩ := arg_agg (F := Tab.F) (enc := enc) sh29 is29 (hval 1 29 v1 rfl rfl) h1
  have ha : Rs Tab.F (cx0 W) [.p (.agg x0), .p (.agg x1)] [v0, v1] := by simp only [Rs]; exact ⟨v0, _, rfl, a0, ⟨v1, _, rfl, a1, rfl⟩⟩
  refine (calls_true (g := 230) Tab.link (Tab.globs hL) ha (law_DdltextApart Tab.w10 Tab.l09 Tab.f09 rfl rfl (sizeL x0 + sizeL x1) (Tab.lives (sizeL x0 + sizeL x1 + 7880)) c0 c1 (Nat.le_refl _) [])).mono fun e W' ⟨he, hb⟩ => ⟨_, he, ?_⟩
  exact post_true (tb := 4) hW' rfl (by rw [hds, hgs]; rfl) (by kernel_rfl) tb laidOut read hb
theorem laid_met (os : Os) : laidMet Tryd.prog Rows.ddltextApartRow.laid ((Tab.laidWorld os).forCall (fun _ _ => 0) ⟨#[], (#[(.agg #[(.int .i64 0), (.string ⟨#[]⟩), (.string ⟨#[]⟩), (.string ⟨#[]⟩), (.string ⟨#[]⟩), (.int .i64 0), (.int .i64 0), (.bool false), (.int .i64 0), (.int .i64 0), (.string ⟨#[]⟩), (.slice none 0 0)]), (.agg #[(.int .i64 0), (.string ⟨#[]⟩), (.string ⟨#[]⟩), (.string ⟨#[]⟩), (.string ⟨#[]⟩), (.int .i64 0), (.int .i64 0), (.bool false), (.int .i64 0), (.int .i64 0), (.string ⟨#[]⟩), (.slice none 0 0)])] : Array Value), []⟩).memory :=
  laidMet_of_run' 8 (by kernel_rfl) (by kernel_rfl)
theorem reads (os : Os) {H : Type} (enc : TypeId × Value → H) : ∃ places, DataW.whole enc Tryd.prog ((Tab.laidWorld os).forCall (fun _ _ => 0) ⟨#[], (#[(.agg #[(.int .i64 0), (.string ⟨#[]⟩), (.string ⟨#[]⟩), (.string ⟨#[]⟩), (.string ⟨#[]⟩), (.int .i64 0), (.int .i64 0), (.bool false), (.int .i64 0), (.int .i64 0), (.string ⟨#[]⟩), (.slice none 0 0)]), (.agg #[(.int .i64 0), (.string ⟨#[]⟩), (.string ⟨#[]⟩), (.string ⟨#[]⟩), (.string ⟨#[]⟩), (.int .i64 0), (.int .i64 0), (.bool false), (.int .i64 0), (.int .i64 0), (.string ⟨#[]⟩), (.slice none 0 0)])] : Array Value), []⟩).memory Tryd.f5.params.toList Rows.ddltextApartSpec.vars false (#[(.agg #[(.int .i64 0), (.string ⟨#[]⟩), (.string ⟨#[]⟩), (.string ⟨#[]⟩), (.string ⟨#[]⟩), (.int .i64 0), (.int .i64 0), (.bool false), (.int .i64 0), (.int .i64 0), (.string ⟨#[]⟩), (.slice none 0 0)]), (.agg #[(.int .i64 0), (.string ⟨#[]⟩), (.string ⟨#[]⟩), (.string ⟨#[]⟩), (.string ⟨#[]⟩), (.int .i64 0), (.int .i64 0), (.bool false), (.int .i64 0), (.int .i64 0), (.string ⟨#[]⟩), (.slice none 0 0)])] : Array Value).toList 8 = some ([(.agg [(.lit (.int .i64 0)), (.lit (.string [])), (.lit (.string [])), (.lit (.string [])), (.lit (.string [])), (.agg [(.lit (.int .i64 0)), (.lit (.int .i64 0))]), (.lit (.bool false)), (.agg [(.lit (.int .i64 0)), (.lit (.int .i64 0)), (.lit (.string []))]), .nil]), (.agg [(.lit (.int .i64 0)), (.lit (.string [])), (.lit (.string [])), (.lit (.string [])), (.lit (.string [])), (.agg [(.lit (.int .i64 0)), (.lit (.int .i64 0))]), (.lit (.bool false)), (.agg [(.lit (.int .i64 0)), (.lit (.int .i64 0)), (.lit (.string []))]), .nil])], [], places) :=
  ⟨[], by kernel_rfl⟩
set_option maxRecDepth 100000 in
theorem lifted (os : Os) (started : os.Started) (H : Type) (enc : TypeId × Value → H) (F : Stop.Interp) :
    ReturnsInHanded {} Tryd.checked os 5 .any ((OpenSpec.ofChange Rows.ddltextApartSpec).preRow enc Tryd.prog Tryd.f5 Rows.ddltextApartRow.domain false Rows.ddltextApartRow.laid) (((OpenSpec.ofChange Rows.ddltextApartSpec).at F).post enc Tryd.prog Tryd.f5 false true false false) := by
  obtain ⟨places, hx⟩ := reads os enc
  refine returnsInHanded_of_row (C := Tryd.checked) (s := OpenSpec.ofChange Rows.ddltextApartSpec) own started (by kernel_rfl) Tryd.func5
    (witness_row_at (enc := enc) (C := Tryd.checked) false (Tab.laidWorld os) (#[(.agg #[(.int .i64 0), (.string ⟨#[]⟩), (.string ⟨#[]⟩), (.string ⟨#[]⟩), (.string ⟨#[]⟩), (.int .i64 0), (.int .i64 0), (.bool false), (.int .i64 0), (.int .i64 0), (.string ⟨#[]⟩), (.slice none 0 0)]), (.agg #[(.int .i64 0), (.string ⟨#[]⟩), (.string ⟨#[]⟩), (.string ⟨#[]⟩), (.string ⟨#[]⟩), (.int .i64 0), (.int .i64 0), (.bool false), (.int .i64 0), (.int .i64 0), (.string ⟨#[]⟩), (.slice none 0 0)])] : Array Value) rfl (by kernel_rfl) (by kernel_rfl) (by kernel_rfl)
      (OpenSpec.preRow_of_cond 8 hx (by kernel_rfl) (fun k hk => by cases hk) (by kernel_rfl) (laid_met os))) ?_
  intro W base args ds gs before hval hW _ _ _ hL _ _
  exact contract H enc W base args ds gs before hval hW hL
theorem said : Rows.DdltextApartSaid :=
  OpenClaim.holds_of_cond 5 Tryd.f5 rfl rfl rfl rfl rfl rfl rfl ⟨rfl, rfl, rfl, rfl, rfl⟩ rfl rfl rfl rfl rfl (by kernel_rfl) Tryd.func5 (by kernel_rfl)
    (of_decide_eq_true (by kernel_rfl)) (by unfold Func.isWrapper; first | (rw [if_pos (by decide +kernel)]; kernel_rfl) | (rw [if_neg (by decide +kernel)]; exact ⟨rfl, rfl⟩))
    (fun os started H enc _ F => by rw [OpenClaim.pre_eq_preRow]; exact lifted os started H enc F)
theorem plain (f : FuncId) (fn : Func) (hf : Tryd.pinned.checked.prog.funcNamed Rows.ddltextApartRow.func = some f) (hfn : Tryd.pinned.checked.prog.funcs[f]? = some fn) :
    true = Tryd.pinned.checked.prog.looks [] ∧ ∀ (j : Nat) t, fn.params[j]? = some t → Tryd.pinned.checked.prog.wantsStandIn t = false := by
  obtain rfl : f = 5 := Option.some.inj ((show Tryd.prog.funcNamed Rows.ddltextApartRow.func = some 5 by kernel_rfl).symm.trans hf) |>.symm
  obtain rfl : fn = Tryd.f5 := (Option.some.inj (Tryd.func5.symm.trans hfn)).symm
  refine ⟨by kernel_rfl, fun j t ht => ?_⟩
  rw [Tryd.params5] at ht
  have := Array.mem_of_getElem? ht
  simp only [List.mem_toArray, List.mem_cons, List.not_mem_nil, or_false] at this
  rcases this with rfl | rfl
  · exact (show Tryd.prog.wantsStandIn 29 = false by kernel_rfl)
  · exact (show Tryd.prog.wantsStandIn 29 = false by kernel_rfl)
theorem card : Rows.DdltextApartCardSaid :=
  Claim7.holds_tied_plain_at .later [] _ _ _ _ said (fun _ h => by cases h) (by kernel_rfl) (fun _ h => by cases h) ddltextApart_row_tie rfl ⟨rfl, rfl⟩ (by kernel_rfl) rfl plain (by kernel_rfl)
end Go.Proofs.YtifcegbomagcpaaDoor.ddltextApart
