/- The law DdltextPrints: for every input that the row lets in, the call answers true, and each argument reads as it did: no condition besides. -/
import Derived.Test.YtifcegbomagcpaaGreatDoorHx
import Derived.Test.YtifcegbomagcpaaGreatDoorTie
import Derived.Test.YtifcegbomagcpaaGreatDoorCards
import Derived.Test.YtifcegbomagcpaaGreatDoorHxTabS
import Derived.Test.YtifcegbomagcpaaGreatDoorHxV05m
import Derived.WalkKit
namespace Go.Proofs.YtifcegbomagcpaaGreatDoor.Tab
open Go _root_.Hx Go.RowKit
def gl (g : Nat) : List PV := match g with
  | 0 => []
  | 1 => [.int .i64 0, .int .i64 0, .int .i64 128, .int .i64 2048, .int .i64 65536]
  | 2 => [.str [], .str [105, 110, 116], .str [108, 111, 110, 103], .str [116, 101, 120, 116], .str [98, 121, 116, 101, 115]]
  | 3 => [.str [], .str [99, 114, 101, 97, 116, 101], .str [100, 114, 111, 112], .str [114, 101, 110, 97, 109, 101], .str [97, 100, 100], .str [99, 117, 116], .str [99, 97, 108, 108], .str [119, 105, 100, 101, 110], .str [112, 114, 101, 115, 101, 116]]
  | _ => []
def E : Env := envOf L gl
theorem link : Link F E := link_of all_ok
theorem gn0 : Tryz.prog.globalNamed "haulage/utf.least" = some 2 := by kernel_rfl
theorem gt0 : (Tryz.prog.globals[2]?).map (·.type) = some 135 := by kernel_rfl
theorem ua0 : Tryz.prog.underlying 135 = some (.array 5 3) := by kernel_rfl
theorem ue0 : Tryz.prog.underlying 3 = some (.int .i64) := by kernel_rfl
theorem ca0 : Tryz.prog.cellsOf 135 = 5 := by kernel_rfl
theorem ce0 : Tryz.prog.cellsOf 3 = 1 := by kernel_rfl
theorem tab0 {W : World} (h : laidMetH Tryz.prog [("haulage/utf.least", Rows.laid_haulage_utf_least), ("haulage/typ.words", Rows.laid_haulage_typ_words), ("haulage/ddltext.words", Rows.laid_haulage_ddltext_words)] W) : Lib.TabIs Tryz.prog W "haulage/utf.least" .i64 [0, 0, 128, 2048, 65536] :=
  Lib.tabIs_of_head (rest := [("haulage/typ.words", Rows.laid_haulage_typ_words), ("haulage/ddltext.words", Rows.laid_haulage_ddltext_words)]) gn0 gt0 ua0 ue0 ce0 ca0 h
theorem gn1 : Tryz.prog.globalNamed "haulage/typ.words" = some 1 := by kernel_rfl
theorem gt1 : (Tryz.prog.globals[1]?).map (·.type) = some 95 := by kernel_rfl
theorem ua1 : Tryz.prog.underlying 95 = some (.array 5 9) := by kernel_rfl
theorem ue1 : Tryz.prog.underlying 9 = some (.string) := by kernel_rfl
theorem ca1 : Tryz.prog.cellsOf 95 = 5 := by kernel_rfl
theorem ce1 : Tryz.prog.cellsOf 9 = 1 := by kernel_rfl
theorem tab1 {W : World} (h : laidMetH Tryz.prog [("haulage/utf.least", Rows.laid_haulage_utf_least), ("haulage/typ.words", Rows.laid_haulage_typ_words), ("haulage/ddltext.words", Rows.laid_haulage_ddltext_words)] W) : W.var? Tryz.prog "haulage/typ.words" = some (([[], [105, 110, 116], [108, 111, 110, 103], [116, 101, 120, 116], [98, 121, 116, 101, 115]] : List (List UInt8)).map strV).toArray :=
  strs_of (rest := []) gn1 gt1 ua1 ue1 ce1 ca1 (h.filter fun x => x.1 == "haulage/typ.words")
theorem gn2 : Tryz.prog.globalNamed "haulage/ddltext.words" = some 0 := by kernel_rfl
theorem gt2 : (Tryz.prog.globals[0]?).map (·.type) = some 48 := by kernel_rfl
theorem ua2 : Tryz.prog.underlying 48 = some (.array 9 9) := by kernel_rfl
theorem ue2 : Tryz.prog.underlying 9 = some (.string) := by kernel_rfl
theorem ca2 : Tryz.prog.cellsOf 48 = 9 := by kernel_rfl
theorem ce2 : Tryz.prog.cellsOf 9 = 1 := by kernel_rfl
theorem tab2 {W : World} (h : laidMetH Tryz.prog [("haulage/utf.least", Rows.laid_haulage_utf_least), ("haulage/typ.words", Rows.laid_haulage_typ_words), ("haulage/ddltext.words", Rows.laid_haulage_ddltext_words)] W) : W.var? Tryz.prog "haulage/ddltext.words" = some (([[], [99, 114, 101, 97, 116, 101], [100, 114, 111, 112], [114, 101, 110, 97, 109, 101], [97, 100, 100], [99, 117, 116], [99, 97, 108, 108], [119, 105, 100, 101, 110], [112, 114, 101, 115, 101, 116]] : List (List UInt8)).map strV).toArray :=
  strs_of (rest := []) gn2 gt2 ua2 ue2 ce2 ca2 (h.filter fun x => x.1 == "haulage/ddltext.words")
theorem globs {W : World} (h : laidMetH Tryz.prog [("haulage/utf.least", Rows.laid_haulage_utf_least), ("haulage/typ.words", Rows.laid_haulage_typ_words), ("haulage/ddltext.words", Rows.laid_haulage_ddltext_words)] W) : ∀ g, RPcells F (cx0 W) (F.gnum g) 0 (E.gl g) := by
  intro g
  match g with
  | 0 => exact trivial
  | 1 => exact gl_tab (F := F) (k := .i64) (zs := [0, 0, 128, 2048, 65536]) (name := "haulage/utf.least") gn0 (by intro i hi; rw [Nat.zero_add]; exact (tab0 h).cell gn0 i hi)
  | 2 => exact gl_strs (F := F) (zs := [[], [105, 110, 116], [108, 111, 110, 103], [116, 101, 120, 116], [98, 121, 116, 101, 115]]) (name := "haulage/typ.words") (by intro i hi; rw [Nat.zero_add]; show W.cell? ⟨1, i, none⟩ = _; have := World.var?_cell gn1 (tab1 h) i; simpa using this)
  | 3 => exact gl_strs (F := F) (zs := [[], [99, 114, 101, 97, 116, 101], [100, 114, 111, 112], [114, 101, 110, 97, 109, 101], [97, 100, 100], [99, 117, 116], [99, 97, 108, 108], [119, 105, 100, 101, 110], [112, 114, 101, 115, 101, 116]]) (name := "haulage/ddltext.words") (by intro i hi; rw [Nat.zero_add]; show W.cell? ⟨0, i, none⟩ = _; have := World.var?_cell gn2 (tab2 h) i; simpa using this)
  | _ + 4 => exact trivial
noncomputable def laidWorld (os : Os) : World :=
  { World.holding Tryz.prog os ⟨#[], #[], []⟩ with heap := ((((World.holding Tryz.prog os ⟨#[], #[], []⟩).heap.modify 2 fun | .cells _ t frozen => .cells #[.int .i64 0, .int .i64 0, .int .i64 128, .int .i64 2048, .int .i64 65536] t frozen | o => o).modify 1 fun | .cells _ t frozen => .cells #[.string ⟨#[]⟩, .string ⟨#[105, 110, 116]⟩, .string ⟨#[108, 111, 110, 103]⟩, .string ⟨#[116, 101, 120, 116]⟩, .string ⟨#[98, 121, 116, 101, 115]⟩] t frozen | o => o).modify 0 fun | .cells _ t frozen => .cells #[.string ⟨#[]⟩, .string ⟨#[99, 114, 101, 97, 116, 101]⟩, .string ⟨#[100, 114, 111, 112]⟩, .string ⟨#[114, 101, 110, 97, 109, 101]⟩, .string ⟨#[97, 100, 100]⟩, .string ⟨#[99, 117, 116]⟩, .string ⟨#[99, 97, 108, 108]⟩, .string ⟨#[119, 105, 100, 101, 110]⟩, .string ⟨#[112, 114, 101, 115, 101, 116]⟩] t frozen | o => o) }
theorem n04 : N04 E := ⟨rfl, rfl, rfl, rfl, rfl⟩
theorem m05 : M05 E := ⟨rfl, rfl, rfl, rfl, rfl⟩
theorem x06 : X06 E := ⟨n04, m05, ⟨rfl, rfl⟩, rfl, rfl, rfl, rfl, rfl⟩
theorem w05 : W05 E := ⟨⟨⟨⟨rfl, rfl, rfl, rfl, rfl, rfl, rfl, rfl, rfl⟩, rfl, rfl, rfl, rfl, rfl, rfl⟩, ⟨rfl, rfl, rfl, rfl⟩, rfl⟩, rfl, rfl, rfl, rfl⟩
theorem q05 : Q05 E := ⟨rfl, rfl, rfl, rfl, rfl, rfl, rfl, rfl, rfl, rfl, rfl⟩
theorem h05 : H05 E := ⟨q05, rfl⟩
theorem p05 : P05 E := ⟨w05, h05, m05, rfl, rfl, n04, rfl, rfl, rfl, rfl, rfl⟩
theorem r10 : R10 E := ⟨n04, rfl, rfl, rfl, rfl, rfl, rfl, rfl, rfl⟩
theorem l09 : L09 E := ⟨rfl, rfl⟩
theorem c09 : C09 E := ⟨l09, rfl, rfl⟩
theorem v06 : V06 E := ⟨⟨⟨rfl, rfl, rfl, rfl, rfl, rfl, rfl, rfl, rfl⟩, rfl, rfl, rfl, rfl, rfl, rfl⟩, ⟨rfl, rfl, rfl, rfl⟩, rfl⟩
theorem c10 : C10 E := ⟨c09, r10, v06, rfl, rfl, rfl, rfl, rfl⟩
theorem w10 : W10 E := ⟨c10, q05, p05, x06, rfl, rfl, rfl, rfl, rfl, rfl, rfl⟩
theorem e10 : E10 E := ⟨p05, x06, rfl, rfl, rfl, rfl, rfl⟩
theorem d09 : D09 E := ⟨l09, n04, rfl, v06, rfl, rfl, rfl, rfl, rfl⟩
theorem f09 : F09 E := ⟨rfl, rfl, rfl⟩
theorem lives (k : Nat) (m : Mem) : denF E (k + 119) 231 [] m = some (.ret (.p (.bool true)), m) := by
  kernel_rfl
end Go.Proofs.YtifcegbomagcpaaGreatDoor.Tab

namespace Go.Proofs.YtifcegbomagcpaaGreatDoor.ddltextPrints
open Go _root_.Hx Go.ChangeShapes Go.WideShapes Go.ChangeAt Go.RowKit
theorem own : ownKnob Tryz.prog.godebug = none := by kernel_rfl
theorem sh28 : shp Tryz.prog 8 28 = some [.int .i64, .str, .str, .str, .str, .int .i64, .int .i64, .bool, .int .i64, .int .i64, .str, .slice 8 [.int .i64, .str, .int .i64, .int .i64, .bool, .int .i64, .int .i64, .str]] := by kernel_rfl
theorem is28 : isStruct (Tryz.prog.underlying 28) = true := by kernel_rfl
theorem tb : Tryz.prog.underlying 4 = some .bool := by kernel_rfl
theorem laidOut : laidOutB Tryz.prog = true := by kernel_rfl
theorem read : ∀ t ∈ Tryz.f3.params.toList, Tryz.prog.readableRec t = true ∧ t < Tryz.prog.types.size := by
  intro t ht
  rw [Tryz.params3] at ht
  simp only [List.mem_cons, List.not_mem_nil, or_false] at ht
  rcases ht with rfl <;> exact ⟨by kernel_rfl, of_decide_eq_true (by kernel_rfl)⟩
set_option maxRecDepth 100000 in
theorem contract (H : Type) (enc : TypeId × Value → H) (W : World) (base : Nat) (args : Array Value) (ds gs : List (DataW H)) (before : List MemPlace)
    (hval : ∀ (j : Nat) t v, Tryz.f3.params[j]? = some t → args[j]? = some v → Value.okWide Tryz.prog W .any base t v)
    (hW : DataW.Whole enc Tryz.prog Tryz.f3.params.toList Rows.ddltextPrintsSpec.vars false W args.toList ds gs before) (hL : laidMetH Tryz.prog Rows.ddltextPrintsRow.laid W) :
    Calls Tryz.prog 3 args W fun e W' => ∃ v, e = .returned v ∧ Rows.ddltextPrintsSpec.post enc Tryz.prog Tryz.f3 false true false false W args v W' := by
  have hW' := hW
  obtain ⟨p, q, hA0, hV, rfl, hfz, hnd⟩ := hW
  have hA : DataW.TrodAll enc Tryz.prog W 0 (fun _ => true) true Tryz.f3.params.toList args.toList ds p := hA0
  obtain ⟨hgs, _⟩ := trodVars_none hV
  rw [Tryz.params3] at hA hval
  obtain ⟨v0, vs0, d0, ds0, p0, q0, hargs, hds, hp0, h0, r0⟩ := trodAll_cons hA
  obtain ⟨rfl, rfl, _⟩ := trodAll_nil r0
  obtain rfl : args = #[v0] := by cases args; simp_all
  obtain ⟨x0, c0, a0⟩ := arg_agg (F := Tab.F) (enc := enc) sh28 is28 (hval 0 28 v0 rfl rfl) h0
  have ha : Rs Tab.F (cx0 W) [.p (.agg x0)] [v0] := by simp only [Rs]; exact ⟨v0, _, rfl, a0, rfl⟩
  refine (calls_true (g := 273) Tab.link (Tab.globs hL) ha (law_DdltextPrints Tab.w10 Tab.e10 Tab.d09 Tab.f09 rfl rfl (sizeL x0) (Tab.lives (sizeL x0 + 7880)) c0 (Nat.le_refl _) [])).mono fun e W' ⟨he, hb⟩ => ⟨_, he, ?_⟩
  exact post_true (tb := 4) hW' rfl (by rw [hds, hgs]; rfl) (by kernel_rfl) tb laidOut read hb
theorem laid_met (os : Os) : laidMet Tryz.prog Rows.ddltextPrintsRow.laid ((Tab.laidWorld os).forCall (fun _ _ => 0) ⟨#[], (#[(.agg #[(.int .i64 0), (.string ⟨#[]⟩), (.string ⟨#[]⟩), (.string ⟨#[]⟩), (.string ⟨#[]⟩), (.int .i64 0), (.int .i64 0), (.bool false), (.int .i64 0), (.int .i64 0), (.string ⟨#[]⟩), (.slice none 0 0)])] : Array Value), []⟩).memory :=
  laidMet_of_run' 8 (by kernel_rfl) (by kernel_rfl)
theorem reads (os : Os) {H : Type} (enc : TypeId × Value → H) : ∃ places, DataW.whole enc Tryz.prog ((Tab.laidWorld os).forCall (fun _ _ => 0) ⟨#[], (#[(.agg #[(.int .i64 0), (.string ⟨#[]⟩), (.string ⟨#[]⟩), (.string ⟨#[]⟩), (.string ⟨#[]⟩), (.int .i64 0), (.int .i64 0), (.bool false), (.int .i64 0), (.int .i64 0), (.string ⟨#[]⟩), (.slice none 0 0)])] : Array Value), []⟩).memory Tryz.f3.params.toList Rows.ddltextPrintsSpec.vars false (#[(.agg #[(.int .i64 0), (.string ⟨#[]⟩), (.string ⟨#[]⟩), (.string ⟨#[]⟩), (.string ⟨#[]⟩), (.int .i64 0), (.int .i64 0), (.bool false), (.int .i64 0), (.int .i64 0), (.string ⟨#[]⟩), (.slice none 0 0)])] : Array Value).toList 8 = some ([(.agg [(.lit (.int .i64 0)), (.lit (.string [])), (.lit (.string [])), (.lit (.string [])), (.lit (.string [])), (.agg [(.lit (.int .i64 0)), (.lit (.int .i64 0))]), (.lit (.bool false)), (.agg [(.lit (.int .i64 0)), (.lit (.int .i64 0)), (.lit (.string []))]), .nil])], [], places) :=
  ⟨[], by kernel_rfl⟩
set_option maxRecDepth 100000 in
theorem lifted (os : Os) (started : os.Started) (H : Type) (enc : TypeId × Value → H) (F : Stop.Interp) :
    ReturnsInHanded {} Tryz.checked os 3 .any ((OpenSpec.ofChange Rows.ddltextPrintsSpec).preRow enc Tryz.prog Tryz.f3 Rows.ddltextPrintsRow.domain false Rows.ddltextPrintsRow.laid) (((OpenSpec.ofChange Rows.ddltextPrintsSpec).at F).post enc Tryz.prog Tryz.f3 false true false false) := by
  obtain ⟨places, hx⟩ := reads os enc
  refine returnsInHanded_of_row (C := Tryz.checked) (s := OpenSpec.ofChange Rows.ddltextPrintsSpec) own started (by kernel_rfl) Tryz.func3
    (witness_row_at (enc := enc) (C := Tryz.checked) false (Tab.laidWorld os) (#[(.agg #[(.int .i64 0), (.string ⟨#[]⟩), (.string ⟨#[]⟩), (.string ⟨#[]⟩), (.string ⟨#[]⟩), (.int .i64 0), (.int .i64 0), (.bool false), (.int .i64 0), (.int .i64 0), (.string ⟨#[]⟩), (.slice none 0 0)])] : Array Value) rfl (by kernel_rfl) (by kernel_rfl) (by kernel_rfl)
      (OpenSpec.preRow_of_cond 8 hx (by kernel_rfl) (fun k hk => by cases hk) (by kernel_rfl) (laid_met os))) ?_
  intro W base args ds gs before hval hW _ _ _ hL _ _
  exact contract H enc W base args ds gs before hval hW hL
theorem said : Rows.DdltextPrintsSaid :=
  OpenClaim.holds_of_cond 3 Tryz.f3 rfl rfl rfl rfl rfl rfl rfl ⟨rfl, rfl, rfl, rfl, rfl⟩ rfl rfl rfl rfl rfl (by kernel_rfl) Tryz.func3 (by kernel_rfl)
    (of_decide_eq_true (by kernel_rfl)) (by unfold Func.isWrapper; first | (rw [if_pos (by decide +kernel)]; kernel_rfl) | (rw [if_neg (by decide +kernel)]; exact ⟨rfl, rfl⟩))
    (fun os started H enc _ F => by rw [OpenClaim.pre_eq_preRow]; exact lifted os started H enc F)
theorem plain (f : FuncId) (fn : Func) (hf : Tryz.pinned.checked.prog.funcNamed Rows.ddltextPrintsRow.func = some f) (hfn : Tryz.pinned.checked.prog.funcs[f]? = some fn) :
    true = Tryz.pinned.checked.prog.looks [] ∧ ∀ (j : Nat) t, fn.params[j]? = some t → Tryz.pinned.checked.prog.wantsStandIn t = false := by
  obtain rfl : f = 3 := Option.some.inj ((show Tryz.prog.funcNamed Rows.ddltextPrintsRow.func = some 3 by kernel_rfl).symm.trans hf) |>.symm
  obtain rfl : fn = Tryz.f3 := (Option.some.inj (Tryz.func3.symm.trans hfn)).symm
  refine ⟨by kernel_rfl, fun j t ht => ?_⟩
  rw [Tryz.params3] at ht
  have := Array.mem_of_getElem? ht
  simp only [List.mem_toArray, List.mem_cons, List.not_mem_nil, or_false] at this
  rcases this with rfl
  · exact (show Tryz.prog.wantsStandIn 28 = false by kernel_rfl)
theorem card : Rows.DdltextPrintsCardSaid :=
  Claim7.holds_tied_plain_at .later [] _ _ _ _ said (fun _ h => by cases h) (by kernel_rfl) (fun _ h => by cases h) ddltextPrints_row_tie rfl ⟨rfl, rfl⟩ (by kernel_rfl) rfl plain (by kernel_rfl)
end Go.Proofs.YtifcegbomagcpaaGreatDoor.ddltextPrints
