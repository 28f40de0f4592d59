/- The law NetDoes: for every input that the row lets in, the call answers true, and each argument reads as it did: no condition besides. -/
import Derived.Test.YtfobhbameffplaaUtf
namespace Go.Proofs.Ytfobhbameffplaa.netDoes
open Go _root_.Hx Go.ChangeShapes Go.WideShapes Go.ChangeAt Go.RowKit
theorem own : ownKnob Try.prog.godebug = none := by kernel_rfl
theorem sh27 : shp Try.prog 8 27 = some [.slice 5 [.int .i64, .str, .int .i64, .int .i64, .slice 8 [.int .i64, .str, .int .i64, .int .i64, .bool, .int .i64, .int .i64, .str]], .slice 2 [.int .i64, .slice 1 [.slice 3 [.int .i64, .int .i64, .str]]]] := by kernel_rfl
theorem is27 : isStruct (Try.prog.underlying 27) = true := by kernel_rfl
theorem sh28 : shp Try.prog 8 28 = some [.slice 19 [.int .i64, .int .i64, .str, .int .i64, .int .i64, .str, .slice 6 [.str, .int .i64, .int .i64, .int .i64, .int .i64, .str], .int .i64, .str, .str, .str, .str, .int .i64, .int .i64, .bool, .int .i64, .int .i64, .str, .slice 8 [.int .i64, .str, .int .i64, .int .i64, .bool, .int .i64, .int .i64, .str]]] := by kernel_rfl
theorem no28 : isStruct (Try.prog.underlying 28) = false := by kernel_rfl
theorem tb : Try.prog.underlying 4 = some .bool := by kernel_rfl
theorem laidOut : laidOutB Try.prog = true := by kernel_rfl
theorem read : ∀ t ∈ Try.f3.params.toList, Try.prog.readableRec t = true ∧ t < Try.prog.types.size := by
  intro t ht
  rw [Try.params3] at ht
  simp only [List.mem_cons, List.not_mem_nil, or_false] at ht
  rcases ht with rfl | rfl <;> exact ⟨by kernel_rfl, of_decide_eq_true (by kernel_rfl)⟩
set_option maxRecDepth 100000 in
theorem contract (H : Type) (enc : TypeId × Value → H) (W : World) (base : Nat) (args : Array Value) (ds gs : List (DataW H)) (before : List MemPlace)
    (hval : ∀ (j : Nat) t v, Try.f3.params[j]? = some t → args[j]? = some v → Value.okWide Try.prog W .any base t v)
    (hW : DataW.Whole enc Try.prog Try.f3.params.toList Rows.netDoesSpec.vars false W args.toList ds gs before) (hL : laidMetH Try.prog Rows.netDoesRow.laid W) :
    Calls Try.prog 3 args W fun e W' => ∃ v, e = .returned v ∧ Rows.netDoesSpec.post enc Try.prog Try.f3 false true false false W args v W' := by
  have hW' := hW
  obtain ⟨p, q, hA0, hV, rfl, hfz, hnd⟩ := hW
  have hA : DataW.TrodAll enc Try.prog W 0 (fun _ => true) true Try.f3.params.toList args.toList ds p := hA0
  obtain ⟨hgs, _⟩ := trodVars_none hV
  rw [Try.params3] at hA hval
  obtain ⟨v0, vs0, d0, ds0, p0, q0, hargs, hds, hp0, h0, r0⟩ := trodAll_cons hA
  obtain ⟨v1, vs1, d1, ds1, p1, q1, rfl, rfl, hp1, h1, r1⟩ := trodAll_cons r0
  obtain ⟨rfl, rfl, _⟩ := trodAll_nil r1
  obtain rfl : args = #[v0, v1] := by cases args; simp_all
  obtain ⟨x0, c0, a0⟩ := arg_agg (F := Tab.F) (enc := enc) sh27 is27 (hval 0 27 v0 rfl rfl) h0
  obtain ⟨x1, c1, a1⟩ := arg_one (F := Tab.F) (enc := enc) sh28 no28 (hval 1 28 v1 rfl rfl) h1
  have ha : Rs Tab.F (cx0 W) [.p (.agg x0), .p x1] [v0, v1] := by simp only [Rs]; exact ⟨v0, _, rfl, a0, ⟨v1, _, rfl, a1, rfl⟩⟩
  refine (calls_true (g := 284) Tab.link (Tab.globs hL) ha (law_NetDoes Tab.t26 rfl 0 (Tab.lives 7880) c0 c1 [])).mono fun e W' ⟨he, hb⟩ => ⟨_, he, ?_⟩
  exact post_true (tb := 4) hW' rfl (by rw [hds, hgs]; rfl) (by kernel_rfl) tb laidOut read hb
theorem laid_met (os : Os) : laidMet Try.prog Rows.netDoesRow.laid ((Tab.laidWorld os).forCall (fun _ _ => 0) ⟨#[], (#[(.agg #[(.slice none 0 0), (.slice none 0 0)]), (.slice none 0 0)] : Array Value), []⟩).memory :=
  laidMet_of_run' 8 (by kernel_rfl) (by kernel_rfl)
theorem reads (os : Os) {H : Type} (enc : TypeId × Value → H) : ∃ places, DataW.whole enc Try.prog ((Tab.laidWorld os).forCall (fun _ _ => 0) ⟨#[], (#[(.agg #[(.slice none 0 0), (.slice none 0 0)]), (.slice none 0 0)] : Array Value), []⟩).memory Try.f3.params.toList Rows.netDoesSpec.vars false (#[(.agg #[(.slice none 0 0), (.slice none 0 0)]), (.slice none 0 0)] : Array Value).toList 8 = some ([(.agg [(.agg [.nil]), .nil]), .nil], [], places) :=
  ⟨[], by kernel_rfl⟩
set_option maxRecDepth 100000 in
theorem lifted (os : Os) (started : os.Started) (H : Type) (enc : TypeId × Value → H) (F : Stop.Interp) :
    ReturnsInHanded {} Try.checked os 3 .any ((OpenSpec.ofChange Rows.netDoesSpec).preRow enc Try.prog Try.f3 Rows.netDoesRow.domain false Rows.netDoesRow.laid) (((OpenSpec.ofChange Rows.netDoesSpec).at F).post enc Try.prog Try.f3 false true false false) := by
  obtain ⟨places, hx⟩ := reads os enc
  refine returnsInHanded_of_row (C := Try.checked) (s := OpenSpec.ofChange Rows.netDoesSpec) own started (by kernel_rfl) Try.func3
    (witness_row_at (enc := enc) (C := Try.checked) false (Tab.laidWorld os) (#[(.agg #[(.slice none 0 0), (.slice none 0 0)]), (.slice none 0 0)] : Array Value) rfl (by kernel_rfl) (by kernel_rfl) (by kernel_rfl)
      (OpenSpec.preRow_of_cond 8 hx (by kernel_rfl) (fun k hk => by cases hk) (by kernel_rfl) (laid_met os))) ?_
  intro W base args ds gs before hval hW _ _ _ hL _ _
  exact contract H enc W base args ds gs before hval hW hL
theorem said : Rows.NetDoesSaid :=
  OpenClaim.holds_of_cond 3 Try.f3 rfl rfl rfl rfl rfl rfl rfl ⟨rfl, rfl, rfl, rfl, rfl⟩ rfl rfl rfl rfl rfl (by kernel_rfl) Try.func3 (by kernel_rfl)
    (of_decide_eq_true (by kernel_rfl)) (by unfold Func.isWrapper; first | (rw [if_pos (by decide +kernel)]; kernel_rfl) | (rw [if_neg (by decide +kernel)]; exact ⟨rfl, rfl⟩))
    (fun os started H enc _ F => by rw [OpenClaim.pre_eq_preRow]; exact lifted os started H enc F)
end Go.Proofs.Ytfobhbameffplaa.netDoes
