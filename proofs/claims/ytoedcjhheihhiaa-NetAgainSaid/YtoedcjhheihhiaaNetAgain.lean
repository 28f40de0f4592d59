/- The law NetAgain: for every input that the row lets in, the call answers true, and each argument reads as it did: no condition besides. -/
import Derived.Test.YtoedcjhheihhiaaHxRow
import Derived.Test.YtoedcjhheihhiaaHx
import Derived.Test.YtoedcjhheihhiaaRows
import Derived.Test.YtoedcjhheihhiaaHxQ25
import Derived.Test.YtoedcjhheihhiaaHxArg
import Derived.WalkKit
namespace Hx
open Go Go.RowKit
end Hx

namespace Go.Proofs.Ytoedcjhheihhiaa.Tab
open Go _root_.Hx Go.RowKit
def gl (g : Nat) : List PV := match g with
  | _ => []
def E : Env := envOf L gl
theorem link : Link F E := link_of all_ok
theorem globs {W : World} (h : laidMetH Try.prog [] W) : ∀ g, RPcells F (cx0 W) (F.gnum g) 0 (E.gl g) := by
  intro g
  match g with
  | _ => exact trivial
noncomputable def laidWorld (os : Os) : World :=
  World.holding Try.prog os ⟨#[], #[], []⟩
theorem t25 : T25 E := ⟨⟨rfl, rfl, rfl, rfl, rfl⟩, ⟨rfl, rfl, rfl, rfl⟩, ⟨rfl, rfl⟩, ⟨rfl, rfl, rfl, rfl, rfl, rfl⟩, ⟨⟨rfl, rfl⟩, rfl, rfl, rfl⟩, ⟨⟨rfl, rfl, rfl⟩, rfl, rfl⟩, rfl, rfl, rfl, rfl, rfl, rfl, rfl⟩
theorem lives (k : Nat) (m : Mem) : denF E (k + 119) 122 [] m = some (.ret (.p (.bool true)), m) := by
  kernel_rfl
end Go.Proofs.Ytoedcjhheihhiaa.Tab

namespace Go.Proofs.Ytoedcjhheihhiaa.netAgain
open Go _root_.Hx Go.ChangeShapes Go.WideShapes Go.ChangeAt Go.RowKit
theorem own : ownKnob Try.prog.godebug = none := by kernel_rfl
theorem sh22 : shp Try.prog 8 22 = some [.slice 19 [.int .i64, .int .i64, .str, .int .i64, .int .i64, .str, .slice 6 [.str, .int .i64, .int .i64, .int .i64, .int .i64, .str], .int .i64, .str, .str, .str, .str, .int .i64, .int .i64, .bool, .int .i64, .int .i64, .str, .slice 8 [.int .i64, .str, .int .i64, .int .i64, .bool, .int .i64, .int .i64, .str]]] := by kernel_rfl
theorem no22 : isStruct (Try.prog.underlying 22) = false := by kernel_rfl
theorem tb : Try.prog.underlying 4 = some .bool := by kernel_rfl
theorem laidOut : laidOutB Try.prog = true := by kernel_rfl
theorem read : ∀ t ∈ Try.f4.params.toList, Try.prog.readableRec t = true ∧ t < Try.prog.types.size := by
  intro t ht
  rw [Try.params4] at ht
  simp only [List.mem_cons, List.not_mem_nil, or_false] at ht
  rcases ht with rfl <;> exact ⟨by kernel_rfl, of_decide_eq_true (by kernel_rfl)⟩
set_option maxRecDepth 100000 in
theorem contract (H : Type) (enc : TypeId × Value → H) (W : World) (base : Nat) (args : Array Value) (ds gs : List (DataW H)) (before : List MemPlace)
    (hval : ∀ (j : Nat) t v, Try.f4.params[j]? = some t → args[j]? = some v → Value.okWide Try.prog W .any base t v)
    (hW : DataW.Whole enc Try.prog Try.f4.params.toList Rows.netAgainSpec.vars false W args.toList ds gs before) (hL : laidMetH Try.prog Rows.netAgainRow.laid W) :
    Calls Try.prog 4 args W fun e W' => ∃ v, e = .returned v ∧ Rows.netAgainSpec.post enc Try.prog Try.f4 false true false false W args v W' := by
  have hW' := hW
  obtain ⟨p, q, hA0, hV, rfl, hfz, hnd⟩ := hW
  have hA : DataW.TrodAll enc Try.prog W 0 (fun _ => true) true Try.f4.params.toList args.toList ds p := hA0
  obtain ⟨hgs, _⟩ := trodVars_none hV
  rw [Try.params4] at hA hval
  obtain ⟨v0, vs0, d0, ds0, p0, q0, hargs, hds, hp0, h0, r0⟩ := trodAll_cons hA
  obtain ⟨rfl, rfl, _⟩ := trodAll_nil r0
  obtain rfl : args = #[v0] := by cases args; simp_all
  obtain ⟨x0, c0, a0⟩ := arg_one (F := Tab.F) (enc := enc) sh22 no22 (hval 0 22 v0 rfl rfl) h0
  have ha : Rs Tab.F (cx0 W) [.p x0] [v0] := by simp only [Rs]; exact ⟨v0, _, rfl, a0, rfl⟩
  refine (calls_true (g := 280) Tab.link (Tab.globs hL) ha (law_NetAgain Tab.t25 rfl 0 (Tab.lives 7880) c0 [])).mono fun e W' ⟨he, hb⟩ => ⟨_, he, ?_⟩
  exact post_true (tb := 4) hW' rfl (by rw [hds, hgs]; rfl) (by kernel_rfl) tb laidOut read hb
theorem laid_met (os : Os) : laidMet Try.prog Rows.netAgainRow.laid ((Tab.laidWorld os).forCall (fun _ _ => 0) ⟨#[], (#[(.slice none 0 0)] : Array Value), []⟩).memory :=
  laidMet_of_run' 8 (by kernel_rfl) (by kernel_rfl)
theorem reads (os : Os) {H : Type} (enc : TypeId × Value → H) : ∃ places, DataW.whole enc Try.prog ((Tab.laidWorld os).forCall (fun _ _ => 0) ⟨#[], (#[(.slice none 0 0)] : Array Value), []⟩).memory Try.f4.params.toList Rows.netAgainSpec.vars false (#[(.slice none 0 0)] : Array Value).toList 8 = some ([.nil], [], places) :=
  ⟨[], by kernel_rfl⟩
set_option maxRecDepth 100000 in
theorem lifted (os : Os) (started : os.Started) (H : Type) (enc : TypeId × Value → H) (F : Stop.Interp) :
    ReturnsInHanded {} Try.checked os 4 .any ((OpenSpec.ofChange Rows.netAgainSpec).preRow enc Try.prog Try.f4 Rows.netAgainRow.domain false Rows.netAgainRow.laid) (((OpenSpec.ofChange Rows.netAgainSpec).at F).post enc Try.prog Try.f4 false true false false) := by
  obtain ⟨places, hx⟩ := reads os enc
  refine returnsInHanded_of_row (C := Try.checked) (s := OpenSpec.ofChange Rows.netAgainSpec) own started (by kernel_rfl) Try.func4
    (witness_row_at (enc := enc) (C := Try.checked) false (Tab.laidWorld os) (#[(.slice none 0 0)] : Array Value) rfl (by kernel_rfl) (by kernel_rfl) (by kernel_rfl)
      (OpenSpec.preRow_of_cond 8 hx (by kernel_rfl) (fun k hk => by cases hk) (by kernel_rfl) (laid_met os))) ?_
  intro W base args ds gs before hval hW _ _ _ hL _ _
  exact contract H enc W base args ds gs before hval hW hL
theorem said : Rows.NetAgainSaid :=
  OpenClaim.holds_of_cond 4 Try.f4 rfl rfl rfl rfl rfl rfl rfl ⟨rfl, rfl, rfl, rfl, rfl⟩ rfl rfl rfl rfl rfl (by kernel_rfl) Try.func4 (by kernel_rfl)
    (of_decide_eq_true (by kernel_rfl)) (by unfold Func.isWrapper; first | (rw [if_pos (by decide +kernel)]; kernel_rfl) | (rw [if_neg (by decide +kernel)]; exact ⟨rfl, rfl⟩))
    (fun os started H enc _ F => by rw [OpenClaim.pre_eq_preRow]; exact lifted os started H enc F)
end Go.Proofs.Ytoedcjhheihhiaa.netAgain
