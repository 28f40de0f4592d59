/-
  HxRow: from what a row asks to the evaluator, and back: the arguments as values of the evaluator; what is said behind the call.
-/
import Derived.Test.YtoedcjhheihhiaaHxCall
import Derived.ProofKit
import Derived.OpenShut
import Derived.Deep.DeepHandedRow
import Derived.Lib.LaidTab
import Derived.LaidSub
namespace Hx
open Go Go.ChangeShapes Go.WideShapes Go.ChangeAt Go.RowKit

section
variable {H : Type} {enc : TypeId × Value → H} {P : Program}

theorem trodAll_below (hl : laidOutB P = true) {W W' : World} (hb : Below W.heap.size W W') : ∀ {ts : List TypeId} {vs : List Value} {ds : List (DataW H)} {ps : List MemPlace},
    (∀ t ∈ ts, P.readableRec t = true ∧ t < P.types.size) → DataW.TrodAll enc P W 0 (fun _ => true) true ts vs ds ps → (∀ x ∈ ps, x.block < W.heap.size) →
    ∀ sp : Nat → Bool, (∀ p ∈ ps, sp p.block = true) → DataW.TrodAll enc P W' 0 sp true ts vs ds ps
  | [], _, _, _, _, h, _, _, _ => by
    obtain ⟨rfl, rfl, rfl⟩ := trodAll_nil h
    exact trodAll_mk0
  | t :: ts, vs, ds, ps, ht, h, hlt, sp, hsp => by
    obtain ⟨v, vs', d, ds', p, q, rfl, rfl, rfl, h1, h2⟩ := trodAll_cons h
    have hp := fun x (hx : x ∈ p) => hlt x (List.mem_append_left _ hx)
    refine trodAll_cons_mk (WideElems.Trod_stays hl (ht t (by simp)).1 (ht t (by simp)).2 h1 (fun x hx => hb.same (hp x hx)) fun x hx => hsp x (List.mem_append_left _ hx)) ?_
    exact trodAll_below hl hb (fun t' h' => ht t' (List.mem_cons_of_mem _ h')) h2 (fun x hx => hlt x (List.mem_append_right _ hx)) sp fun x hx => hsp x (List.mem_append_right _ hx)

theorem post_true {f : Func} {s : ChangeSpec} {apart fresh handsOn again : Bool} {W W' : World} {args : Array Value} {ds gs : List (DataW H)} {before : List MemPlace} {tb : TypeId}
    (hW : DataW.Whole enc P f.params.toList s.vars apart W args.toList ds gs before) (hv : s.vars = []) (hs : s.fn H (ds ++ gs) = { results := [.lit (.bool true)], args := ds })
    (hr : f.resultTypes = #[tb]) (ht : P.underlying tb = some .bool) (hl : laidOutB P = true) (hts : ∀ t ∈ f.params.toList, P.readableRec t = true ∧ t < P.types.size) (hb : Below W.heap.size W W') :
    s.post enc P f apart fresh handsOn again W args (.bool true) W' := by
  have hlt := hW.lt
  have hW0 := hW
  obtain ⟨p, q, hA, hV, hpq, hz, hn⟩ := hW
  rw [hv] at hV
  obtain ⟨rfl, rfl⟩ := trodVars_none hV
  rw [List.append_nil] at hpq
  subst hpq
  have hargs : ∀ sp : Nat → Bool, (∀ x ∈ before, sp x.block = true) → DataW.TrodAll enc P W' 0 sp true f.params.toList args.toList (s.fn H (ds ++ [])).args before := by
    intro sp hsp
    rw [hs]
    exact trodAll_below hl hb hts hA hlt sp hsp
  have hvars : ∀ sp : Nat → Bool, DataW.TrodVars enc P W' sp s.vars (s.fn H (ds ++ [])).vars [] := by
    intro sp
    rw [hs, hv]
    rfl
  have hres : ∀ (b : Nat) (sp : Nat → Bool) (hd : Bool), DataW.TrodAll enc P W' b sp hd f.resultTypes.toList ((Value.bool true).resultList f.resultTypes.size) (s.fn H (ds ++ [])).results [] := by
    intro b sp hd
    rw [hs, hr]
    exact trodAll_mk1 (shut_bool ht true)
  have hold : ∀ x ∈ before, (fun b => decide (b < W.heap.size)) x.block = true := fun x hx => by simpa using hlt x hx
  refine ⟨ds, [], before, [], before, [], hW0, hres _ _ _, hargs _ hold, hvars _, World.keptBut_mono (fun x hx => ?_) (hb.frame fun x => x ∈ before), fun _ => ⟨ok_one hr rfl (okWide_bool_mk ht true), ?_⟩⟩
  · exact ⟨hx, .inr (.inl hx)⟩
  · refine ⟨_, _, ([] ++ before) ++ [], ⟨[] ++ before, [], trodAll_append (hargs _ fun _ _ => rfl) (hres _ _ _), hvars _, rfl, ?_, ?_⟩, ?_⟩
    · intro b off hx
      have hx' : MemPlace.cell b off ∈ before := by simpa using hx
      rw [hb.frozen (hlt _ hx')]
      exact hz b off (by simpa using hx')
    · intro ha
      simpa using hn ha
    · intro x hx _
      simpa using hx
end


def cx0 (W : World) : Cx := { w := W, K := fun _ => none, N := 0, ρ := fun _ => (0, 0), tok := fun _ => none }
theorem cx0_safe {W : World} {b o : Nat} : (cx0 W).safe b o ↔ b < W.heap.size := by
  simp [Cx.safe, cx0]
theorem inv0 {F : Fix} {E : Env} {W : World} (hg : ∀ g, RPcells F (cx0 W) (F.gnum g) 0 (E.gl g)) : Inv F E ⟨W, fun _ => none⟩ (cx0 W) [] :=
  ⟨Below.refl _ _, rfl, (by intro b k h; cases h), fun _ _ => rfl, (by intro i b h; simp [ownB] at h), (by intro i x h; simp at h), (by intro i j b h; simp [ownB] at h), hg⟩

section
variable {H : Type} {enc : TypeId × Value → H} {F : Fix} {W : World}
end


def envOf (L : List (Nat × XFunc)) (gl : Nat → List PV) : Env := { fn := fun g => (L.find? fun p => p.1 == g).map (·.2), gl := gl }
theorem link_of {F : Fix} {L : List (Nat × XFunc)} {gl : Nat → List PV} (h : ∀ p ∈ L, okFunc F p.1 p.2 = true) : Link F (envOf L gl) := by
  refine ⟨fun g xf hg => ?_⟩
  simp only [envOf, Option.map_eq_some_iff] at hg
  obtain ⟨p, hp, rfl⟩ := hg
  have h1 := List.find?_some hp
  have h2 := List.mem_of_find?_eq_some hp
  have := h p h2
  rw [beq_iff_eq.1 h1] at this
  exact this

theorem calls_true {F : Fix} {E : Env} (hl : Link F E) {n g : Nat} {args : List AV} {m : Mem} {W : World} {argsV : List Value} (hg : ∀ g, RPcells F (cx0 W) (F.gnum g) 0 (E.gl g)) (ha : Rs F (cx0 W) args argsV)
    (hd : denF E n g args [] = some (.ret (.p (.bool true)), m)) : Calls F.P (F.num g) argsV.toArray W fun e W' => e = .returned (.bool true) ∧ Below W.heap.size W W' := by
  obtain ⟨_, _, h⟩ := denF_sound hl n ⟨W, fun _ => none⟩ g args [] _ m hd
  refine (h (cx0 W) argsV (inv0 hg) ha).mono ?_
  rintro e W' ⟨c', rfl, he, hi, hans⟩
  cases e with
  | returned v => simp only [R, RP] at hans; exact ⟨by rw [hans], hi.below⟩
  | _ => exact hans.elim
end Hx
