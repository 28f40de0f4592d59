/-
  HxRow: from what a row asks to the evaluator, and back: the arguments as values of the evaluator; what is said behind the call.
-/
import Derived.Test.YtifcegbomagcpaaDoorHxV05h
import Derived.Test.YtifcegbomagcpaaDoorHxU05b
import Derived.Test.YtifcegbomagcpaaDoorHxCall
import Derived.ProofKit
import Derived.OpenShut
import Derived.Deep.DeepHandedRow
import Derived.Lib.LaidTab
import Derived.LaidSub
namespace Hx
open Go
set_option linter.unusedSimpArgs false
set_option linter.unusedVariables false
set_option maxHeartbeats 4000000
variable {E : Env}
attribute [-simp] List.getD_eq_getElem?_getD getElem?_pos
def hexC (c : UInt8) : List UInt8 := [hexd (c.toNat / 16), hexd (c.toNat % 16)]
def hexes (s : List UInt8) : List UInt8 := s.flatMap hexC
theorem hexes_snoc (s : List UInt8) (c : UInt8) : hexes (s ++ [c]) = hexes s ++ hexC c := by simp [hexes]
theorem hexes_len (s : List UInt8) : (hexes s).length = 2 * s.length := by
  induction s with
  | nil => rfl
  | cons c s ih =>
    have e : hexes (c :: s) = hexC c ++ hexes s := by simp [hexes]
    have : (hexC c).length = 2 := rfl
    rw [e, List.length_append, ih, List.length_cons]
    omega
structure H05 (E : Env) : Prop where
  q : Q05 E
  rhex : E.fn 61 = some Fn.f_haulageref05_hex

def stepH : List UInt8 → Option UInt8
  | h :: l :: _ => match hexv h, hexv l with
    | some x, some y => some (UInt8.ofNat (16 * x + y))
    | _, _ => none
  | _ => none
theorem stepH_cons (h l : UInt8) (r : List UInt8) : stepH (h :: l :: r) = match hexv h, hexv l with
    | some x, some y => some (UInt8.ofNat (16 * x + y))
    | _, _ => none := rfl
theorem stepH_some {s : List UInt8} {c : UInt8} (h : stepH s = some c) : s.take 2 = hexC c ∧ 2 ≤ s.length := by
  match s with
  | [] => cases h
  | [_] => cases h
  | a :: b :: r =>
    rw [stepH_cons] at h
    cases hx : hexv a with
    | none => rw [hx] at h; cases h
    | some x =>
      cases hy : hexv b with
      | none => rw [hx, hy] at h; cases h
      | some y =>
        rw [hx, hy] at h
        obtain rfl := Option.some.inj h
        obtain ⟨i1, i2⟩ := hexd_hexv a x hx
        obtain ⟨j1, j2⟩ := hexd_hexv b y hy
        subst i2 j2
        have ht : (UInt8.ofNat (16 * x + y)).toNat = 16 * x + y := by rw [UInt8.toNat_ofNat']; omega
        unfold hexC
        rw [ht]
        have e1 : (16 * x + y) / 16 = x := by omega
        have e2 : (16 * x + y) % 16 = y := by omega
        rw [e1, e2]
        exact ⟨rfl, by simp⟩
theorem stepH_hex (c : UInt8) (t : List UInt8) : stepH (hexC c ++ t) = some c := by
  have hc := UInt8.toNat_lt c
  have e : 16 * (c.toNat / 16) + c.toNat % 16 = c.toNat := by omega
  unfold hexC stepH
  simp only [List.cons_append, List.nil_append, hexv_d (show c.toNat / 16 < 16 by omega), hexv_d (show c.toNat % 16 < 16 by omega), e, UInt8.ofNat_toNat]
def unhX : Nat → List UInt8 → Nat → List UInt8 → List UInt8 × Nat × Bool
  | 0, _, _, _ => ([], 0, false)
  | k + 1, acc, n, s => if s = [] then (acc, n, false) else if s.head? = some 34 then (acc, n, true) else match stepH s with
    | none => ([], 0, false)
    | some c => unhX k (acc ++ [c]) (n + 2) (s.drop 2)
theorem unhX_more : ∀ (k j : Nat) (acc : List UInt8) (n : Nat) (s : List UInt8), s.length < k → s.length < j → unhX k acc n s = unhX j acc n s
  | 0, _, _, _, _, h, _ => absurd h (Nat.not_lt_zero _)
  | _, 0, _, _, _, _, h => absurd h (Nat.not_lt_zero _)
  | k + 1, j + 1, acc, n, s, h1, h2 => by
    unfold unhX
    cases hs : stepH s with
    | none => rfl
    | some c =>
      obtain ⟨_, h3⟩ := stepH_some hs
      simp only
      rw [unhX_more k j (acc ++ [c]) (n + 2) (s.drop 2) (by rw [List.length_drop]; omega) (by rw [List.length_drop]; omega)]
def unh (acc : List UInt8) (n : Nat) (s : List UInt8) : List UInt8 × Nat × Bool := unhX (s.length + 1) acc n s
theorem unh_nil {acc : List UInt8} {n : Nat} : unh acc n [] = (acc, n, false) := rfl
theorem unh_quote {acc : List UInt8} {n : Nat} {s : List UInt8} (h : s.head? = some 34) : unh acc n s = (acc, n, true) := by
  unfold unh unhX
  rw [if_neg (by intro e; subst e; cases h), if_pos h]
theorem unh_none {acc : List UInt8} {n : Nat} {s : List UInt8} (h0 : s ≠ []) (h : ¬ s.head? = some 34) (hs : stepH s = none) : unh acc n s = ([], 0, false) := by
  unfold unh unhX
  rw [if_neg h0, if_neg h, hs]
theorem unh_step {acc : List UInt8} {n : Nat} {s : List UInt8} {c : UInt8} (h : ¬ s.head? = some 34) (hs : stepH s = some c) : unh acc n s = unh (acc ++ [c]) (n + 2) (s.drop 2) := by
  obtain ⟨_, h3⟩ := stepH_some hs
  have e : unhX s.length (acc ++ [c]) (n + 2) (s.drop 2) = unh (acc ++ [c]) (n + 2) (s.drop 2) := unhX_more _ _ _ _ _ (by rw [List.length_drop]; omega) (by omega)
  rw [← e]
  unfold unh
  rw [unhX, if_neg (by intro e; subst e; cases hs), if_neg h, hs]
theorem hexd_ne34 : ∀ x : Fin 16, hexd x.val ≠ 34 := by decide +kernel
theorem hexC_head (c : UInt8) (t : List UInt8) : ¬ (hexC c ++ t).head? = some 34 := by
  unfold hexC
  have := hexd_ne34 ⟨c.toNat / 16, by have := UInt8.toNat_lt c; omega⟩
  simpa using this
theorem unh_hexes (t : List UInt8) : ∀ (s acc : List UInt8) (n : Nat), unh acc n (hexes s ++ 34 :: t) = (acc ++ s, n + 2 * s.length, true)
  | [], acc, n => by rw [unh_quote rfl]; simp
  | c :: s, acc, n => by
    have e : hexes (c :: s) = hexC c ++ hexes s := by simp [hexes]
    rw [e, List.append_assoc, unh_step (hexC_head c _) (stepH_hex c _)]
    have : (hexC c ++ (hexes s ++ 34 :: t)).drop 2 = hexes s ++ 34 :: t := List.drop_left (l₁ := hexC c)
    rw [this, unh_hexes t s]
    simp only [List.append_assoc, List.singleton_append, List.length_cons, Prod.mk.injEq, true_and, and_true]
    omega
end Hx

namespace Hx
open Go
set_option linter.unusedSimpArgs false
set_option linter.unusedVariables false
set_option maxHeartbeats 4000000
variable {E : Env}
attribute [-simp] List.getD_eq_getElem?_getD getElem?_pos
end Hx

namespace Hx
open Go
set_option linter.unusedSimpArgs false
set_option linter.unusedVariables false
set_option maxHeartbeats 4000000
variable {E : Env}
attribute [-simp] List.getD_eq_getElem?_getD getElem?_pos
attribute [local simp] intBeq maxIf
def fits32 (n : Int) : Bool := decide (-2147483648 ≤ n ∧ n < 2147483648)
structure F06 (E : Env) : Prop where
  low : E.fn 70 = some Fn.f_word_Low
  fits : E.fn 55 = some Fn.f_word_Fits
  half : E.fn 56 = some Fn.f_haulageref01_Half
  rFits : E.fn 36 = some Fn.f_haulageref01_Fits
theorem low32 (n : Int) (h1 : -9223372036854775808 ≤ n) (h2 : n ≤ 9223372036854775807) : decide ((IntKind.i64.wrap (n * 4294967296)).fdiv 4294967296 = n) = fits32 n := by
  have : IntKind.i64.wrap (n * 4294967296) = (n * 4294967296 + 9223372036854775808) % 18446744073709551616 - 9223372036854775808 := by
    simp only [IntKind.wrap, IntKind.signed, IntKind.bits]
    simp
    split <;> omega
  rw [this, Int.fdiv_eq_ediv_of_nonneg _ (by omega)]
  unfold fits32
  congr 1
  apply propext
  omega
theorem word_Fits (u : F06 E) (k : Nat) (n : Int) (h1 : -9223372036854775808 ≤ n) (h2 : n ≤ 9223372036854775807) (m : Mem) : denF E (k + 2) 55 [.p (.int .i64 n), .p (.int .i64 32)] m = some (.ret (.p (.bool (fits32 n))), m) := by
  have hlow : ∀ m, denF E (k + 1) 70 [.p (.int .i64 n), .p (.int .i64 32)] m = some (.ret (.p (.int .i64 ((IntKind.i64.wrap (n * 4294967296)).fdiv 4294967296))), m) := by
    intro m
    refine denF_wp u.low rfl (args' := [.p (.int .i64 n), .p (.int .i64 32)]) rfl ?_
    have hw : IntKind.i64.wrap 32 = 32 := rfl
    simp [Fn.f_word_Low, hw]
  refine denF_wp u.fits rfl (args' := [.p (.int .i64 n), .p (.int .i64 32)]) rfl ?_
  simp [Fn.f_word_Fits, hlow]
  rw [low32 n h1 h2]
end Hx

namespace Hx
open Go
set_option linter.unusedSimpArgs false
set_option linter.unusedVariables false
set_option maxHeartbeats 4000000
variable {E : Env}
attribute [-simp] List.getD_eq_getElem?_getD getElem?_pos
structure V06 (E : Env) : Prop where
  r : R03 E
  f : F06 E
  vRight : E.fn 33 = some Fn.f_value_Right
def rightV (k n : Int) (s : List UInt8) : Bool :=
  if k = 0 then (n == 0) && s.isEmpty else if k = 1 then fits32 n && s.isEmpty else if k = 2 then s.isEmpty
  else if k = 3 then (n == 0) && decide (s.length ≤ 120) && (signs s).isSome else if k = 4 then (n == 0) && decide (s.length ≤ 120) else false
def isI64 (n : Int) : Prop := -9223372036854775808 ≤ n ∧ n ≤ 9223372036854775807
theorem value_Right (u : V06 E) (a n : Int) (s : List UInt8) (hn : isI64 n) (hs : (s.length : Int) ≤ 1000000000000) (k : Nat) (hk : s.length + 41 ≤ k) (m : Mem) :
    denF E (k + 1) 33 [.p (vP a n s)] m = some (.ret (.p (.bool (rightV a n s))), m) := by
  refine denF_wp u.vRight rfl (args' := [.p (vP a n s)]) rfl ?_
  obtain ⟨j, rfl⟩ : ∃ j, k = j + 2 := ⟨k - 2, by omega⟩
  have hF := fun m => word_Fits u.f j n hn.1 hn.2 m
  have hU := fun m => utf_Right u.r s hs (j + 1) (by omega) m
  have hl : ∃ b : Bool, decide ((s.length : Int) ≤ 120) = b ∧ decide ((120 : Int) < s.length) = !b ∧ decide (s.length ≤ 120) = b := by
    by_cases h : s.length ≤ 120
    · exact ⟨true, by simp; omega, by simp; omega, by simp; omega⟩
    · exact ⟨false, by simp; omega, by simp; omega, by simp; omega⟩
  obtain ⟨b, hb1, hb2, hb3⟩ := hl
  have he : (s == []) = s.isEmpty := by cases s <;> rfl
  obtain ⟨z, hz⟩ : ∃ z, (n == 0) = z := ⟨_, rfl⟩
  obtain ⟨g, hg⟩ : ∃ g, (signs s).isSome = g := ⟨_, rfl⟩
  obtain ⟨f, hf⟩ : ∃ f, fits32 n = f := ⟨_, rfl⟩
  obtain ⟨e, hee⟩ : ∃ e, s.isEmpty = e := ⟨_, rfl⟩
  rw [hee] at he
  rw [hg] at hU
  rw [hf] at hF
  have hzf : z = true → f = true := by
    intro h
    rw [h] at hz
    have := beq_iff_eq.1 hz
    subst this
    rw [← hf]
    rfl
  have hsb : e = true → b = true ∧ g = true := by
    intro h
    have : s = [] := by cases s with
      | nil => rfl
      | cons => rw [← hee] at h; cases h
    subst this
    rw [← hb3, ← hg, signs_nil]
    exact ⟨rfl, rfl⟩
  unfold rightV vP
  by_cases h0 : a = 0
  · subst h0
    cases z <;> cases e <;> cases b <;> first | exact absurd (hsb rfl).1 Bool.false_ne_true | exact absurd (hsb rfl).2 Bool.false_ne_true | exact absurd (hzf rfl) Bool.false_ne_true | simp (maxSteps := 400000) [Fn.f_value_Right, hF, hU, bne, he, hb1, hb2, hb3, hz, hg, hf, hee]
  by_cases h1 : a = 1
  · subst h1
    cases z <;> cases f <;> cases e <;> cases b <;> first | exact absurd (hsb rfl).1 Bool.false_ne_true | exact absurd (hsb rfl).2 Bool.false_ne_true | exact absurd (hzf rfl) Bool.false_ne_true | simp (maxSteps := 400000) [Fn.f_value_Right, hF, hU, bne, he, hb1, hb2, hb3, hz, hg, hf, hee]
  by_cases h2 : a = 2
  · subst h2
    cases z <;> cases e <;> cases b <;> first | exact absurd (hsb rfl).1 Bool.false_ne_true | exact absurd (hsb rfl).2 Bool.false_ne_true | exact absurd (hzf rfl) Bool.false_ne_true | simp (maxSteps := 400000) [Fn.f_value_Right, hF, hU, bne, he, hb1, hb2, hb3, hz, hg, hf, hee]
  by_cases h3 : a = 3
  · subst h3
    cases z <;> cases g <;> cases e <;> cases b <;> first | exact absurd (hsb rfl).1 Bool.false_ne_true | exact absurd (hsb rfl).2 Bool.false_ne_true | exact absurd (hzf rfl) Bool.false_ne_true | simp (maxSteps := 400000) [Fn.f_value_Right, hF, hU, bne, he, hb1, hb2, hb3, hz, hg, hf, hee]
  by_cases h4 : a = 4
  · subst h4
    cases z <;> cases e <;> cases b <;> first | exact absurd (hsb rfl).1 Bool.false_ne_true | exact absurd (hsb rfl).2 Bool.false_ne_true | exact absurd (hzf rfl) Bool.false_ne_true | simp (maxSteps := 400000) [Fn.f_value_Right, hF, hU, bne, he, hb1, hb2, hb3, hz, hg, hf, hee]
  have e0 : (a == 0) = false := by simpa using h0
  have e1 : (a == 1) = false := by simpa using h1
  have e2 : (a == 2) = false := by simpa using h2
  have e3 : (a == 3) = false := by simpa using h3
  have e4 : (a == 4) = false := by simpa using h4
  simp (maxSteps := 1000000) [Fn.f_value_Right, h0, h1, h2, h3, h4, e0, e1, e2, e3, e4]
end Hx

namespace Hx
open Go Go.ChangeShapes Go.WideShapes Go.ChangeAt Go.RowKit

section
variable {H : Type} {enc : TypeId × Value → H} {P : Program}

theorem trodAll_below (hl : laidOutB P = true) {W W' : World} (hb : Below W.heap.size W W') : ∀ {ts : List TypeId} {vs : List Value} {ds : List (DataW H)} {ps : List MemPlace},
    (∀ t ∈ ts, P.readableRec t = true ∧ t < P.types.size) → DataW.TrodAll enc P W 0 (fun _ => true) true ts vs ds ps → (∀ x ∈ ps, x.block < W.heap.size) →
    ∀ sp : Nat → Bool, (∀ p ∈ ps, sp p.block = true) → DataW.TrodAll enc P W' 0 sp true ts vs ds ps
  | [], _, _, _, _, h, _, _, _ => by
    obtain ⟨rfl, rfl, rfl⟩ := trodAll_nil h
    exact trodAll_mk0
  | t :: ts, vs, ds, ps, ht, h, hlt, sp, hsp => by
    obtain ⟨v, vs', d, ds', p, q, rfl, rfl, rfl, h1, h2⟩ := trodAll_cons h
    have hp := fun x (hx : x ∈ p) => hlt x (List.mem_append_left _ hx)
    refine trodAll_cons_mk (WideElems.Trod_stays hl (ht t (by simp)).1 (ht t (by simp)).2 h1 (fun x hx => hb.same (hp x hx)) fun x hx => hsp x (List.mem_append_left _ hx)) ?_
    exact trodAll_below hl hb (fun t' h' => ht t' (List.mem_cons_of_mem _ h')) h2 (fun x hx => hlt x (List.mem_append_right _ hx)) sp fun x hx => hsp x (List.mem_append_right _ hx)

theorem post_true {f : Func} {s : ChangeSpec} {apart fresh handsOn again : Bool} {W W' : World} {args : Array Value} {ds gs : List (DataW H)} {before : List MemPlace} {tb : TypeId}
    (hW : DataW.Whole enc P f.params.toList s.vars apart W args.toList ds gs before) (hv : s.vars = []) (hs : s.fn H (ds ++ gs) = { results := [.lit (.bool true)], args := ds })
    (hr : f.resultTypes = #[tb]) (ht : P.underlying tb = some .bool) (hl : laidOutB P = true) (hts : ∀ t ∈ f.params.toList, P.readableRec t = true ∧ t < P.types.size) (hb : Below W.heap.size W W') :
    s.post enc P f apart fresh handsOn again W args (.bool true) W' := by
  have hlt := hW.lt
  have hW0 := hW
  obtain ⟨p, q, hA, hV, hpq, hz, hn⟩ := hW
  rw [hv] at hV
  obtain ⟨rfl, rfl⟩ := trodVars_none hV
  rw [List.append_nil] at hpq
  subst hpq
  have hargs : ∀ sp : Nat → Bool, (∀ x ∈ before, sp x.block = true) → DataW.TrodAll enc P W' 0 sp true f.params.toList args.toList (s.fn H (ds ++ [])).args before := by
    intro sp hsp
    rw [hs]
    exact trodAll_below hl hb hts hA hlt sp hsp
  have hvars : ∀ sp : Nat → Bool, DataW.TrodVars enc P W' sp s.vars (s.fn H (ds ++ [])).vars [] := by
    intro sp
    rw [hs, hv]
    rfl
  have hres : ∀ (b : Nat) (sp : Nat → Bool) (hd : Bool), DataW.TrodAll enc P W' b sp hd f.resultTypes.toList ((Value.bool true).resultList f.resultTypes.size) (s.fn H (ds ++ [])).results [] := by
    intro b sp hd
    rw [hs, hr]
    exact trodAll_mk1 (shut_bool ht true)
  have hold : ∀ x ∈ before, (fun b => decide (b < W.heap.size)) x.block = true := fun x hx => by simpa using hlt x hx
  refine ⟨ds, [], before, [], before, [], hW0, hres _ _ _, hargs _ hold, hvars _, World.keptBut_mono (fun x hx => ?_) (hb.frame fun x => x ∈ before), fun _ => ⟨ok_one hr rfl (okWide_bool_mk ht true), ?_⟩⟩
  · exact ⟨hx, .inr (.inl hx)⟩
  · refine ⟨_, _, ([] ++ before) ++ [], ⟨[] ++ before, [], trodAll_append (hargs _ fun _ _ => rfl) (hres _ _ _), hvars _, rfl, ?_, ?_⟩, ?_⟩
    · intro b off hx
      have hx' : MemPlace.cell b off ∈ before := by simpa using hx
      rw [hb.frozen (hlt _ hx')]
      exact hz b off (by simpa using hx')
    · intro ha
      simpa using hn ha
    · intro x hx _
      simpa using hx
end


def cx0 (W : World) : Cx := { w := W, K := fun _ => none, N := 0, ρ := fun _ => (0, 0), tok := fun _ => none }
theorem cx0_safe {W : World} {b o : Nat} : (cx0 W).safe b o ↔ b < W.heap.size := by
  simp [Cx.safe, cx0]
theorem inv0 {F : Fix} {E : Env} {W : World} (hg : ∀ g, RPcells F (cx0 W) (F.gnum g) 0 (E.gl g)) : Inv F E ⟨W, fun _ => none⟩ (cx0 W) [] :=
  ⟨Below.refl _ _, rfl, (by intro b k h; cases h), fun _ _ => rfl, (by intro i b h; simp [ownB] at h), (by intro i x h; simp at h), (by intro i j b h; simp [ownB] at h), hg⟩

theorem gl_tab {F : Fix} {W : World} {name : String} {k : IntKind} {g : Nat} (hg : F.P.globalNamed name = some g) : ∀ {zs : List Int} {n : Nat}, (∀ i, i < zs.length → W.cell? ⟨g, n + i, none⟩ = some (.int k (zs.getD i 0))) → RPcells F (cx0 W) g n (zs.map (.int k))
  | [], n, _ => by simp [RPcells]
  | z :: zs, n, h => by
    simp only [List.map_cons, RPcells]
    have h0 := h 0 (by simp)
    simp only [Nat.add_zero, List.getD_cons_zero] at h0
    refine ⟨⟨cx0_safe.2 ?_, rfl, _, h0, by simp [RP]⟩, gl_tab hg fun i hi => ?_⟩
    · simp only [World.cell?] at h0
      cases hh : W.heap[g]? with
      | none => rw [hh] at h0; cases h0
      | some o => exact (Array.getElem?_eq_some_iff.1 hh).1
    · have := h (i + 1) (by simpa using hi)
      rw [show n + 1 + i = n + (i + 1) by omega]
      simpa using this

section
variable {H : Type} {enc : TypeId × Value → H} {F : Fix} {W : World}
end


def envOf (L : List (Nat × XFunc)) (gl : Nat → List PV) : Env := { fn := fun g => (L.find? fun p => p.1 == g).map (·.2), gl := gl }
theorem link_of {F : Fix} {L : List (Nat × XFunc)} {gl : Nat → List PV} (h : ∀ p ∈ L, okFunc F p.1 p.2 = true) : Link F (envOf L gl) := by
  refine ⟨fun g xf hg => ?_⟩
  simp only [envOf, Option.map_eq_some_iff] at hg
  obtain ⟨p, hp, rfl⟩ := hg
  have h1 := List.find?_some hp
  have h2 := List.mem_of_find?_eq_some hp
  have := h p h2
  rw [beq_iff_eq.1 h1] at this
  exact this

theorem calls_true {F : Fix} {E : Env} (hl : Link F E) {n g : Nat} {args : List AV} {m : Mem} {W : World} {argsV : List Value} (hg : ∀ g, RPcells F (cx0 W) (F.gnum g) 0 (E.gl g)) (ha : Rs F (cx0 W) args argsV)
    (hd : denF E n g args [] = some (.ret (.p (.bool true)), m)) : Calls F.P (F.num g) argsV.toArray W fun e W' => e = .returned (.bool true) ∧ Below W.heap.size W W' := by
  obtain ⟨_, _, h⟩ := denF_sound hl n ⟨W, fun _ => none⟩ g args [] _ m hd
  refine (h (cx0 W) argsV (inv0 hg) ha).mono ?_
  rintro e W' ⟨c', rfl, he, hi, hans⟩
  cases e with
  | returned v => simp only [R, RP] at hans; exact ⟨by rw [hans], hi.below⟩
  | _ => exact hans.elim
end Hx
