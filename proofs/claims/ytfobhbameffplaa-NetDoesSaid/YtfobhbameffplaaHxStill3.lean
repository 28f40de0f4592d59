/-
  HxStill3: one theorem for all still operations.
-/
import Derived.Test.YtfobhbameffplaaHxStill2
import Derived.WideLaws
import Derived.Laws.Externs
import Derived.Lib.UnsafeStr
import Derived.Lib.Builder
import Derived.LaidEqlPtr
namespace Hx
open Go
set_option linter.unusedSimpArgs false
section
variable {F : Fix} {c : Cx}

theorem find_idx {fn : Func} (hn : fn.name = "internal/bytealg.IndexByteString") : Extern.find fn = some Extern.BytealgIndexByte.indexByte := by
  have h1 : Extern.allGenericRows.lookup "internal/bytealg.IndexByteString" = none := by kernel_rfl
  have h2 : Extern.allTypedRows.lookup "internal/bytealg.IndexByteString" = none := by kernel_rfl
  have h3 : Extern.allRows.lookup "internal/bytealg.IndexByteString" = some Extern.BytealgIndexByte.indexByte := by kernel_rfl
  unfold Extern.find
  simp [hn, h1, h2, h3]
theorem find_noEsc {fn : Func} (hn : fn.name = "internal/abi.NoEscape") : Extern.find fn = some Extern.AbiNoEscape.same := by
  have h1 : Extern.allGenericRows.lookup "internal/abi.NoEscape" = none := by kernel_rfl
  have h2 : Extern.allTypedRows.lookup "internal/abi.NoEscape" = none := by kernel_rfl
  have h3 : Extern.allRows.lookup "internal/abi.NoEscape" = some Extern.AbiNoEscape.same := by kernel_rfl
  unfold Extern.find
  simp [hn, h1, h2, h3]
theorem run_ptr_nil_eql {P : Program} {w : World} {tp te : TypeId} (hp : P.underlying tp = some (.pointer te)) (p : Option Addr) :
    (binOp .eql tp (.pointer p) (.pointer none)).run P w = .ok (.bool p.isNone) w := by
  have h : ∀ d : Nat, (Op.equalIn (d + 1) tp (.pointer p) (.pointer none)).run P w = .ok p.isNone w := fun d => by
    cases p <;> simp [Op.equalIn, run_underlying hp]
  simp only [binOp]
  simp [Op.equal, Op.maxDepth, h 9999]
theorem run_ptr_nil_neq {P : Program} {w : World} {tp te : TypeId} (hp : P.underlying tp = some (.pointer te)) (p : Option Addr) :
    (binOp .neq tp (.pointer p) (.pointer none)).run P w = .ok (.bool (!p.isNone)) w := by
  have h : ∀ d : Nat, (Op.equalIn (d + 1) tp (.pointer p) (.pointer none)).run P w = .ok p.isNone w := fun d => by
    cases p <;> simp [Op.equalIn, run_underlying hp]
  simp only [binOp]
  simp [Op.equal, Op.maxDepth, h 9999]
theorem run_sl_nil_eql {P : Program} {w : World} {tp te : TypeId} (hp : P.underlying tp = some (.slice te)) (a : Option Addr) (l cp : Nat) :
    (binOp .eql tp (.slice a l cp) (.slice none 0 0)).run P w = .ok (.bool a.isNone) w := by
  have h : ∀ d : Nat, (Op.equalIn (d + 1) tp (.slice a l cp) (.slice none 0 0)).run P w = .ok a.isNone w := fun d => by
    cases a <;> simp [Op.equalIn, run_underlying hp]
  simp only [binOp]
  simp [Op.equal, Op.maxDepth, h 9999]
theorem run_sl_nil_neq {P : Program} {w : World} {tp te : TypeId} (hp : P.underlying tp = some (.slice te)) (a : Option Addr) (l cp : Nat) :
    (binOp .neq tp (.slice a l cp) (.slice none 0 0)).run P w = .ok (.bool (!a.isNone)) w := by
  have h : ∀ d : Nat, (Op.equalIn (d + 1) tp (.slice a l cp) (.slice none 0 0)).run P w = .ok a.isNone w := fun d => by
    cases a <;> simp [Op.equalIn, run_underlying hp]
  simp only [binOp]
  simp [Op.equal, Op.maxDepth, h 9999]
theorem firstIdx_eq (s : List UInt8) (c : UInt8) : firstIdx ⟨s.toArray⟩ c = idxByte s c := by
  have h : ∀ (p : UInt8 → Bool) (s : List UInt8) (k : Nat) (g : Nat → Bool), (∀ i, i < s.length → g (k + i) = p (s.getD i 0)) → (List.range' k s.length).find? g = (s.findIdx? p).map (fun i => k + i) := by
    intro p s
    induction s with
    | nil => intro k g _; rfl
    | cons a s ih =>
      intro k g hg
      have h0 := hg 0 (by simp)
      simp only [Nat.add_zero, List.getD_cons_zero] at h0
      rw [List.length_cons, List.range'_succ, List.find?_cons, h0, List.findIdx?_cons]
      cases hp : p a
      · simp only [Bool.false_eq_true, if_false, cond_false]
        rw [ih (k + 1) g (by intro i hi; have := hg (i + 1) (by simp; omega); simpa [Nat.add_assoc, Nat.add_comm 1 i] using this)]
        cases s.findIdx? p <;> simp [Nat.add_assoc, Nat.add_comm 1]
      · simp
  unfold firstIdx idxByte
  have h2 := h (· == c) s 0 (fun i => (ByteArray.mk s.toArray)[i]! == c) (by
    intro i hi
    have hs : i < (ByteArray.mk s.toArray).size := by simpa [ByteArray.size] using hi
    simp only [Nat.zero_add]
    congr 1
    rw [getElem!_pos (ByteArray.mk s.toArray) i hs]
    simp [List.getD, hi]
    rfl)
  have h3 : (List.range (ByteArray.mk s.toArray).size) = List.range' 0 s.length := by simp [ByteArray.size, List.range_eq_range']
  rw [h3]
  simp only [h2, Nat.zero_add, Option.map_id']
  cases s.findIdx? (fun x => x == c) <;> simp
def isNilI : Value → Bool
  | .nilIface => true
  | _ => false
theorem run_eqNil (neg : Bool) (x' : Operand) {t : TypeId} {ms : Array (String × TypeId)} (hu : F.P.underlying t = some (.interface ms)) (v : Value) (hv : (∃ t' y, v = Value.iface t' y) ∨ v = .nilIface) :
    (do eqGuard (bif neg then .neq else .eql) t x' (.const .nilIface) v .nilIface; binOp (bif neg then .neq else .eql) t v .nilIface : Sem Value).run F.P c.w =
        .ok (.bool (bif neg then !isNilI v else isNilI v)) c.w := by
  have hm : F.P.underlying t = some (.interface (F.P.methodsAt t)) := by simp [Program.methodsAt, hu]
  rcases hv with ⟨t', y, rfl⟩ | rfl
  · cases neg
    · simp [eqGuard, run_eql_held_nil _ _ _ _ hm, isNilI]
    · simp [eqGuard, run_neq_held_nil _ _ _ _ hm, isNilI]
  · cases neg
    · simp [eqGuard, run_eql_nil_nil _ _ hm, isNilI]
    · simp [eqGuard, run_neq_nil_nil _ _ hm, isNilI]

set_option maxHeartbeats 4000000 in
theorem still_sound {ev : X → AV} {ρ : Operand → Value} (hev : Evs F c ev ρ) (hρ : ∀ v, ρ (.const v) = v) (o : XOp) (go : Oper) (hok : okOp F o go.op = true) {r : AV} (h : denStill ev o = some r) : Still F c ρ go r := by
  rcases go with ⟨dst, op, type, pos, after, guard⟩
  dsimp only at hok
  unfold Still execOp
  dsimp only
  cases o with
  | mov x =>
    simp only [denStill] at h
    obtain rfl := Option.some.inj h
    cases op <;> try (simp [okOp] at hok; done)
    all_goals try dsimp only
    all_goals
      simp only [okOp] at hok
      exact ⟨_, by simp, hev _ _ hok⟩
  | pick cc a b =>
    cases op <;> try (simp [okOp] at hok; done)
    all_goals try dsimp only
    simp only [okOp, Bool.and_eq_true] at hok
    obtain ⟨⟨h1, h2⟩, h3⟩ := hok
    simp only [denStill] at h
    split at h <;> try (cases h; done)
    rename_i t ht
    obtain rfl := Option.some.inj h
    have hc := hev _ _ h1
    rw [ht] at hc
    have hc := R_bool hc
    cases t
    · exact ⟨_, by simp [hc, asBool], hev _ _ h3⟩
    · exact ⟨_, by simp [hc, asBool], hev _ _ h2⟩
  | bin op' x y =>
    cases op <;> try (simp [okOp] at hok; done)
    all_goals try dsimp only
    simp only [okOp, Bool.and_eq_true, decide_eq_true_eq] at hok
    obtain ⟨⟨rfl, h2⟩, h3⟩ := hok
    simp only [denStill] at h
    rename_i t x' y' _
    obtain ⟨v, h4, h5⟩ := run_binV h (hev _ _ h2) (hev _ _ h3) t x' y' F.P c.w
    refine ⟨v, ?_, h5⟩
    rw [Sem.run_bind, h4]; simp
  | eqB neg x y =>
    cases op <;> try (simp [okOp] at hok; done)
    all_goals try dsimp only
    simp only [okOp, Bool.and_eq_true, decide_eq_true_eq] at hok
    obtain ⟨⟨⟨h0, h1⟩, h2⟩, h3⟩ := hok
    simp only [denStill] at h
    split at h <;> try (cases h; done)
    rename_i a b ha hb
    obtain rfl := Option.some.inj h
    split at h1 <;> try (cases h1; done)
    rename_i hu
    have ha' := hev _ _ h2; have hb' := hev _ _ h3
    rw [ha] at ha'; rw [hb] at hb'
    rw [R_bool ha', R_bool hb']
    subst h0
    cases neg
    · refine ⟨.bool (a == b), ?_, by simp [R, RP]⟩
      simp [run_eql_bool _ _ _ _ hu, eqGuard]
    · refine ⟨.bool (!(a == b)), ?_, by simp [R, RP]⟩
      simp [run_neq_bool _ _ _ _ hu, eqGuard]
  | eqA neg e x y =>
    cases op <;> try (simp [okOp] at hok; done)
    all_goals try dsimp only
    simp only [okOp, Bool.and_eq_true, decide_eq_true_eq, beq_iff_eq] at hok
    obtain ⟨⟨⟨⟨⟨h0, h1⟩, hd⟩, he⟩, h2⟩, h3⟩ := hok
    simp only [denStill] at h
    split at h <;> try (cases h; done)
    rename_i a b ha hb
    split at h <;> try (cases h; done)
    rename_i r' hr
    obtain rfl := Option.some.inj h
    have ha' := hev _ _ h2; have hb' := hev _ _ h3
    rw [ha] at ha'; rw [hb] at hb'
    simp only [R] at ha' hb'
    have hq := fun t' (ht' : okEq F.P e t' = true) => eqTree_sound (c := c) e 9999 t' _ _ _ _ r' (by omega) ht' hr ha' hb' c.w
    have hq := hq _ he
    simp only [RP] at ha' hb'
    obtain ⟨us, hu, _⟩ := ha'
    obtain ⟨zs, hz, _⟩ := hb'
    rw [hu, hz] at hq ⊢
    subst h0
    cases neg
    · refine ⟨.bool r', ?_, by simp [R, RP]⟩
      simp only [Bool.cond_false, Sem.run_bind, run_eqGuard_agg _ _ _ _ _ _ _ h1, Result.andThen_ok, run_eql_struct, hq, Sem.run_pure]
    · refine ⟨.bool (!r'), ?_, by simp [R, RP]⟩
      simp only [Bool.cond_true, Sem.run_bind, run_eqGuard_agg _ _ _ _ _ _ _ h1, Result.andThen_ok, run_neq_struct, hq, Sem.run_pure]
  | eqNil neg x =>
    cases op <;> try (simp [okOp] at hok; done)
    all_goals try dsimp only
    rename_i op' t x' y' yt
    cases y' <;> try (simp [okOp] at hok; done)
    rename_i vv
    cases vv <;> try (simp [okOp] at hok; done)
    simp only [okOp, Bool.and_eq_true, decide_eq_true_eq] at hok
    obtain ⟨⟨h0, h1⟩, h2⟩ := hok
    split at h1 <;> try (cases h1; done)
    rename_i ms hu
    have hx := hev _ _ h2
    subst h0
    have hnil := run_eqNil (F := F) (c := c) neg x' hu
    simp only [denStill] at h
    split at h <;> try (cases h; done)
    · rename_i hv
      obtain rfl := Option.some.inj h
      rw [hv] at hx
      simp only [R, RP] at hx
      have hq := hnil (ρ x') (.inr hx)
      refine ⟨_, by simp only [Sem.run_bind, hρ] at hq ⊢; rw [hq]; rfl, ?_⟩
      rw [hx]; cases neg <;> simp [R, RP, isNilI]
    · rename_i hv
      obtain rfl := Option.some.inj h
      rw [hv] at hx
      simp only [R, RP] at hx
      obtain ⟨y, hy, _⟩ := hx
      have hq := hnil (ρ x') (.inl ⟨_, _, hy⟩)
      refine ⟨_, by simp only [Sem.run_bind, hρ] at hq ⊢; rw [hq]; rfl, ?_⟩
      rw [hy]; cases neg <;> simp [R, RP, isNilI]
    · rename_i hv
      obtain rfl := Option.some.inj h
      rw [hv] at hx
      simp only [R] at hx
      obtain ⟨y, hy, _⟩ := hx
      have hq := hnil (ρ x') (.inl ⟨_, _, hy⟩)
      refine ⟨_, by simp only [Sem.run_bind, hρ] at hq ⊢; rw [hq]; rfl, ?_⟩
      rw [hy]; cases neg <;> simp [R, RP, isNilI]
  | un op' x =>
    cases op <;> try (simp [okOp] at hok; done)
    all_goals try dsimp only
    simp only [okOp, Bool.and_eq_true, decide_eq_true_eq] at hok
    obtain ⟨rfl, h2⟩ := hok
    simp only [denStill] at h
    obtain ⟨v, h4, h5⟩ := run_unV h (hev _ _ h2) F.P c.w
    exact ⟨v, by simp [h4], h5⟩
  | toInt k x =>
    cases op <;> try (simp [okOp] at hok; done)
    all_goals try dsimp only
    simp only [okOp, Bool.and_eq_true] at hok
    obtain ⟨⟨h1, h2⟩, h3⟩ := hok
    simp only [denStill] at h
    split at h <;> try (cases h; done)
    rename_i n hn
    obtain rfl := Option.some.inj h
    obtain ⟨k', hk⟩ := R_asInt (hev _ _ h3) hn
    obtain ⟨ds, hds⟩ := Option.isSome_iff_exists.mp h2
    unfold isIntK at h1
    split at h1 <;> try (cases h1; done)
    rename_i k'' hd
    simp only [decide_eq_true_eq] at h1; subst h1
    refine ⟨.int k (k.wrap n), ?_, by simp [R, RP]⟩
    simp only [Sem.run_bind, convert, run_underlying hds, run_underlying hd, Result.andThen_ok, hk, Conv.intToInt, Sem.run_pure]
  | strId x =>
    cases op <;> try (simp [okOp] at hok; done)
    all_goals try dsimp only
    simp only [okOp, Bool.and_eq_true] at hok
    obtain ⟨⟨h1, h2⟩, h3⟩ := hok
    simp only [denStill] at h
    split at h <;> try (cases h; done)
    rename_i s hs
    obtain rfl := Option.some.inj h
    have hx := hev _ _ h3
    rw [hs] at hx
    obtain ⟨ds, hds⟩ := Option.isSome_iff_exists.mp h2
    unfold isStr at h1
    split at h1 <;> try (cases h1; done)
    rename_i hd
    refine ⟨_, ?_, hx⟩
    rw [R_str hx]
    simp [convert, run_underlying hds, run_underlying hd]
  | toStr x =>
    cases op <;> try (simp [okOp] at hok; done)
    all_goals try dsimp only
    simp only [okOp, Bool.and_eq_true] at hok
    obtain ⟨⟨h1, h2⟩, h3⟩ := hok
    simp only [denStill] at h
    split at h <;> try (cases h; done)
    rename_i hns
    split at h <;> try (cases h; done)
    rename_i rows hrows
    split at h <;> try (cases h; done)
    rename_i s hs
    obtain rfl := Option.some.inj h
    split at h2 <;> try (cases h2; done)
    rename_i e hsl
    unfold isIntK at h2
    split at h2 <;> try (cases h2; done)
    rename_i k'' he
    simp only [decide_eq_true_eq] at h2; subst h2
    unfold isStr at h1
    split at h1 <;> try (cases h1; done)
    rename_i hd
    rcases rowsOf_still hrows (hev _ _ h3) with ⟨base, cap, hv, hr⟩ | ⟨s', hx, _⟩
    · refine ⟨.string ⟨s.toArray⟩, ?_, by simp [R, RP]⟩
      rw [hv]
      simp only [Sem.run_bind, run_convert_bytes_string c.w _ _ e base _ cap hsl he hd, run_toStr hs hr, Result.andThen_ok, Sem.run_pure]
    · exact absurd hx (hns s')
  | load n agg x =>
    cases op <;> try (simp [okOp] at hok; done)
    all_goals try dsimp only
    simp only [okOp, Bool.and_eq_true, decide_eq_true_eq] at hok
    obtain ⟨⟨h1, h2⟩, h3⟩ := hok
    simp only [denStill] at h
    split at h <;> try (cases h; done)
    rename_i cs hcs
    have hx := hev _ _ h3
    rw [hcs] at hx
    simp only [R] at hx
    obtain ⟨a, hv, ha, hc⟩ := hx
    split at h <;> try (cases h; done)
    rename_i hcond
    rw [hv]
    obtain ⟨ys, k1, k2⟩ := cells_vals hc
    unfold partP at h
    cases agg with
    | true =>
      simp only [if_true] at h
      obtain rfl := Option.some.inj h
      simp only [true_and, Bool.true_eq_false, or_false] at hcond
      refine ⟨.agg (ys.take n).toArray, ?_, ?_⟩
      · have hl : n = (ys.take n).length := by have := RPs_length k1; simp; omega
        have hld : (loadCells a n).run F.P c.w = .ok (ys.take n).toArray c.w := by
          conv => lhs; rw [hl]
          apply run_loadCells_list
          intro j v hj
          rw [addr_add ha]
          rw [List.getElem?_take] at hj
          split at hj
          · exact k2 j v hj
          · cases hj
        simp only [Instr.loadAt, Instr.sureAddr, loadVar, Sem.run_bind, Sem.run_pure, Result.andThen_ok, run_agg h1, if_true, run_size h2, hld]
      · simp only [R, RP, List.drop_zero]
        exact ⟨_, rfl, RPs_take n k1⟩
    | false =>
      simp only [Bool.false_eq_true, if_false] at h
      split at h <;> try (cases h; done)
      rename_i x0 hx0
      obtain rfl := Option.some.inj h
      obtain ⟨y, h4, h5⟩ := RPs_get k1 hx0
      have h6 := k2 0 y h4
      refine ⟨y, ?_, by simpa only [R] using h5⟩
      have : a = ⟨a.block, a.off + 0, none⟩ := by cases a; simp_all
      rw [← this] at h6
      simp only [Instr.loadAt, Instr.sureAddr, loadVar, Sem.run_bind, Sem.run_pure, Result.andThen_ok, run_agg h1, Bool.false_eq_true, if_false, run_load, h6]
  | build zero parts =>
    cases op <;> try (simp [okOp] at hok; done)
    all_goals try dsimp only
    rename_i t parts'
    simp only [okOp, Bool.and_eq_true] at hok
    obtain ⟨h1, h2⟩ := hok
    simp only [denStill] at h
    split at h <;> try (cases h; done)
    rename_i cs hcs
    obtain rfl := Option.some.inj h
    unfold okZero zeroO at h1
    cases hi : F.P.info? t with
    | none => simp [hi] at h1
    | some i =>
      simp only [hi, Option.bind_some] at h1
      cases hz : i.zero with
      | none => simp [hz] at h1
      | some z =>
        simp only [hz] at h1
        have hz0 := okVs_sound (F := F) (c := c) _ _ h1
        have hz1 := Rs_p hz0
        split at h2 <;> try (cases h2; done)
        rename_i place hpl
        obtain ⟨arr', k1, k2, _⟩ := fill_sound hev parts parts'.toList _ cs z.cells h2 hcs hz1
        refine ⟨.agg arr', ?_, by simpa using R_mkAgg k2⟩
        have hb : F.P.built t (Array.map (fun x => (x.fst, ρ x.snd)) parts').toList = some arr' := by
          rw [Array.toList_map]
          unfold placeOf at hpl
          unfold Program.built
          rw [hi]
          split at hpl <;> try (cases hpl; done)
          · rename_i n e hu
            rw [hu]
            cases hie : F.P.info? e with
            | none => simp [hie] at hpl
            | some ie =>
              simp only [hie, Option.map_some] at hpl
              obtain rfl := Option.some.inj hpl
              simp only [hz, hie]
              exact k1
          · rename_i fields hu
            rw [hu]
            cases hm : fields.toList.mapM (fun f => (F.P.info? f.type).map fun i => (f.offset, i.size)) with
            | none => simp [hm] at hpl
            | some places =>
              simp only [hm, Option.map_some] at hpl
              obtain rfl := Option.some.inj hpl
              simp only [hz, hm]
              exact k1
        simp only [Sem.run_bind, run_build c.w t _ arr' hb, Result.andThen_ok, Sem.run_pure]
  | field off n agg x =>
    cases op <;> try (simp [okOp] at hok; done)
    all_goals try dsimp only
    rename_i t x' f
    simp only [okOp, Bool.and_eq_true] at hok
    obtain ⟨h1, h2⟩ := hok
    split at h1 <;> try (cases h1; done)
    rename_i fs hu
    split at h1 <;> try (cases h1; done)
    rename_i fd hfd
    simp only [Bool.and_eq_true, decide_eq_true_eq] at h1
    obtain ⟨⟨rfl, h3⟩, h4⟩ := h1
    have hx := hev _ _ h2
    simp only [denStill] at h
    split at h <;> try (cases h; done)
    · rename_i cs hcs
      rw [hcs] at hx
      simp only [R, RP] at hx
      obtain ⟨ys, hv, hys⟩ := hx
      obtain ⟨v, k1, k2⟩ := run_partP h h4 h3 hys c.w
      refine ⟨v, ?_, k2⟩
      rw [hv]
      simp only [Instr.field, Sem.run_bind, run_underlying hu, Result.andThen_ok, hfd, asAgg, Sem.run_pure, k1]
    · rename_i cs hcs
      rw [hcs] at hx
      simp only [R] at hx
      obtain ⟨ys, hv, hys⟩ := hx
      obtain ⟨v, k1, k2⟩ := run_partV h h4 h3 hys c.w
      refine ⟨v, ?_, k2⟩
      rw [hv]
      simp only [Instr.field, Sem.run_bind, run_underlying hu, Result.andThen_ok, hfd, asAgg, Sem.run_pure, k1]
  | fieldAddr off x =>
    cases op <;> try (simp [okOp] at hok; done)
    all_goals try dsimp only
    rename_i t x' f
    simp only [okOp, Bool.and_eq_true] at hok
    obtain ⟨h1, h2⟩ := hok
    split at h1 <;> try (cases h1; done)
    rename_i fs hu
    split at h1 <;> try (cases h1; done)
    rename_i fd hfd
    simp only [Bool.and_eq_true, decide_eq_true_eq] at h1
    obtain ⟨rfl, h3⟩ := h1
    split at h3 <;> try (cases h3; done)
    rename_i n hn
    simp only [decide_eq_true_eq] at h3
    have hx := hev _ _ h2
    simp only [denStill] at h
    split at h <;> try (cases h; done)
    · rename_i t0 id o hcs
      obtain rfl := Option.some.inj h
      rw [hcs] at hx
      simp only [R] at hx
      obtain ⟨⟨hid, hv⟩, _⟩ := hx
      refine ⟨.pointer (some ⟨(c.ρ id).1, (c.ρ id).2 + o + fd.offset, none⟩), ?_, ?_⟩
      · rw [hv]
        simp only [Instr.fieldAt, Sem.run_bind, run_underlying hu, Result.andThen_ok, hfd, Instr.sureAddr, Sem.run_pure, fieldPlace, run_size hn, if_neg h3]
        rw [addr_add rfl]
      · simp only [R]
        exact ⟨hid, by rw [Nat.add_assoc]⟩
    · rename_i cs hcs
      obtain rfl := Option.some.inj h
      rw [hcs] at hx
      simp only [R] at hx
      obtain ⟨a, hv, ha, hc⟩ := hx
      refine ⟨.pointer (some (a.add fd.offset)), ?_, ?_⟩
      · rw [hv]
        simp only [Instr.fieldAt, Sem.run_bind, run_underlying hu, Result.andThen_ok, hfd, Instr.sureAddr, Sem.run_pure, fieldPlace, run_size hn, if_neg h3]
      · simp only [R]
        refine ⟨_, rfl, by rw [addr_add ha], ?_⟩
        rw [addr_add ha]
        exact RPcells_drop _ hc
    · rename_i id o hcs
      obtain rfl := Option.some.inj h
      rw [hcs] at hx
      simp only [R] at hx
      obtain ⟨hid, hv⟩ := hx
      refine ⟨.pointer (some ⟨(c.ρ id).1, (c.ρ id).2 + o + fd.offset, none⟩), ?_, ?_⟩
      · rw [hv]
        simp only [Instr.fieldAt, Sem.run_bind, run_underlying hu, Result.andThen_ok, hfd, Instr.sureAddr, Sem.run_pure, fieldPlace, run_size hn, if_neg h3]
        rw [addr_add rfl]
      · simp only [R]
        exact ⟨hid, by rw [Nat.add_assoc]⟩
  | indexStr x i =>
    cases op <;> try (simp [okOp] at hok; done)
    all_goals try dsimp only
    simp only [okOp, Bool.and_eq_true] at hok
    obtain ⟨⟨h1, h2⟩, h3⟩ := hok
    simp only [denStill] at h
    split at h <;> try (cases h; done)
    rename_i s j hs hj
    split at h <;> try (cases h; done)
    rename_i b hb
    obtain rfl := Option.some.inj h
    have hx := hev _ _ h2
    rw [hs] at hx
    obtain ⟨k, hk⟩ := R_asNat (hev _ _ h3) hj
    unfold isStr at h1
    split at h1 <;> try (cases h1; done)
    rename_i hd
    refine ⟨.int .u8 b.toNat, ?_, by simp [R, RP]⟩
    rw [R_str hx, hk]
    have hget : (ByteArray.mk s.toArray)[j]? = some b := by
      rw [List.getElem?_eq_some_iff] at hb
      obtain ⟨hj1, hj2⟩ := hb
      rw [getElem?_pos _ _ (by simpa [ByteArray.size] using hj1)]
      simp only [ByteArray.getElem_eq_getElem_data, List.getElem_toArray, hj2]
    simp only [Instr.index, asIntOf, Sem.run_bind, Sem.run_pure, Result.andThen_ok, run_underlying hd]
    simp [hget]
  | indexArr len n agg x i =>
    cases op <;> try (simp [okOp] at hok; done)
    all_goals try dsimp only
    simp only [okOp, Bool.and_eq_true] at hok
    obtain ⟨⟨h1, h2⟩, h3⟩ := hok
    split at h1 <;> try (cases h1; done)
    rename_i len' e hu
    simp only [Bool.and_eq_true, decide_eq_true_eq] at h1
    obtain ⟨⟨rfl, h4⟩, h5⟩ := h1
    simp only [denStill] at h
    split at h <;> try (cases h; done)
    rename_i j hj
    split at h <;> try (cases h; done)
    rename_i hlt
    obtain ⟨k, hk⟩ := R_asNat (hev _ _ h3) hj
    have hx := hev _ _ h2
    split at h <;> try (cases h; done)
    · rename_i cs hcs
      rw [hcs] at hx
      simp only [R, RP] at hx
      obtain ⟨ys, hv, hys⟩ := hx
      obtain ⟨v, k1, k2⟩ := run_partP h h5 h4 hys c.w
      refine ⟨v, ?_, k2⟩
      rw [hv, hk]
      simp only [Instr.index, asIntOf, Sem.run_bind, Sem.run_pure, Result.andThen_ok, run_underlying hu]
      rw [if_pos (by omega)]
      simp only [Sem.run_bind, run_size h4, Result.andThen_ok, Int.toNat_natCast, k1, Sem.run_pure]
    · rename_i cs hcs
      rw [hcs] at hx
      simp only [R] at hx
      obtain ⟨ys, hv, hys⟩ := hx
      obtain ⟨v, k1, k2⟩ := run_partV h h5 h4 hys c.w
      refine ⟨v, ?_, k2⟩
      rw [hv, hk]
      simp only [Instr.index, asIntOf, Sem.run_bind, Sem.run_pure, Result.andThen_ok, run_underlying hu]
      rw [if_pos (by omega)]
      simp only [Sem.run_bind, run_size h4, Result.andThen_ok, Int.toNat_natCast, k1, Sem.run_pure]
  | addrArr len n x i =>
    cases op <;> try (simp [okOp] at hok; done)
    all_goals try dsimp only
    simp only [okOp, Bool.and_eq_true] at hok
    obtain ⟨⟨h1, h2⟩, h3⟩ := hok
    split at h1 <;> try (cases h1; done)
    rename_i len' e hu
    simp only [Bool.and_eq_true, decide_eq_true_eq] at h1
    obtain ⟨rfl, h4⟩ := h1
    simp only [denStill] at h
    split at h <;> try (cases h; done)
    rename_i j hj
    split at h <;> try (cases h; done)
    rename_i hlt
    obtain ⟨k, hk⟩ := R_asNat (hev _ _ h3) hj
    have hx := hev _ _ h2
    split at h <;> try (cases h; done)
    · rename_i cs hcs
      obtain rfl := Option.some.inj h
      rw [hcs] at hx
      simp only [R] at hx
      obtain ⟨a, hv, ha, hc⟩ := hx
      refine ⟨.pointer (some (a.add (j * n))), ?_, ?_⟩
      · rw [hv, hk]
        simp only [Instr.indexAt, asIntOf, Sem.run_bind, Sem.run_pure, Result.andThen_ok, run_underlying hu, Instr.sureAddr]
        rw [if_pos (by omega)]
        simp only [Sem.run_bind, run_size h4, Result.andThen_ok, Int.toNat_natCast, Sem.run_pure]
      · simp only [R]
        refine ⟨_, rfl, by rw [addr_add ha], ?_⟩
        rw [addr_add ha]
        exact RPcells_drop _ hc
    · rename_i id o hcs
      obtain rfl := Option.some.inj h
      rw [hcs] at hx
      simp only [R] at hx
      obtain ⟨hid, hv⟩ := hx
      refine ⟨.pointer (some ⟨(c.ρ id).1, (c.ρ id).2 + o + j * n, none⟩), ?_, ?_⟩
      · rw [hv, hk]
        simp only [Instr.indexAt, asIntOf, Sem.run_bind, Sem.run_pure, Result.andThen_ok, run_underlying hu, Instr.sureAddr]
        rw [if_pos (by omega)]
        simp only [Sem.run_bind, run_size h4, Result.andThen_ok, Int.toNat_natCast, Sem.run_pure]
        rw [addr_add rfl]
      · simp only [R]
        exact ⟨hid, by rw [Nat.add_assoc]⟩
  | addrRow n x i =>
    cases op <;> try (simp [okOp] at hok; done)
    all_goals try dsimp only
    rename_i t x' i'
    simp only [okOp, Bool.and_eq_true] at hok
    obtain ⟨⟨h1, h2⟩, h3⟩ := hok
    split at h1 <;> try (cases h1; done)
    rename_i e hu
    simp only [decide_eq_true_eq] at h1
    simp only [denStill] at h
    split at h <;> try (cases h; done)
    rename_i j hj
    obtain ⟨k, hk⟩ := R_asNat (hev _ _ h3) hj
    have hx := hev _ _ h2
    have key : ∀ {rows : List (List PV)} {base : Option Addr} {cap : Nat} {row : List PV}, ρ x' = .slice base rows.length cap → RProws F c n base 0 rows → rows[j]? = some row →
        ∃ y, (do let v ← Instr.indexAt t (ρ x') (ρ i'); pure (Next.value v) : Sem Next).run F.P c.w = .ok (.value y) c.w ∧ R F c (.rp row) y := by
      intro rows base cap row hv hr hrow
      obtain ⟨_, a, rfl, ha, hc⟩ := RProws_get hr hrow
      have hjl : j < rows.length := by
        rw [List.getElem?_eq_some_iff] at hrow
        exact hrow.1
      refine ⟨.pointer (some (a.add (j * n))), ?_, ?_⟩
      · rw [hv, hk]
        simp only [Instr.indexAt, asIntOf, Sem.run_bind, Sem.run_pure, Result.andThen_ok, run_underlying hu]
        rw [if_pos (by omega)]
        simp only [Sem.run_bind, run_size h1, Result.andThen_ok, Int.toNat_natCast, Sem.run_pure]
      · simp only [R]
        refine ⟨_, rfl, by rw [addr_add ha], ?_⟩
        rw [addr_add ha]
        simpa using hc
    split at h <;> try (cases h; done)
    · rename_i n' rows hv
      split at h <;> try (cases h; done)
      rename_i hn; subst hn
      split at h <;> try (cases h; done)
      rename_i row hrow
      obtain rfl := Option.some.inj h
      rw [hv] at hx
      simp only [R, RP] at hx
      obtain ⟨base, cap, hv', _, hr⟩ := hx
      exact key hv' hr hrow
    · rename_i n' rows tok hv
      split at h <;> try (cases h; done)
      rename_i hn; subst hn
      split at h <;> try (cases h; done)
      rename_i row hrow
      obtain rfl := Option.some.inj h
      rw [hv] at hx
      simp only [R] at hx
      obtain ⟨⟨base, cap, hv', _, hr⟩, _⟩ := hx
      exact key hv' hr hrow
    · rename_i n' id off len hv
      split at h <;> try (cases h; done)
      rename_i hn
      obtain ⟨rfl, hjl⟩ := hn
      obtain rfl := Option.some.inj h
      rw [hv] at hx
      simp only [R] at hx
      obtain ⟨hid, a, cap, hv', hlc, ha, hc⟩ := hx
      rcases hc with ⟨rfl, _⟩ | hc
      · refine ⟨.pointer (some ⟨(c.ρ id).1, (c.ρ id).2 + off + j * n', none⟩), ?_, ?_⟩
        · rw [hv', hk]
          simp only [Instr.indexAt, asIntOf, Sem.run_bind, Sem.run_pure, Result.andThen_ok, run_underlying hu]
          rw [if_pos (by omega)]
          simp only [Sem.run_bind, run_size h1, Result.andThen_ok, Int.toNat_natCast, Sem.run_pure]
          rw [addr_add rfl]
        · simp only [R]
          exact ⟨hid, by rw [Nat.add_assoc]⟩
      · omega
  | cutStr x lo hi =>
    cases op <;> try (simp [okOp] at hok; done)
    all_goals try dsimp only
    rename_i t x' lo' hi' mx
    cases mx <;> try (simp [okOp] at hok; done)
    simp only [okOp, Bool.and_eq_true] at hok
    obtain ⟨⟨⟨h1, h2⟩, h3⟩, h4⟩ := hok
    simp only [denStill] at h
    split at h <;> try (cases h; done)
    rename_i s hs
    split at h <;> try (cases h; done)
    rename_i l hh hb
    obtain rfl := Option.some.inj h
    have hx := hev _ _ h2
    rw [hs] at hx
    unfold isStr at h1
    split at h1 <;> try (cases h1; done)
    rename_i hd
    obtain ⟨k1, k2, k3⟩ := run_bounds hev h3 h4 hb (Nat.le_refl _) false c.w
    refine ⟨.string ⟨((s.take hh).drop l).toArray⟩, ?_, by simp [R, RP]⟩
    rw [R_str hx]
    simp only [Instr.sliceAt, Instr.slice, Sem.run_bind, run_underlying hd, Result.andThen_ok, Option.map_none, Option.isSome_none, Bool.false_eq_true, if_false, Sem.run_pure, size_bytes, k1, extract_bytes]
  | cutRow n x lo hi =>
    cases op <;> try (simp [okOp] at hok; done)
    all_goals try dsimp only
    rename_i t x' lo' hi' mx
    cases mx <;> try (simp [okOp] at hok; done)
    simp only [okOp, Bool.and_eq_true] at hok
    obtain ⟨⟨⟨h1, h2⟩, h3⟩, h4⟩ := hok
    split at h1 <;> try (cases h1; done)
    rename_i e hu
    simp only [decide_eq_true_eq] at h1
    have hx := hev _ _ h2
    simp only [denStill] at h
    split at h <;> try (cases h; done)
    · rename_i hv
      split at h <;> try (cases h; done)
      rename_i lh hb
      obtain ⟨l, hh⟩ := lh
      obtain rfl := Option.some.inj h
      rw [hv] at hx
      simp only [R, RP] at hx
      obtain ⟨k1, k2, k3⟩ := run_bounds hev h3 h4 hb (Nat.le_refl 0) true c.w
      obtain rfl : l = 0 := by omega
      obtain rfl : hh = 0 := by omega
      have := run_cutRow (base := none) hu h1 k1
      refine ⟨.slice none 0 0, ?_, by simp [R, RP]⟩
      rw [hx]
      simp only [Option.map_none, Sem.run_bind, this, Result.andThen_ok, Sem.run_pure]
      simp
    · rename_i n' rows hv
      split at h <;> try (cases h; done)
      rename_i hn; subst hn
      split at h <;> try (cases h; done)
      rename_i l hh hb
      obtain rfl := Option.some.inj h
      rw [hv] at hx
      simp only [R, RP] at hx
      obtain ⟨base, cap, hv', hle, hr⟩ := hx
      obtain ⟨k1, k2, k3⟩ := run_bounds hev h3 h4 hb hle true c.w
      have := run_cutRow (base := base) hu h1 k1
      refine ⟨_, by rw [hv']; simp only [Option.map_none, Sem.run_bind, this, Result.andThen_ok, Sem.run_pure], rows_piece hr k2 k3 hle⟩
    · rename_i n' rows tok hv
      split at h <;> try (cases h; done)
      rename_i hn; subst hn
      split at h <;> try (cases h; done)
      rename_i l hh hb
      obtain rfl := Option.some.inj h
      rw [hv] at hx
      simp only [R] at hx
      obtain ⟨⟨base, cap, hv', hle, hr⟩, _⟩ := hx
      obtain ⟨k1, k2, k3⟩ := run_bounds hev h3 h4 hb hle true c.w
      have := run_cutRow (base := base) hu h1 k1
      refine ⟨_, by rw [hv']; simp only [Option.map_none, Sem.run_bind, this, Result.andThen_ok, Sem.run_pure], rows_piece hr k2 k3 hle⟩
    · rename_i n' id off len hv
      split at h <;> try (cases h; done)
      rename_i hn; subst hn
      split at h <;> try (cases h; done)
      rename_i l hh hb
      obtain rfl := Option.some.inj h
      rw [hv] at hx
      simp only [R] at hx
      obtain ⟨hid, a, cap, hv', hlc, ha, hc⟩ := hx
      obtain ⟨k1, k2, k3⟩ := run_bounds hev h3 h4 hb hlc true c.w
      have := run_cutRow (base := some a) hu h1 k1
      refine ⟨_, by rw [hv']; simp only [Option.map_none, Sem.run_bind, this, Result.andThen_ok, Sem.run_pure]; rfl, ?_⟩
      simp only [R, Option.map_some]
      by_cases hcl : cap = l
      · simp only [if_pos hcl]
        exact ⟨hid, a, _, rfl, by omega, ha, .inr (by omega)⟩
      · simp only [if_neg hcl]
        refine ⟨hid, a.add (l * n'), _, rfl, by omega, by rw [addr_add ha], .inl ?_⟩
        rcases hc with ⟨rfl, hsz⟩ | hc
        · refine ⟨by rw [addr_add rfl, Nat.add_assoc], ?_⟩
          have : l * n' + (cap - l) * n' = cap * n' := by rw [← Nat.add_mul]; congr 1; omega
          omega
        · omega
  | mkFn f caps =>
    cases op <;> try (simp [okOp] at hok; done)
    all_goals try dsimp only
    rename_i fn first caps'
    cases fn <;> try (simp [okOp] at hok; done)
    simp only [okOp, Bool.and_eq_true, decide_eq_true_eq] at hok
    obtain ⟨⟨rfl, h2⟩, h3⟩ := hok
    simp only [denStill] at h
    have hl := hev.list _ _ h3
    have hf : first = #[] := by simpa using h2
    subst hf
    have hc : Array.map ρ caps' = (caps'.toList.map ρ).toArray := Array.ext' (by simp)
    cases caps with
    | nil =>
      simp only at h
      obtain rfl := Option.some.inj h
      simp only [List.map_nil, Rs] at hl
      refine ⟨.func (.func (F.num f)) #[] #[], ?_, by simp only [R, RP]⟩
      simp only [Instr.makeFunc, hc, hl]
      simp
    | cons x xs =>
      simp only at h
      obtain rfl := Option.some.inj h
      refine ⟨.func (.func (F.num f)) #[] (caps'.toList.map ρ).toArray, ?_, ?_⟩
      · simp only [Instr.makeFunc, hc]
        simp
      · simp only [R]
        exact ⟨_, rfl, hl⟩
  | mkIface t x =>
    cases op <;> try (simp [okOp] at hok; done)
    all_goals try dsimp only
    simp only [okOp, Bool.and_eq_true, decide_eq_true_eq] at hok
    obtain ⟨⟨rfl, h2⟩, h3⟩ := hok
    have hx := hev _ _ h3
    simp only [denStill] at h
    have hrun : (Instr.makeInterface (F.tnum t) (ρ ‹Operand›)).run F.P c.w = .ok (.iface (F.tnum t) (ρ ‹Operand›)) c.w := by
      unfold Instr.makeInterface
      cases hu : F.P.underlying (F.tnum t) with
      | none => simp [hu] at h2
      | some d => cases d <;> simp [hu, run_underlying hu] at h2 ⊢
    refine ⟨.iface (F.tnum t) (ρ ‹Operand›), by simp only [Sem.run_bind, hrun, Result.andThen_ok, Sem.run_pure], ?_⟩
    split at h <;> try (cases h; done)
    · rename_i v hv
      obtain rfl := Option.some.inj h
      rw [hv] at hx
      simp only [R] at hx
      simp only [R, RP]
      exact ⟨_, rfl, hx⟩
    · obtain rfl := Option.some.inj h
      simp only [R]
      exact ⟨_, rfl, hx⟩
  | assertT t ok x =>
    cases op <;> try (simp [okOp] at hok; done)
    all_goals try dsimp only
    simp only [okOp, Bool.and_eq_true, decide_eq_true_eq, beq_iff_eq] at hok
    obtain ⟨⟨⟨rfl, rfl⟩, h2⟩, h3⟩ := hok
    have hx := hev _ _ h3
    simp only [denStill] at h
    have hrun : ∀ y, (Instr.typeAssert (.iface (F.tnum t) y) ‹TypeId› (F.tnum t) ok).run F.P c.w = .ok (if ok then .tuple #[y, .bool true] else y) c.w := by
      intro y
      unfold Instr.typeAssert
      cases hu : F.P.underlying (F.tnum t) with
      | none => simp [hu] at h2
      | some d => cases d <;> simp [hu, run_underlying hu] at h2 ⊢ <;> cases ok <;> simp
    split at h <;> try (cases h; done)
    · rename_i t' v hv
      split at h <;> try (cases h; done)
      rename_i ht; subst ht
      obtain rfl := Option.some.inj h
      rw [hv] at hx
      simp only [R, RP] at hx
      obtain ⟨y, hy, hr⟩ := hx
      rw [hy]
      refine ⟨if ok then .tuple #[y, .bool true] else y, by simp only [Sem.run_bind, hrun, Result.andThen_ok, Sem.run_pure], ?_⟩
      cases ok
      · simpa [R] using hr
      · simp only [Bool.cond_true, if_true, R, Rs]
        exact ⟨[y, .bool true], rfl, y, _, rfl, hr, .bool true, [], rfl, by simp [RP], rfl⟩
    · rename_i t' v hv
      split at h <;> try (cases h; done)
      rename_i ht; subst ht
      obtain rfl := Option.some.inj h
      rw [hv] at hx
      simp only [R] at hx
      obtain ⟨y, hy, hr⟩ := hx
      rw [hy]
      refine ⟨if ok then .tuple #[y, .bool true] else y, by simp only [Sem.run_bind, hrun, Result.andThen_ok, Sem.run_pure], ?_⟩
      cases ok
      · simpa using hr
      · simp only [Bool.cond_true, if_true, R, Rs]
        exact ⟨[y, .bool true], rfl, y, _, rfl, hr, .bool true, [], rfl, by simp [RP], rfl⟩
  | extract x i =>
    cases op <;> try (simp [okOp] at hok; done)
    all_goals try dsimp only
    simp only [okOp, Bool.and_eq_true, decide_eq_true_eq] at hok
    obtain ⟨rfl, h2⟩ := hok
    have hx := hev _ _ h2
    simp only [denStill] at h
    split at h <;> try (cases h; done)
    rename_i vs hvs
    rw [hvs] at hx
    simp only [R] at hx
    obtain ⟨ys, hv, hys⟩ := hx
    obtain ⟨y, k1, k2⟩ := Rs_get hys h
    refine ⟨y, ?_, k2⟩
    rw [hv]
    simp [Instr.extract, k1]
  | lenS x =>
    cases op <;> try (simp [okOp] at hok; done)
    all_goals try dsimp only
    rename_i cl
    rcases cl with ⟨callee, args, argTypes⟩
    cases callee <;> try (simp [okOp] at hok; done)
    rename_i b
    cases b <;> try (simp [okOp] at hok; done)
    simp only [okOp, Bool.and_eq_true] at hok
    obtain ⟨h1, h2⟩ := hok
    split at h1 <;> try (cases h1; done)
    rename_i x' hargs
    have hargs' : args = #[x'] := by apply Array.ext'; simpa using hargs
    subst hargs'
    split at h2 <;> try (cases h2; done)
    rename_i t ht
    split at h2 <;> try (cases h2; done)
    rename_i hu
    have hx := hev _ _ h1
    simp only [denStill] at h
    split at h <;> try (cases h; done)
    rename_i s hs
    obtain rfl := Option.some.inj h
    rw [hs] at hx
    refine ⟨.int .i64 s.length, ?_, by simp [R, RP]⟩
    simp [resolve, invoke, builtin, Builtin.len_, ht, run_underlying hu, goInt, R_str hx, size_bytes]
  | len x =>
    cases op <;> try (simp [okOp] at hok; done)
    all_goals try dsimp only
    rename_i cl
    rcases cl with ⟨callee, args, argTypes⟩
    cases callee <;> try (simp [okOp] at hok; done)
    rename_i b
    cases b <;> try (simp [okOp] at hok; done)
    simp only [okOp, Bool.and_eq_true] at hok
    obtain ⟨h1, h2⟩ := hok
    split at h1 <;> try (cases h1; done)
    rename_i x' hargs
    have hargs' : args = #[x'] := by apply Array.ext'; simpa using hargs
    subst hargs'
    split at h2 <;> try (cases h2; done)
    rename_i t ht
    split at h2 <;> try (cases h2; done)
    rename_i e hu
    have hx := hev _ _ h1
    simp only [denStill] at h
    split at h <;> try (cases h; done)
    rename_i n hn
    obtain rfl := Option.some.inj h
    refine ⟨.int .i64 n, ?_, by simp [R, RP]⟩
    have hval : ∃ base cap, ρ x' = .slice base n cap := by
      unfold lenV at hn
      split at hn <;> try (cases hn; done)
      · rename_i hv; obtain rfl := Option.some.inj hn; rw [hv] at hx; simp only [R] at hx; obtain ⟨⟨⟨base, cap, h5, _⟩, _⟩, _⟩ := hx; exact ⟨_, _, h5⟩
      · rename_i hv; obtain rfl := Option.some.inj hn; rw [hv] at hx; simp only [R, RP] at hx; exact ⟨_, _, hx⟩
      · rename_i hv; obtain rfl := Option.some.inj hn; rw [hv] at hx; simp only [R, RP] at hx; obtain ⟨base, cap, h5, _⟩ := hx; exact ⟨_, _, h5⟩
      · rename_i hv; obtain rfl := Option.some.inj hn; rw [hv] at hx; simp only [R] at hx; obtain ⟨⟨base, cap, h5, _⟩, _⟩ := hx; exact ⟨_, _, h5⟩
      · rename_i hv; obtain rfl := Option.some.inj hn; rw [hv] at hx; simp only [R] at hx; obtain ⟨_, a, cap, h5, _⟩ := hx; exact ⟨_, _, h5⟩
    obtain ⟨base, cap, hv⟩ := hval
    simp [resolve, invoke, builtin, Builtin.len_, ht, run_underlying hu, goInt, hv]
  | lenC n =>
    cases op <;> try (simp [okOp] at hok; done)
    all_goals try dsimp only
    rename_i cl
    rcases cl with ⟨callee, args, argTypes⟩
    cases callee <;> try (simp [okOp] at hok; done)
    rename_i b
    cases b <;> try (simp [okOp] at hok; done)
    simp only [okOp, Bool.and_eq_true, decide_eq_true_eq] at hok
    obtain ⟨h1, h2⟩ := hok
    split at h2 <;> try (cases h2; done)
    rename_i t ht
    split at h2 <;> try (cases h2; done)
    rename_i n' e hu
    simp only [decide_eq_true_eq] at h2
    subst h2
    simp only [denStill] at h
    obtain rfl := Option.some.inj h
    refine ⟨.int .i64 n, ?_, by simp [R, RP]⟩
    obtain ⟨x', rfl⟩ : ∃ x', args = #[x'] := by
      rcases args with ⟨l⟩
      match l, h1 with
      | [x'], _ => exact ⟨x', rfl⟩
    simp [resolve, invoke, builtin, Builtin.len_, ht, run_underlying hu, goInt]
  | idxByte g f x y =>
    cases op <;> try (simp [okOp] at hok; done)
    all_goals try dsimp only
    rename_i cl
    rcases cl with ⟨callee, args, argTypes⟩
    cases callee <;> try (simp [okOp] at hok; done)
    rename_i f'
    simp only [okOp, Bool.and_eq_true] at hok
    obtain ⟨⟨h1, h2⟩, h3⟩ := hok
    have hf0 := hev _ _ h1
    split at h2 <;> try (cases h2; done)
    rename_i fn hf
    simp only [Bool.and_eq_true, decide_eq_true_eq, Option.isNone_iff_eq_none] at h2
    obtain ⟨⟨hb, hn⟩, hnx⟩ := h2
    split at h3 <;> try (cases h3; done)
    rename_i x' y' hargs
    have hargs' : args = #[x', y'] := by apply Array.ext'; simpa using hargs
    subst hargs'
    simp only [Bool.and_eq_true] at h3
    have hx := hev _ _ h3.1; have hy := hev _ _ h3.2
    simp only [denStill] at h
    split at h <;> try (cases h; done)
    rename_i g' s n hg ha hb'
    split at h <;> try (cases h; done)
    rename_i hgg
    subst hgg
    obtain rfl := Option.some.inj h
    rw [ha] at hx; rw [hb'] at hy
    rw [hg] at hf0
    have h5 : ρ f' = .func (.func (F.num g')) #[] #[] := by simpa only [R, RP] using hf0
    refine ⟨.int .i64 (idxByte s (UInt8.ofNat n.toNat)), ?_, by simp [R, RP]⟩
    have h4 := run_callFunc_extern (P := F.P) hf (by simp [hn]) (by simpa using hb) hnx (find_idx hn) #[ρ x', ρ y'] c.w
    simp only [R_str hx, R_int hy, run_indexByte_string, Result.andThen_ok, firstIdx_eq] at h4
    simp [resolve, invoke, h5, Deferred.ofValue, R_str hx, R_int hy, h4]
  | noEsc g f x =>
    cases op <;> try (simp [okOp] at hok; done)
    all_goals try dsimp only
    rename_i cl
    rcases cl with ⟨callee, args, argTypes⟩
    cases callee <;> try (simp [okOp] at hok; done)
    rename_i f'
    simp only [okOp, Bool.and_eq_true] at hok
    obtain ⟨⟨h1, h2⟩, h3⟩ := hok
    have hf0 := hev _ _ h1
    split at h2 <;> try (cases h2; done)
    rename_i fn hf
    simp only [Bool.and_eq_true, decide_eq_true_eq, Option.isNone_iff_eq_none] at h2
    obtain ⟨⟨hb, hn⟩, hnx⟩ := h2
    split at h3 <;> try (cases h3; done)
    rename_i x' hargs
    have hargs' : args = #[x'] := by apply Array.ext'; simpa using hargs
    subst hargs'
    have hx := hev _ _ h3
    simp only [denStill] at h
    split at h <;> try (cases h; done)
    rename_i g' t id o hg ha
    split at h <;> try (cases h; done)
    rename_i hgg
    subst hgg
    obtain rfl := Option.some.inj h
    rw [ha] at hx
    rw [hg] at hf0
    have h5 : ρ f' = .func (.func (F.num g')) #[] #[] := by simpa only [R, RP] using hf0
    refine ⟨ρ x', ?_, hx⟩
    have h4 := run_callFunc_extern (P := F.P) hf (by simp [hn]) (by simpa using hb) hnx (find_noEsc hn) #[ρ x'] c.w
    simp only [Lib.run_noEscape, Result.andThen_ok] at h4
    simp [resolve, invoke, h5, Deferred.ofValue, h4]
  | nilPtr neg x =>
    cases op <;> try (simp [okOp] at hok; done)
    all_goals try dsimp only
    rename_i op' t x' y' yt
    cases y' <;> try (simp [okOp] at hok; done)
    rename_i vv
    cases vv <;> try (simp [okOp] at hok; done)
    rename_i pp
    cases pp <;> try (simp [okOp] at hok; done)
    simp only [okOp, Bool.and_eq_true, decide_eq_true_eq] at hok
    obtain ⟨⟨h0, h1⟩, h2⟩ := hok
    split at h1 <;> try (cases h1; done)
    rename_i e hu
    have hx := hev _ _ h2
    subst h0
    simp only [denStill] at h
    split at h <;> try (cases h; done)
    · rename_i hv
      obtain rfl := Option.some.inj h
      rw [hv] at hx
      simp only [R, RP] at hx
      refine ⟨.bool (bif neg then false else true), ?_, by simp [R, RP]⟩
      cases neg
      · simp [hx, hρ, eqGuard, run_ptr_nil_eql hu]
      · simp [hx, hρ, eqGuard, run_ptr_nil_neq hu]
    · rename_i t0 id o hv
      obtain rfl := Option.some.inj h
      rw [hv] at hx
      simp only [R] at hx
      refine ⟨.bool (bif neg then true else false), ?_, by simp [R, RP]⟩
      cases neg
      · simp [hx.1.2, hρ, eqGuard, run_ptr_nil_eql hu]
      · simp [hx.1.2, hρ, eqGuard, run_ptr_nil_neq hu]
  | fview tn x =>
    cases op <;> try (simp [okOp] at hok; done)
    all_goals try dsimp only
    rename_i t x' f
    simp only [okOp, Bool.and_eq_true] at hok
    obtain ⟨h1, h2⟩ := hok
    split at h1 <;> try (cases h1; done)
    rename_i fs hu
    split at h1 <;> try (cases h1; done)
    rename_i fd hfd
    simp only [Bool.and_eq_true, decide_eq_true_eq] at h1
    obtain ⟨h10, h3⟩ := h1
    split at h3 <;> try (cases h3; done)
    rename_i n hn
    simp only [decide_eq_true_eq] at h3
    have hx := hev _ _ h2
    simp only [denStill] at h
    split at h <;> try (cases h; done)
    rename_i t0 id hcs
    split at h <;> try (cases h; done)
    rename_i htt
    subst htt
    obtain rfl := Option.some.inj h
    rw [hcs] at hx
    refine ⟨ρ x', ?_, hx⟩
    simp only [R] at hx
    obtain ⟨⟨hid, hv⟩, _⟩ := hx
    rw [hv]
    simp only [Instr.fieldAt, Sem.run_bind, run_underlying hu, Result.andThen_ok, hfd, Instr.sureAddr, Sem.run_pure, fieldPlace, run_size hn, if_neg h3, h10]
    rw [addr_add rfl]
    simp
  | nilS neg x =>
    cases op <;> try (simp [okOp] at hok; done)
    all_goals try dsimp only
    rename_i op' t x' y' yt
    cases y' <;> try (simp [okOp] at hok; done)
    rename_i vv
    cases vv <;> try (simp [okOp] at hok; done)
    rename_i pp l0 c0
    cases pp <;> try (simp [okOp] at hok; done)
    cases l0 <;> try (simp [okOp] at hok; done)
    cases c0 <;> try (simp [okOp] at hok; done)
    simp only [okOp, Bool.and_eq_true, decide_eq_true_eq] at hok
    obtain ⟨⟨h0, h1⟩, h2⟩ := hok
    split at h1 <;> try (cases h1; done)
    rename_i e hu
    have hx := hev _ _ h2
    subst h0
    simp only [denStill] at h
    split at h <;> try (cases h; done)
    · rename_i hv
      obtain rfl := Option.some.inj h
      rw [hv] at hx
      simp only [R, RP] at hx
      refine ⟨.bool (bif neg then false else true), ?_, by simp [R, RP]⟩
      cases neg
      · simp [hx, hρ, eqGuard, run_sl_nil_eql hu]
      · simp [hx, hρ, eqGuard, run_sl_nil_neq hu]
    · rename_i n0 rs0 hv
      obtain rfl := Option.some.inj h
      rw [hv] at hx
      simp only [R, RP] at hx
      obtain ⟨base, cap, h5, h6, h7⟩ := hx
      obtain ⟨a, rfl⟩ := Option.ne_none_iff_exists'.1 (RProws_ne h7)
      refine ⟨.bool (bif neg then true else false), ?_, by simp [R, RP]⟩
      cases neg
      · simp [h5, hρ, eqGuard, run_sl_nil_eql hu]
      · simp [h5, hρ, eqGuard, run_sl_nil_neq hu]
    · rename_i n0 rs0 t0 hv
      obtain rfl := Option.some.inj h
      rw [hv] at hx
      simp only [R] at hx
      obtain ⟨⟨base, cap, h5, h6, h7⟩, _⟩ := hx
      obtain ⟨a, rfl⟩ := Option.ne_none_iff_exists'.1 (RProws_ne h7)
      refine ⟨.bool (bif neg then true else false), ?_, by simp [R, RP]⟩
      cases neg
      · simp [h5, hρ, eqGuard, run_sl_nil_eql hu]
      · simp [h5, hρ, eqGuard, run_sl_nil_neq hu]
    · rename_i n0 id0 off0 len0 hv
      obtain rfl := Option.some.inj h
      rw [hv] at hx
      simp only [R] at hx
      obtain ⟨_, a, cap, h5, _⟩ := hx
      refine ⟨.bool (bif neg then true else false), ?_, by simp [R, RP]⟩
      cases neg
      · simp [h5, hρ, eqGuard, run_sl_nil_eql hu]
      · simp [h5, hρ, eqGuard, run_sl_nil_neq hu]
  | eqPtr neg x y =>
    cases op <;> try (simp [okOp] at hok; done)
    all_goals try dsimp only
    rename_i op' t x' y' yt
    simp only [okOp, Bool.and_eq_true, decide_eq_true_eq] at hok
    obtain ⟨⟨⟨h0, h1⟩, h2⟩, h3⟩ := hok
    split at h1 <;> try (cases h1; done)
    rename_i e hu
    obtain ⟨i, hi⟩ := Option.isSome_iff_exists.mp h1
    have hx := hev _ _ h2; have hy := hev _ _ h3
    subst h0
    simp only [denStill] at h
    split at h <;> try (cases h; done)
    rename_i t1 id o t2 id' o' hv hv'
    split at h <;> try (cases h; done)
    rename_i hee
    obtain ⟨rfl, rfl⟩ := hee
    obtain rfl := Option.some.inj h
    rw [hv] at hx; rw [hv'] at hy
    simp only [R] at hx hy
    refine ⟨.bool (bif neg then false else true), ?_, by simp [R, RP]⟩
    cases neg
    · simp [hx.1.2, hy.1.2, eqGuard, run_eql_ptr_same (w := c.w) _ hu hi]
    · simp [hx.1.2, hy.1.2, eqGuard, Lib.run_neq_ptr_same c.w _ hu hi]
  | sliceData x =>
    cases op <;> try (simp [okOp] at hok; done)
    all_goals try dsimp only
    rename_i cl
    rcases cl with ⟨callee, args, argTypes⟩
    cases callee <;> try (simp [okOp] at hok; done)
    rename_i b
    cases b <;> try (simp [okOp] at hok; done)
    simp only [okOp] at hok
    split at hok <;> try (cases hok; done)
    rename_i x' hargs
    have hargs' : args = #[x'] := by apply Array.ext'; simpa using hargs
    subst hargs'
    have hx := hev _ _ hok
    simp only [denStill] at h
    split at h <;> try (cases h; done)
    rename_i t n rows tok hv
    split at h <;> try (cases h; done)
    rename_i hne
    obtain rfl := Option.some.inj h
    rw [hv] at hx
    have hx' := hx
    simp only [R] at hx'
    obtain ⟨⟨⟨base, cap, h5, h6, h7⟩, _⟩, _⟩ := hx'
    cases rows with
    | nil => exact absurd rfl hne
    | cons row rows =>
      simp only [RProws] at h7
      obtain ⟨⟨_, a, rfl, _⟩, _⟩ := h7
      have hc : cap ≠ 0 := by simp at h6; omega
      refine ⟨.pointer (some a), ?_, ?_⟩
      · have h9 : Array.map ρ #[x'] = #[Value.slice (some a) (row :: rows).length cap] := by simp [h5]
        simp only [resolve, invoke, builtin, Sem.run_bind, Sem.run_pure, Result.andThen_ok, h9, Lib.run_unsafeSliceData_row _ _ _ _ _ _ hc]
      · rw [h5] at hx
        simp only [R] at hx ⊢
        exact ⟨a, _, cap, rfl, hx⟩
  | max2 x y =>
    cases op <;> try (simp [okOp] at hok; done)
    all_goals try dsimp only
    rename_i cl
    rcases cl with ⟨callee, args, argTypes⟩
    cases callee <;> try (simp [okOp] at hok; done)
    rename_i b
    cases b <;> try (simp [okOp] at hok; done)
    simp only [okOp] at hok
    split at hok <;> try (cases hok; done)
    rename_i x' y' hargs
    have hargs' : args = #[x', y'] := by apply Array.ext'; simpa using hargs
    subst hargs'
    simp only [Bool.and_eq_true] at hok
    have hx := hev _ _ hok.1; have hy := hev _ _ hok.2
    simp only [denStill] at h
    split at h <;> try (cases h; done)
    rename_i k a k' b ha hb
    obtain rfl := Option.some.inj h
    rw [ha] at hx; rw [hb] at hy
    refine ⟨.int k (if b > a then b else a), ?_, by simp [R, RP]⟩
    simp [resolve, invoke, builtin, R_int hx, R_int hy, run_max_int2]
  | min2 x y =>
    cases op <;> try (simp [okOp] at hok; done)
    all_goals try dsimp only
    rename_i cl
    rcases cl with ⟨callee, args, argTypes⟩
    cases callee <;> try (simp [okOp] at hok; done)
    rename_i b
    cases b <;> try (simp [okOp] at hok; done)
    simp only [okOp] at hok
    split at hok <;> try (cases hok; done)
    rename_i x' y' hargs
    have hargs' : args = #[x', y'] := by apply Array.ext'; simpa using hargs
    subst hargs'
    simp only [Bool.and_eq_true] at hok
    have hx := hev _ _ hok.1; have hy := hev _ _ hok.2
    simp only [denStill] at h
    split at h <;> try (cases h; done)
    rename_i k a k' b ha hb
    obtain rfl := Option.some.inj h
    rw [ha] at hx; rw [hb] at hy
    refine ⟨.int k (if b < a then b else a), ?_, by simp [R, RP]⟩
    simp [resolve, invoke, builtin, R_int hx, R_int hy, run_min_int2]
  | nilCheck x =>
    cases op <;> try (simp [okOp] at hok; done)
    all_goals try dsimp only
    simp only [okOp] at hok
    have hx := hev _ _ hok
    simp only [denStill] at h
    split at h <;> try (cases h; done)
    · rename_i t0 id o hv
      obtain rfl := Option.some.inj h
      rw [hv] at hx
      have hx' := hx
      simp only [R] at hx'
      refine ⟨_, ?_, hx⟩
      rw [hx'.1.2]
      simp
    · rename_i id o hv
      obtain rfl := Option.some.inj h
      rw [hv] at hx
      have hx' := hx
      simp only [R] at hx'
      refine ⟨_, ?_, hx⟩
      rw [hx'.2]
      simp
    · rename_i cs hv
      obtain rfl := Option.some.inj h
      rw [hv] at hx
      have hx' := hx
      simp only [R] at hx'
      obtain ⟨a, ha, _⟩ := hx'
      refine ⟨_, ?_, hx⟩
      rw [ha]
      simp
  | recover | mkMap | boxT _ _ _ | lookup _ _ _ _ _ _ | mapSet _ _ _ _ | clearM _ | toBytes _ _ | store _ _ _ | alloc _ | box _ | rowLit _ _ _ _ _ | rowVals _ _ _ _ | cutArr _ _ _ _ _ | mkRow _ _ _ _ _ _ | append _ _ _ _ _ | allocT _ _ | cast _ _ _ _ | appendT _ _ _ _ _ | strOf _ _ _ | convS _ | call _ _ | panic _ | dfr _ _ =>
    simp [denStill] at h
end
end Hx
