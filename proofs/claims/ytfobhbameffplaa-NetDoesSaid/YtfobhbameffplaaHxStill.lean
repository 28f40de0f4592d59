/-
  HxStill: the operations that neither read nor write the call's own memory: what the evaluator says of them, the model does.
-/
import Derived.Test.YtfobhbameffplaaHxOk
import Derived.Laws.Sem
import Derived.Laws.Entries
import Derived.Laws.Cells
import Derived.Laws.StructEq
import Derived.Laws.Small
import Derived.Laws.Tables
namespace Hx
open Go
set_option linter.unusedSimpArgs false

theorem bytes_eq {b : ByteArray} {s : List UInt8} (h : s = b.data.toList) : b = ⟨s.toArray⟩ := by
  subst h; cases b; simp
theorem toList_bytes (s : List UInt8) : ByteArray.toList ⟨s.toArray⟩ = s := by
  simp
theorem size_bytes (s : List UInt8) : ByteArray.size ⟨s.toArray⟩ = s.length := by
  simp [ByteArray.size]

section
variable {F : Fix} {c : Cx}
mutual
theorem okV_sound : ∀ (x : PV) (v : Value), okV x v = true → RP F c x v
  | .bool a, v, h => by cases v <;> simp [okV, RP] at h ⊢; exact h.symm
  | .int k a, v, h => by cases v <;> simp [okV, RP] at h ⊢; exact ⟨h.1.symm, h.2.symm⟩
  | .str s, v, h => by cases v <;> simp [okV, RP] at h ⊢; exact bytes_eq h
  | .agg cs, v, h => by
    cases v <;> simp [okV, RP] at h ⊢
    rename_i arr
    exact ⟨arr.toList, by simp, okVs_sound cs _ h⟩
  | .vals _ _, v, h => by cases v <;> simp [okV] at h
  | .nils, v, h => by
    unfold okV at h
    split at h <;> simp_all [RP]
  | .nilp, v, h => by
    unfold okV at h
    split at h <;> simp_all [RP]
  | .nilm, v, h => by
    unfold okV at h
    split at h <;> simp_all [RP]
  | .nilf, v, h => by cases v <;> simp [okV, RP] at h ⊢
  | .nili, v, h => by cases v <;> simp [okV, RP] at h ⊢
  | .fn _, v, h => by cases v <;> simp [okV] at h
  | .iface _ _, v, h => by cases v <;> simp [okV] at h
theorem okVs_sound : ∀ (xs : List PV) (ys : List Value), okVs xs ys = true → RPs F c xs ys
  | [], [], _ => by simp [RPs]
  | [], _ :: _, h => by simp [okVs] at h
  | _ :: _, [], h => by simp [okVs] at h
  | x :: xs, y :: ys, h => by
    simp [okVs] at h
    simp only [RPs]
    exact ⟨y, ys, rfl, okV_sound x y h.1, okVs_sound xs ys h.2⟩
end

def Evs (F : Fix) (c : Cx) (ev : X → AV) (ρ : Operand → Value) : Prop := ∀ x y, okX F x y = true → R F c (ev x) (ρ y)

theorem Evs.list {ev : X → AV} {ρ : Operand → Value} (h : Evs F c ev ρ) : ∀ (xs : List X) (ys : List Operand), okXs F xs ys = true → Rs F c (xs.map ev) (ys.map ρ)
  | [], [], _ => by simp [Rs]
  | [], _ :: _, h' => by simp [okXs] at h'
  | _ :: _, [], h' => by simp [okXs] at h'
  | x :: xs, y :: ys, h' => by
    simp [okXs] at h'
    simp only [List.map_cons, Rs]
    exact ⟨_, _, rfl, h x y h'.1, h.list xs ys h'.2⟩

theorem R_bool {b : Bool} {v : Value} (h : R F c (.p (.bool b)) v) : v = .bool b := by simpa only [R, RP] using h
theorem R_int {k : IntKind} {n : Int} {v : Value} (h : R F c (.p (.int k n)) v) : v = .int k n := by simpa only [R, RP] using h
theorem R_str {s : List UInt8} {v : Value} (h : R F c (.p (.str s)) v) : v = .string ⟨s.toArray⟩ := by simpa only [R, RP] using h
theorem R_asInt {x : AV} {n : Int} {v : Value} (h : R F c x v) (hn : asInt x = some n) : ∃ k, v = .int k n := by
  unfold asInt at hn
  split at hn
  · rename_i k m
    obtain rfl := Option.some.inj hn
    exact ⟨k, R_int h⟩
  · exact absurd hn (by simp)
theorem R_asNat {x : AV} {n : Nat} {v : Value} (h : R F c x v) (hn : asNat x = some n) : ∃ k, v = .int k n := by
  unfold asNat at hn
  split at hn
  · rename_i m hm
    obtain ⟨k, rfl⟩ := R_asInt h hm
    split at hn
    · obtain rfl := Option.some.inj hn
      exact ⟨k, by rw [Int.toNat_of_nonneg (by assumption)]⟩
    · exact absurd hn (by simp)
  · exact absurd hn (by simp)


def valOf : PV → Value
  | .int k n => .int k n
  | .bool b => .bool b
  | .str s => .string ⟨s.toArray⟩
  | _ => .tuple #[]

theorem run_binI {op : BinOp} {k k' : IntKind} {x y : Int} {r : PV} (h : binI op k x k' y = some r) (t : TypeId) (P : Program) (w : World) :
    (binOp op t (.int k x) (.int k' y)).run P w = .ok (valOf r) w ∧ ∀ (F : Fix) (c : Cx), RP F c r (valOf r) := by
  cases op <;> simp only [binI] at h
  case shl =>
    split at h
    · exact absurd h (by simp)
    · rename_i hy
      obtain rfl := Option.some.inj h
      exact ⟨by simp only [binOp, Op.shift, if_neg hy, Sem.run_pure, valOf], fun _ _ => by simp [RP, valOf]⟩
  case shr =>
    split at h
    · exact absurd h (by simp)
    · rename_i hy
      obtain rfl := Option.some.inj h
      exact ⟨by simp only [binOp, Op.shift, if_neg hy, Sem.run_pure, valOf], fun _ _ => by simp [RP, valOf]⟩
  case quo | rem =>
    split at h
    · rename_i hk
      subst hk
      simp only [arithI] at h
      split at h
      · rename_i r' hr
        split at hr
        · exact absurd hr (by simp)
        · rename_i hy
          obtain rfl := Option.some.inj hr
          obtain rfl := Option.some.inj h
          exact ⟨by simp [binOp, Op.intDiv, hy, valOf], fun _ _ => by simp [RP, valOf]⟩
      · exact absurd h (by simp)
    · exact absurd h (by simp)
  all_goals
    split at h
    · rename_i hk
      subst hk
      simp only [arithI, cmpI, bitsI] at h
      obtain rfl := Option.some.inj h
      exact ⟨by simp [binOp, Op.intArith, Op.intBits, Op.intCmp, valOf], fun _ _ => by simp [RP, valOf]⟩
    · exact absurd h (by simp)

theorem run_binS {op : BinOp} {x y : List UInt8} {r : PV} (h : binS op x y = some r) (t : TypeId) (P : Program) (w : World) :
    (binOp op t (.string ⟨x.toArray⟩) (.string ⟨y.toArray⟩)).run P w = .ok (valOf r) w ∧ ∀ (F : Fix) (c : Cx), RP F c r (valOf r) := by
  cases op <;> simp only [binS] at h <;> try (cases h; done)
  case add =>
    split at h
    · rename_i hl
      obtain rfl := Option.some.inj h
      refine ⟨?_, fun _ _ => by simp [RP, valOf]⟩
      have hl' : ¬ (((ByteArray.size ⟨x.toArray⟩ + ByteArray.size ⟨y.toArray⟩ : Nat) : Int) > IntKind.i64.max) := by
        rw [size_bytes, size_bytes]
        have : IntKind.i64.max = 9223372036854775807 := by decide
        rw [this]
        unfold strLim at hl
        omega
      simp only [binOp, Op.stringOp, if_neg hl', Sem.run_pure, valOf]
      have : (⟨x.toArray⟩ : ByteArray) ++ ⟨y.toArray⟩ = ⟨(x ++ y).toArray⟩ := by apply ByteArray.ext; simp
      rw [this]
    · exact absurd h (by simp)
  all_goals
    obtain rfl := Option.some.inj h
    exact ⟨by simp only [binOp, Op.stringOp, Sem.run_pure, toList_bytes, valOf], fun _ _ => by simp [RP, valOf]⟩

theorem run_binV {op : BinOp} {a b r : AV} (h : binV op a b = some r) {va vb : Value} (ha : R F c a va) (hb : R F c b vb) (t : TypeId) (x y : Operand) (P : Program) (w : World) :
    ∃ v, (do eqGuard op t x y va vb; binOp op t va vb : Sem Value).run P w = .ok v w ∧ R F c r v := by
  unfold binV at h
  split at h
  · rename_i k x1 k' y1
    obtain rfl := R_int ha
    obtain rfl := R_int hb
    split at h
    · rename_i r' hr
      obtain rfl := Option.some.inj h
      obtain ⟨hv, hR⟩ := run_binI hr t P w
      refine ⟨valOf r', ?_, by simp only [R]; exact hR F c⟩
      have hg : (eqGuard op t x y (.int k x1) (.int k' y1)).run P w = .ok () w := by
        unfold eqGuard; cases op <;> simp
      simp only [Sem.run_bind, hg, Result.andThen_ok, hv]
    · exact absurd h (by simp)
  · rename_i x1 y1
    obtain rfl := R_str ha
    obtain rfl := R_str hb
    split at h
    · rename_i r' hr
      obtain rfl := Option.some.inj h
      obtain ⟨hv, hR⟩ := run_binS hr t P w
      refine ⟨valOf r', ?_, by simp only [R]; exact hR F c⟩
      have hg : (eqGuard op t x y (.string ⟨x1.toArray⟩) (.string ⟨y1.toArray⟩)).run P w = .ok () w := by
        unfold eqGuard; cases op <;> simp
      simp only [Sem.run_bind, hg, Result.andThen_ok, hv]
    · exact absurd h (by simp)
  · exact absurd h (by simp)

theorem run_unV {op : UnOp} {a r : AV} (h : unV op a = some r) {va : Value} (ha : R F c a va) (P : Program) (w : World) :
    ∃ v, (Op.unary op va).run P w = .ok v w ∧ R F c r v := by
  unfold unV at h
  split at h
  · rename_i k n
    obtain rfl := R_int ha
    cases op <;> simp only [bitsI] at h <;> try (cases h; done)
    · obtain rfl := Option.some.inj h
      exact ⟨.int k (k.wrap (0 - n)), by simp [Op.unary, Op.intArith], by simp [R, RP]⟩
    · obtain rfl := Option.some.inj h
      exact ⟨valOf (.int k (k.wrap (BitVec.ofInt k.bits (if k.signed then -1 else k.max) ^^^ BitVec.ofInt k.bits n).toNat)), by simp only [Op.unary, Op.intBits, Sem.run_pure, valOf], by simp only [R, RP, valOf]⟩
  · rename_i b
    obtain rfl := R_bool ha
    cases op <;> simp only at h <;> try (cases h; done)
    obtain rfl := Option.some.inj h
    exact ⟨.bool (!b), by simp [Op.unary], by simp [R, RP]⟩
  · exact absurd h (by simp)


theorem cells_vals {b o : Nat} : ∀ {xs : List PV}, RPcells F c b o xs → ∃ ys : List Value, RPs F c xs ys ∧ ∀ j v, ys[j]? = some v → c.w.cell? ⟨b, o + j, none⟩ = some v
  | [], _ => ⟨[], by simp [RPs], by simp⟩
  | z :: xs, h => by
    simp only [RPcells] at h
    obtain ⟨⟨h1, hf, y, h2, h3⟩, h4⟩ := h
    obtain ⟨ys, k1, k2⟩ := cells_vals h4
    refine ⟨y :: ys, by simp only [RPs]; exact ⟨y, ys, rfl, h3, k1⟩, ?_⟩
    intro j v hj
    cases j with
    | zero => simp at hj; subst hj; simpa using h2
    | succ j => simp at hj; rw [← k2 j v hj]; congr 2; omega
theorem RPcells_drop {b : Nat} : ∀ (k : Nat) {o : Nat} {xs : List PV}, RPcells F c b o xs → RPcells F c b (o + k) (xs.drop k)
  | 0, _, _, h => by simpa using h
  | k + 1, o, [], _ => by simp [RPcells]
  | k + 1, o, x :: xs, h => by
    simp only [RPcells] at h
    have := RPcells_drop k h.2
    rw [show o + (k + 1) = o + 1 + k by omega]
    simpa using this
theorem addr_add {a : Addr} (h : a.spot = none) (n : Nat) : a.add n = ⟨a.block, a.off + n, none⟩ := by
  unfold Addr.add
  split
  · rename_i hn; subst hn; cases a; simp_all
  · cases a; simp_all
theorem run_agg {P : Program} {t : TypeId} {agg : Bool} (h : aggOf P t = some agg) (w : World) : (isAgg t).run P w = .ok agg w := by
  unfold aggOf at h
  unfold isAgg
  cases hu : P.underlying t with
  | none => simp [hu] at h
  | some d =>
    simp only [Sem.run_bind, run_underlying hu, Result.andThen_ok]
    cases d <;> simp [hu] at h <;> subst h <;> simp
theorem run_size {P : Program} {t : TypeId} {n : Nat} (h : sizeO P t = some n) (w : World) : (Go.sizeOf t).run P w = Result.ok n w := by
  unfold sizeO at h
  unfold Go.sizeOf typeInfo
  cases hi : P.info? t with
  | none => simp [hi] at h
  | some i => simp [hi] at h; simp [hi, h]

theorem run_partP {n off : Nat} {agg : Bool} {cs : List PV} {r : AV} (h : partP n agg cs off = some r) {t : TypeId} (ha : aggOf F.P t = some agg) (hs : sizeO F.P t = some n)
    {ys : List Value} (hy : RPs F c cs ys) (w : World) : ∃ v, (part t ys.toArray off).run F.P w = .ok v w ∧ R F c r v := by
  unfold partP at h
  unfold part
  simp only [Sem.run_bind, run_agg ha, Result.andThen_ok]
  cases agg with
  | true =>
    simp only [if_true] at h
    obtain rfl := Option.some.inj h
    refine ⟨.agg ((ys.drop off).take n).toArray, ?_, ?_⟩
    · simp [run_size hs]
    · simp only [R, RP]
      exact ⟨_, rfl, RPs_take n (RPs_drop off hy)⟩
  | false =>
    simp only [Bool.false_eq_true, if_false] at h
    split at h
    · rename_i x hx
      obtain rfl := Option.some.inj h
      obtain ⟨y, h1, h2⟩ := RPs_get hy hx
      refine ⟨y, ?_, by simpa only [R] using h2⟩
      simp [h1]
    · cases h
theorem run_partV {n off : Nat} {agg : Bool} {cs : List AV} {r : AV} (h : partV n agg cs off = some r) {t : TypeId} (ha : aggOf F.P t = some agg) (hs : sizeO F.P t = some n)
    {ys : List Value} (hy : Rs F c cs ys) (w : World) : ∃ v, (part t ys.toArray off).run F.P w = .ok v w ∧ R F c r v := by
  unfold partV at h
  unfold part
  simp only [Sem.run_bind, run_agg ha, Result.andThen_ok]
  cases agg with
  | true =>
    simp only [if_true] at h
    obtain rfl := Option.some.inj h
    refine ⟨.agg ((ys.drop off).take n).toArray, ?_, ?_⟩
    · simp [run_size hs]
    · exact R_mkAgg (Rs_take n (Rs_drop off hy))
  | false =>
    simp only [Bool.false_eq_true, if_false] at h
    obtain ⟨y, h1, h2⟩ := Rs_get hy h
    refine ⟨y, ?_, h2⟩
    simp [h1]

theorem RProws_get {n : Nat} {base : Option Addr} : ∀ {rows : List (List PV)} {i : Nat}, RProws F c n base i rows → ∀ {j : Nat} {row : List PV}, rows[j]? = some row →
    row.length = n ∧ ∃ a, base = some a ∧ a.spot = none ∧ RPcells F c a.block (a.off + (i + j) * n) row
  | [], i, _, j, row, hj => by simp at hj
  | r :: rows, i, h, j, row, hj => by
    simp only [RProws] at h
    cases j with
    | zero => simp at hj; subst hj; simpa using h.1
    | succ j => simp at hj; have := RProws_get h.2 hj; rwa [show i + (j + 1) = i + 1 + j by omega]
theorem RProws_drop {n : Nat} {base : Option Addr} : ∀ (k : Nat) {rows : List (List PV)} {i : Nat}, RProws F c n base i rows → RProws F c n base (i + k) (rows.drop k)
  | 0, _, _, h => by simpa using h
  | k + 1, [], i, h => by simpa [RProws] using RProws_ne h
  | k + 1, r :: rows, i, h => by
    simp only [RProws] at h
    have := RProws_drop k h.2
    rw [show i + (k + 1) = i + 1 + k by omega]
    simpa using this
theorem RProws_take {n : Nat} {base : Option Addr} : ∀ (k : Nat) {rows : List (List PV)} {i : Nat}, RProws F c n base i rows → RProws F c n base i (rows.take k)
  | 0, _, _, h => by simpa [RProws] using RProws_ne h
  | k + 1, [], i, h => by simpa [RProws] using RProws_ne h
  | k + 1, r :: rows, i, h => by
    simp only [RProws] at h
    simp only [List.take_succ_cons, RProws]
    exact ⟨h.1, RProws_take k h.2⟩
theorem RProws_shift {n : Nat} {a : Addr} (ha : a.spot = none) (k : Nat) : ∀ {rows : List (List PV)} {i : Nat}, RProws F c n (some a) (i + k) rows → RProws F c n (some (a.add (k * n))) i rows
  | [], i, _ => by simp [RProws]
  | r :: rows, i, h => by
    simp only [RProws] at h ⊢
    obtain ⟨⟨h1, a', h2, h3, h4⟩, h5⟩ := h
    obtain rfl := Option.some.inj h2
    refine ⟨⟨h1, _, rfl, by rw [addr_add ha], ?_⟩, RProws_shift ha k (by rwa [show i + 1 + k = i + k + 1 by omega])⟩
    rw [addr_add ha]
    rw [show a.off + k * n + i * n = a.off + (i + k) * n by rw [Nat.add_mul]; omega]
    exact h4

theorem cells_sound {x : AV} {vs : List AV} (h : x.cells = some vs) {v : Value} (hv : R F c x v) : Rs F c vs v.cells.toList := by
  cases x with
  | unk => simp [AV.cells] at h
  | agg cs =>
    simp [AV.cells] at h; subst h
    simp only [R] at hv
    obtain ⟨ys, rfl, hys⟩ := hv
    simpa [Value.cells] using hys
  | p x =>
    simp [AV.cells] at h; subst h
    cases x with
    | agg cs =>
      simp only [R, RP] at hv
      obtain ⟨ys, rfl, hys⟩ := hv
      simpa [Value.cells, PV.cells] using Rs_p hys
    | _ =>
      have hc : v.cells = #[v] := by
        simp only [R, RP] at hv
        first
        | (subst hv; rfl)
        | (obtain ⟨_, _, rfl, _⟩ := hv; rfl)
        | (obtain ⟨_, rfl, _⟩ := hv; rfl)
      rw [hc]
      simp only [PV.cells, List.map_cons, List.map_nil, Rs]
      exact ⟨v, [], rfl, hv, rfl⟩
  | ty t x =>
    have hc : v.cells = #[v] ∧ vs = [.ty t x] := by
      cases x <;> simp [AV.cells] at h <;> subst h <;> simp only [R] at hv
      · obtain ⟨⟨⟨_, _, rfl, _⟩, _⟩, _⟩ := hv; exact ⟨rfl, rfl⟩
      · obtain ⟨⟨_, rfl⟩, _⟩ := hv; exact ⟨rfl, rfl⟩
    obtain ⟨hc, rfl⟩ := hc
    rw [hc]
    simp only [Rs]
    exact ⟨v, [], rfl, hv, rfl⟩
  | _ =>
    have hc : v.cells = #[v] := by
      simp only [R] at hv
      first
      | (subst hv; rfl)
      | (obtain ⟨_, _, _, rfl, _⟩ := hv; rfl)
      | (obtain ⟨⟨_, _, rfl, _⟩, _⟩ := hv; rfl)
      | (obtain ⟨_, _, _, rfl, _⟩ := hv; rfl)
      | (obtain ⟨_, rfl, _⟩ := hv; rfl)
      | (obtain ⟨_, rfl⟩ := hv; rfl)
    simp [AV.cells] at h; subst h
    rw [hc]
    simp only [Rs]
    exact ⟨v, [], rfl, hv, rfl⟩

theorem foldl_set (off : Nat) : ∀ (vs : List Value) (k : Nat) (arr : Array Value), off + k + vs.length ≤ arr.size →
    ((vs.zipIdx k).foldl (fun cs p => cs.setIfInBounds (off + p.2) p.1) arr).toList = arr.toList.take (off + k) ++ vs ++ arr.toList.drop (off + k + vs.length)
  | [], k, arr, h => by simp
  | v :: vs, k, arr, h => by
    simp only [List.zipIdx_cons, List.foldl_cons]
    simp only [List.length_cons] at h
    rw [foldl_set off vs (k + 1) (arr.setIfInBounds (off + k) v) (by simp; omega)]
    simp only [Array.toList_setIfInBounds, List.length_cons]
    rw [List.take_set, List.drop_set_of_lt (by omega)]
    rw [show off + (k + 1) = (off + k) + 1 by omega]
    rw [List.take_succ_eq_append_getElem (by simp; omega), List.set_append_right _ _ (by simp; omega)]
    simp only [List.length_take, Array.length_toList]
    rw [show off + k - min (off + k) arr.size = 0 by omega]
    simp only [List.set_cons_zero, List.append_assoc, List.singleton_append, List.cons_append, List.nil_append]
    rw [show off + k + 1 + vs.length = off + k + (vs.length + 1) by omega]

theorem Rs_setAt {xs vs : List AV} {off : Nat} {ys us : List Value} (h : Rs F c xs ys) (k : Rs F c vs us) :
    Rs F c (setAt xs off vs) (ys.take off ++ us ++ ys.drop (off + us.length)) := by
  unfold setAt
  rw [Rs_length k]
  exact Rs_append (Rs_append (Rs_take off h) k) (Rs_drop _ h)

theorem setAt_length {xs vs : List AV} {off : Nat} (h : off + vs.length ≤ xs.length) : (setAt xs off vs).length = xs.length := by
  unfold setAt; simp; omega

theorem fill_sound {ev : X → AV} {ρ : Operand → Value} (hev : Evs F c ev ρ) {place : Nat → Option (Nat × Nat)} : ∀ (parts : List (Nat × Nat × X)) (parts' : List (Nat × Operand)) (cs cs' : List AV) (arr : Array Value),
    okPart F place parts parts' = true → fillParts ev cs parts = some cs' → Rs F c cs arr.toList →
    ∃ arr', Instr.fill place arr (parts'.map fun p => (p.1, ρ p.2)) = some arr' ∧ Rs F c cs' arr'.toList ∧ cs'.length = cs.length
  | [], [], cs, cs', arr, _, hf, hr => by
    simp [fillParts] at hf; subst hf
    exact ⟨arr, by simp [Instr.fill], hr, rfl⟩
  | [], _ :: _, _, _, _, h, _, _ => by simp [okPart] at h
  | _ :: _, [], _, _, _, h, _, _ => by simp [okPart] at h
  | (off, size, x) :: parts, (i, y) :: parts', cs, cs', arr, h, hf, hr => by
    simp only [okPart, Bool.and_eq_true, decide_eq_true_eq] at h
    obtain ⟨⟨h1, h2⟩, h3⟩ := h
    simp only [fillParts] at hf
    split at hf
    · rename_i vs hvs
      split at hf
      · rename_i hsz
        obtain ⟨hs1, hs2⟩ := hsz
        have hv := cells_sound hvs (hev _ _ h2)
        have hl := Rs_length hv
        have hla := Rs_length hr
        simp only [Array.length_toList] at hl hla
        have hr' := Rs_setAt (off := off) hr hv
        have hfs := foldl_set off (ρ y).cells.toList 0 arr (by simp; omega)
        obtain ⟨arr', k1, k2, k3⟩ := fill_sound hev parts parts' _ cs' (((ρ y).cells.toList.zipIdx 0).foldl (fun cs p => cs.setIfInBounds (off + p.2) p.1) arr) h3 hf (by
          rw [hfs]; simpa using hr')
        refine ⟨arr', ?_, k2, by rw [k3, setAt_length (by omega)]⟩
        simp only [List.map_cons, Instr.fill, h1]
        rw [if_neg (by simp; omega)]
        rw [← k1]
        congr 1
        rw [← Array.foldl_toList]
        simp
      · cases hf
    · cases hf


theorem fieldsOf_eq {P : Program} {t : TypeId} {fds : Array Field} (h : P.underlying t = some (.struct fds)) : P.fieldsOf t = fds := by
  simp [Program.fieldsOf, h]
mutual
theorem eqTree_sound : ∀ (e : EqT) (d : Nat) (t : TypeId) (x y : PV) (vx vy : Value) (r : Bool), e.depth ≤ d → okEq F.P e t = true → eqTree e x y = some r → RP F c x vx → RP F c y vy →
    ∀ w, (Op.equalIn (d + 1) t vx vy).run F.P w = .ok r w
  | .int, d, t, x, y, vx, vy, r, _, ho, h, hx, hy, w => by
    simp only [okEq] at ho
    split at ho <;> try (cases ho; done)
    rename_i k ht
    cases x <;> try (simp [eqTree] at h; done)
    cases y <;> try (simp [eqTree] at h; done)
    simp only [eqTree] at h
    simp only [RP] at hx hy; subst hx hy
    split at h <;> try (cases h; done)
    rename_i hk
    obtain rfl := Option.some.inj h
    simp [Op.equalIn, run_underlying ht, hk]
  | .bool, d, t, x, y, vx, vy, r, _, ho, h, hx, hy, w => by
    simp only [okEq] at ho
    split at ho <;> try (cases ho; done)
    rename_i ht
    cases x <;> try (simp [eqTree] at h; done)
    cases y <;> try (simp [eqTree] at h; done)
    simp only [eqTree] at h
    simp only [RP] at hx hy; subst hx hy
    obtain rfl := Option.some.inj h
    simp [Op.equalIn, run_underlying ht]
  | .str, d, t, x, y, vx, vy, r, _, ho, h, hx, hy, w => by
    simp only [okEq] at ho
    split at ho <;> try (cases ho; done)
    rename_i ht
    cases x <;> try (simp [eqTree] at h; done)
    cases y <;> try (simp [eqTree] at h; done)
    simp only [eqTree] at h
    simp only [RP] at hx hy; subst hx hy
    obtain rfl := Option.some.inj h
    simp only [Op.equalIn, Sem.run_bind, run_underlying ht, Result.andThen_ok, Sem.run_pure, beq_toListBytes, toList_bytes]
  | .struct fs, d, t, x, y, vx, vy, r, hd, ho, h, hx, hy, w => by
    simp only [okEq] at ho
    split at ho <;> try (cases ho; done)
    rename_i fds ht
    simp only [Bool.and_eq_true, beq_iff_eq] at ho
    cases x <;> try (simp [eqTree] at h; done)
    cases y <;> try (simp [eqTree] at h; done)
    rename_i xs ys
    simp only [eqTree] at h
    simp only [RP] at hx hy
    obtain ⟨us, rfl, hus⟩ := hx
    obtain ⟨zs, rfl, hzs⟩ := hy
    simp only [EqT.depth] at hd
    obtain ⟨d, rfl⟩ : ∃ d', d = d' + 1 := ⟨d - 1, by omega⟩
    rw [run_equalIn_struct w (d + 1) t _ _ (by rw [fieldsOf_eq ht]; exact ht) ho.1, fieldsOf_eq ht]
    exact eqFs_sound fs d fds.toList xs ys us zs r (by omega) ho.2 h hus hzs w
theorem eqFs_sound : ∀ (fs : List (Nat × Nat × EqT)) (d : Nat) (fds : List Field) (xs ys : List PV) (us zs : List Value) (r : Bool), EqT.depths fs ≤ d → okEqFs F.P fs fds = true → eqFs fs xs ys = some r → RPs F c xs us → RPs F c ys zs →
    ∀ w, (Op.eqFields (d + 1) us.toArray zs.toArray fds).run F.P w = .ok r w
  | [], d, [], xs, ys, us, zs, r, _, _, h, _, _, w => by
    simp only [eqFs] at h
    obtain rfl := Option.some.inj h
    simp [Op.eqFields]
  | [], _, _ :: _, _, _, _, _, _, _, ho, _, _, _, _ => by simp [okEqFs] at ho
  | _ :: _, _, [], _, _, _, _, _, _, ho, _, _, _, _ => by simp [okEqFs] at ho
  | (o, n, e) :: fs, d, f :: fds, xs, ys, us, zs, r, hd, ho, h, hx, hy, w => by
    simp only [okEqFs, Bool.and_eq_true, decide_eq_true_eq] at ho
    obtain ⟨⟨⟨⟨⟨h1, h2⟩, h3⟩, h4⟩, h5⟩, h6⟩ := ho
    simp only [EqT.depths] at hd
    simp only [eqFs] at h
    split at h <;> try (cases h; done)
    rename_i x y hpx hpy
    split at h <;> try (cases h; done)
    rename_i b b' hb hb'
    obtain rfl := Option.some.inj h
    obtain ⟨vx, k1, k2⟩ := run_partP hpx h4 h3 hx w
    obtain ⟨vy, k3, k4⟩ := run_partP hpy h4 h3 hy w
    simp only [R] at k2 k4
    have k5 := eqTree_sound e d f.type x y vx vy b (by omega) h5 hb k2 k4 w
    have k6 := eqFs_sound fs d fds xs ys us zs b' (by omega) h6 hb' hx hy w
    simp only [Op.eqFields, h1, ne_eq, not_false_eq_true, if_true, Sem.run_bind, h2, k1, k3, k5, Result.andThen_ok]
    cases b
    · simp
    · simp [k6]
end
end
end Hx
