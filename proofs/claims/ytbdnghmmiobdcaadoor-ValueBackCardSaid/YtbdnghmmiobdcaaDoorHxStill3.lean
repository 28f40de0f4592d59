/-
  HxStill3: one theorem for all still operations.
-/
import Derived.Test.YtbdnghmmiobdcaaDoorHxOk
import Derived.Laws.Sem
import Derived.Laws.Entries
import Derived.Laws.Cells
import Derived.Laws.StructEq
import Derived.Laws.Small
import Derived.Laws.Tables
import Derived.Laws.BytesString
import Derived.WideLaws
import Derived.Laws.Externs
import Derived.Lib.UnsafeStr
import Derived.Lib.Builder
import Derived.LaidEqlPtr
namespace Hx
open Go
set_option linter.unusedSimpArgs false

theorem bytes_eq {b : ByteArray} {s : List UInt8} (h : s = b.data.toList) : b = ⟨s.toArray⟩ := by
  subst h; cases b; simp
theorem toList_bytes (s : List UInt8) : ByteArray.toList ⟨s.toArray⟩ = s := by
  simp
theorem size_bytes (s : List UInt8) : ByteArray.size ⟨s.toArray⟩ = s.length := by
  simp [ByteArray.size]

section
variable {F : Fix} {c : Cx}
mutual
theorem okV_sound : ∀ (x : PV) (v : Value), okV x v = true → RP F c x v
  | .bool a, v, h => by cases v <;> simp [okV, RP] at h ⊢; exact h.symm
  | .int k a, v, h => by cases v <;> simp [okV, RP] at h ⊢; exact ⟨h.1.symm, h.2.symm⟩
  | .str s, v, h => by cases v <;> simp [okV, RP] at h ⊢; exact bytes_eq h
  | .agg cs, v, h => by
    cases v <;> simp [okV, RP] at h ⊢
    rename_i arr
    exact ⟨arr.toList, by simp, okVs_sound cs _ h⟩
  | .vals _ _, v, h => by cases v <;> simp [okV] at h
  | .nils, v, h => by
    unfold okV at h
    split at h <;> simp_all [RP]
  | .nilp, v, h => by
    unfold okV at h
    split at h <;> simp_all [RP]
  | .nilm, v, h => by
    unfold okV at h
    split at h <;> simp_all [RP]
  | .nilf, v, h => by cases v <;> simp [okV, RP] at h ⊢
  | .nili, v, h => by cases v <;> simp [okV, RP] at h ⊢
  | .fn _, v, h => by cases v <;> simp [okV] at h
  | .iface _ _, v, h => by cases v <;> simp [okV] at h
theorem okVs_sound : ∀ (xs : List PV) (ys : List Value), okVs xs ys = true → RPs F c xs ys
  | [], [], _ => by simp [RPs]
  | [], _ :: _, h => by simp [okVs] at h
  | _ :: _, [], h => by simp [okVs] at h
  | x :: xs, y :: ys, h => by
    simp [okVs] at h
    simp only [RPs]
    exact ⟨y, ys, rfl, okV_sound x y h.1, okVs_sound xs ys h.2⟩
end

/-- What is asked of the readings of the operands. -/
def Evs (F : Fix) (c : Cx) (ev : X → AV) (ρ : Operand → Value) : Prop := ∀ x y, okX F x y = true → R F c (ev x) (ρ y)

theorem Evs.list {ev : X → AV} {ρ : Operand → Value} (h : Evs F c ev ρ) : ∀ (xs : List X) (ys : List Operand), okXs F xs ys = true → Rs F c (xs.map ev) (ys.map ρ)
  | [], [], _ => by simp [Rs]
  | [], _ :: _, h' => by simp [okXs] at h'
  | _ :: _, [], h' => by simp [okXs] at h'
  | x :: xs, y :: ys, h' => by
    simp [okXs] at h'
    simp only [List.map_cons, Rs]
    exact ⟨_, _, rfl, h x y h'.1, h.list xs ys h'.2⟩

theorem R_bool {b : Bool} {v : Value} (h : R F c (.p (.bool b)) v) : v = .bool b := by simpa only [R, RP] using h
theorem R_int {k : IntKind} {n : Int} {v : Value} (h : R F c (.p (.int k n)) v) : v = .int k n := by simpa only [R, RP] using h
theorem R_str {s : List UInt8} {v : Value} (h : R F c (.p (.str s)) v) : v = .string ⟨s.toArray⟩ := by simpa only [R, RP] using h
theorem R_asInt {x : AV} {n : Int} {v : Value} (h : R F c x v) (hn : asInt x = some n) : ∃ k, v = .int k n := by
  unfold asInt at hn
  split at hn
  · rename_i k m
    obtain rfl := Option.some.inj hn
    exact ⟨k, R_int h⟩
  · exact absurd hn (by simp)
theorem R_asNat {x : AV} {n : Nat} {v : Value} (h : R F c x v) (hn : asNat x = some n) : ∃ k, v = .int k n := by
  unfold asNat at hn
  split at hn
  · rename_i m hm
    obtain ⟨k, rfl⟩ := R_asInt h hm
    split at hn
    · obtain rfl := Option.some.inj hn
      exact ⟨k, by rw [Int.toNat_of_nonneg (by assumption)]⟩
    · exact absurd hn (by simp)
  · exact absurd hn (by simp)

/-! ### numbers and texts -/
def valOf : PV → Value
  | .int k n => .int k n
  | .bool b => .bool b
  | .str s => .string ⟨s.toArray⟩
  | _ => .tuple #[]

theorem run_binI {op : BinOp} {k k' : IntKind} {x y : Int} {r : PV} (h : binI op k x k' y = some r) (t : TypeId) (P : Program) (w : World) :
    (binOp op t (.int k x) (.int k' y)).run P w = .ok (valOf r) w ∧ ∀ (F : Fix) (c : Cx), RP F c r (valOf r) := by
  cases op <;> simp only [binI] at h
  case shl =>
    split at h
    · exact absurd h (by simp)
    · rename_i hy
      obtain rfl := Option.some.inj h
      exact ⟨by simp only [binOp, Op.shift, if_neg hy, Sem.run_pure, valOf], fun _ _ => by simp [RP, valOf]⟩
  case shr =>
    split at h
    · exact absurd h (by simp)
    · rename_i hy
      obtain rfl := Option.some.inj h
      exact ⟨by simp only [binOp, Op.shift, if_neg hy, Sem.run_pure, valOf], fun _ _ => by simp [RP, valOf]⟩
  case quo | rem =>
    split at h
    · rename_i hk
      subst hk
      simp only [arithI] at h
      split at h
      · rename_i r' hr
        split at hr
        · exact absurd hr (by simp)
        · rename_i hy
          obtain rfl := Option.some.inj hr
          obtain rfl := Option.some.inj h
          exact ⟨by simp [binOp, Op.intDiv, hy, valOf], fun _ _ => by simp [RP, valOf]⟩
      · exact absurd h (by simp)
    · exact absurd h (by simp)
  all_goals
    split at h
    · rename_i hk
      subst hk
      simp only [arithI, cmpI, bitsI] at h
      obtain rfl := Option.some.inj h
      exact ⟨by simp [binOp, Op.intArith, Op.intBits, Op.intCmp, valOf], fun _ _ => by simp [RP, valOf]⟩
    · exact absurd h (by simp)

theorem run_binS {op : BinOp} {x y : List UInt8} {r : PV} (h : binS op x y = some r) (t : TypeId) (P : Program) (w : World) :
    (binOp op t (.string ⟨x.toArray⟩) (.string ⟨y.toArray⟩)).run P w = .ok (valOf r) w ∧ ∀ (F : Fix) (c : Cx), RP F c r (valOf r) := by
  cases op <;> simp only [binS] at h <;> try (cases h; done)
  case add =>
    split at h
    · rename_i hl
      obtain rfl := Option.some.inj h
      refine ⟨?_, fun _ _ => by simp [RP, valOf]⟩
      have hl' : ¬ (((ByteArray.size ⟨x.toArray⟩ + ByteArray.size ⟨y.toArray⟩ : Nat) : Int) > IntKind.i64.max) := by
        rw [size_bytes, size_bytes]
        have : IntKind.i64.max = 9223372036854775807 := by decide
        rw [this]
        unfold strLim at hl
        omega
      simp only [binOp, Op.stringOp, if_neg hl', Sem.run_pure, valOf]
      have : (⟨x.toArray⟩ : ByteArray) ++ ⟨y.toArray⟩ = ⟨(x ++ y).toArray⟩ := by apply ByteArray.ext; simp
      rw [this]
    · exact absurd h (by simp)
  all_goals
    obtain rfl := Option.some.inj h
    exact ⟨by simp only [binOp, Op.stringOp, Sem.run_pure, toList_bytes, valOf], fun _ _ => by simp [RP, valOf]⟩

theorem run_binV {op : BinOp} {a b r : AV} (h : binV op a b = some r) {va vb : Value} (ha : R F c a va) (hb : R F c b vb) (t : TypeId) (x y : Operand) (P : Program) (w : World) :
    ∃ v, (do eqGuard op t x y va vb; binOp op t va vb : Sem Value).run P w = .ok v w ∧ R F c r v := by
  unfold binV at h
  split at h
  · rename_i k x1 k' y1
    obtain rfl := R_int ha
    obtain rfl := R_int hb
    split at h
    · rename_i r' hr
      obtain rfl := Option.some.inj h
      obtain ⟨hv, hR⟩ := run_binI hr t P w
      refine ⟨valOf r', ?_, by simp only [R]; exact hR F c⟩
      have hg : (eqGuard op t x y (.int k x1) (.int k' y1)).run P w = .ok () w := by
        unfold eqGuard; cases op <;> simp
      simp only [Sem.run_bind, hg, Result.andThen_ok, hv]
    · exact absurd h (by simp)
  · rename_i x1 y1
    obtain rfl := R_str ha
    obtain rfl := R_str hb
    split at h
    · rename_i r' hr
      obtain rfl := Option.some.inj h
      obtain ⟨hv, hR⟩ := run_binS hr t P w
      refine ⟨valOf r', ?_, by simp only [R]; exact hR F c⟩
      have hg : (eqGuard op t x y (.string ⟨x1.toArray⟩) (.string ⟨y1.toArray⟩)).run P w = .ok () w := by
        unfold eqGuard; cases op <;> simp
      simp only [Sem.run_bind, hg, Result.andThen_ok, hv]
    · exact absurd h (by simp)
  · exact absurd h (by simp)

theorem run_unV {op : UnOp} {a r : AV} (h : unV op a = some r) {va : Value} (ha : R F c a va) (P : Program) (w : World) :
    ∃ v, (Op.unary op va).run P w = .ok v w ∧ R F c r v := by
  unfold unV at h
  split at h
  · rename_i k n
    obtain rfl := R_int ha
    cases op <;> simp only [bitsI] at h <;> try (cases h; done)
    · obtain rfl := Option.some.inj h
      exact ⟨.int k (k.wrap (0 - n)), by simp [Op.unary, Op.intArith], by simp [R, RP]⟩
    · obtain rfl := Option.some.inj h
      exact ⟨valOf (.int k (k.wrap (BitVec.ofInt k.bits (if k.signed then -1 else k.max) ^^^ BitVec.ofInt k.bits n).toNat)), by simp only [Op.unary, Op.intBits, Sem.run_pure, valOf], by simp only [R, RP, valOf]⟩
  · rename_i b
    obtain rfl := R_bool ha
    cases op <;> simp only at h <;> try (cases h; done)
    obtain rfl := Option.some.inj h
    exact ⟨.bool (!b), by simp [Op.unary], by simp [R, RP]⟩
  · exact absurd h (by simp)

/-! ### parts of values and of memory -/
theorem safe_cells {b o : Nat} : ∀ {xs : List PV}, RPcells F c b o xs → ∀ {i : Nat} {x : PV}, xs[i]? = some x → ∃ y, c.w.cell? ⟨b, o + i, none⟩ = some y ∧ RP F c x y
  | [], _, i, x, hx => by simp at hx
  | z :: xs, h, i, x, hx => by
    simp only [RPcells] at h
    obtain ⟨⟨h1, hf, y, h2, h3⟩, h4⟩ := h
    cases i with
    | zero => simp at hx; subst hx; exact ⟨y, by simpa using h2, h3⟩
    | succ i => simp at hx; obtain ⟨y', h5, h6⟩ := safe_cells h4 hx; exact ⟨y', by rw [← h5]; congr 2; omega, h6⟩
/-- The values in cells that are read. -/
theorem cells_vals {b o : Nat} : ∀ {xs : List PV}, RPcells F c b o xs → ∃ ys : List Value, RPs F c xs ys ∧ ∀ j v, ys[j]? = some v → c.w.cell? ⟨b, o + j, none⟩ = some v
  | [], _ => ⟨[], by simp [RPs], by simp⟩
  | z :: xs, h => by
    simp only [RPcells] at h
    obtain ⟨⟨h1, hf, y, h2, h3⟩, h4⟩ := h
    obtain ⟨ys, k1, k2⟩ := cells_vals h4
    refine ⟨y :: ys, by simp only [RPs]; exact ⟨y, ys, rfl, h3, k1⟩, ?_⟩
    intro j v hj
    cases j with
    | zero => simp at hj; subst hj; simpa using h2
    | succ j => simp at hj; rw [← k2 j v hj]; congr 2; omega
theorem RPcells_drop {b : Nat} : ∀ (k : Nat) {o : Nat} {xs : List PV}, RPcells F c b o xs → RPcells F c b (o + k) (xs.drop k)
  | 0, _, _, h => by simpa using h
  | k + 1, o, [], _ => by simp [RPcells]
  | k + 1, o, x :: xs, h => by
    simp only [RPcells] at h
    have := RPcells_drop k h.2
    rw [show o + (k + 1) = o + 1 + k by omega]
    simpa using this
theorem RPcells_take {b : Nat} : ∀ (k : Nat) {o : Nat} {xs : List PV}, RPcells F c b o xs → RPcells F c b o (xs.take k)
  | 0, _, _, _ => by simp [RPcells]
  | k + 1, o, [], _ => by simp [RPcells]
  | k + 1, o, x :: xs, h => by
    simp only [RPcells] at h
    simp only [List.take_succ_cons, RPcells]
    exact ⟨h.1, RPcells_take k h.2⟩
theorem addr_add {a : Addr} (h : a.spot = none) (n : Nat) : a.add n = ⟨a.block, a.off + n, none⟩ := by
  unfold Addr.add
  split
  · rename_i hn; subst hn; cases a; simp_all
  · cases a; simp_all
theorem run_agg {P : Program} {t : TypeId} {agg : Bool} (h : aggOf P t = some agg) (w : World) : (isAgg t).run P w = .ok agg w := by
  unfold aggOf at h
  unfold isAgg
  cases hu : P.underlying t with
  | none => simp [hu] at h
  | some d =>
    simp only [Sem.run_bind, run_underlying hu, Result.andThen_ok]
    cases d <;> simp [hu] at h <;> subst h <;> simp
theorem run_size {P : Program} {t : TypeId} {n : Nat} (h : sizeO P t = some n) (w : World) : (Go.sizeOf t).run P w = Result.ok n w := by
  unfold sizeO at h
  unfold Go.sizeOf typeInfo
  cases hi : P.info? t with
  | none => simp [hi] at h
  | some i => simp [hi] at h; simp [hi, h]

/-- A part of a value. -/
theorem run_partP {n off : Nat} {agg : Bool} {cs : List PV} {r : AV} (h : partP n agg cs off = some r) {t : TypeId} (ha : aggOf F.P t = some agg) (hs : sizeO F.P t = some n)
    {ys : List Value} (hy : RPs F c cs ys) (w : World) : ∃ v, (part t ys.toArray off).run F.P w = .ok v w ∧ R F c r v := by
  unfold partP at h
  unfold part
  simp only [Sem.run_bind, run_agg ha, Result.andThen_ok]
  cases agg with
  | true =>
    simp only [if_true] at h
    obtain rfl := Option.some.inj h
    refine ⟨.agg ((ys.drop off).take n).toArray, ?_, ?_⟩
    · simp [run_size hs]
    · simp only [R, RP]
      exact ⟨_, rfl, RPs_take n (RPs_drop off hy)⟩
  | false =>
    simp only [Bool.false_eq_true, if_false] at h
    split at h
    · rename_i x hx
      obtain rfl := Option.some.inj h
      obtain ⟨y, h1, h2⟩ := RPs_get hy hx
      refine ⟨y, ?_, by simpa only [R] using h2⟩
      simp [h1]
    · cases h
theorem run_partV {n off : Nat} {agg : Bool} {cs : List AV} {r : AV} (h : partV n agg cs off = some r) {t : TypeId} (ha : aggOf F.P t = some agg) (hs : sizeO F.P t = some n)
    {ys : List Value} (hy : Rs F c cs ys) (w : World) : ∃ v, (part t ys.toArray off).run F.P w = .ok v w ∧ R F c r v := by
  unfold partV at h
  unfold part
  simp only [Sem.run_bind, run_agg ha, Result.andThen_ok]
  cases agg with
  | true =>
    simp only [if_true] at h
    obtain rfl := Option.some.inj h
    refine ⟨.agg ((ys.drop off).take n).toArray, ?_, ?_⟩
    · simp [run_size hs]
    · exact R_mkAgg (Rs_take n (Rs_drop off hy))
  | false =>
    simp only [Bool.false_eq_true, if_false] at h
    obtain ⟨y, h1, h2⟩ := Rs_get hy h
    refine ⟨y, ?_, h2⟩
    simp [h1]

/-- The rows of a slice that is read. -/
theorem RProws_get {n : Nat} {base : Option Addr} : ∀ {rows : List (List PV)} {i : Nat}, RProws F c n base i rows → ∀ {j : Nat} {row : List PV}, rows[j]? = some row →
    row.length = n ∧ ∃ a, base = some a ∧ a.spot = none ∧ RPcells F c a.block (a.off + (i + j) * n) row
  | [], i, _, j, row, hj => by simp at hj
  | r :: rows, i, h, j, row, hj => by
    simp only [RProws] at h
    cases j with
    | zero => simp at hj; subst hj; simpa using h.1
    | succ j => simp at hj; have := RProws_get h.2 hj; rwa [show i + (j + 1) = i + 1 + j by omega]
theorem RProws_drop {n : Nat} {base : Option Addr} : ∀ (k : Nat) {rows : List (List PV)} {i : Nat}, RProws F c n base i rows → RProws F c n base (i + k) (rows.drop k)
  | 0, _, _, h => by simpa using h
  | k + 1, [], i, _ => by simp [RProws]
  | k + 1, r :: rows, i, h => by
    simp only [RProws] at h
    have := RProws_drop k h.2
    rw [show i + (k + 1) = i + 1 + k by omega]
    simpa using this
theorem RProws_take {n : Nat} {base : Option Addr} : ∀ (k : Nat) {rows : List (List PV)} {i : Nat}, RProws F c n base i rows → RProws F c n base i (rows.take k)
  | 0, _, _, _ => by simp [RProws]
  | k + 1, [], i, _ => by simp [RProws]
  | k + 1, r :: rows, i, h => by
    simp only [RProws] at h
    simp only [List.take_succ_cons, RProws]
    exact ⟨h.1, RProws_take k h.2⟩
theorem RProws_shift {n : Nat} {a : Addr} (ha : a.spot = none) (k : Nat) : ∀ {rows : List (List PV)} {i : Nat}, RProws F c n (some a) (i + k) rows → RProws F c n (some (a.add (k * n))) i rows
  | [], i, _ => by simp [RProws]
  | r :: rows, i, h => by
    simp only [RProws] at h ⊢
    obtain ⟨⟨h1, a', h2, h3, h4⟩, h5⟩ := h
    obtain rfl := Option.some.inj h2
    refine ⟨⟨h1, _, rfl, by rw [addr_add ha], ?_⟩, RProws_shift ha k (by rwa [show i + 1 + k = i + k + 1 by omega])⟩
    rw [addr_add ha]
    rw [show a.off + k * n + i * n = a.off + (i + k) * n by rw [Nat.add_mul]; omega]
    exact h4

theorem cells_sound {x : AV} {vs : List AV} (h : x.cells = some vs) {v : Value} (hv : R F c x v) : Rs F c vs v.cells.toList := by
  cases x with
  | unk => simp [AV.cells] at h
  | agg cs =>
    simp [AV.cells] at h; subst h
    simp only [R] at hv
    obtain ⟨ys, rfl, hys⟩ := hv
    simpa [Value.cells] using hys
  | p x =>
    simp [AV.cells] at h; subst h
    cases x with
    | agg cs =>
      simp only [R, RP] at hv
      obtain ⟨ys, rfl, hys⟩ := hv
      simpa [Value.cells, PV.cells] using Rs_p hys
    | _ =>
      have hc : v.cells = #[v] := by
        simp only [R, RP] at hv
        first
        | (subst hv; rfl)
        | (obtain ⟨_, _, rfl, _⟩ := hv; rfl)
        | (obtain ⟨_, rfl, _⟩ := hv; rfl)
      rw [hc]
      simp only [PV.cells, List.map_cons, List.map_nil, Rs]
      exact ⟨v, [], rfl, hv, rfl⟩
  | ty t x =>
    have hc : v.cells = #[v] ∧ vs = [.ty t x] := by
      cases x <;> simp [AV.cells] at h <;> subst h <;> simp only [R] at hv
      · obtain ⟨⟨⟨_, _, rfl, _⟩, _⟩, _⟩ := hv; exact ⟨rfl, rfl⟩
      · obtain ⟨⟨_, rfl⟩, _⟩ := hv; exact ⟨rfl, rfl⟩
    obtain ⟨hc, rfl⟩ := hc
    rw [hc]
    simp only [Rs]
    exact ⟨v, [], rfl, hv, rfl⟩
  | _ =>
    have hc : v.cells = #[v] := by
      simp only [R] at hv
      first
      | (subst hv; rfl)
      | (obtain ⟨_, _, _, rfl, _⟩ := hv; rfl)
      | (obtain ⟨⟨_, _, rfl, _⟩, _⟩ := hv; rfl)
      | (obtain ⟨_, _, _, rfl, _⟩ := hv; rfl)
      | (obtain ⟨_, rfl, _⟩ := hv; rfl)
      | (obtain ⟨_, rfl⟩ := hv; rfl)
    simp [AV.cells] at h; subst h
    rw [hc]
    simp only [Rs]
    exact ⟨v, [], rfl, hv, rfl⟩

theorem foldl_set (off : Nat) : ∀ (vs : List Value) (k : Nat) (arr : Array Value), off + k + vs.length ≤ arr.size →
    ((vs.zipIdx k).foldl (fun cs p => cs.setIfInBounds (off + p.2) p.1) arr).toList = arr.toList.take (off + k) ++ vs ++ arr.toList.drop (off + k + vs.length)
  | [], k, arr, h => by simp
  | v :: vs, k, arr, h => by
    simp only [List.zipIdx_cons, List.foldl_cons]
    simp only [List.length_cons] at h
    rw [foldl_set off vs (k + 1) (arr.setIfInBounds (off + k) v) (by simp; omega)]
    simp only [Array.toList_setIfInBounds, List.length_cons]
    rw [List.take_set, List.drop_set_of_lt (by omega)]
    rw [show off + (k + 1) = (off + k) + 1 by omega]
    rw [List.take_succ_eq_append_getElem (by simp; omega), List.set_append_right _ _ (by simp; omega)]
    simp only [List.length_take, Array.length_toList]
    rw [show off + k - min (off + k) arr.size = 0 by omega]
    simp only [List.set_cons_zero, List.append_assoc, List.singleton_append, List.cons_append, List.nil_append]
    rw [show off + k + 1 + vs.length = off + k + (vs.length + 1) by omega]

theorem Rs_setAt {xs vs : List AV} {off : Nat} {ys us : List Value} (h : Rs F c xs ys) (k : Rs F c vs us) :
    Rs F c (setAt xs off vs) (ys.take off ++ us ++ ys.drop (off + us.length)) := by
  unfold setAt
  rw [Rs_length k]
  exact Rs_append (Rs_append (Rs_take off h) k) (Rs_drop _ h)

theorem setAt_length {xs vs : List AV} {off : Nat} (h : off + vs.length ≤ xs.length) : (setAt xs off vs).length = xs.length := by
  unfold setAt; simp; omega

theorem fill_sound {ev : X → AV} {ρ : Operand → Value} (hev : Evs F c ev ρ) {place : Nat → Option (Nat × Nat)} : ∀ (parts : List (Nat × Nat × X)) (parts' : List (Nat × Operand)) (cs cs' : List AV) (arr : Array Value),
    okPart F place parts parts' = true → fillParts ev cs parts = some cs' → Rs F c cs arr.toList →
    ∃ arr', Instr.fill place arr (parts'.map fun p => (p.1, ρ p.2)) = some arr' ∧ Rs F c cs' arr'.toList ∧ cs'.length = cs.length
  | [], [], cs, cs', arr, _, hf, hr => by
    simp [fillParts] at hf; subst hf
    exact ⟨arr, by simp [Instr.fill], hr, rfl⟩
  | [], _ :: _, _, _, _, h, _, _ => by simp [okPart] at h
  | _ :: _, [], _, _, _, h, _, _ => by simp [okPart] at h
  | (off, size, x) :: parts, (i, y) :: parts', cs, cs', arr, h, hf, hr => by
    simp only [okPart, Bool.and_eq_true, decide_eq_true_eq] at h
    obtain ⟨⟨h1, h2⟩, h3⟩ := h
    simp only [fillParts] at hf
    split at hf
    · rename_i vs hvs
      split at hf
      · rename_i hsz
        obtain ⟨hs1, hs2⟩ := hsz
        have hv := cells_sound hvs (hev _ _ h2)
        have hl := Rs_length hv
        have hla := Rs_length hr
        simp only [Array.length_toList] at hl hla
        have hr' := Rs_setAt (off := off) hr hv
        have hfs := foldl_set off (ρ y).cells.toList 0 arr (by simp; omega)
        obtain ⟨arr', k1, k2, k3⟩ := fill_sound hev parts parts' _ cs' (((ρ y).cells.toList.zipIdx 0).foldl (fun cs p => cs.setIfInBounds (off + p.2) p.1) arr) h3 hf (by
          rw [hfs]; simpa using hr')
        refine ⟨arr', ?_, k2, by rw [k3, setAt_length (by omega)]⟩
        simp only [List.map_cons, Instr.fill, h1]
        rw [if_neg (by simp; omega)]
        rw [← k1]
        congr 1
        rw [← Array.foldl_toList]
        simp
      · cases hf
    · cases hf

/-! ### equality of structs -/
theorem fieldsOf_eq {P : Program} {t : TypeId} {fds : Array Field} (h : P.underlying t = some (.struct fds)) : P.fieldsOf t = fds := by
  simp [Program.fieldsOf, h]
mutual
theorem eqTree_sound : ∀ (e : EqT) (d : Nat) (t : TypeId) (x y : PV) (vx vy : Value) (r : Bool), e.depth ≤ d → okEq F.P e t = true → eqTree e x y = some r → RP F c x vx → RP F c y vy →
    ∀ w, (Op.equalIn (d + 1) t vx vy).run F.P w = .ok r w
  | .int, d, t, x, y, vx, vy, r, _, ho, h, hx, hy, w => by
    simp only [okEq] at ho
    split at ho <;> try (cases ho; done)
    rename_i k ht
    cases x <;> try (simp [eqTree] at h; done)
    cases y <;> try (simp [eqTree] at h; done)
    simp only [eqTree] at h
    simp only [RP] at hx hy; subst hx hy
    split at h <;> try (cases h; done)
    rename_i hk
    obtain rfl := Option.some.inj h
    simp [Op.equalIn, run_underlying ht, hk]
  | .bool, d, t, x, y, vx, vy, r, _, ho, h, hx, hy, w => by
    simp only [okEq] at ho
    split at ho <;> try (cases ho; done)
    rename_i ht
    cases x <;> try (simp [eqTree] at h; done)
    cases y <;> try (simp [eqTree] at h; done)
    simp only [eqTree] at h
    simp only [RP] at hx hy; subst hx hy
    obtain rfl := Option.some.inj h
    simp [Op.equalIn, run_underlying ht]
  | .str, d, t, x, y, vx, vy, r, _, ho, h, hx, hy, w => by
    simp only [okEq] at ho
    split at ho <;> try (cases ho; done)
    rename_i ht
    cases x <;> try (simp [eqTree] at h; done)
    cases y <;> try (simp [eqTree] at h; done)
    simp only [eqTree] at h
    simp only [RP] at hx hy; subst hx hy
    obtain rfl := Option.some.inj h
    simp only [Op.equalIn, Sem.run_bind, run_underlying ht, Result.andThen_ok, Sem.run_pure, beq_toListBytes, toList_bytes]
  | .struct fs, d, t, x, y, vx, vy, r, hd, ho, h, hx, hy, w => by
    simp only [okEq] at ho
    split at ho <;> try (cases ho; done)
    rename_i fds ht
    simp only [Bool.and_eq_true, beq_iff_eq] at ho
    cases x <;> try (simp [eqTree] at h; done)
    cases y <;> try (simp [eqTree] at h; done)
    rename_i xs ys
    simp only [eqTree] at h
    simp only [RP] at hx hy
    obtain ⟨us, rfl, hus⟩ := hx
    obtain ⟨zs, rfl, hzs⟩ := hy
    simp only [EqT.depth] at hd
    obtain ⟨d, rfl⟩ : ∃ d', d = d' + 1 := ⟨d - 1, by omega⟩
    rw [run_equalIn_struct w (d + 1) t _ _ (by rw [fieldsOf_eq ht]; exact ht) ho.1, fieldsOf_eq ht]
    exact eqFs_sound fs d fds.toList xs ys us zs r (by omega) ho.2 h hus hzs w
theorem eqFs_sound : ∀ (fs : List (Nat × Nat × EqT)) (d : Nat) (fds : List Field) (xs ys : List PV) (us zs : List Value) (r : Bool), EqT.depths fs ≤ d → okEqFs F.P fs fds = true → eqFs fs xs ys = some r → RPs F c xs us → RPs F c ys zs →
    ∀ w, (Op.eqFields (d + 1) us.toArray zs.toArray fds).run F.P w = .ok r w
  | [], d, [], xs, ys, us, zs, r, _, _, h, _, _, w => by
    simp only [eqFs] at h
    obtain rfl := Option.some.inj h
    simp [Op.eqFields]
  | [], _, _ :: _, _, _, _, _, _, _, ho, _, _, _, _ => by simp [okEqFs] at ho
  | _ :: _, _, [], _, _, _, _, _, _, ho, _, _, _, _ => by simp [okEqFs] at ho
  | (o, n, e) :: fs, d, f :: fds, xs, ys, us, zs, r, hd, ho, h, hx, hy, w => by
    simp only [okEqFs, Bool.and_eq_true, decide_eq_true_eq] at ho
    obtain ⟨⟨⟨⟨⟨h1, h2⟩, h3⟩, h4⟩, h5⟩, h6⟩ := ho
    simp only [EqT.depths] at hd
    simp only [eqFs] at h
    split at h <;> try (cases h; done)
    rename_i x y hpx hpy
    split at h <;> try (cases h; done)
    rename_i b b' hb hb'
    obtain rfl := Option.some.inj h
    obtain ⟨vx, k1, k2⟩ := run_partP hpx h4 h3 hx w
    obtain ⟨vy, k3, k4⟩ := run_partP hpy h4 h3 hy w
    simp only [R] at k2 k4
    have k5 := eqTree_sound e d f.type x y vx vy b (by omega) h5 hb k2 k4 w
    have k6 := eqFs_sound fs d fds xs ys us zs b' (by omega) h6 hb' hx hy w
    simp only [Op.eqFields, h1, ne_eq, not_false_eq_true, if_true, Sem.run_bind, h2, k1, k3, k5, Result.andThen_ok]
    cases b
    · simp
    · simp [k6]
end
end
end Hx

namespace Hx
open Go
set_option linter.unusedSimpArgs false
section
variable {F : Fix} {c : Cx}

/-- A still operation: the world stays. -/
def Still (F : Fix) (c : Cx) (ρ : Operand → Value) (go : Oper) (r : AV) : Prop := ∃ y, (execOp ρ go).run F.P c.w = .ok (.value y) c.w ∧ R F c r y

theorem okX_opt {ev : X → AV} {ρ : Operand → Value} (hev : Evs F c ev ρ) {lo : Option X} {lo' : Option Operand} (h : okXo F lo lo' = true) :
    (lo = none ∧ lo' = none) ∨ ∃ x y, lo = some x ∧ lo' = some y ∧ R F c (ev x) (ρ y) := by
  cases lo <;> cases lo' <;> simp [okXo] at h
  · exact .inl ⟨rfl, rfl⟩
  · exact .inr ⟨_, _, rfl, rfl, hev _ _ h⟩

/-- The bounds of a cut, as the model reckons them; 'cap' is at least the length. -/
theorem run_bounds {ev : X → AV} {ρ : Operand → Value} (hev : Evs F c ev ρ) {lo hi : Option X} {lo' hi' : Option Operand} (h1 : okXo F lo lo' = true) (h2 : okXo F hi hi' = true) {len cap l h : Nat}
    (hb : bounds len (lo.map ev) (hi.map ev) = some (l, h)) (hc : len ≤ cap) (sl : Bool) (w : World) :
    (Instr.sliceBounds sl len cap (lo'.map ρ) (hi'.map ρ) none).run F.P w = .ok (l, h, cap) w ∧ l ≤ h ∧ h ≤ len := by
  have hsb : ∀ (k : IntKind) (i y : Nat) (code : BoundsCode), i ≤ y → (Instr.sliceBound (.int k i) y code).run F.P w = .ok i w := by
    intro k i y code hi
    simp only [Instr.sliceBound, asIntOf, Sem.run_bind, Sem.run_pure, Result.andThen_ok]
    rw [if_pos (by omega)]
    simp
  unfold bounds at hb
  split at hb
  · cases hb
  · rename_i h0 hh
    split at hb
    · rename_i hle
      split at hb
      · cases hb
      · rename_i l0 hl
        split at hb
        · rename_i hll
          simp only [Option.some.injEq, Prod.mk.injEq] at hb
          obtain ⟨rfl, rfl⟩ := hb
          refine ⟨?_, hll, hle⟩
          simp only [Instr.sliceBounds]
          rcases okX_opt hev h2 with ⟨rfl, rfl⟩ | ⟨x, y, rfl, rfl, hxy⟩
          · simp only [Option.map_none, Option.some.injEq] at hh
            subst hh
            rcases okX_opt hev h1 with ⟨rfl, rfl⟩ | ⟨x', y', rfl, rfl, hxy'⟩
            · simp only [Option.map_none, Option.some.injEq] at hl
              subst hl
              simp
            · simp only [Option.map_some] at hl
              obtain ⟨k, hk⟩ := R_asNat hxy' hl
              simp only [Option.map_none, Option.map_some, hk, Sem.run_bind, Sem.run_pure, Result.andThen_ok, Option.isSome_none]
              rw [hsb _ _ _ _ hll]
              simp
          · simp only [Option.map_some] at hh
            obtain ⟨k, hk⟩ := R_asNat hxy hh
            rcases okX_opt hev h1 with ⟨rfl, rfl⟩ | ⟨x', y', rfl, rfl, hxy'⟩
            · simp only [Option.map_none, Option.some.injEq] at hl
              subst hl
              simp only [Option.map_none, Option.map_some, hk, Sem.run_bind, Sem.run_pure, Result.andThen_ok]
              rw [hsb _ _ _ _ (by omega)]
              simp
            · simp only [Option.map_some] at hl
              obtain ⟨k', hk'⟩ := R_asNat hxy' hl
              simp only [Option.map_some, hk, hk', Sem.run_bind, Sem.run_pure, Result.andThen_ok, Option.isSome_none]
              rw [hsb _ _ _ _ (by omega)]
              simp only [Result.andThen_ok]
              rw [hsb _ _ _ _ hll]
              simp
        · cases hb
    · cases hb

theorem extract_bytes (s : List UInt8) (l h : Nat) : ByteArray.extract ⟨s.toArray⟩ l h = ⟨((s.take h).drop l).toArray⟩ := by
  apply ByteArray.ext
  simp [List.extract_eq_take_drop, List.drop_take]

theorem unBytes_cells {a : Addr} : ∀ {rows : List (List PV)} {s : List UInt8} {i : Nat}, unBytes rows = some s → RProws F c 1 (some a) i rows →
    ∃ ns : List Int, ns.length = rows.length ∧ s = ns.map (fun n => UInt8.ofNat n.toNat) ∧ (rows ≠ [] → a.spot = none) ∧ ∀ j v, (ns.map (Value.int .u8))[j]? = some v → c.w.cell? ⟨a.block, a.off + i + j, none⟩ = some v
  | [], s, i, h, _ => by
    simp [unBytes] at h; subst h
    exact ⟨[], rfl, rfl, by simp, by simp⟩
  | r :: rows, s, i, h, hr => by
    simp only [unBytes] at h
    split at h <;> try (cases h; done)
    rename_i b l hb hl
    obtain rfl := Option.some.inj h
    simp only [RProws] at hr
    obtain ⟨⟨h1, a', h2, h3, h4⟩, h5⟩ := hr
    obtain rfl := Option.some.inj h2
    obtain ⟨ns, k1, k2, k3, k4⟩ := unBytes_cells hl h5
    unfold unByte at hb
    split at hb <;> try (cases hb; done)
    rename_i n
    obtain rfl := Option.some.inj hb
    simp only [RPcells, RP] at h4
    obtain ⟨⟨_, _, y, h6, rfl⟩, _⟩ := h4
    refine ⟨n :: ns, by simp [k1], by simp [k2], fun _ => h3, ?_⟩
    intro j v hj
    cases j with
    | zero => simp at hj; subst hj; simpa using h6
    | succ j => simp only [List.map_cons, List.getElem?_cons_succ] at hj; rw [← k4 j v hj]; congr 2; omega

theorem run_toStr {rows : List (List PV)} {s : List UInt8} {base : Option Addr} {cap : Nat} (h : unBytes rows = some s) (hr : RProws F c 1 base 0 rows) :
    (Conv.bytesToString (.slice base rows.length cap)).run F.P c.w = .ok (.string ⟨s.toArray⟩) c.w := by
  cases base with
  | none =>
    cases rows with
    | nil => simp [unBytes] at h; subst h; simp [Conv.bytesToString]; rfl
    | cons r rows =>
      simp only [RProws] at hr
      obtain ⟨⟨_, a, h2, _⟩, _⟩ := hr
      cases h2
  | some a =>
    obtain ⟨ns, k1, k2, k3, k4⟩ := unBytes_cells h hr
    rw [run_bytesToString c.w a rows.length cap ns]
    · congr 2
      subst k2
      have : ∀ (ns : List Int) (b : ByteArray), ns.foldl (fun r n => r.push (UInt8.ofNat n.toNat)) b = ⟨(b.data.toList ++ ns.map fun n => UInt8.ofNat n.toNat).toArray⟩ := by
        intro ns
        induction ns with
        | nil => intro b; cases b; simp
        | cons n ns ih => intro b; simp only [List.foldl_cons, ih]; simp [ByteArray.push]
      rw [this]; simp
    · have hl : rows.length = (ns.map (Value.int .u8)).length := by simp [k1]
      rw [hl]
      apply run_loadCells_list
      intro j v hj
      have hne : rows ≠ [] := by
        intro e; subst e
        have : ns = [] := by cases ns <;> simp at k1 ⊢
        subst this; simp at hj
      rw [addr_add (k3 hne)]
      have := k4 j v hj
      simpa using this

/-- A slice that is read: what its value is. -/
theorem rowsOf_still {n : Nat} {x : AV} {rows : List (List PV)} (h : rowsOf n [] x = some rows) {v : Value} (hv : R F c x v) :
    (∃ base cap, v = .slice base rows.length cap ∧ RProws F c n base 0 rows) ∨ (∃ s, x = .p (.str s) ∧ n = 1 ∧ rows = byteRows s) := by
  unfold rowsOf at h
  split at h
  · obtain rfl := Option.some.inj h
    simp only [R, RP] at hv
    exact .inl ⟨none, 0, by simpa using hv, by simp [RProws]⟩
  · split at h <;> try (cases h; done)
    rename_i hn; subst hn
    obtain rfl := Option.some.inj h
    simp only [R, RP] at hv
    obtain ⟨base, cap, rfl, _, hr⟩ := hv
    exact .inl ⟨base, cap, rfl, hr⟩
  · split at h <;> try (cases h; done)
    rename_i hn; subst hn
    obtain rfl := Option.some.inj h
    simp only [R] at hv
    obtain ⟨⟨base, cap, rfl, _, hr⟩, _⟩ := hv
    exact .inl ⟨base, cap, rfl, hr⟩
  · split at h <;> try (cases h; done)
    rename_i hn
    obtain rfl := Option.some.inj h
    exact .inr ⟨_, rfl, hn, rfl⟩
  · split at h <;> try (cases h; done)
  · cases h

theorem run_cutRow {sl : TypeId} {e : TypeId} {n : Nat} (ht : F.P.underlying sl = some (.slice e)) (hs : sizeO F.P e = some n) {base : Option Addr} {len cap l h : Nat} {lo hi : Option Value}
    (hb : (Instr.sliceBounds true len cap lo hi none).run F.P c.w = .ok (l, h, cap) c.w) :
    (Instr.sliceAt sl (.slice base len cap) lo hi none).run F.P c.w = .ok (.slice (if cap = l then base else base.map (·.add (l * n))) (h - l) (cap - l)) c.w := by
  unfold Instr.sliceAt
  simp only [Sem.run_bind, run_underlying ht, Result.andThen_ok, Instr.slice, hb, run_size hs, Sem.run_pure]

/-- A piece of a slice that is read. -/
theorem rows_piece {n : Nat} {base : Option Addr} {rows : List (List PV)} {cap l h : Nat} (hr : RProws F c n base 0 rows) (hlh : l ≤ h) (hh : h ≤ rows.length) (hc : rows.length ≤ cap) :
    R F c (.p (.vals n ((rows.take h).drop l))) (.slice (if cap = l then base else base.map (·.add (l * n))) (h - l) (cap - l)) := by
  simp only [R, RP]
  have hlen : ((rows.take h).drop l).length = h - l := by simp; omega
  refine ⟨_, _, by rw [hlen], by rw [hlen]; omega, ?_⟩
  have h1 := RProws_drop l (RProws_take h hr)
  by_cases hz : (rows.take h).drop l = []
  · rw [hz]; simp [RProws]
  · have hlt : l < h := by
      rcases Nat.lt_or_ge l h with h2 | h2
      · exact h2
      · exfalso; apply hz; apply List.eq_nil_of_length_eq_zero; omega
    rw [if_neg (by omega)]
    generalize hq : (rows.take h).drop l = q at h1 hz
    cases q with
    | nil => exact absurd rfl hz
    | cons r q =>
      have h2 := h1
      simp only [RProws] at h2
      obtain ⟨⟨_, a, hb, ha, _⟩, _⟩ := h2
      subst hb
      exact RProws_shift ha l (by simpa using h1)
end
end Hx

namespace Hx
open Go
set_option linter.unusedSimpArgs false
section
variable {F : Fix} {c : Cx}

theorem find_idx {fn : Func} (hn : fn.name = "internal/bytealg.IndexByteString") : Extern.find fn = some Extern.BytealgIndexByte.indexByte := by
  have h1 : Extern.allGenericRows.lookup "internal/bytealg.IndexByteString" = none := by kernel_rfl
  have h2 : Extern.allTypedRows.lookup "internal/bytealg.IndexByteString" = none := by kernel_rfl
  have h3 : Extern.allRows.lookup "internal/bytealg.IndexByteString" = some Extern.BytealgIndexByte.indexByte := by kernel_rfl
  unfold Extern.find
  simp [hn, h1, h2, h3]
theorem find_noEsc {fn : Func} (hn : fn.name = "internal/abi.NoEscape") : Extern.find fn = some Extern.AbiNoEscape.same := by
  have h1 : Extern.allGenericRows.lookup "internal/abi.NoEscape" = none := by kernel_rfl
  have h2 : Extern.allTypedRows.lookup "internal/abi.NoEscape" = none := by kernel_rfl
  have h3 : Extern.allRows.lookup "internal/abi.NoEscape" = some Extern.AbiNoEscape.same := by kernel_rfl
  unfold Extern.find
  simp [hn, h1, h2, h3]
theorem run_ptr_nil_eql {P : Program} {w : World} {tp te : TypeId} (hp : P.underlying tp = some (.pointer te)) (p : Option Addr) :
    (binOp .eql tp (.pointer p) (.pointer none)).run P w = .ok (.bool p.isNone) w := by
  have h : ∀ d : Nat, (Op.equalIn (d + 1) tp (.pointer p) (.pointer none)).run P w = .ok p.isNone w := fun d => by
    cases p <;> simp [Op.equalIn, run_underlying hp]
  simp only [binOp]
  simp [Op.equal, Op.maxDepth, h 9999]
theorem run_ptr_nil_neq {P : Program} {w : World} {tp te : TypeId} (hp : P.underlying tp = some (.pointer te)) (p : Option Addr) :
    (binOp .neq tp (.pointer p) (.pointer none)).run P w = .ok (.bool (!p.isNone)) w := by
  have h : ∀ d : Nat, (Op.equalIn (d + 1) tp (.pointer p) (.pointer none)).run P w = .ok p.isNone w := fun d => by
    cases p <;> simp [Op.equalIn, run_underlying hp]
  simp only [binOp]
  simp [Op.equal, Op.maxDepth, h 9999]
theorem firstIdx_eq (s : List UInt8) (c : UInt8) : firstIdx ⟨s.toArray⟩ c = idxByte s c := by
  have h : ∀ (p : UInt8 → Bool) (s : List UInt8) (k : Nat) (g : Nat → Bool), (∀ i, i < s.length → g (k + i) = p (s.getD i 0)) → (List.range' k s.length).find? g = (s.findIdx? p).map (fun i => k + i) := by
    intro p s
    induction s with
    | nil => intro k g _; rfl
    | cons a s ih =>
      intro k g hg
      have h0 := hg 0 (by simp)
      simp only [Nat.add_zero, List.getD_cons_zero] at h0
      rw [List.length_cons, List.range'_succ, List.find?_cons, h0, List.findIdx?_cons]
      cases hp : p a
      · simp only [Bool.false_eq_true, if_false, cond_false]
        rw [ih (k + 1) g (by intro i hi; have := hg (i + 1) (by simp; omega); simpa [Nat.add_assoc, Nat.add_comm 1 i] using this)]
        cases s.findIdx? p <;> simp [Nat.add_assoc, Nat.add_comm 1]
      · simp
  unfold firstIdx idxByte
  have h2 := h (· == c) s 0 (fun i => (ByteArray.mk s.toArray)[i]! == c) (by
    intro i hi
    have hs : i < (ByteArray.mk s.toArray).size := by simpa [ByteArray.size] using hi
    simp only [Nat.zero_add]
    congr 1
    rw [getElem!_pos (ByteArray.mk s.toArray) i hs]
    simp [List.getD, hi]
    rfl)
  have h3 : (List.range (ByteArray.mk s.toArray).size) = List.range' 0 s.length := by simp [ByteArray.size, List.range_eq_range']
  rw [h3]
  simp only [h2, Nat.zero_add, Option.map_id']
  cases s.findIdx? (fun x => x == c) <;> simp
theorem R_indexAddr {x : AV} {v : Value} : R F c x v → True := fun _ => trivial

def isNilI : Value → Bool
  | .nilIface => true
  | _ => false
theorem run_eqNil (neg : Bool) (x' : Operand) {t : TypeId} {ms : Array (String × TypeId)} (hu : F.P.underlying t = some (.interface ms)) (v : Value) (hv : (∃ t' y, v = Value.iface t' y) ∨ v = .nilIface) :
    (do eqGuard (bif neg then .neq else .eql) t x' (.const .nilIface) v .nilIface; binOp (bif neg then .neq else .eql) t v .nilIface : Sem Value).run F.P c.w =
        .ok (.bool (bif neg then !isNilI v else isNilI v)) c.w := by
  have hm : F.P.underlying t = some (.interface (F.P.methodsAt t)) := by simp [Program.methodsAt, hu]
  rcases hv with ⟨t', y, rfl⟩ | rfl
  · cases neg
    · simp [eqGuard, run_eql_held_nil _ _ _ _ hm, isNilI]
    · simp [eqGuard, run_neq_held_nil _ _ _ _ hm, isNilI]
  · cases neg
    · simp [eqGuard, run_eql_nil_nil _ _ hm, isNilI]
    · simp [eqGuard, run_neq_nil_nil _ _ hm, isNilI]

set_option maxHeartbeats 4000000 in
theorem still_sound {ev : X → AV} {ρ : Operand → Value} (hev : Evs F c ev ρ) (hρ : ∀ v, ρ (.const v) = v) (o : XOp) (go : Oper) (hok : okOp F o go.op = true) {r : AV} (h : denStill ev o = some r) : Still F c ρ go r := by
  rcases go with ⟨dst, op, type, pos, after, guard⟩
  dsimp only at hok
  unfold Still execOp
  dsimp only
  cases o with
  | mov x =>
    simp only [denStill] at h
    obtain rfl := Option.some.inj h
    cases op <;> try (simp [okOp] at hok; done)
    all_goals try dsimp only
    all_goals
      simp only [okOp] at hok
      exact ⟨_, by simp, hev _ _ hok⟩
  | pick cc a b =>
    cases op <;> try (simp [okOp] at hok; done)
    all_goals try dsimp only
    simp only [okOp, Bool.and_eq_true] at hok
    obtain ⟨⟨h1, h2⟩, h3⟩ := hok
    simp only [denStill] at h
    split at h <;> try (cases h; done)
    rename_i t ht
    obtain rfl := Option.some.inj h
    have hc := hev _ _ h1
    rw [ht] at hc
    have hc := R_bool hc
    cases t
    · exact ⟨_, by simp [hc, asBool], hev _ _ h3⟩
    · exact ⟨_, by simp [hc, asBool], hev _ _ h2⟩
  | bin op' x y =>
    cases op <;> try (simp [okOp] at hok; done)
    all_goals try dsimp only
    simp only [okOp, Bool.and_eq_true, decide_eq_true_eq] at hok
    obtain ⟨⟨rfl, h2⟩, h3⟩ := hok
    simp only [denStill] at h
    rename_i t x' y' _
    obtain ⟨v, h4, h5⟩ := run_binV h (hev _ _ h2) (hev _ _ h3) t x' y' F.P c.w
    refine ⟨v, ?_, h5⟩
    rw [Sem.run_bind, h4]; simp
  | eqB neg x y =>
    cases op <;> try (simp [okOp] at hok; done)
    all_goals try dsimp only
    simp only [okOp, Bool.and_eq_true, decide_eq_true_eq] at hok
    obtain ⟨⟨⟨h0, h1⟩, h2⟩, h3⟩ := hok
    simp only [denStill] at h
    split at h <;> try (cases h; done)
    rename_i a b ha hb
    obtain rfl := Option.some.inj h
    split at h1 <;> try (cases h1; done)
    rename_i hu
    have ha' := hev _ _ h2; have hb' := hev _ _ h3
    rw [ha] at ha'; rw [hb] at hb'
    rw [R_bool ha', R_bool hb']
    subst h0
    cases neg
    · refine ⟨.bool (a == b), ?_, by simp [R, RP]⟩
      simp [run_eql_bool _ _ _ _ hu, eqGuard]
    · refine ⟨.bool (!(a == b)), ?_, by simp [R, RP]⟩
      simp [run_neq_bool _ _ _ _ hu, eqGuard]
  | eqA neg e x y =>
    cases op <;> try (simp [okOp] at hok; done)
    all_goals try dsimp only
    simp only [okOp, Bool.and_eq_true, decide_eq_true_eq, beq_iff_eq] at hok
    obtain ⟨⟨⟨⟨⟨h0, h1⟩, hd⟩, he⟩, h2⟩, h3⟩ := hok
    simp only [denStill] at h
    split at h <;> try (cases h; done)
    rename_i a b ha hb
    split at h <;> try (cases h; done)
    rename_i r' hr
    obtain rfl := Option.some.inj h
    have ha' := hev _ _ h2; have hb' := hev _ _ h3
    rw [ha] at ha'; rw [hb] at hb'
    simp only [R] at ha' hb'
    have hq := fun t' (ht' : okEq F.P e t' = true) => eqTree_sound (c := c) e 9999 t' _ _ _ _ r' (by omega) ht' hr ha' hb' c.w
    have hq := hq _ he
    simp only [RP] at ha' hb'
    obtain ⟨us, hu, _⟩ := ha'
    obtain ⟨zs, hz, _⟩ := hb'
    rw [hu, hz] at hq ⊢
    subst h0
    cases neg
    · refine ⟨.bool r', ?_, by simp [R, RP]⟩
      simp only [Bool.cond_false, Sem.run_bind, run_eqGuard_agg _ _ _ _ _ _ _ h1, Result.andThen_ok, run_eql_struct, hq, Sem.run_pure]
    · refine ⟨.bool (!r'), ?_, by simp [R, RP]⟩
      simp only [Bool.cond_true, Sem.run_bind, run_eqGuard_agg _ _ _ _ _ _ _ h1, Result.andThen_ok, run_neq_struct, hq, Sem.run_pure]
  | eqNil neg x =>
    cases op <;> try (simp [okOp] at hok; done)
    all_goals try dsimp only
    rename_i op' t x' y' yt
    cases y' <;> try (simp [okOp] at hok; done)
    rename_i vv
    cases vv <;> try (simp [okOp] at hok; done)
    simp only [okOp, Bool.and_eq_true, decide_eq_true_eq] at hok
    obtain ⟨⟨h0, h1⟩, h2⟩ := hok
    split at h1 <;> try (cases h1; done)
    rename_i ms hu
    have hx := hev _ _ h2
    subst h0
    have hnil := run_eqNil (F := F) (c := c) neg x' hu
    simp only [denStill] at h
    split at h <;> try (cases h; done)
    · rename_i hv
      obtain rfl := Option.some.inj h
      rw [hv] at hx
      simp only [R, RP] at hx
      have hq := hnil (ρ x') (.inr hx)
      refine ⟨_, by simp only [Sem.run_bind, hρ] at hq ⊢; rw [hq]; rfl, ?_⟩
      rw [hx]; cases neg <;> simp [R, RP, isNilI]
    · rename_i hv
      obtain rfl := Option.some.inj h
      rw [hv] at hx
      simp only [R, RP] at hx
      obtain ⟨y, hy, _⟩ := hx
      have hq := hnil (ρ x') (.inl ⟨_, _, hy⟩)
      refine ⟨_, by simp only [Sem.run_bind, hρ] at hq ⊢; rw [hq]; rfl, ?_⟩
      rw [hy]; cases neg <;> simp [R, RP, isNilI]
    · rename_i hv
      obtain rfl := Option.some.inj h
      rw [hv] at hx
      simp only [R] at hx
      obtain ⟨y, hy, _⟩ := hx
      have hq := hnil (ρ x') (.inl ⟨_, _, hy⟩)
      refine ⟨_, by simp only [Sem.run_bind, hρ] at hq ⊢; rw [hq]; rfl, ?_⟩
      rw [hy]; cases neg <;> simp [R, RP, isNilI]
  | un op' x =>
    cases op <;> try (simp [okOp] at hok; done)
    all_goals try dsimp only
    simp only [okOp, Bool.and_eq_true, decide_eq_true_eq] at hok
    obtain ⟨rfl, h2⟩ := hok
    simp only [denStill] at h
    obtain ⟨v, h4, h5⟩ := run_unV h (hev _ _ h2) F.P c.w
    exact ⟨v, by simp [h4], h5⟩
  | toInt k x =>
    cases op <;> try (simp [okOp] at hok; done)
    all_goals try dsimp only
    simp only [okOp, Bool.and_eq_true] at hok
    obtain ⟨⟨h1, h2⟩, h3⟩ := hok
    simp only [denStill] at h
    split at h <;> try (cases h; done)
    rename_i n hn
    obtain rfl := Option.some.inj h
    obtain ⟨k', hk⟩ := R_asInt (hev _ _ h3) hn
    obtain ⟨ds, hds⟩ := Option.isSome_iff_exists.mp h2
    unfold isIntK at h1
    split at h1 <;> try (cases h1; done)
    rename_i k'' hd
    simp only [decide_eq_true_eq] at h1; subst h1
    refine ⟨.int k (k.wrap n), ?_, by simp [R, RP]⟩
    simp only [Sem.run_bind, convert, run_underlying hds, run_underlying hd, Result.andThen_ok, hk, Conv.intToInt, Sem.run_pure]
  | strId x =>
    cases op <;> try (simp [okOp] at hok; done)
    all_goals try dsimp only
    simp only [okOp, Bool.and_eq_true] at hok
    obtain ⟨⟨h1, h2⟩, h3⟩ := hok
    simp only [denStill] at h
    split at h <;> try (cases h; done)
    rename_i s hs
    obtain rfl := Option.some.inj h
    have hx := hev _ _ h3
    rw [hs] at hx
    obtain ⟨ds, hds⟩ := Option.isSome_iff_exists.mp h2
    unfold isStr at h1
    split at h1 <;> try (cases h1; done)
    rename_i hd
    refine ⟨_, ?_, hx⟩
    rw [R_str hx]
    simp [convert, run_underlying hds, run_underlying hd]
  | toStr x =>
    cases op <;> try (simp [okOp] at hok; done)
    all_goals try dsimp only
    simp only [okOp, Bool.and_eq_true] at hok
    obtain ⟨⟨h1, h2⟩, h3⟩ := hok
    simp only [denStill] at h
    split at h <;> try (cases h; done)
    rename_i hns
    split at h <;> try (cases h; done)
    rename_i rows hrows
    split at h <;> try (cases h; done)
    rename_i s hs
    obtain rfl := Option.some.inj h
    split at h2 <;> try (cases h2; done)
    rename_i e hsl
    unfold isIntK at h2
    split at h2 <;> try (cases h2; done)
    rename_i k'' he
    simp only [decide_eq_true_eq] at h2; subst h2
    unfold isStr at h1
    split at h1 <;> try (cases h1; done)
    rename_i hd
    rcases rowsOf_still hrows (hev _ _ h3) with ⟨base, cap, hv, hr⟩ | ⟨s', hx, _⟩
    · refine ⟨.string ⟨s.toArray⟩, ?_, by simp [R, RP]⟩
      rw [hv]
      simp only [Sem.run_bind, run_convert_bytes_string c.w _ _ e base _ cap hsl he hd, run_toStr hs hr, Result.andThen_ok, Sem.run_pure]
    · exact absurd hx (hns s')
  | load n agg x =>
    cases op <;> try (simp [okOp] at hok; done)
    all_goals try dsimp only
    simp only [okOp, Bool.and_eq_true, decide_eq_true_eq] at hok
    obtain ⟨⟨h1, h2⟩, h3⟩ := hok
    simp only [denStill] at h
    split at h <;> try (cases h; done)
    rename_i cs hcs
    have hx := hev _ _ h3
    rw [hcs] at hx
    simp only [R] at hx
    obtain ⟨a, hv, ha, hc⟩ := hx
    split at h <;> try (cases h; done)
    rename_i hcond
    rw [hv]
    obtain ⟨ys, k1, k2⟩ := cells_vals hc
    unfold partP at h
    cases agg with
    | true =>
      simp only [if_true] at h
      obtain rfl := Option.some.inj h
      simp only [true_and, Bool.true_eq_false, or_false] at hcond
      refine ⟨.agg (ys.take n).toArray, ?_, ?_⟩
      · have hl : n = (ys.take n).length := by have := RPs_length k1; simp; omega
        have hld : (loadCells a n).run F.P c.w = .ok (ys.take n).toArray c.w := by
          conv => lhs; rw [hl]
          apply run_loadCells_list
          intro j v hj
          rw [addr_add ha]
          rw [List.getElem?_take] at hj
          split at hj
          · exact k2 j v hj
          · cases hj
        simp only [Instr.loadAt, Instr.sureAddr, loadVar, Sem.run_bind, Sem.run_pure, Result.andThen_ok, run_agg h1, if_true, run_size h2, hld]
      · simp only [R, RP, List.drop_zero]
        exact ⟨_, rfl, RPs_take n k1⟩
    | false =>
      simp only [Bool.false_eq_true, if_false] at h
      split at h <;> try (cases h; done)
      rename_i x0 hx0
      obtain rfl := Option.some.inj h
      obtain ⟨y, h4, h5⟩ := RPs_get k1 hx0
      have h6 := k2 0 y h4
      refine ⟨y, ?_, by simpa only [R] using h5⟩
      have : a = ⟨a.block, a.off + 0, none⟩ := by cases a; simp_all
      rw [← this] at h6
      simp only [Instr.loadAt, Instr.sureAddr, loadVar, Sem.run_bind, Sem.run_pure, Result.andThen_ok, run_agg h1, Bool.false_eq_true, if_false, run_load, h6]
  | build zero parts =>
    cases op <;> try (simp [okOp] at hok; done)
    all_goals try dsimp only
    rename_i t parts'
    simp only [okOp, Bool.and_eq_true] at hok
    obtain ⟨h1, h2⟩ := hok
    simp only [denStill] at h
    split at h <;> try (cases h; done)
    rename_i cs hcs
    obtain rfl := Option.some.inj h
    unfold okZero zeroO at h1
    cases hi : F.P.info? t with
    | none => simp [hi] at h1
    | some i =>
      simp only [hi, Option.bind_some] at h1
      cases hz : i.zero with
      | none => simp [hz] at h1
      | some z =>
        simp only [hz] at h1
        have hz0 := okVs_sound (F := F) (c := c) _ _ h1
        have hz1 := Rs_p hz0
        split at h2 <;> try (cases h2; done)
        rename_i place hpl
        obtain ⟨arr', k1, k2, _⟩ := fill_sound hev parts parts'.toList _ cs z.cells h2 hcs hz1
        refine ⟨.agg arr', ?_, by simpa using R_mkAgg k2⟩
        have hb : F.P.built t (Array.map (fun x => (x.fst, ρ x.snd)) parts').toList = some arr' := by
          rw [Array.toList_map]
          unfold placeOf at hpl
          unfold Program.built
          rw [hi]
          split at hpl <;> try (cases hpl; done)
          · rename_i n e hu
            rw [hu]
            cases hie : F.P.info? e with
            | none => simp [hie] at hpl
            | some ie =>
              simp only [hie, Option.map_some] at hpl
              obtain rfl := Option.some.inj hpl
              simp only [hz, hie]
              exact k1
          · rename_i fields hu
            rw [hu]
            cases hm : fields.toList.mapM (fun f => (F.P.info? f.type).map fun i => (f.offset, i.size)) with
            | none => simp [hm] at hpl
            | some places =>
              simp only [hm, Option.map_some] at hpl
              obtain rfl := Option.some.inj hpl
              simp only [hz, hm]
              exact k1
        simp only [Sem.run_bind, run_build c.w t _ arr' hb, Result.andThen_ok, Sem.run_pure]
  | field off n agg x =>
    cases op <;> try (simp [okOp] at hok; done)
    all_goals try dsimp only
    rename_i t x' f
    simp only [okOp, Bool.and_eq_true] at hok
    obtain ⟨h1, h2⟩ := hok
    split at h1 <;> try (cases h1; done)
    rename_i fs hu
    split at h1 <;> try (cases h1; done)
    rename_i fd hfd
    simp only [Bool.and_eq_true, decide_eq_true_eq] at h1
    obtain ⟨⟨rfl, h3⟩, h4⟩ := h1
    have hx := hev _ _ h2
    simp only [denStill] at h
    split at h <;> try (cases h; done)
    · rename_i cs hcs
      rw [hcs] at hx
      simp only [R, RP] at hx
      obtain ⟨ys, hv, hys⟩ := hx
      obtain ⟨v, k1, k2⟩ := run_partP h h4 h3 hys c.w
      refine ⟨v, ?_, k2⟩
      rw [hv]
      simp only [Instr.field, Sem.run_bind, run_underlying hu, Result.andThen_ok, hfd, asAgg, Sem.run_pure, k1]
    · rename_i cs hcs
      rw [hcs] at hx
      simp only [R] at hx
      obtain ⟨ys, hv, hys⟩ := hx
      obtain ⟨v, k1, k2⟩ := run_partV h h4 h3 hys c.w
      refine ⟨v, ?_, k2⟩
      rw [hv]
      simp only [Instr.field, Sem.run_bind, run_underlying hu, Result.andThen_ok, hfd, asAgg, Sem.run_pure, k1]
  | fieldAddr off x =>
    cases op <;> try (simp [okOp] at hok; done)
    all_goals try dsimp only
    rename_i t x' f
    simp only [okOp, Bool.and_eq_true] at hok
    obtain ⟨h1, h2⟩ := hok
    split at h1 <;> try (cases h1; done)
    rename_i fs hu
    split at h1 <;> try (cases h1; done)
    rename_i fd hfd
    simp only [Bool.and_eq_true, decide_eq_true_eq] at h1
    obtain ⟨rfl, h3⟩ := h1
    split at h3 <;> try (cases h3; done)
    rename_i n hn
    simp only [decide_eq_true_eq] at h3
    have hx := hev _ _ h2
    simp only [denStill] at h
    split at h <;> try (cases h; done)
    · rename_i t0 id o hcs
      obtain rfl := Option.some.inj h
      rw [hcs] at hx
      simp only [R] at hx
      obtain ⟨⟨hid, hv⟩, _⟩ := hx
      refine ⟨.pointer (some ⟨(c.ρ id).1, (c.ρ id).2 + o + fd.offset, none⟩), ?_, ?_⟩
      · rw [hv]
        simp only [Instr.fieldAt, Sem.run_bind, run_underlying hu, Result.andThen_ok, hfd, Instr.sureAddr, Sem.run_pure, fieldPlace, run_size hn, if_neg h3]
        rw [addr_add rfl]
      · simp only [R]
        exact ⟨hid, by rw [Nat.add_assoc]⟩
    · rename_i cs hcs
      obtain rfl := Option.some.inj h
      rw [hcs] at hx
      simp only [R] at hx
      obtain ⟨a, hv, ha, hc⟩ := hx
      refine ⟨.pointer (some (a.add fd.offset)), ?_, ?_⟩
      · rw [hv]
        simp only [Instr.fieldAt, Sem.run_bind, run_underlying hu, Result.andThen_ok, hfd, Instr.sureAddr, Sem.run_pure, fieldPlace, run_size hn, if_neg h3]
      · simp only [R]
        refine ⟨_, rfl, by rw [addr_add ha], ?_⟩
        rw [addr_add ha]
        exact RPcells_drop _ hc
    · rename_i id o hcs
      obtain rfl := Option.some.inj h
      rw [hcs] at hx
      simp only [R] at hx
      obtain ⟨hid, hv⟩ := hx
      refine ⟨.pointer (some ⟨(c.ρ id).1, (c.ρ id).2 + o + fd.offset, none⟩), ?_, ?_⟩
      · rw [hv]
        simp only [Instr.fieldAt, Sem.run_bind, run_underlying hu, Result.andThen_ok, hfd, Instr.sureAddr, Sem.run_pure, fieldPlace, run_size hn, if_neg h3]
        rw [addr_add rfl]
      · simp only [R]
        exact ⟨hid, by rw [Nat.add_assoc]⟩
  | indexStr x i =>
    cases op <;> try (simp [okOp] at hok; done)
    all_goals try dsimp only
    simp only [okOp, Bool.and_eq_true] at hok
    obtain ⟨⟨h1, h2⟩, h3⟩ := hok
    simp only [denStill] at h
    split at h <;> try (cases h; done)
    rename_i s j hs hj
    split at h <;> try (cases h; done)
    rename_i b hb
    obtain rfl := Option.some.inj h
    have hx := hev _ _ h2
    rw [hs] at hx
    obtain ⟨k, hk⟩ := R_asNat (hev _ _ h3) hj
    unfold isStr at h1
    split at h1 <;> try (cases h1; done)
    rename_i hd
    refine ⟨.int .u8 b.toNat, ?_, by simp [R, RP]⟩
    rw [R_str hx, hk]
    have hget : (ByteArray.mk s.toArray)[j]? = some b := by
      rw [List.getElem?_eq_some_iff] at hb
      obtain ⟨hj1, hj2⟩ := hb
      rw [getElem?_pos _ _ (by simpa [ByteArray.size] using hj1)]
      simp only [ByteArray.getElem_eq_getElem_data, List.getElem_toArray, hj2]
    simp only [Instr.index, asIntOf, Sem.run_bind, Sem.run_pure, Result.andThen_ok, run_underlying hd]
    simp [hget]
  | indexArr len n agg x i =>
    cases op <;> try (simp [okOp] at hok; done)
    all_goals try dsimp only
    simp only [okOp, Bool.and_eq_true] at hok
    obtain ⟨⟨h1, h2⟩, h3⟩ := hok
    split at h1 <;> try (cases h1; done)
    rename_i len' e hu
    simp only [Bool.and_eq_true, decide_eq_true_eq] at h1
    obtain ⟨⟨rfl, h4⟩, h5⟩ := h1
    simp only [denStill] at h
    split at h <;> try (cases h; done)
    rename_i j hj
    split at h <;> try (cases h; done)
    rename_i hlt
    obtain ⟨k, hk⟩ := R_asNat (hev _ _ h3) hj
    have hx := hev _ _ h2
    split at h <;> try (cases h; done)
    · rename_i cs hcs
      rw [hcs] at hx
      simp only [R, RP] at hx
      obtain ⟨ys, hv, hys⟩ := hx
      obtain ⟨v, k1, k2⟩ := run_partP h h5 h4 hys c.w
      refine ⟨v, ?_, k2⟩
      rw [hv, hk]
      simp only [Instr.index, asIntOf, Sem.run_bind, Sem.run_pure, Result.andThen_ok, run_underlying hu]
      rw [if_pos (by omega)]
      simp only [Sem.run_bind, run_size h4, Result.andThen_ok, Int.toNat_natCast, k1, Sem.run_pure]
    · rename_i cs hcs
      rw [hcs] at hx
      simp only [R] at hx
      obtain ⟨ys, hv, hys⟩ := hx
      obtain ⟨v, k1, k2⟩ := run_partV h h5 h4 hys c.w
      refine ⟨v, ?_, k2⟩
      rw [hv, hk]
      simp only [Instr.index, asIntOf, Sem.run_bind, Sem.run_pure, Result.andThen_ok, run_underlying hu]
      rw [if_pos (by omega)]
      simp only [Sem.run_bind, run_size h4, Result.andThen_ok, Int.toNat_natCast, k1, Sem.run_pure]
  | addrArr len n x i =>
    cases op <;> try (simp [okOp] at hok; done)
    all_goals try dsimp only
    simp only [okOp, Bool.and_eq_true] at hok
    obtain ⟨⟨h1, h2⟩, h3⟩ := hok
    split at h1 <;> try (cases h1; done)
    rename_i len' e hu
    simp only [Bool.and_eq_true, decide_eq_true_eq] at h1
    obtain ⟨rfl, h4⟩ := h1
    simp only [denStill] at h
    split at h <;> try (cases h; done)
    rename_i j hj
    split at h <;> try (cases h; done)
    rename_i hlt
    obtain ⟨k, hk⟩ := R_asNat (hev _ _ h3) hj
    have hx := hev _ _ h2
    split at h <;> try (cases h; done)
    · rename_i cs hcs
      obtain rfl := Option.some.inj h
      rw [hcs] at hx
      simp only [R] at hx
      obtain ⟨a, hv, ha, hc⟩ := hx
      refine ⟨.pointer (some (a.add (j * n))), ?_, ?_⟩
      · rw [hv, hk]
        simp only [Instr.indexAt, asIntOf, Sem.run_bind, Sem.run_pure, Result.andThen_ok, run_underlying hu, Instr.sureAddr]
        rw [if_pos (by omega)]
        simp only [Sem.run_bind, run_size h4, Result.andThen_ok, Int.toNat_natCast, Sem.run_pure]
      · simp only [R]
        refine ⟨_, rfl, by rw [addr_add ha], ?_⟩
        rw [addr_add ha]
        exact RPcells_drop _ hc
    · rename_i id o hcs
      obtain rfl := Option.some.inj h
      rw [hcs] at hx
      simp only [R] at hx
      obtain ⟨hid, hv⟩ := hx
      refine ⟨.pointer (some ⟨(c.ρ id).1, (c.ρ id).2 + o + j * n, none⟩), ?_, ?_⟩
      · rw [hv, hk]
        simp only [Instr.indexAt, asIntOf, Sem.run_bind, Sem.run_pure, Result.andThen_ok, run_underlying hu, Instr.sureAddr]
        rw [if_pos (by omega)]
        simp only [Sem.run_bind, run_size h4, Result.andThen_ok, Int.toNat_natCast, Sem.run_pure]
        rw [addr_add rfl]
      · simp only [R]
        exact ⟨hid, by rw [Nat.add_assoc]⟩
  | addrRow n x i =>
    cases op <;> try (simp [okOp] at hok; done)
    all_goals try dsimp only
    rename_i t x' i'
    simp only [okOp, Bool.and_eq_true] at hok
    obtain ⟨⟨h1, h2⟩, h3⟩ := hok
    split at h1 <;> try (cases h1; done)
    rename_i e hu
    simp only [decide_eq_true_eq] at h1
    simp only [denStill] at h
    split at h <;> try (cases h; done)
    rename_i j hj
    obtain ⟨k, hk⟩ := R_asNat (hev _ _ h3) hj
    have hx := hev _ _ h2
    have key : ∀ {rows : List (List PV)} {base : Option Addr} {cap : Nat} {row : List PV}, ρ x' = .slice base rows.length cap → RProws F c n base 0 rows → rows[j]? = some row →
        ∃ y, (do let v ← Instr.indexAt t (ρ x') (ρ i'); pure (Next.value v) : Sem Next).run F.P c.w = .ok (.value y) c.w ∧ R F c (.rp row) y := by
      intro rows base cap row hv hr hrow
      obtain ⟨_, a, rfl, ha, hc⟩ := RProws_get hr hrow
      have hjl : j < rows.length := by
        rw [List.getElem?_eq_some_iff] at hrow
        exact hrow.1
      refine ⟨.pointer (some (a.add (j * n))), ?_, ?_⟩
      · rw [hv, hk]
        simp only [Instr.indexAt, asIntOf, Sem.run_bind, Sem.run_pure, Result.andThen_ok, run_underlying hu]
        rw [if_pos (by omega)]
        simp only [Sem.run_bind, run_size h1, Result.andThen_ok, Int.toNat_natCast, Sem.run_pure]
      · simp only [R]
        refine ⟨_, rfl, by rw [addr_add ha], ?_⟩
        rw [addr_add ha]
        simpa using hc
    split at h <;> try (cases h; done)
    · rename_i n' rows hv
      split at h <;> try (cases h; done)
      rename_i hn; subst hn
      split at h <;> try (cases h; done)
      rename_i row hrow
      obtain rfl := Option.some.inj h
      rw [hv] at hx
      simp only [R, RP] at hx
      obtain ⟨base, cap, hv', _, hr⟩ := hx
      exact key hv' hr hrow
    · rename_i n' rows tok hv
      split at h <;> try (cases h; done)
      rename_i hn; subst hn
      split at h <;> try (cases h; done)
      rename_i row hrow
      obtain rfl := Option.some.inj h
      rw [hv] at hx
      simp only [R] at hx
      obtain ⟨⟨base, cap, hv', _, hr⟩, _⟩ := hx
      exact key hv' hr hrow
    · rename_i n' id off len hv
      split at h <;> try (cases h; done)
      rename_i hn
      obtain ⟨rfl, hjl⟩ := hn
      obtain rfl := Option.some.inj h
      rw [hv] at hx
      simp only [R] at hx
      obtain ⟨hid, a, cap, hv', hlc, ha, hc⟩ := hx
      rcases hc with ⟨rfl, _⟩ | hc
      · refine ⟨.pointer (some ⟨(c.ρ id).1, (c.ρ id).2 + off + j * n', none⟩), ?_, ?_⟩
        · rw [hv', hk]
          simp only [Instr.indexAt, asIntOf, Sem.run_bind, Sem.run_pure, Result.andThen_ok, run_underlying hu]
          rw [if_pos (by omega)]
          simp only [Sem.run_bind, run_size h1, Result.andThen_ok, Int.toNat_natCast, Sem.run_pure]
          rw [addr_add rfl]
        · simp only [R]
          exact ⟨hid, by rw [Nat.add_assoc]⟩
      · omega
  | cutStr x lo hi =>
    cases op <;> try (simp [okOp] at hok; done)
    all_goals try dsimp only
    rename_i t x' lo' hi' mx
    cases mx <;> try (simp [okOp] at hok; done)
    simp only [okOp, Bool.and_eq_true] at hok
    obtain ⟨⟨⟨h1, h2⟩, h3⟩, h4⟩ := hok
    simp only [denStill] at h
    split at h <;> try (cases h; done)
    rename_i s hs
    split at h <;> try (cases h; done)
    rename_i l hh hb
    obtain rfl := Option.some.inj h
    have hx := hev _ _ h2
    rw [hs] at hx
    unfold isStr at h1
    split at h1 <;> try (cases h1; done)
    rename_i hd
    obtain ⟨k1, k2, k3⟩ := run_bounds hev h3 h4 hb (Nat.le_refl _) false c.w
    refine ⟨.string ⟨((s.take hh).drop l).toArray⟩, ?_, by simp [R, RP]⟩
    rw [R_str hx]
    simp only [Instr.sliceAt, Instr.slice, Sem.run_bind, run_underlying hd, Result.andThen_ok, Option.map_none, Option.isSome_none, Bool.false_eq_true, if_false, Sem.run_pure, size_bytes, k1, extract_bytes]
  | cutRow n x lo hi =>
    cases op <;> try (simp [okOp] at hok; done)
    all_goals try dsimp only
    rename_i t x' lo' hi' mx
    cases mx <;> try (simp [okOp] at hok; done)
    simp only [okOp, Bool.and_eq_true] at hok
    obtain ⟨⟨⟨h1, h2⟩, h3⟩, h4⟩ := hok
    split at h1 <;> try (cases h1; done)
    rename_i e hu
    simp only [decide_eq_true_eq] at h1
    have hx := hev _ _ h2
    simp only [denStill] at h
    split at h <;> try (cases h; done)
    · rename_i hv
      split at h <;> try (cases h; done)
      rename_i lh hb
      obtain ⟨l, hh⟩ := lh
      obtain rfl := Option.some.inj h
      rw [hv] at hx
      simp only [R, RP] at hx
      obtain ⟨k1, k2, k3⟩ := run_bounds hev h3 h4 hb (Nat.le_refl 0) true c.w
      obtain rfl : l = 0 := by omega
      obtain rfl : hh = 0 := by omega
      have := run_cutRow (base := none) hu h1 k1
      refine ⟨.slice none 0 0, ?_, by simp [R, RP]⟩
      rw [hx]
      simp only [Option.map_none, Sem.run_bind, this, Result.andThen_ok, Sem.run_pure]
      simp
    · rename_i n' rows hv
      split at h <;> try (cases h; done)
      rename_i hn; subst hn
      split at h <;> try (cases h; done)
      rename_i l hh hb
      obtain rfl := Option.some.inj h
      rw [hv] at hx
      simp only [R, RP] at hx
      obtain ⟨base, cap, hv', hle, hr⟩ := hx
      obtain ⟨k1, k2, k3⟩ := run_bounds hev h3 h4 hb hle true c.w
      have := run_cutRow (base := base) hu h1 k1
      refine ⟨_, by rw [hv']; simp only [Option.map_none, Sem.run_bind, this, Result.andThen_ok, Sem.run_pure], rows_piece hr k2 k3 hle⟩
    · rename_i n' rows tok hv
      split at h <;> try (cases h; done)
      rename_i hn; subst hn
      split at h <;> try (cases h; done)
      rename_i l hh hb
      obtain rfl := Option.some.inj h
      rw [hv] at hx
      simp only [R] at hx
      obtain ⟨⟨base, cap, hv', hle, hr⟩, _⟩ := hx
      obtain ⟨k1, k2, k3⟩ := run_bounds hev h3 h4 hb hle true c.w
      have := run_cutRow (base := base) hu h1 k1
      refine ⟨_, by rw [hv']; simp only [Option.map_none, Sem.run_bind, this, Result.andThen_ok, Sem.run_pure], rows_piece hr k2 k3 hle⟩
    · rename_i n' id off len hv
      split at h <;> try (cases h; done)
      rename_i hn; subst hn
      split at h <;> try (cases h; done)
      rename_i l hh hb
      obtain rfl := Option.some.inj h
      rw [hv] at hx
      simp only [R] at hx
      obtain ⟨hid, a, cap, hv', hlc, ha, hc⟩ := hx
      obtain ⟨k1, k2, k3⟩ := run_bounds hev h3 h4 hb hlc true c.w
      have := run_cutRow (base := some a) hu h1 k1
      refine ⟨_, by rw [hv']; simp only [Option.map_none, Sem.run_bind, this, Result.andThen_ok, Sem.run_pure]; rfl, ?_⟩
      simp only [R, Option.map_some]
      by_cases hcl : cap = l
      · simp only [if_pos hcl]
        exact ⟨hid, a, _, rfl, by omega, ha, .inr (by omega)⟩
      · simp only [if_neg hcl]
        refine ⟨hid, a.add (l * n'), _, rfl, by omega, by rw [addr_add ha], .inl ?_⟩
        rcases hc with ⟨rfl, hsz⟩ | hc
        · refine ⟨by rw [addr_add rfl, Nat.add_assoc], ?_⟩
          have : l * n' + (cap - l) * n' = cap * n' := by rw [← Nat.add_mul]; congr 1; omega
          omega
        · omega
  | mkFn f caps =>
    cases op <;> try (simp [okOp] at hok; done)
    all_goals try dsimp only
    rename_i fn first caps'
    cases fn <;> try (simp [okOp] at hok; done)
    simp only [okOp, Bool.and_eq_true, decide_eq_true_eq] at hok
    obtain ⟨⟨rfl, h2⟩, h3⟩ := hok
    simp only [denStill] at h
    have hl := hev.list _ _ h3
    have hf : first = #[] := by simpa using h2
    subst hf
    have hc : Array.map ρ caps' = (caps'.toList.map ρ).toArray := Array.ext' (by simp)
    cases caps with
    | nil =>
      simp only at h
      obtain rfl := Option.some.inj h
      simp only [List.map_nil, Rs] at hl
      refine ⟨.func (.func (F.num f)) #[] #[], ?_, by simp only [R, RP]⟩
      simp only [Instr.makeFunc, hc, hl]
      simp
    | cons x xs =>
      simp only at h
      obtain rfl := Option.some.inj h
      refine ⟨.func (.func (F.num f)) #[] (caps'.toList.map ρ).toArray, ?_, ?_⟩
      · simp only [Instr.makeFunc, hc]
        simp
      · simp only [R]
        exact ⟨_, rfl, hl⟩
  | mkIface t x =>
    cases op <;> try (simp [okOp] at hok; done)
    all_goals try dsimp only
    simp only [okOp, Bool.and_eq_true, decide_eq_true_eq] at hok
    obtain ⟨⟨rfl, h2⟩, h3⟩ := hok
    have hx := hev _ _ h3
    simp only [denStill] at h
    have hrun : (Instr.makeInterface (F.tnum t) (ρ ‹Operand›)).run F.P c.w = .ok (.iface (F.tnum t) (ρ ‹Operand›)) c.w := by
      unfold Instr.makeInterface
      cases hu : F.P.underlying (F.tnum t) with
      | none => simp [hu] at h2
      | some d => cases d <;> simp [hu, run_underlying hu] at h2 ⊢
    refine ⟨.iface (F.tnum t) (ρ ‹Operand›), by simp only [Sem.run_bind, hrun, Result.andThen_ok, Sem.run_pure], ?_⟩
    split at h <;> try (cases h; done)
    · rename_i v hv
      obtain rfl := Option.some.inj h
      rw [hv] at hx
      simp only [R] at hx
      simp only [R, RP]
      exact ⟨_, rfl, hx⟩
    · obtain rfl := Option.some.inj h
      simp only [R]
      exact ⟨_, rfl, hx⟩
  | assertT t ok x =>
    cases op <;> try (simp [okOp] at hok; done)
    all_goals try dsimp only
    simp only [okOp, Bool.and_eq_true, decide_eq_true_eq, beq_iff_eq] at hok
    obtain ⟨⟨⟨rfl, rfl⟩, h2⟩, h3⟩ := hok
    have hx := hev _ _ h3
    simp only [denStill] at h
    have hrun : ∀ y, (Instr.typeAssert (.iface (F.tnum t) y) ‹TypeId› (F.tnum t) ok).run F.P c.w = .ok (if ok then .tuple #[y, .bool true] else y) c.w := by
      intro y
      unfold Instr.typeAssert
      cases hu : F.P.underlying (F.tnum t) with
      | none => simp [hu] at h2
      | some d => cases d <;> simp [hu, run_underlying hu] at h2 ⊢ <;> cases ok <;> simp
    split at h <;> try (cases h; done)
    · rename_i t' v hv
      split at h <;> try (cases h; done)
      rename_i ht; subst ht
      obtain rfl := Option.some.inj h
      rw [hv] at hx
      simp only [R, RP] at hx
      obtain ⟨y, hy, hr⟩ := hx
      rw [hy]
      refine ⟨if ok then .tuple #[y, .bool true] else y, by simp only [Sem.run_bind, hrun, Result.andThen_ok, Sem.run_pure], ?_⟩
      cases ok
      · simpa [R] using hr
      · simp only [Bool.cond_true, if_true, R, Rs]
        exact ⟨[y, .bool true], rfl, y, _, rfl, hr, .bool true, [], rfl, by simp [RP], rfl⟩
    · rename_i t' v hv
      split at h <;> try (cases h; done)
      rename_i ht; subst ht
      obtain rfl := Option.some.inj h
      rw [hv] at hx
      simp only [R] at hx
      obtain ⟨y, hy, hr⟩ := hx
      rw [hy]
      refine ⟨if ok then .tuple #[y, .bool true] else y, by simp only [Sem.run_bind, hrun, Result.andThen_ok, Sem.run_pure], ?_⟩
      cases ok
      · simpa using hr
      · simp only [Bool.cond_true, if_true, R, Rs]
        exact ⟨[y, .bool true], rfl, y, _, rfl, hr, .bool true, [], rfl, by simp [RP], rfl⟩
  | extract x i =>
    cases op <;> try (simp [okOp] at hok; done)
    all_goals try dsimp only
    simp only [okOp, Bool.and_eq_true, decide_eq_true_eq] at hok
    obtain ⟨rfl, h2⟩ := hok
    have hx := hev _ _ h2
    simp only [denStill] at h
    split at h <;> try (cases h; done)
    rename_i vs hvs
    rw [hvs] at hx
    simp only [R] at hx
    obtain ⟨ys, hv, hys⟩ := hx
    obtain ⟨y, k1, k2⟩ := Rs_get hys h
    refine ⟨y, ?_, k2⟩
    rw [hv]
    simp [Instr.extract, k1]
  | lenS x =>
    cases op <;> try (simp [okOp] at hok; done)
    all_goals try dsimp only
    rename_i cl
    rcases cl with ⟨callee, args, argTypes⟩
    cases callee <;> try (simp [okOp] at hok; done)
    rename_i b
    cases b <;> try (simp [okOp] at hok; done)
    simp only [okOp, Bool.and_eq_true] at hok
    obtain ⟨h1, h2⟩ := hok
    split at h1 <;> try (cases h1; done)
    rename_i x' hargs
    have hargs' : args = #[x'] := by apply Array.ext'; simpa using hargs
    subst hargs'
    split at h2 <;> try (cases h2; done)
    rename_i t ht
    split at h2 <;> try (cases h2; done)
    rename_i hu
    have hx := hev _ _ h1
    simp only [denStill] at h
    split at h <;> try (cases h; done)
    rename_i s hs
    obtain rfl := Option.some.inj h
    rw [hs] at hx
    refine ⟨.int .i64 s.length, ?_, by simp [R, RP]⟩
    simp [resolve, invoke, builtin, Builtin.len_, ht, run_underlying hu, goInt, R_str hx, size_bytes]
  | len x =>
    cases op <;> try (simp [okOp] at hok; done)
    all_goals try dsimp only
    rename_i cl
    rcases cl with ⟨callee, args, argTypes⟩
    cases callee <;> try (simp [okOp] at hok; done)
    rename_i b
    cases b <;> try (simp [okOp] at hok; done)
    simp only [okOp, Bool.and_eq_true] at hok
    obtain ⟨h1, h2⟩ := hok
    split at h1 <;> try (cases h1; done)
    rename_i x' hargs
    have hargs' : args = #[x'] := by apply Array.ext'; simpa using hargs
    subst hargs'
    split at h2 <;> try (cases h2; done)
    rename_i t ht
    split at h2 <;> try (cases h2; done)
    rename_i e hu
    have hx := hev _ _ h1
    simp only [denStill] at h
    split at h <;> try (cases h; done)
    rename_i n hn
    obtain rfl := Option.some.inj h
    refine ⟨.int .i64 n, ?_, by simp [R, RP]⟩
    have hval : ∃ base cap, ρ x' = .slice base n cap := by
      unfold lenV at hn
      split at hn <;> try (cases hn; done)
      · rename_i hv; obtain rfl := Option.some.inj hn; rw [hv] at hx; simp only [R] at hx; obtain ⟨⟨⟨base, cap, h5, _⟩, _⟩, _⟩ := hx; exact ⟨_, _, h5⟩
      · rename_i hv; obtain rfl := Option.some.inj hn; rw [hv] at hx; simp only [R, RP] at hx; exact ⟨_, _, hx⟩
      · rename_i hv; obtain rfl := Option.some.inj hn; rw [hv] at hx; simp only [R, RP] at hx; obtain ⟨base, cap, h5, _⟩ := hx; exact ⟨_, _, h5⟩
      · rename_i hv; obtain rfl := Option.some.inj hn; rw [hv] at hx; simp only [R] at hx; obtain ⟨⟨base, cap, h5, _⟩, _⟩ := hx; exact ⟨_, _, h5⟩
      · rename_i hv; obtain rfl := Option.some.inj hn; rw [hv] at hx; simp only [R] at hx; obtain ⟨_, a, cap, h5, _⟩ := hx; exact ⟨_, _, h5⟩
    obtain ⟨base, cap, hv⟩ := hval
    simp [resolve, invoke, builtin, Builtin.len_, ht, run_underlying hu, goInt, hv]
  | lenC n =>
    cases op <;> try (simp [okOp] at hok; done)
    all_goals try dsimp only
    rename_i cl
    rcases cl with ⟨callee, args, argTypes⟩
    cases callee <;> try (simp [okOp] at hok; done)
    rename_i b
    cases b <;> try (simp [okOp] at hok; done)
    simp only [okOp, Bool.and_eq_true, decide_eq_true_eq] at hok
    obtain ⟨h1, h2⟩ := hok
    split at h2 <;> try (cases h2; done)
    rename_i t ht
    split at h2 <;> try (cases h2; done)
    rename_i n' e hu
    simp only [decide_eq_true_eq] at h2
    subst h2
    simp only [denStill] at h
    obtain rfl := Option.some.inj h
    refine ⟨.int .i64 n, ?_, by simp [R, RP]⟩
    obtain ⟨x', rfl⟩ : ∃ x', args = #[x'] := by
      rcases args with ⟨l⟩
      match l, h1 with
      | [x'], _ => exact ⟨x', rfl⟩
    simp [resolve, invoke, builtin, Builtin.len_, ht, run_underlying hu, goInt]
  | idxByte g f x y =>
    cases op <;> try (simp [okOp] at hok; done)
    all_goals try dsimp only
    rename_i cl
    rcases cl with ⟨callee, args, argTypes⟩
    cases callee <;> try (simp [okOp] at hok; done)
    rename_i f'
    simp only [okOp, Bool.and_eq_true] at hok
    obtain ⟨⟨h1, h2⟩, h3⟩ := hok
    have hf0 := hev _ _ h1
    split at h2 <;> try (cases h2; done)
    rename_i fn hf
    simp only [Bool.and_eq_true, decide_eq_true_eq, Option.isNone_iff_eq_none] at h2
    obtain ⟨⟨hb, hn⟩, hnx⟩ := h2
    split at h3 <;> try (cases h3; done)
    rename_i x' y' hargs
    have hargs' : args = #[x', y'] := by apply Array.ext'; simpa using hargs
    subst hargs'
    simp only [Bool.and_eq_true] at h3
    have hx := hev _ _ h3.1; have hy := hev _ _ h3.2
    simp only [denStill] at h
    split at h <;> try (cases h; done)
    rename_i g' s n hg ha hb'
    split at h <;> try (cases h; done)
    rename_i hgg
    subst hgg
    obtain rfl := Option.some.inj h
    rw [ha] at hx; rw [hb'] at hy
    rw [hg] at hf0
    have h5 : ρ f' = .func (.func (F.num g')) #[] #[] := by simpa only [R, RP] using hf0
    refine ⟨.int .i64 (idxByte s (UInt8.ofNat n.toNat)), ?_, by simp [R, RP]⟩
    have h4 := run_callFunc_extern (P := F.P) hf (by simp [hn]) (by simpa using hb) hnx (find_idx hn) #[ρ x', ρ y'] c.w
    simp only [R_str hx, R_int hy, run_indexByte_string, Result.andThen_ok, firstIdx_eq] at h4
    simp [resolve, invoke, h5, Deferred.ofValue, R_str hx, R_int hy, h4]
  | noEsc g f x =>
    cases op <;> try (simp [okOp] at hok; done)
    all_goals try dsimp only
    rename_i cl
    rcases cl with ⟨callee, args, argTypes⟩
    cases callee <;> try (simp [okOp] at hok; done)
    rename_i f'
    simp only [okOp, Bool.and_eq_true] at hok
    obtain ⟨⟨h1, h2⟩, h3⟩ := hok
    have hf0 := hev _ _ h1
    split at h2 <;> try (cases h2; done)
    rename_i fn hf
    simp only [Bool.and_eq_true, decide_eq_true_eq, Option.isNone_iff_eq_none] at h2
    obtain ⟨⟨hb, hn⟩, hnx⟩ := h2
    split at h3 <;> try (cases h3; done)
    rename_i x' hargs
    have hargs' : args = #[x'] := by apply Array.ext'; simpa using hargs
    subst hargs'
    have hx := hev _ _ h3
    simp only [denStill] at h
    split at h <;> try (cases h; done)
    rename_i g' t id o hg ha
    split at h <;> try (cases h; done)
    rename_i hgg
    subst hgg
    obtain rfl := Option.some.inj h
    rw [ha] at hx
    rw [hg] at hf0
    have h5 : ρ f' = .func (.func (F.num g')) #[] #[] := by simpa only [R, RP] using hf0
    refine ⟨ρ x', ?_, hx⟩
    have h4 := run_callFunc_extern (P := F.P) hf (by simp [hn]) (by simpa using hb) hnx (find_noEsc hn) #[ρ x'] c.w
    simp only [Lib.run_noEscape, Result.andThen_ok] at h4
    simp [resolve, invoke, h5, Deferred.ofValue, h4]
  | nilPtr neg x =>
    cases op <;> try (simp [okOp] at hok; done)
    all_goals try dsimp only
    rename_i op' t x' y' yt
    cases y' <;> try (simp [okOp] at hok; done)
    rename_i vv
    cases vv <;> try (simp [okOp] at hok; done)
    rename_i pp
    cases pp <;> try (simp [okOp] at hok; done)
    simp only [okOp, Bool.and_eq_true, decide_eq_true_eq] at hok
    obtain ⟨⟨h0, h1⟩, h2⟩ := hok
    split at h1 <;> try (cases h1; done)
    rename_i e hu
    have hx := hev _ _ h2
    subst h0
    simp only [denStill] at h
    split at h <;> try (cases h; done)
    · rename_i hv
      obtain rfl := Option.some.inj h
      rw [hv] at hx
      simp only [R, RP] at hx
      refine ⟨.bool (bif neg then false else true), ?_, by simp [R, RP]⟩
      cases neg
      · simp [hx, hρ, eqGuard, run_ptr_nil_eql hu]
      · simp [hx, hρ, eqGuard, run_ptr_nil_neq hu]
    · rename_i t0 id o hv
      obtain rfl := Option.some.inj h
      rw [hv] at hx
      simp only [R] at hx
      refine ⟨.bool (bif neg then true else false), ?_, by simp [R, RP]⟩
      cases neg
      · simp [hx.1.2, hρ, eqGuard, run_ptr_nil_eql hu]
      · simp [hx.1.2, hρ, eqGuard, run_ptr_nil_neq hu]
  | eqPtr neg x y =>
    cases op <;> try (simp [okOp] at hok; done)
    all_goals try dsimp only
    rename_i op' t x' y' yt
    simp only [okOp, Bool.and_eq_true, decide_eq_true_eq] at hok
    obtain ⟨⟨⟨h0, h1⟩, h2⟩, h3⟩ := hok
    split at h1 <;> try (cases h1; done)
    rename_i e hu
    obtain ⟨i, hi⟩ := Option.isSome_iff_exists.mp h1
    have hx := hev _ _ h2; have hy := hev _ _ h3
    subst h0
    simp only [denStill] at h
    split at h <;> try (cases h; done)
    rename_i t1 id o t2 id' o' hv hv'
    split at h <;> try (cases h; done)
    rename_i hee
    obtain ⟨rfl, rfl⟩ := hee
    obtain rfl := Option.some.inj h
    rw [hv] at hx; rw [hv'] at hy
    simp only [R] at hx hy
    refine ⟨.bool (bif neg then false else true), ?_, by simp [R, RP]⟩
    cases neg
    · simp [hx.1.2, hy.1.2, eqGuard, run_eql_ptr_same (w := c.w) _ hu hi]
    · simp [hx.1.2, hy.1.2, eqGuard, Lib.run_neq_ptr_same c.w _ hu hi]
  | sliceData x =>
    cases op <;> try (simp [okOp] at hok; done)
    all_goals try dsimp only
    rename_i cl
    rcases cl with ⟨callee, args, argTypes⟩
    cases callee <;> try (simp [okOp] at hok; done)
    rename_i b
    cases b <;> try (simp [okOp] at hok; done)
    simp only [okOp] at hok
    split at hok <;> try (cases hok; done)
    rename_i x' hargs
    have hargs' : args = #[x'] := by apply Array.ext'; simpa using hargs
    subst hargs'
    have hx := hev _ _ hok
    simp only [denStill] at h
    split at h <;> try (cases h; done)
    rename_i t n rows tok hv
    split at h <;> try (cases h; done)
    rename_i hne
    obtain rfl := Option.some.inj h
    rw [hv] at hx
    have hx' := hx
    simp only [R] at hx'
    obtain ⟨⟨⟨base, cap, h5, h6, h7⟩, _⟩, _⟩ := hx'
    cases rows with
    | nil => exact absurd rfl hne
    | cons row rows =>
      simp only [RProws] at h7
      obtain ⟨⟨_, a, rfl, _⟩, _⟩ := h7
      have hc : cap ≠ 0 := by simp at h6; omega
      refine ⟨.pointer (some a), ?_, ?_⟩
      · have h9 : Array.map ρ #[x'] = #[Value.slice (some a) (row :: rows).length cap] := by simp [h5]
        simp only [resolve, invoke, builtin, Sem.run_bind, Sem.run_pure, Result.andThen_ok, h9, Lib.run_unsafeSliceData_row _ _ _ _ _ _ hc]
      · rw [h5] at hx
        simp only [R] at hx ⊢
        exact ⟨a, _, cap, rfl, hx⟩
  | max2 x y =>
    cases op <;> try (simp [okOp] at hok; done)
    all_goals try dsimp only
    rename_i cl
    rcases cl with ⟨callee, args, argTypes⟩
    cases callee <;> try (simp [okOp] at hok; done)
    rename_i b
    cases b <;> try (simp [okOp] at hok; done)
    simp only [okOp] at hok
    split at hok <;> try (cases hok; done)
    rename_i x' y' hargs
    have hargs' : args = #[x', y'] := by apply Array.ext'; simpa using hargs
    subst hargs'
    simp only [Bool.and_eq_true] at hok
    have hx := hev _ _ hok.1; have hy := hev _ _ hok.2
    simp only [denStill] at h
    split at h <;> try (cases h; done)
    rename_i k a k' b ha hb
    obtain rfl := Option.some.inj h
    rw [ha] at hx; rw [hb] at hy
    refine ⟨.int k (if b > a then b else a), ?_, by simp [R, RP]⟩
    simp [resolve, invoke, builtin, R_int hx, R_int hy, run_max_int2]
  | min2 x y =>
    cases op <;> try (simp [okOp] at hok; done)
    all_goals try dsimp only
    rename_i cl
    rcases cl with ⟨callee, args, argTypes⟩
    cases callee <;> try (simp [okOp] at hok; done)
    rename_i b
    cases b <;> try (simp [okOp] at hok; done)
    simp only [okOp] at hok
    split at hok <;> try (cases hok; done)
    rename_i x' y' hargs
    have hargs' : args = #[x', y'] := by apply Array.ext'; simpa using hargs
    subst hargs'
    simp only [Bool.and_eq_true] at hok
    have hx := hev _ _ hok.1; have hy := hev _ _ hok.2
    simp only [denStill] at h
    split at h <;> try (cases h; done)
    rename_i k a k' b ha hb
    obtain rfl := Option.some.inj h
    rw [ha] at hx; rw [hb] at hy
    refine ⟨.int k (if b < a then b else a), ?_, by simp [R, RP]⟩
    simp [resolve, invoke, builtin, R_int hx, R_int hy, run_min_int2]
  | nilCheck x =>
    cases op <;> try (simp [okOp] at hok; done)
    all_goals try dsimp only
    simp only [okOp] at hok
    have hx := hev _ _ hok
    simp only [denStill] at h
    split at h <;> try (cases h; done)
    · rename_i t0 id o hv
      obtain rfl := Option.some.inj h
      rw [hv] at hx
      have hx' := hx
      simp only [R] at hx'
      refine ⟨_, ?_, hx⟩
      rw [hx'.1.2]
      simp
    · rename_i id o hv
      obtain rfl := Option.some.inj h
      rw [hv] at hx
      have hx' := hx
      simp only [R] at hx'
      refine ⟨_, ?_, hx⟩
      rw [hx'.2]
      simp
    · rename_i cs hv
      obtain rfl := Option.some.inj h
      rw [hv] at hx
      have hx' := hx
      simp only [R] at hx'
      obtain ⟨a, ha, _⟩ := hx'
      refine ⟨_, ?_, hx⟩
      rw [ha]
      simp
  | toBytes _ _ | store _ _ _ | alloc _ | box _ | rowLit _ _ _ _ _ | cutArr _ _ _ _ _ | mkRow _ _ _ _ _ _ | append _ _ _ _ _ | allocT _ _ | cast _ _ _ _ | appendT _ _ _ _ _ | strOf _ _ _ | convS _ | call _ _ | panic _ | dfr _ _ =>
    simp [denStill] at h
end
end Hx
