/-
  HxRel: how abstract values stand to the model's values in a world: RP (values without identity), R (values that may name the call's own memory), RM (the memory); and how all this is kept as the world grows.
-/
import Derived.Test.YtfobhbameffplaaHxDefs
namespace Hx
open Go Go.RowKit

structure Fix where
  P : Program
  num : Nat → FuncId
  tnum : Nat → TypeId
  gnum : Nat → Nat
structure Cx where
  w : World
  K : Nat → Option Nat
  N : Nat
  ρ : Nat → Nat × Nat
  tok : Nat → Option (Nat × Option (Nat × Nat) × Nat)

def Cx.safe (c : Cx) (b o : Nat) : Prop := b < c.w.heap.size ∧ ∀ k, c.K b = some k → o < k
def cinfo (w : World) (b : Nat) : Nat × Option TypeId := match w.heap[b]? with | some (.cells arr T _) => (arr.size, some T) | _ => (0, none)
def csize (w : World) (b : Nat) : Nat := (cinfo w b).1
def ctype (w : World) (b : Nat) : Option TypeId := (cinfo w b).2
def blockOf : Value → Option Nat
  | .pointer (some a) => some a.block
  | .slice (some a) _ _ => some a.block
  | _ => none

mutual
def RP (F : Fix) (c : Cx) : PV → Value → Prop
  | .bool b, v => v = .bool b
  | .int k n, v => v = .int k n
  | .str s, v => v = .string ⟨s.toArray⟩
  | .agg cs, v => ∃ ys : List Value, v = .agg ys.toArray ∧ RPs F c cs ys
  | .vals n rows, v => ∃ base cap, v = .slice base rows.length cap ∧ rows.length ≤ cap ∧ RProws F c n base 0 rows
  | .nils, v => v = .slice none 0 0
  | .nilp, v => v = .pointer none
  | .nilm, v => v = .map none
  | .nilf, v => v = .nilFunc
  | .nili, v => v = .nilIface
  | .fn f, v => v = .func (.func (F.num f)) #[] #[]
  | .iface t x, v => ∃ y, v = .iface (F.tnum t) y ∧ RP F c x y
def RPs (F : Fix) (c : Cx) : List PV → List Value → Prop
  | [], ys => ys = []
  | x :: xs, ys => ∃ y r, ys = y :: r ∧ RP F c x y ∧ RPs F c xs r
def RPcells (F : Fix) (c : Cx) (b o : Nat) : List PV → Prop
  | [] => True
  | x :: xs => (c.safe b o ∧ x.flat = true ∧ ∃ y, c.w.cell? ⟨b, o, none⟩ = some y ∧ RP F c x y) ∧ RPcells F c b (o + 1) xs
def RProws (F : Fix) (c : Cx) (n : Nat) (base : Option Addr) (i : Nat) : List (List PV) → Prop
  | [] => base ≠ none
  | row :: rows => (row.length = n ∧ ∃ a, base = some a ∧ a.spot = none ∧ RPcells F c a.block (a.off + i * n) row) ∧ RProws F c n base (i + 1) rows
end

def slAddr (b : Option (Nat × Nat)) : Option Addr := b.map fun p => ⟨p.1, p.2, none⟩

def isPtr : AV → Bool
  | .ptr _ _ => true
  | _ => false
def tyOk (F : Fix) (w : World) (b : Nat) (t : Nat) (x : AV) : Prop := ∃ T, ctype w b = some T ∧ (T = F.tnum t ∨ (isPtr x = true ∧ liesAt F.P F.P.depth T (csize w b / F.P.cellsOf T) 0 (F.tnum t) 1 = true))
theorem tyOk_exact {F : Fix} {w : World} {b t : Nat} {x : AV} (h : tyOk F w b t x) (hx : isPtr x = false) : ctype w b = some (F.tnum t) := by
  obtain ⟨T, h1, rfl | ⟨h2, _⟩⟩ := h
  · exact h1
  · rw [hx] at h2; cases h2
theorem tyOk_of {F : Fix} {w : World} {b t : Nat} {x : AV} (h : ctype w b = some (F.tnum t)) : tyOk F w b t x := ⟨_, h, .inl rfl⟩

mutual
def R (F : Fix) (c : Cx) : AV → Value → Prop
  | .unk, _ => True
  | .p x, v => RP F c x v
  | .agg cs, v => ∃ ys : List Value, v = .agg ys.toArray ∧ Rs F c cs ys
  | .tup cs, v => ∃ ys : List Value, v = .tuple ys.toArray ∧ Rs F c cs ys
  | .tv n rows t, v => (∃ base cap, v = .slice base rows.length cap ∧ rows.length ≤ cap ∧ RProws F c n base 0 rows) ∧ t < c.N ∧
      ∀ len base cap, c.tok t = some (len, base, cap) → rows.length ≤ len ∧ (rows.length = len → v = .slice (slAddr base) len cap)
  | .own n id off len, v => id < c.N ∧ ∃ a cap, v = .slice (some a) len cap ∧ len ≤ cap ∧ a.spot = none ∧
      ((a = ⟨(c.ρ id).1, (c.ρ id).2 + off, none⟩ ∧ (c.ρ id).2 + off + cap * n ≤ csize c.w (c.ρ id).1) ∨ cap = 0)
  | .ptr id off, v => id < c.N ∧ v = .pointer (some ⟨(c.ρ id).1, (c.ρ id).2 + off, none⟩)
  | .rp cells, v => ∃ a : Addr, v = .pointer (some a) ∧ a.spot = none ∧ RPcells F c a.block a.off cells
  | .map id, v => id < c.N ∧ v = .map (some (c.ρ id).1)
  | .fn f caps, v => ∃ ys : List Value, v = .func (.func (F.num f)) #[] ys.toArray ∧ Rs F c caps ys
  | .iface t x, v => ∃ y, v = .iface (F.tnum t) y ∧ R F c x y
  | .ty t x, v => R F c x v ∧ ∀ b, blockOf v = some b → tyOk F c.w b t x
  | .dat x, v => ∃ a len cap, v = .pointer (some a) ∧ R F c x (.slice (some a) len cap)
def Rs (F : Fix) (c : Cx) : List AV → List Value → Prop
  | [], ys => ys = []
  | x :: xs, ys => ∃ y r, ys = y :: r ∧ R F c x y ∧ Rs F c xs r
end

structure Ext (c c' : Cx) : Prop where
  size : c.w.heap.size ≤ c'.w.heap.size
  safe : ∀ b o, c.safe b o → c'.safe b o ∧ c'.w.cell? ⟨b, o, none⟩ = c.w.cell? ⟨b, o, none⟩
  csz : ∀ b, b < c.w.heap.size → cinfo c'.w b = cinfo c.w b
  N : c.N ≤ c'.N
  ρ : ∀ i, i < c.N → c'.ρ i = c.ρ i
  tok : ∀ t, t < c.N → ∀ e', c'.tok t = some e' → ∃ e, c.tok t = some e ∧ (e = e' ∨ e.1 < e'.1)

theorem Ext.csize_eq {c c' : Cx} (h : Ext c c') {b : Nat} (hb : b < c.w.heap.size) : csize c'.w b = csize c.w b := congrArg Prod.fst (h.csz b hb)
theorem ctype_lt {w : World} {b : Nat} {T : TypeId} (h : ctype w b = some T) : b < w.heap.size := by
  rcases Nat.lt_or_ge b w.heap.size with hl | hl
  · exact hl
  · unfold ctype cinfo at h
    rw [Array.getElem?_eq_none hl] at h
    cases h
theorem Ext.ctype_eq {c c' : Cx} (h : Ext c c') {b : Nat} {T : TypeId} (hb : ctype c.w b = some T) : ctype c'.w b = some T := (congrArg Prod.snd (h.csz b (ctype_lt hb))).trans hb
def Keeps (c c' : Cx) : Prop := ∀ b o, c.safe b o → c'.safe b o ∧ c'.w.cell? ⟨b, o, none⟩ = c.w.cell? ⟨b, o, none⟩
theorem Ext.keeps {c c' : Cx} (h : Ext c c') : Keeps c c' := h.safe
theorem Ext.refl (c : Cx) : Ext c c := ⟨Nat.le_refl _, fun _ _ h => ⟨h, rfl⟩, fun _ _ => rfl, Nat.le_refl _, fun _ _ => rfl, fun _ _ e h => ⟨e, h, .inl rfl⟩⟩
theorem Ext.trans {a b c : Cx} (h : Ext a b) (k : Ext b c) : Ext a c where
  size := Nat.le_trans h.size k.size
  safe := fun x o hs => by
    obtain ⟨h1, h2⟩ := h.safe x o hs
    obtain ⟨k1, k2⟩ := k.safe x o h1
    exact ⟨k1, k2.trans h2⟩
  csz := fun x hx => (k.csz x (Nat.lt_of_lt_of_le hx h.size)).trans (h.csz x hx)
  N := Nat.le_trans h.N k.N
  ρ := fun i hi => (k.ρ i (Nat.lt_of_lt_of_le hi h.N)).trans (h.ρ i hi)
  tok := fun t ht e'' he => by
    obtain ⟨e', h1, h2⟩ := k.tok t (Nat.lt_of_lt_of_le ht h.N) e'' he
    obtain ⟨e, h3, h4⟩ := h.tok t ht e' h1
    refine ⟨e, h3, ?_⟩
    rcases h2 with rfl | h2 <;> rcases h4 with rfl | h4
    · exact .inl rfl
    · exact .inr h4
    · exact .inr h2
    · exact .inr (Nat.lt_trans h4 h2)

section
variable {F : Fix} {c c' : Cx}

mutual
theorem RP_mono (h : Keeps c c') : ∀ (x : PV) (v : Value), RP F c x v → RP F c' x v
  | .bool _, _, hv => by simpa only [RP] using hv
  | .int _ _, _, hv => by simpa only [RP] using hv
  | .str _, _, hv => by simpa only [RP] using hv
  | .agg cs, v, hv => by
    simp only [RP] at hv ⊢
    obtain ⟨ys, rfl, hys⟩ := hv
    exact ⟨ys, rfl, RPs_mono h cs ys hys⟩
  | .vals n rows, v, hv => by
    simp only [RP] at hv ⊢
    obtain ⟨base, cap, rfl, hle, hr⟩ := hv
    exact ⟨base, cap, rfl, hle, RProws_mono h n base rows 0 hr⟩
  | .nils, _, hv => by simpa only [RP] using hv
  | .nilp, _, hv => by simpa only [RP] using hv
  | .nilm, _, hv => by simpa only [RP] using hv
  | .nilf, _, hv => by simpa only [RP] using hv
  | .nili, _, hv => by simpa only [RP] using hv
  | .fn _, _, hv => by simpa only [RP] using hv
  | .iface t x, v, hv => by
    simp only [RP] at hv ⊢
    obtain ⟨y, rfl, hy⟩ := hv
    exact ⟨y, rfl, RP_mono h x y hy⟩
theorem RPs_mono (h : Keeps c c') : ∀ (xs : List PV) (ys : List Value), RPs F c xs ys → RPs F c' xs ys
  | [], _, hv => by simpa only [RPs] using hv
  | x :: xs, ys, hv => by
    simp only [RPs] at hv ⊢
    obtain ⟨y, r, rfl, h1, h2⟩ := hv
    exact ⟨y, r, rfl, RP_mono h x y h1, RPs_mono h xs r h2⟩
theorem RPcells_mono (h : Keeps c c') (b : Nat) : ∀ (xs : List PV) (o : Nat), RPcells F c b o xs → RPcells F c' b o xs
  | [], _, _ => by simp only [RPcells]
  | x :: xs, o, hv => by
    simp only [RPcells] at hv ⊢
    obtain ⟨⟨h1, hf, y, h2, h3⟩, h4⟩ := hv
    obtain ⟨k1, k2⟩ := h b o h1
    exact ⟨⟨k1, hf, y, k2.trans h2, RP_mono h x y h3⟩, RPcells_mono h b xs (o + 1) h4⟩
theorem RProws_mono (h : Keeps c c') (n : Nat) (base : Option Addr) : ∀ (rows : List (List PV)) (i : Nat), RProws F c n base i rows → RProws F c' n base i rows
  | [], _, hv => by simpa only [RProws] using hv
  | row :: rows, i, hv => by
    simp only [RProws] at hv ⊢
    obtain ⟨⟨h1, a, h2, h3, h4⟩, h5⟩ := hv
    exact ⟨⟨h1, a, h2, h3, RPcells_mono h a.block row _ h4⟩, RProws_mono h n base rows (i + 1) h5⟩
end

mutual
theorem R_mono (h : Ext c c') : ∀ (x : AV) (v : Value), R F c x v → R F c' x v
  | .unk, _, _ => by simp only [R]
  | .p x, v, hv => by simp only [R] at hv ⊢; exact RP_mono h.keeps x v hv
  | .agg cs, v, hv => by
    simp only [R] at hv ⊢
    obtain ⟨ys, rfl, hys⟩ := hv
    exact ⟨ys, rfl, Rs_mono h cs ys hys⟩
  | .tup cs, v, hv => by
    simp only [R] at hv ⊢
    obtain ⟨ys, rfl, hys⟩ := hv
    exact ⟨ys, rfl, Rs_mono h cs ys hys⟩
  | .tv n rows t, v, hv => by
    simp only [R] at hv ⊢
    obtain ⟨⟨base, cap, rfl, hle, hr⟩, ht, hk⟩ := hv
    refine ⟨⟨base, cap, rfl, hle, RProws_mono h.keeps n base rows 0 hr⟩, Nat.lt_of_lt_of_le ht h.N, ?_⟩
    intro len' base' cap' e'
    obtain ⟨⟨len, b0, c0⟩, he, hc⟩ := h.tok t ht _ e'
    obtain ⟨h1, h2⟩ := hk _ _ _ he
    rcases hc with hc | hc
    · injection hc with hc1 hc2
      injection hc2 with hc2 hc3
      subst hc1 hc2 hc3
      exact ⟨h1, h2⟩
    · simp only at hc
      exact ⟨by omega, fun e => by omega⟩
  | .own n id off len, v, hv => by
    simp only [R] at hv ⊢
    obtain ⟨h1, a, cap, rfl, hle, hs, h2⟩ := hv
    refine ⟨Nat.lt_of_lt_of_le h1 h.N, a, cap, rfl, hle, hs, ?_⟩
    rcases h2 with ⟨ha, hc⟩ | h2
    · rw [h.ρ id h1]
      refine .inl ⟨ha, ?_⟩
      by_cases hb : (c.ρ id).1 < c.w.heap.size
      · rw [h.csize_eq hb]; exact hc
      · have : csize c.w (c.ρ id).1 = 0 := by
          unfold csize cinfo
          rw [Array.getElem?_eq_none (by omega)]
        omega
    · exact .inr h2
  | .ptr id off, v, hv => by
    simp only [R] at hv ⊢
    obtain ⟨h1, rfl⟩ := hv
    exact ⟨Nat.lt_of_lt_of_le h1 h.N, by rw [h.ρ id h1]⟩
  | .rp cells, v, hv => by
    simp only [R] at hv ⊢
    obtain ⟨a, rfl, h1, h2⟩ := hv
    exact ⟨a, rfl, h1, RPcells_mono h.keeps a.block cells _ h2⟩
  | .map id, v, hv => by
    simp only [R] at hv ⊢
    obtain ⟨h1, rfl⟩ := hv
    exact ⟨Nat.lt_of_lt_of_le h1 h.N, by rw [h.ρ id h1]⟩
  | .fn f caps, v, hv => by
    simp only [R] at hv ⊢
    obtain ⟨ys, rfl, hys⟩ := hv
    exact ⟨ys, rfl, Rs_mono h caps ys hys⟩
  | .iface t x, v, hv => by
    simp only [R] at hv ⊢
    obtain ⟨y, rfl, hy⟩ := hv
    exact ⟨y, rfl, R_mono h x y hy⟩
  | .ty t x, v, hv => by
    simp only [R] at hv ⊢
    refine ⟨R_mono h x v hv.1, fun b hb => ?_⟩
    obtain ⟨T, h1, h2⟩ := hv.2 b hb
    refine ⟨T, h.ctype_eq h1, ?_⟩
    rw [h.csize_eq (ctype_lt h1)]
    exact h2
  | .dat x, v, hv => by
    simp only [R] at hv ⊢
    obtain ⟨a, len, cap, rfl, hy⟩ := hv
    exact ⟨a, len, cap, rfl, R_mono h x _ hy⟩
theorem Rs_mono (h : Ext c c') : ∀ (xs : List AV) (ys : List Value), Rs F c xs ys → Rs F c' xs ys
  | [], _, hv => by simpa only [Rs] using hv
  | x :: xs, ys, hv => by
    simp only [Rs] at hv ⊢
    obtain ⟨y, r, rfl, h1, h2⟩ := hv
    exact ⟨y, r, rfl, R_mono h x y h1, Rs_mono h xs r h2⟩
end
end

theorem RProws_ne {F : Fix} {c : Cx} {n : Nat} {base : Option Addr} : ∀ {rows : List (List PV)} {i : Nat}, RProws F c n base i rows → base ≠ none
  | [], _, h => by simpa only [RProws] using h
  | r :: rows, i, h => by
    simp only [RProws] at h
    obtain ⟨⟨_, a, rfl, _⟩, _⟩ := h
    simp

theorem Rs_length {F : Fix} {c : Cx} : ∀ {xs : List AV} {ys : List Value}, Rs F c xs ys → xs.length = ys.length
  | [], ys, h => by simp only [Rs] at h; subst h; rfl
  | x :: xs, ys, h => by
    simp only [Rs] at h
    obtain ⟨y, r, rfl, _, h2⟩ := h
    simp [Rs_length h2]
theorem RPs_length {F : Fix} {c : Cx} : ∀ {xs : List PV} {ys : List Value}, RPs F c xs ys → xs.length = ys.length
  | [], ys, h => by simp only [RPs] at h; subst h; rfl
  | x :: xs, ys, h => by
    simp only [RPs] at h
    obtain ⟨y, r, rfl, _, h2⟩ := h
    simp [RPs_length h2]
theorem Rs_get {F : Fix} {c : Cx} : ∀ {xs : List AV} {ys : List Value}, Rs F c xs ys → ∀ {i : Nat} {x : AV}, xs[i]? = some x → ∃ y, ys[i]? = some y ∧ R F c x y
  | [], ys, h, i, x, hx => by simp at hx
  | z :: xs, ys, h, i, x, hx => by
    simp only [Rs] at h
    obtain ⟨y, r, rfl, h1, h2⟩ := h
    cases i with
    | zero => simp at hx; subst hx; exact ⟨y, by simp, h1⟩
    | succ i => simp at hx; obtain ⟨y', h3, h4⟩ := Rs_get h2 hx; exact ⟨y', by simpa using h3, h4⟩
theorem RPs_get {F : Fix} {c : Cx} : ∀ {xs : List PV} {ys : List Value}, RPs F c xs ys → ∀ {i : Nat} {x : PV}, xs[i]? = some x → ∃ y, ys[i]? = some y ∧ RP F c x y
  | [], ys, h, i, x, hx => by simp at hx
  | z :: xs, ys, h, i, x, hx => by
    simp only [RPs] at h
    obtain ⟨y, r, rfl, h1, h2⟩ := h
    cases i with
    | zero => simp at hx; subst hx; exact ⟨y, by simp, h1⟩
    | succ i => simp at hx; obtain ⟨y', h3, h4⟩ := RPs_get h2 hx; exact ⟨y', by simpa using h3, h4⟩
theorem Rs_p {F : Fix} {c : Cx} : ∀ {xs : List PV} {ys : List Value}, RPs F c xs ys → Rs F c (xs.map .p) ys
  | [], ys, h => by simp only [RPs] at h; subst h; simp [Rs]
  | x :: xs, ys, h => by
    simp only [RPs] at h
    obtain ⟨y, r, rfl, h1, h2⟩ := h
    simp only [List.map_cons, Rs]
    exact ⟨y, r, rfl, by simpa only [R] using h1, Rs_p h2⟩
theorem Rs_append {F : Fix} {c : Cx} : ∀ {xs : List AV} {ys : List Value} {xs' ys'}, Rs F c xs ys → Rs F c xs' ys' → Rs F c (xs ++ xs') (ys ++ ys')
  | [], ys, _, _, h, k => by simp only [Rs] at h; subst h; simpa using k
  | x :: xs, ys, _, _, h, k => by
    simp only [Rs] at h
    obtain ⟨y, r, rfl, h1, h2⟩ := h
    simp only [List.cons_append, Rs]
    exact ⟨y, _, rfl, h1, Rs_append h2 k⟩
theorem Rs_drop {F : Fix} {c : Cx} : ∀ (n : Nat) {xs : List AV} {ys : List Value}, Rs F c xs ys → Rs F c (xs.drop n) (ys.drop n)
  | 0, _, _, h => by simpa using h
  | n + 1, [], ys, h => by simp only [Rs] at h; subst h; simp [Rs]
  | n + 1, x :: xs, ys, h => by
    simp only [Rs] at h
    obtain ⟨y, r, rfl, _, h2⟩ := h
    simpa using Rs_drop n h2
theorem Rs_take {F : Fix} {c : Cx} : ∀ (n : Nat) {xs : List AV} {ys : List Value}, Rs F c xs ys → Rs F c (xs.take n) (ys.take n)
  | 0, _, _, _ => by simp [Rs]
  | n + 1, [], ys, h => by simp only [Rs] at h; subst h; simp [Rs]
  | n + 1, x :: xs, ys, h => by
    simp only [Rs] at h
    obtain ⟨y, r, rfl, h1, h2⟩ := h
    simp only [List.take_succ_cons, Rs]
    exact ⟨y, _, rfl, h1, Rs_take n h2⟩
theorem RPs_drop {F : Fix} {c : Cx} : ∀ (n : Nat) {xs : List PV} {ys : List Value}, RPs F c xs ys → RPs F c (xs.drop n) (ys.drop n)
  | 0, _, _, h => by simpa using h
  | n + 1, [], ys, h => by simp only [RPs] at h; subst h; simp [RPs]
  | n + 1, x :: xs, ys, h => by
    simp only [RPs] at h
    obtain ⟨y, r, rfl, _, h2⟩ := h
    simpa using RPs_drop n h2
theorem RPs_take {F : Fix} {c : Cx} : ∀ (n : Nat) {xs : List PV} {ys : List Value}, RPs F c xs ys → RPs F c (xs.take n) (ys.take n)
  | 0, _, _, _ => by simp [RPs]
  | n + 1, [], ys, h => by simp only [RPs] at h; subst h; simp [RPs]
  | n + 1, x :: xs, ys, h => by
    simp only [RPs] at h
    obtain ⟨y, r, rfl, h1, h2⟩ := h
    simp only [List.take_succ_cons, RPs]
    exact ⟨y, _, rfl, h1, RPs_take n h2⟩
theorem Rs_allP {F : Fix} {c : Cx} : ∀ {xs : List AV} {ps : List PV}, allP xs = some ps → xs = ps.map .p
  | [], ps, h => by simp [allP] at h; subst h; rfl
  | x :: xs, ps, h => by
    cases x <;> simp only [allP] at h <;> try (exact absurd h (by simp))
    cases h2 : allP xs with
    | none => simp [h2] at h
    | some l => simp [h2] at h; subst h; simp [Rs_allP (F := F) (c := c) h2]
theorem RPs_of {F : Fix} {c : Cx} : ∀ {ps : List PV} {ys : List Value}, Rs F c (ps.map .p) ys → RPs F c ps ys
  | [], ys, h => by simp only [List.map_nil, Rs] at h; simp only [RPs]; exact h
  | x :: xs, ys, h => by
    simp only [List.map_cons, Rs] at h
    obtain ⟨y, r, rfl, h1, h2⟩ := h
    simp only [RPs]
    exact ⟨y, r, rfl, by simpa only [R] using h1, RPs_of h2⟩
theorem R_mkAgg {F : Fix} {c : Cx} {xs : List AV} {ys : List Value} (h : Rs F c xs ys) : R F c (mkAgg xs) (.agg ys.toArray) := by
  unfold mkAgg
  cases hp : allP xs with
  | none => simp only [R]; exact ⟨ys, rfl, h⟩
  | some ps =>
    have := Rs_allP (F := F) (c := c) hp
    subst this
    simp only [R, RP]
    exact ⟨ys, rfl, RPs_of h⟩
end Hx
