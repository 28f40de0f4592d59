/-
  HxMove6: append.
-/
import Derived.Test.YtfobhbameffplaaHxMove4
namespace Hx
open Go Go.RowKit
set_option linter.unusedSimpArgs false
set_option linter.unusedVariables false

section
variable {F : Fix} {E : Env} {w0 : Base} {c : Cx} {m : Mem}

set_option maxHeartbeats 4000000 in
theorem mkRow_sound (h : Inv F E w0 c m) {ev : X → AV} {ρ : Operand → Value} (hev : Evs F c ev ρ) {own : Bool} {n bytes : Nat} {zero : List PV} {l cc : X} (go : Oper) (hok : okOp F (.mkRow own n bytes zero l cc) go.op = true) {r : AV} {m' : Mem} (hd : denMove ev m (.mkRow own n bytes zero l cc) = some (r, m')) : Moved F E w0 c ρ go r m' := by
  rcases go with ⟨dst, op, type, pos, after, guard⟩
  dsimp only at hok
  unfold Moved execOp
  cases op <;> try (simp [okOp] at hok; done)
  dsimp only
  rename_i t l' c'
  simp only [okOp, Bool.and_eq_true, decide_eq_true_eq] at hok
  obtain ⟨⟨⟨h2, h3⟩, h4⟩, hn0⟩ := hok
  split at h2 <;> try (cases h2; done)
  rename_i e hu
  simp only [Bool.and_eq_true] at h2
  obtain ⟨h5, h6⟩ := h2
  obtain ⟨i, z, hi, hz, hzr, hzp⟩ := zero_run h6
  rw [hi] at h5
  simp only [Bool.and_eq_true, decide_eq_true_eq] at h5
  obtain ⟨rfl, rfl⟩ := h5
  have hzl := RPs_length (hzp c)
  simp only [Array.length_toList] at hzl
  simp only [denMove] at hd
  split at hd <;> try (cases hd; done)
  rename_i ln cn hl hc
  split at hd <;> try (cases hd; done)
  rename_i hcond
  obtain ⟨hlc, hby, hc63, hfl, hzn⟩ := hcond
  obtain ⟨kl, hkl⟩ := R_asNat (hev _ _ h3) hl
  obtain ⟨kc, hkc⟩ := R_asNat (hev _ _ h4) hc
  have hz0 : z.cells.size ≠ 0 := by omega
  have hzs : z.cells.size = i.size := by omega
  let arr : Array Value := madeCells z.cells (cn * i.size)
  have harr : arr.toList = (List.replicate cn z.cells.toList).flatten := by
    have := range_cells z.cells hz0 cn
    simp only [arr, madeCells, ← hzs]; exact this
  have hsz : arr.size = cn * i.size := size_madeCells _ _
  let w' : World := c.w.alloc (.cells arr e)
  have hh : w'.heap = c.w.heap.push (.cells arr e (0, 0)) := rfl
  have hb' : (i.bytes : Int) * (cn : Int) ≤ 281474976710656 := by
    have h1 : ((cn * i.bytes : Nat) : Int) ≤ ((room : Nat) : Int) := by exact_mod_cast hby
    have hr : ((room : Nat) : Int) = 70368744177664 := by decide
    rw [Int.natCast_mul, Int.mul_comm] at h1
    omega
  have hrun : (do let v ← Instr.makeSlice t (ρ l') (ρ c'); pure (Next.value v) : Sem Next).run F.P c.w = .ok (.value (.slice (some ⟨c.w.heap.size, 0, none⟩) ln cn)) w' := by
    rw [hkl, hkc]
    have := run_make (P := F.P) c.w t e i z hu hi hz kl kc ln cn (by omega) (by omega) hb' (by omega)
    simp only [Int.toNat_natCast] at this
    simp only [Sem.run_bind, this, Result.andThen_ok, Sem.run_pure]
    rfl
  have hzall := List.all_eq_true.mp hfl
  have hrep : ∀ k, ∀ p ∈ (List.replicate k zero).flatten, p.flat = true := by
    intro k p hp
    simp only [List.mem_flatten, List.mem_replicate] at hp
    obtain ⟨l, ⟨_, rfl⟩, hp⟩ := hp
    exact hzall p hp
  split at hd
  · simp only [Option.some.injEq, Prod.mk.injEq] at hd
    obtain ⟨rfl, rfl⟩ := hd
    have hRs : Rs F c ((List.replicate cn zero).flatten.map .p) arr.toList := by rw [harr]; exact Rs_p (replicate_cells (hzp c) cn)
    have hll := Rs_length hRs
    simp only [Array.length_toList] at hll
    obtain ⟨he, hinv⟩ := fresh_cells h (w' := w') hh (nofz_zero _) ⟨rfl, rfl, rfl⟩ (cs := (List.replicate cn zero).flatten.map .p) (by
      intro x hx
      simp only [List.mem_map] at hx
      obtain ⟨p, hp, rfl⟩ := hx
      exact hrep cn p hp) (by omega) (by rw [hll, ← Array.length_toList, List.take_length]; exact hRs)
    exact ⟨_, _, .value (.slice (some ⟨c.w.heap.size, 0, none⟩) ln cn), hrun, .inl rfl, he, hinv, own_pushed h hh hlc (by omega)⟩
  · simp only [newTok, List.length_replicate, Option.some.injEq, Prod.mk.injEq] at hd
    obtain ⟨rfl, rfl⟩ := hd
    obtain ⟨c'', j1, j2, j3, j4⟩ := fresh_tok h (w' := w') hh (nofz_zero _) ⟨rfl, rfl, rfl⟩ (n := i.size) (cap := cn) (rows := List.replicate ln zero) (by
      intro r hr; simp only [List.mem_replicate] at hr; rw [hr.2]; exact hzn) (hrep ln) (by simpa using hlc) (by omega) (ys := (List.replicate ln z.cells.toList).flatten) (replicate_cells (hzp c) ln) (by
      intro j v hv
      rw [← Array.getElem?_toList, harr]
      obtain ⟨d, rfl⟩ : ∃ d, cn = ln + d := ⟨cn - ln, by omega⟩
      rw [← List.replicate_append_replicate, List.flatten_append, List.getElem?_append_left (by rw [List.getElem?_eq_some_iff] at hv; exact hv.1)]
      exact hv)
    simp only [List.length_replicate] at j3 j4
    exact ⟨c'', _, .value (.slice (some ⟨c.w.heap.size, 0, none⟩) ln cn), by rw [hrun, j1], .inl rfl, j2, j3, j4⟩

set_option maxHeartbeats 4000000 in
theorem cutArr_sound (h : Inv F E w0 c m) {ev : X → AV} {ρ : Operand → Value} (hev : Evs F c ev ρ) {len n : Nat} {x : X} {lo hi : Option X} (go : Oper) (hok : okOp F (.cutArr len n x lo hi) go.op = true) {r : AV} {m' : Mem} (hd : denMove ev m (.cutArr len n x lo hi) = some (r, m')) : Moved F E w0 c ρ go r m' := by
  rcases go with ⟨dst, op, type, pos, after, guard⟩
  dsimp only at hok
  unfold Moved execOp
  cases op <;> try (simp [okOp] at hok; done)
  dsimp only
  rename_i t x' lo' hi' mx
  cases mx <;> try (simp [okOp] at hok; done)
  simp only [okOp, Bool.and_eq_true] at hok
  obtain ⟨⟨⟨h1, h2⟩, h3⟩, h4⟩ := hok
  split at h1 <;> try (cases h1; done)
  rename_i len' e hu
  simp only [Bool.and_eq_true, decide_eq_true_eq] at h1
  obtain ⟨rfl, h5⟩ := h1
  simp only [denMove] at hd
  split at hd <;> try (cases hd; done)
  rename_i id off hx
  split at hd <;> try (cases hd; done)
  rename_i cs hm
  split at hd <;> try (cases hd; done)
  rename_i hle
  split at hd <;> try (cases hd; done)
  rename_i l hh hb
  simp only [Option.some.injEq, Prod.mk.injEq] at hd
  obtain ⟨rfl, rfl⟩ := hd
  have hR := hev _ _ h2
  rw [hx] at hR
  simp only [R] at hR
  obtain ⟨hid, hp⟩ := hR
  obtain ⟨k3, k2, k4, arr, T, fz, k5, k6, k7, k8⟩ := cells_of h hm
  obtain ⟨q1, q2, q3⟩ := run_bounds hev h3 h4 hb (Nat.le_refl _) false c.w
  refine ⟨c, _, .value (.slice (some (if len = l then ⟨(c.ρ id).1, (c.ρ id).2 + off, none⟩ else (⟨(c.ρ id).1, (c.ρ id).2 + off, none⟩ : Addr).add (l * n))) (hh - l) (len - l)), ?_, .inl rfl, Ext.refl c, h, ?_⟩
  · rw [hp]
    simp only [Instr.sliceAt, Sem.run_bind, run_underlying hu, Result.andThen_ok, Instr.sureAddr, Sem.run_pure, Option.map_none, q1, run_size h5]
  · simp only [R]
    by_cases hll : len = l
    · simp only [if_pos hll]
      exact ⟨hid, _, _, rfl, by omega, rfl, .inr (by omega)⟩
    · simp only [if_neg hll]
      refine ⟨hid, _, _, rfl, by omega, by rw [addr_add rfl], .inl ⟨by rw [addr_add rfl, Nat.add_assoc], ?_⟩⟩
      have hcs : csize c.w (c.ρ id).1 = arr.size := by simp [csize, cinfo, k5]
      rw [hcs, k3]
      have : l * n + (len - l) * n = len * n := by rw [← Nat.add_mul]; congr 1; omega
      omega

theorem unBytes_ints : ∀ {rows : List (List PV)} {s : List UInt8} {news : List Value}, unBytes rows = some s → RPs F c rows.flatten news → ∃ ns : List Int, news = ns.map (Value.int .u8) ∧ s = ns.map fun n => UInt8.ofNat n.toNat
  | [], s, news, h, hr => by
    simp [unBytes] at h; subst h
    simp only [List.flatten_nil, RPs] at hr; subst hr
    exact ⟨[], rfl, rfl⟩
  | r :: rows, s, news, h, hr => by
    simp only [unBytes] at h
    split at h <;> try (cases h; done)
    rename_i b l hb hl
    obtain rfl := Option.some.inj h
    unfold unByte at hb
    split at hb <;> try (cases hb; done)
    rename_i n
    obtain rfl := Option.some.inj hb
    simp only [List.flatten_cons, List.cons_append, List.nil_append, RPs, RP] at hr
    obtain ⟨y, r', rfl, rfl, h2⟩ := hr
    obtain ⟨ns, rfl, rfl⟩ := unBytes_ints hl h2
    exact ⟨n :: ns, rfl, rfl⟩

set_option maxHeartbeats 4000000 in
theorem toStr_sound (h : Inv F E w0 c m) {ev : X → AV} {ρ : Operand → Value} (hev : Evs F c ev ρ) {x : X} (go : Oper) (hok : okOp F (.toStr x) go.op = true) {r : AV} {m' : Mem} (hd : denMove ev m (.toStr x) = some (r, m')) : Moved F E w0 c ρ go r m' := by
  rcases go with ⟨dst, op, type, pos, after, guard⟩
  dsimp only at hok
  unfold Moved execOp
  cases op <;> try (simp [okOp] at hok; done)
  dsimp only
  rename_i src d x'
  simp only [okOp, Bool.and_eq_true] at hok
  obtain ⟨⟨h1, h2⟩, h3⟩ := hok
  split at h2 <;> try (cases h2; done)
  rename_i e hsl
  unfold isIntK at h2
  split at h2 <;> try (cases h2; done)
  rename_i k'' he
  simp only [decide_eq_true_eq] at h2; subst h2
  unfold isStr at h1
  split at h1 <;> try (cases h1; done)
  rename_i hdd
  simp only [denMove] at hd
  split at hd <;> try (cases hd; done)
  rename_i n id off len hx
  split at hd <;> try (cases hd; done)
  rename_i rows hrows
  split at hd <;> try (cases hd; done)
  rename_i s hs
  simp only [Option.some.injEq, Prod.mk.injEq] at hd
  obtain ⟨rfl, rfl⟩ := hd
  have hR := hev _ _ h3
  rw [hx] at hR
  obtain ⟨news, k1, k2, k3, k4, k5⟩ := rowsOf_sound h hrows hR
  obtain ⟨ns, rfl, rfl⟩ := unBytes_ints hs k1
  simp only [R] at hR
  obtain ⟨hid, a, cap, hv, _⟩ := hR
  have hlen := k4 c.w
  rw [hv] at hlen
  simp only [Builtin.lenOf, Sem.run_pure] at hlen
  injection hlen with hlen
  have hld := k5 c.w rfl
  rw [hv] at hld
  simp only [Builtin.firstCells, Nat.mul_one] at hld
  rw [← hlen] at hld
  refine ⟨c, _, .value (.string ⟨(ns.map fun n => UInt8.ofNat n.toNat).toArray⟩), ?_, .inl rfl, Ext.refl c, h, by simp [R, RP]⟩
  rw [hv]
  simp only [Sem.run_bind, run_convert_bytes_string c.w _ _ e (some a) _ cap hsl he hdd, run_bytesToString c.w a len cap ns hld, Result.andThen_ok, Sem.run_pure]
  congr 3
  have : ∀ (ns : List Int) (b : ByteArray), ns.foldl (fun r n => r.push (UInt8.ofNat n.toNat)) b = ⟨(b.data.toList ++ ns.map fun n => UInt8.ofNat n.toNat).toArray⟩ := by
    intro ns
    induction ns with
    | nil => intro b; cases b; simp
    | cons n ns ih => intro b; simp only [List.foldl_cons, ih]; simp [ByteArray.push]
  rw [this]; simp

theorem byteRows_RPs : ∀ (s : List UInt8), RPs F c (byteRows s).flatten (s.map fun b => Value.int .u8 b.toNat)
  | [] => by simp [byteRows, RPs]
  | b :: s => by
    have ih := byteRows_RPs s
    simp only [byteRows, List.map_cons, List.flatten_cons, byteRow, List.cons_append, List.nil_append, RPs, RP] at ih ⊢
    exact ⟨_, _, rfl, rfl, ih⟩
theorem byteRows_flatten : ∀ (s : List UInt8), (byteRows s).flatten = s.map fun b => PV.int .u8 b.toNat
  | [] => by simp [byteRows]
  | b :: s => by
    have ih := byteRows_flatten s
    simp only [byteRows, List.map_cons, List.flatten_cons] at ih ⊢; rw [ih]; simp [byteRow]

set_option maxHeartbeats 4000000 in
theorem toBytes_sound (h : Inv F E w0 c m) {ev : X → AV} {ρ : Operand → Value} (hev : Evs F c ev ρ) {own : Bool} {x : X} (go : Oper) (hok : okOp F (.toBytes own x) go.op = true) {r : AV} {m' : Mem} (hd : denMove ev m (.toBytes own x) = some (r, m')) : Moved F E w0 c ρ go r m' := by
  rcases go with ⟨dst, op, type, pos, after, guard⟩
  dsimp only at hok
  unfold Moved execOp
  cases op <;> try (simp [okOp] at hok; done)
  dsimp only
  rename_i src d x'
  simp only [okOp, Bool.and_eq_true] at hok
  obtain ⟨⟨h1, h2⟩, h3⟩ := hok
  split at h2 <;> try (cases h2; done)
  rename_i e hsl
  unfold isIntK at h2
  split at h2 <;> try (cases h2; done)
  rename_i k'' he
  simp only [decide_eq_true_eq] at h2; subst h2
  obtain ⟨ds, hds⟩ := Option.isSome_iff_exists.mp h1
  simp only [denMove] at hd
  split at hd <;> try (cases hd; done)
  rename_i s hx
  have hR := hev _ _ h3
  rw [hx] at hR
  have hv := R_str hR
  let cap := grownCap c.w s.length 0 e
  have hcap : s.length ≤ cap := grownCap_ge _ _ _ _
  let arr : Array Value := (s.toArray.map fun b => Value.int .u8 b.toNat) ++ Array.replicate (cap - s.length) (.int .u8 0)
  have hsz : arr.size = cap := by simp [arr]; omega
  let w' : World := { c.w with heap := c.w.heap.push (.cells arr e (cap, cap + 1)), drawn := c.w.drawn + 1 }
  have hh : w'.heap = c.w.heap.push (.cells arr e (cap, cap + 1)) := rfl
  have hnz : nofz arr.size (cap, cap + 1) := .inr (by simp [hsz])
  have hrun : (do let v ← convert src d (ρ x'); pure (Next.value v) : Sem Next).run F.P c.w = .ok (.value (.slice (some ⟨c.w.heap.size, 0, none⟩) s.length cap)) w' := by
    rw [hv]
    let w1 : World := { c.w with heap := c.w.heap.push (.cells arr e), drawn := c.w.drawn + 1 }
    have hmark : (markStringish ⟨c.w.heap.size, 0, none⟩).run F.P w1 = .ok () w' := by
      have hshape : w1.shape? c.w.heap.size = some (e, cap) := by
        simp only [w1, World.shape?, Array.getElem?_push_size]
        rw [hsz]
      have hfr : w1.freeze ⟨c.w.heap.size, cap, none⟩ 1 = w' := by
        simp only [World.freeze, Nat.one_ne_zero, if_false, w1, w']
        congr 1
        apply Array.ext
        · simp
        · intro k h1 h2
          rw [Array.getElem_modify]
          simp only [Array.getElem_push]
          by_cases hk : c.w.heap.size = k
          · subst hk; simp
          · have : k < c.w.heap.size := by simp at h2; omega
            simp [hk, this]
      unfold markStringish
      simp only [Sem.run_bind, run_shape, hshape, Result.andThen_ok, run_freeze, hfr]
    have hc : ∀ (K : Value → Sem Next), (do let v ← convert src d (.string ⟨s.toArray⟩); K v : Sem Next).run F.P c.w = ((markStringish ⟨c.w.heap.size, 0, none⟩).run F.P w1).andThen fun _ w2 => (K (.slice (some ⟨c.w.heap.size, 0, none⟩) s.length cap)).run F.P w2 := by
      intro K
      unfold convert Conv.stringToBytes
      simp only [Sem.run_bind, run_underlying hds, run_underlying hsl, run_underlying he, Result.andThen_ok, run_choose, Question.forced, size_bytes, newRow, run_newObj, Sem.run_pure, Bool.false_eq_true, if_false]
      simp only [w1, arr, cap, grownCap]
      cases (markStringish { block := c.w.heap.size, off := 0 }).run F.P { heap := c.w.heap.push (Obj.cells (Array.map (fun b => Value.int IntKind.u8 ↑b.toNat) s.toArray ++ Array.replicate ((Question.appendCap s.length 0 e).cut (c.w.tape c.w.drawn (Question.appendCap s.length 0 e)) - s.length) (Value.int IntKind.u8 0)) e), tape := c.w.tape, drawn := c.w.drawn + 1, os := c.w.os, output := c.w.output } <;> rfl
    rw [hc, hmark]
    simp
  have hpre : ∀ (j : Nat) (v : Value), (s.map fun b => Value.int .u8 b.toNat)[j]? = some v → arr[j]? = some v := by
    intro j v hj
    simp only [arr]
    rw [Array.getElem?_append_left (by rw [List.getElem?_eq_some_iff] at hj; have := hj.1; simpa using this)]
    simpa using hj
  have hps : RPs F c (byteRows s).flatten (s.map fun b => Value.int .u8 b.toNat) := byteRows_RPs s
  have hfl := byteRows_flatten s
  split at hd
  · simp only [Option.some.injEq, Prod.mk.injEq] at hd
    obtain ⟨rfl, rfl⟩ := hd
    have hmm : (s.map fun b => AV.p (.int .u8 b.toNat)) = ((byteRows s).flatten).map .p := by rw [hfl]; simp
    rw [hmm]
    have hlen : (((byteRows s).flatten).map AV.p).length = s.length := by rw [← hmm]; simp
    obtain ⟨he', hinv⟩ := fresh_cells h (w' := w') hh hnz ⟨rfl, rfl, rfl⟩ (cs := ((byteRows s).flatten).map .p) (by
      intro y hy; rw [← hmm] at hy; simp only [List.mem_map] at hy; obtain ⟨b, _, rfl⟩ := hy; rfl) (by omega) (by
      rw [hlen]
      have : arr.toList.take s.length = s.map fun b => Value.int .u8 b.toNat := by simp [arr]
      rw [this]
      exact Rs_p hps)
    exact ⟨_, _, .value (.slice (some ⟨c.w.heap.size, 0, none⟩) s.length cap), hrun, .inl rfl, he', hinv, own_pushed h hh hcap (by omega)⟩
  · simp only [newTok, Option.some.injEq, Prod.mk.injEq] at hd
    obtain ⟨rfl, rfl⟩ := hd
    have hbl : (byteRows s).length = s.length := by simp [byteRows]
    obtain ⟨c'', j1, j2, j3, j4⟩ := fresh_tok h (w' := w') hh hnz ⟨rfl, rfl, rfl⟩ (n := 1) (cap := cap) (rows := byteRows s) (by
      intro r hr; simp only [byteRows, List.mem_map] at hr; obtain ⟨b, _, rfl⟩ := hr; rfl) (by
      intro p hp; rw [hfl] at hp; simp only [List.mem_map] at hp; obtain ⟨b, _, rfl⟩ := hp; rfl) (by omega) (by omega) hps hpre
    rw [hbl] at j4
    exact ⟨c'', _, .value (.slice (some ⟨c.w.heap.size, 0, none⟩) s.length cap), by rw [hrun, j1], .inl rfl, j2, j3, j4⟩
end
end Hx

namespace Hx
open Go Go.RowKit
set_option linter.unusedSimpArgs false
set_option linter.unusedVariables false

section
variable {P : Program}

theorem append_fits (w : World) {argTypes : Array TypeId} {t u e ty : TypeId} {i : TypeInfo} {d : TypeDesc} (h0 : argTypes[0]? = some t) (h1 : argTypes[1]? = some u) (ht : P.underlying t = some (.slice e)) (hu : P.underlying u = some d) (hd : isInt (some d) = false)
    (hi : P.info? e = some i) (base : Option Addr) (sLen sCap k : Nat) (y : Value) (news : List Value) (hlen : ∀ w1 : World, (Builtin.lenOf y).run P w1 = .ok k w1) (hfirst : ∀ w1 : World, w1.heap = w.heap → (Builtin.firstCells i.size k y).run P w1 = .ok news.toArray w1) (hfit : sLen + k ≤ sCap) :
    (Builtin.append_ argTypes ty #[.slice base sLen sCap, y]).run P w = match base with
      | some a => ((storeCells (a.add (sLen * i.size)) news).run P w).andThen fun _ w' => .ok (.slice base (sLen + k) sCap) w'
      | none => .ok (.slice none (sLen + k) sCap) w := by
  have hf := hfirst w rfl
  unfold Builtin.append_
  cases d <;> try (simp [isInt] at hd; done)
  all_goals
    simp only [h0, h1, List.getElem?_toArray, List.getElem?_cons_zero, List.getElem?_cons_succ, Sem.run_bind, run_underlying ht, run_underlying hu, Result.andThen_ok, Go.sizeOf, typeInfo, run_program, hi, Sem.run_pure]
    simp only [Bool.false_eq_true, if_false, hlen, Result.andThen_ok, hfit, if_true, Bool.not_false, Sem.run_bind, hf]
    cases base <;> simp

theorem append_grows (w : World) {argTypes : Array TypeId} {t u e ty : TypeId} {i : TypeInfo} {d : TypeDesc} {z : Value} (h0 : argTypes[0]? = some t) (h1 : argTypes[1]? = some u) (ht : P.underlying t = some (.slice e)) (hu : P.underlying u = some d) (hd : isInt (some d) = false)
    (hi : P.info? e = some i) (hz : i.zero = some z) (hzs : z.cells.size = i.size) (base : Option Addr) (sLen sCap k : Nat) (y : Value) (olds news : List Value) (hlen : ∀ w1 : World, (Builtin.lenOf y).run P w1 = .ok k w1) (hfirst : ∀ w1 : World, w1.heap = w.heap → (Builtin.firstCells i.size k y).run P w1 = .ok news.toArray w1)
    (hold : ∀ w1 : World, w1.heap = w.heap → (Builtin.firstCells i.size sLen (.slice base sLen sCap)).run P w1 = .ok olds.toArray w1) (hno : sCap < sLen + k) (hby : (sLen + k) * i.bytes ≤ room) (hrm : sLen + k ≤ room) (hol : olds.length = sLen * i.size) (hnl : news.length = k * i.size) :
    ∃ newCap arr, sLen + k ≤ newCap ∧ arr.size = newCap * i.size ∧ (∀ (j : Nat) (v : Value), (olds ++ news)[j]? = some v → arr[j]? = some v) ∧
      (Builtin.append_ argTypes ty #[.slice base sLen sCap, y]).run P w = .ok (.slice (some ⟨w.heap.size, 0, none⟩) (sLen + k) newCap) { w with heap := w.heap.push (.cells arr e), drawn := w.drawn + 1 } := by
  have hw1 : ∀ (H : Array Obj) (T D O Q), ({ heap := H, tape := T, drawn := D, os := O, output := Q } : World).heap = H := fun _ _ _ _ _ => rfl
  let w1 : World := { w with drawn := w.drawn + 1 }
  have hf := hfirst w1 rfl
  have ho := hold w1 rfl
  have hcap := grownCap_ge w (sLen + k) sCap e
  refine ⟨grownCap w (sLen + k) sCap e, (olds.toArray ++ news.toArray ++ Builtin.zeroCells z.cells (grownCap w (sLen + k) sCap e - (sLen + k))), hcap, ?_, ?_, ?_⟩
  · simp only [Array.size_append, List.size_toArray, size_zeroCells, hol, hnl, hzs]
    rw [← Nat.add_mul, ← Nat.add_mul]
    congr 1
    omega
  · intro j v hv
    have hjl : j < (olds ++ news).length := by rw [List.getElem?_eq_some_iff] at hv; exact hv.1
    rw [Array.getElem?_append_left (by simpa using hjl)]
    simpa using hv
  · have hnf : ¬ (sLen + k ≤ sCap) := by omega
    have hmax : ¬ (((sLen + k : Nat) : Int) > IntKind.i64.max ∧ (False ∨ i.bytes = 0)) := by
      have : IntKind.i64.max = 9223372036854775807 := by decide
      rw [this]
      unfold room at hrm
      omega
    have hbig : ¬ (Builtin.nextslicecap (sLen + k) sCap * i.bytes > 2 ^ 48) := by
      have := growslice_fits (need := sLen + k) (old := sCap) (bytes := i.bytes) (by omega) (by unfold room at hby; omega)
      omega
    unfold Builtin.append_
    simp only [w1] at hf ho
    cases d <;> try (simp [isInt] at hd; done)
    all_goals
      simp only [h0, h1, List.getElem?_toArray, List.getElem?_cons_zero, List.getElem?_cons_succ, Sem.run_bind, run_underlying ht, run_underlying hu, Result.andThen_ok, Go.sizeOf, typeInfo, run_program, hi, Sem.run_pure]
      simp only [Bool.false_eq_true, if_false, hlen, Result.andThen_ok, hnf, Bool.not_false, Sem.run_bind, Sem.run_ite, hmax, run_program, hi, hbig, run_choose, Question.forced, run_askRoom, zeroValue, typeInfo, hz, Sem.run_pure, newRow, run_newObj, ho, hf, if_true]
      rfl
end
end Hx
