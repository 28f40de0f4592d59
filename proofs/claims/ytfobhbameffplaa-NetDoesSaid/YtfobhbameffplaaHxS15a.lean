/-
  HxS15a: tables as values; the place of a table, a column, a key.
-/
import Derived.Test.YtfobhbameffplaaHxU25i
import Derived.Test.YtfobhbameffplaaHxA15
import Derived.Test.YtfobhbameffplaaHxFn15
namespace Hx
abbrev Val := Int × Int × List UInt8
abbrev Row := List Val
structure LtOk (lt : Val → Val → Bool) : Prop where
  irr : ∀ a, lt a a = false
  tr : ∀ a b c, lt a b = true → lt b c = true → lt a c = true
  tri : ∀ a b, lt a b = true ∨ a = b ∨ lt b a = true
section
variable {lt : Val → Val → Bool} {k : Row → Val}
def Rise (lt : Val → Val → Bool) (k : Row → Val) (l : List Row) : Prop := l.Pairwise fun a b => lt (k a) (k b) = true
def getR (k : Row → Val) (l : List Row) (v : Val) : Option Row := l.find? fun r => decide (k r = v)
def putR (lt : Val → Val → Bool) (k : Row → Val) (x : Row) : List Row → List Row
  | [] => [x]
  | y :: l => if lt (k y) (k x) then y :: putR lt k x l else if k y = k x then x :: l else x :: y :: l
def delR (k : Row → Val) (v : Val) (l : List Row) : List Row := l.eraseP fun r => decide (k r = v)
theorem getR_none {l : List Row} {v : Val} : getR k l v = none ↔ ∀ r ∈ l, k r ≠ v := by
  unfold getR
  rw [List.find?_eq_none]
  simp
theorem getR_cons (x : Row) (l : List Row) (v : Val) : getR k (x :: l) v = if k x = v then some x else getR k l v := by
  unfold getR
  rw [List.find?_cons]
  by_cases h : k x = v <;> simp [h]
theorem getR_key {l : List Row} {v : Val} {r : Row} (h : getR k l v = some r) : k r = v ∧ r ∈ l := by
  unfold getR at h
  have h1 := List.find?_some h
  exact ⟨by simpa using h1, List.mem_of_find?_eq_some h⟩
theorem rise_none (o : LtOk lt) {x : Row} {l : List Row} (h : Rise lt k (x :: l)) {v : Val} (hv : lt v (k x) = true ∨ v = k x) : getR k l v = none := by
  rw [getR_none]
  intro r hr e
  have h1 : lt (k x) (k r) = true := (List.pairwise_cons.1 h).1 r hr
  rw [e] at h1
  rcases hv with hv | hv
  · have := o.tr _ _ _ hv h1
    rw [o.irr] at this; cases this
  · rw [hv, o.irr] at h1; cases h1
theorem get_put (o : LtOk lt) (x : Row) : ∀ {l : List Row}, Rise lt k l → ∀ v, getR k (putR lt k x l) v = if k x = v then some x else getR k l v
  | [], _, v => by simp only [putR, getR_cons]
  | y :: l, h, v => by
    unfold putR
    by_cases h1 : lt (k y) (k x) = true
    · rw [if_pos h1, getR_cons, getR_cons, get_put o x h.of_cons v]
      by_cases h2 : k y = v
      · have : ¬ k x = v := by
          intro e
          rw [h2, e, o.irr] at h1; cases h1
        simp [h2, this]
      · simp [h2]
    · rw [if_neg h1]
      by_cases h2 : k y = k x
      · rw [if_pos h2, getR_cons, getR_cons, h2]
        by_cases h3 : k x = v
        · simp [h3]
        · simp [h3]
      · rw [if_neg h2, getR_cons]
theorem mem_put {x : Row} : ∀ {l : List Row} {r : Row}, r ∈ putR lt k x l → r = x ∨ r ∈ l
  | [], r, h => by simp only [putR, List.mem_singleton] at h; exact .inl h
  | y :: l, r, h => by
    unfold putR at h
    split at h
    · rcases List.mem_cons.1 h with rfl | h
      · exact .inr (by simp)
      · rcases mem_put h with h | h
        · exact .inl h
        · exact .inr (by simp [h])
    · split at h
      · rcases List.mem_cons.1 h with rfl | h
        · exact .inl rfl
        · exact .inr (by simp [h])
      · rcases List.mem_cons.1 h with rfl | h
        · exact .inl rfl
        · exact .inr h
theorem rise_put (o : LtOk lt) (x : Row) : ∀ {l : List Row}, Rise lt k l → Rise lt k (putR lt k x l)
  | [], _ => List.pairwise_singleton _ _
  | y :: l, h => by
    obtain ⟨h1, h2⟩ := List.pairwise_cons.1 h
    unfold putR
    by_cases q1 : lt (k y) (k x) = true
    · rw [if_pos q1]
      refine List.pairwise_cons.2 ⟨?_, rise_put o x h2⟩
      intro r hr
      rcases mem_put hr with rfl | hr
      · exact q1
      · exact h1 r hr
    · rw [if_neg q1]
      by_cases q2 : k y = k x
      · rw [if_pos q2]
        refine List.pairwise_cons.2 ⟨?_, h2⟩
        intro r hr
        rw [← q2]; exact h1 r hr
      · rw [if_neg q2]
        have q3 : lt (k x) (k y) = true := by
          rcases o.tri (k y) (k x) with q | q | q
          · exact absurd q q1
          · exact absurd q q2
          · exact q
        refine List.pairwise_cons.2 ⟨?_, h⟩
        intro r hr
        rcases List.mem_cons.1 hr with rfl | hr
        · exact q3
        · exact o.tr _ _ _ q3 (h1 r hr)
theorem len_put (x : Row) : ∀ (l : List Row), (putR lt k x l).length ≤ l.length + 1
  | [] => by simp [putR]
  | y :: l => by
    unfold putR
    split
    · simp only [List.length_cons]
      have := len_put x l
      omega
    · split <;> simp
theorem rise_del {v : Val} {l : List Row} (h : Rise lt k l) : Rise lt k (delR k v l) := List.Pairwise.sublist (List.eraseP_sublist) h
theorem get_del (o : LtOk lt) {v : Val} : ∀ {l : List Row}, Rise lt k l → ∀ w, getR k (delR k v l) w = if v = w then none else getR k l w
  | [], _, w => by simp [delR, getR]
  | y :: l, h, w => by
    unfold delR
    by_cases h1 : k y = v
    · rw [List.eraseP_cons_of_pos (by simpa using h1), getR_cons, h1]
      by_cases h2 : v = w
      · rw [if_pos h2]
        exact rise_none o h (.inr (by rw [h1, h2]))
      · simp [h2]
    · rw [List.eraseP_cons_of_neg (by simpa using h1), getR_cons, getR_cons]
      have := get_del o (v := v) h.of_cons w
      unfold delR at this
      rw [this]
      by_cases h2 : v = w
      · subst h2; simp [h1]
      · simp [h2]
theorem len_del {v : Val} (l : List Row) : (delR k v l).length ≤ l.length := (List.eraseP_sublist).length_le
theorem rise_ext (o : LtOk lt) : ∀ {l l' : List Row}, Rise lt k l → Rise lt k l' → (∀ v, getR k l v = getR k l' v) → l = l'
  | [], [], _, _, _ => rfl
  | [], b :: l', _, _, h => by
    have := h (k b)
    rw [getR_cons, if_pos rfl] at this
    cases this
  | a :: l, [], _, _, h => by
    have := h (k a)
    rw [getR_cons, if_pos rfl] at this
    cases this
  | a :: l, b :: l', h1, h2, h => by
    have ha := h (k a)
    have hb := h (k b)
    rw [getR_cons, if_pos rfl] at ha
    rw [getR_cons (x := b), if_pos rfl] at hb
    have hab : k a = k b := by
      rcases o.tri (k a) (k b) with q | q | q
      · rw [getR_cons, if_neg (fun e => by rw [e, o.irr] at q; cases q), rise_none o h2 (.inl q)] at ha
        cases ha
      · exact q
      · rw [getR_cons, if_neg (fun e => by rw [e, o.irr] at q; cases q), rise_none o h1 (.inl q)] at hb
        cases hb
    rw [getR_cons, if_pos hab.symm] at ha
    obtain rfl := Option.some.inj ha
    rw [rise_ext o h1.of_cons h2.of_cons]
    intro v
    have hv := h v
    rw [getR_cons, getR_cons] at hv
    by_cases q : k a = v
    · rw [rise_none o h1 (.inr q.symm), rise_none o h2 (.inr q.symm)]
    · rwa [if_neg q, if_neg q] at hv
theorem nodup_len {α : Type} [DecidableEq α] : ∀ {xs ys : List α}, xs.Nodup → (∀ x ∈ xs, x ∈ ys) → xs.length ≤ ys.length
  | [], ys, _, _ => Nat.zero_le _
  | x :: xs, ys, h, hs => by
    obtain ⟨h1, h2⟩ := List.nodup_cons.1 h
    have hx := hs x (by simp)
    have := nodup_len (ys := ys.erase x) h2 (by
      intro y hy
      have hne : y ≠ x := fun e => h1 (e ▸ hy)
      exact (List.mem_erase_of_ne hne).2 (hs y (by simp [hy])))
    rw [List.length_erase_of_mem hx] at this
    have : 0 < ys.length := List.length_pos_of_mem hx
    simp only [List.length_cons]
    omega
theorem rise_nodup (o : LtOk lt) {l : List Row} (h : Rise lt k l) : (l.map k).Nodup := by
  unfold List.Nodup
  rw [List.pairwise_map]
  refine h.imp ?_
  intro a b hab e
  rw [e, o.irr] at hab; cases hab
theorem rise_less (o : LtOk lt) {l l' : List Row} (h : Rise lt k l) {v : Val} (hv : getR k l v = none) (hv' : getR k l' v ≠ none) (hs : ∀ w, getR k l w ≠ none → getR k l' w ≠ none) : l.length < l'.length := by
  have key : ∀ w, getR k l' w ≠ none → w ∈ l'.map k := by
    intro w hw
    obtain ⟨r, hr⟩ := Option.ne_none_iff_exists'.1 hw
    obtain ⟨h1, h2⟩ := getR_key hr
    exact List.mem_map.2 ⟨r, h2, h1⟩
  have hnd : (v :: l.map k).Nodup := by
    refine List.nodup_cons.2 ⟨?_, rise_nodup o h⟩
    intro hm
    obtain ⟨r, hr, e⟩ := List.mem_map.1 hm
    exact (getR_none.1 hv) r hr e
  have := nodup_len (ys := l'.map k) hnd (by
    intro w hw
    rcases List.mem_cons.1 hw with rfl | hw
    · exact key _ hv'
    · refine key w (hs w ?_)
      obtain ⟨r, hr, e⟩ := List.mem_map.1 hw
      intro hn
      exact (getR_none.1 hn) r hr e)
  simp only [List.length_cons, List.length_map] at this
  omega
end
end Hx

namespace Hx
open Go
set_option linter.unusedSimpArgs false
set_option linter.unusedVariables false
set_option maxHeartbeats 64000000
set_option maxRecDepth 20000
variable {E : Env}
attribute [-simp] List.getD_eq_getElem?_getD getElem?_pos
def zv : Val := (0, 0, [])
def valP (v : Val) : List PV := [.int .i64 v.1, .int .i64 v.2.1, .str v.2.2]
def RowQ (p : PV) (r : Row) : Prop := (r = [] ∧ p = .nils) ∨ p = .vals 3 (r.map valP)
theorem RowQ.flat {p : PV} {r : Row} (h : RowQ p r) : p.flat = true := by rcases h with ⟨_, rfl⟩ | rfl <;> rfl
structure Tbl where
  id : Int
  name : List UInt8
  key : Int
  next : Int
  cols : List (Int × Col)
  sl : PV
def tblP (t : Tbl) : List PV := [.int .i64 t.id, .str t.name, .int .i64 t.key, .int .i64 t.next, t.sl]
def TblF (t : Tbl) : Prop := SlQ t.sl t.cols
theorem TblF.flat {t : Tbl} (h : TblF t) : t.sl.flat = true := SlQ.flat h
def TabQ (p : PV) (ts : List Tbl) : Prop := (ts = [] ∧ p = .nils) ∨ p = .vals 5 (ts.map tblP)
theorem TabQ.flat {p : PV} {ts : List Tbl} (h : TabQ p ts) : p.flat = true := by rcases h with ⟨_, rfl⟩ | rfl <;> rfl
def posI {α : Type} (p : α → Bool) : List α → Nat → Int
  | [], _ => -1
  | x :: r, i => if p x then i else posI p r (i + 1)
theorem posI_step {α : Type} {p : α → Bool} {l : List α} {i : Nat} {x : α} (h : l[i]? = some x) : posI p (l.drop i) i = if p x then (i : Int) else posI p (l.drop (i + 1)) (i + 1) := by
  obtain ⟨h1, h2⟩ := List.getElem?_eq_some_iff.1 h
  rw [List.drop_eq_getElem_cons h1, h2]; rfl
theorem posI_cases {α : Type} (p : α → Bool) : ∀ (l : List α) (i : Nat), (posI p l i = -1 ∧ ∀ x ∈ l, p x = false) ∨ ∃ (j : Nat) (x : α), posI p l i = ((i + j : Nat) : Int) ∧ l[j]? = some x ∧ p x = true ∧ ∀ (q : Nat) (y : α), q < j → l[q]? = some y → p y = false
  | [], i => .inl ⟨rfl, by simp⟩
  | x :: r, i => by
    unfold posI
    cases hx : p x with
    | true => exact .inr ⟨0, x, by simp, rfl, hx, by intro q y h; omega⟩
    | false =>
      rcases posI_cases p r (i + 1) with ⟨h1, h2⟩ | ⟨j, y, h1, h2, h3, h4⟩
      · refine .inl ⟨by simpa using h1, ?_⟩
        intro y hy
        rcases List.mem_cons.1 hy with rfl | hy
        · exact hx
        · exact h2 y hy
      · refine .inr ⟨j + 1, y, ?_, by simpa using h2, h3, ?_⟩
        · simp only [Bool.false_eq_true, if_false, h1]; congr 1; omega
        · intro q z hq hz
          cases q with
          | zero => simp only [List.getElem?_cons_zero, Option.some.injEq] at hz; rw [← hz]; exact hx
          | succ q => exact h4 q z (by omega) (by simpa using hz)
def keyAt (t : Tbl) : Int := posI (fun c => c.1 == t.key) t.cols 0
def colAt (t : Tbl) (n : List UInt8) : Int := posI (fun c => c.2.name == n) t.cols 0
def tabAt (ts : List Tbl) (n : List UInt8) : Int := posI (fun t => t.name == n) ts 0
def idAt (ts : List Tbl) (i : Int) : Int := posI (fun t => t.id == i) ts 0
theorem ref_Key (h : E.fn 157 = some Fn.f_haulageref08_Key) {t : Tbl} (ht : TblF t) (hn : (t.cols.length : Int) ≤ 1000000) (k : Nat) (hk : t.cols.length + 3 ≤ k) (m : Mem) :
    denF E (k + 1) 157 [.p (.agg (tblP t))] m = some (.ret (.p (.int .i64 (keyAt t))), m) := by
  have f1 := ht.flat
  unfold PV.flat at f1
  have hmain : Wp (iter (loopF E (denF E k) k Fn.f_haulageref08_Key_k0 Fn.f_haulageref08_Key_b0) k ⟨[.p (.agg (tblP t)), .ptr 0 0, .p (.int .i64 0), .p (.int .i64 0)] ++ List.replicate 17 (.tup []), [.cells ((tblP t).map .p)], []⟩)
      (fun e st => st.ds = [] ∧ st.ts.length = 21 ∧ ((e = .exit 0 ∧ keyAt t = -1) ∨ (e = .ret ∧ st.ts.getD 2 (.tup []) = .p (.int .i64 (keyAt t))))) := by
    refine loop_wp (α := Nat) (I := fun i st => i ≤ t.cols.length ∧ keyAt t = posI (fun c : Int × Col => c.1 == t.key) (t.cols.drop i) i ∧ Live Fn.f_haulageref08_Key_k0 (Fn.f_haulageref08_Key_s0 (.ptr 0 0) (.p (.int .i64 i))) [.cells ((tblP t).map .p)] st) (meas := fun i => t.cols.length - i) ?_ k 0 _ ⟨Nat.zero_le _, rfl, rfl, rfl, rfl, rfl⟩ (by omega)
    rintro i st ⟨hi, hv, hlive⟩
    rw [loopF_live hlive]
    by_cases hlt : i < t.cols.length
    · have hlt' : (i : Int) < t.cols.length := by omega
      obtain ⟨c, hc⟩ : ∃ c, t.cols[i]? = some c := ⟨_, List.getElem?_eq_getElem hlt⟩
      have hw : IntKind.i64.wrap ((i : Int) + 1) = ((i + 1 : Nat) : Int) := by rw [wrap_i64 (by omega) (by omega)]; omega
      rw [posI_step hc] at hv
      generalize keyAt t = r at *
      rcases ht with ⟨hs, hs2⟩ | hs2
      · rw [hs] at hlt; simp at hlt
      cases q : (fun c : Int × Col => c.1 == t.key) c with
      | true =>
        simp only at q
        simp only [q, if_true] at hv
        simp [Fn.f_haulageref08_Key_b0, Fn.f_haulageref08_Key_s0, tblP, colQ, hs2, hlt, hlt', hc, q, hv]
      | false =>
        simp only at q
        simp only [q, Bool.false_eq_true, if_false] at hv
        simp [Fn.f_haulageref08_Key_b0, Fn.f_haulageref08_Key_s0, tblP, colQ, hs2, hlt, hlt', hc, q, hw, -Int.natCast_add]
        exact ⟨i + 1, by omega, hlt, hv, rfl, rfl, rfl, rfl⟩
    · have hlt' : ¬ (i : Int) < t.cols.length := by omega
      rw [List.drop_eq_nil_of_le (by omega)] at hv
      have hv0 : keyAt t = -1 := hv
      clear hv
      generalize keyAt t = r at *
      rcases ht with ⟨hs, hs2⟩ | hs2
      · rw [hs] at hi hlt'
        obtain rfl : i = 0 := by simpa using hi
        simp [Fn.f_haulageref08_Key_b0, Fn.f_haulageref08_Key_s0, tblP, colQ, hs2, hv0]
      · simp [Fn.f_haulageref08_Key_b0, Fn.f_haulageref08_Key_s0, tblP, colQ, hs2, hlt', hv0]
  obtain ⟨e, st, hrun, hds, hlen, hq⟩ := hmain
  obtain ⟨ts', m', ds⟩ := st
  simp only at hds hlen hq
  subst hds
  simp only [List.replicate, List.cons_append, List.nil_append, tblP, List.map_cons, List.map_nil] at hrun
  refine denF_wp h rfl (args' := [.p (.agg (tblP t))]) rfl ?_
  rcases hq with ⟨rfl, hq⟩ | ⟨rfl, hq⟩
  · have hx := expand_ts 21 ts' hlen
    simp only [List.range, List.range.loop, List.map_cons, List.map_nil] at hx
    simp [Fn.f_haulageref08_Key, tblP, f1, hrun]
    rw [hx]
    simp [hq]
  · simp [Fn.f_haulageref08_Key, tblP, f1, hrun, hq]
theorem ref_Find (h : E.fn 154 = some Fn.f_haulageref08_Find) {tp : PV} {ts : List Tbl} (ht : TabQ tp ts) (n : List UInt8) (hn : (ts.length : Int) ≤ 1000000) (k : Nat) (hk : ts.length + 3 ≤ k) (m : Mem) :
    denF E (k + 1) 154 [.p (.agg [tp]), .p (.str n)] m = some (.ret (.p (.int .i64 (tabAt ts n))), m) := by
  have f1 := ht.flat
  unfold PV.flat at f1
  have hmain : Wp (iter (loopF E (denF E k) k Fn.f_haulageref08_Find_k0 Fn.f_haulageref08_Find_b0) k ⟨[.p (.agg [tp]), .p (.str n), .ptr 0 0, .tup [], .p (.int .i64 0), .p (.int .i64 0)] ++ List.replicate 16 (.tup []), [.cells [.p tp]], []⟩)
      (fun e st => st.ds = [] ∧ st.ts.length = 22 ∧ ((e = .exit 0 ∧ tabAt ts n = -1) ∨ (e = .ret ∧ st.ts.getD 4 (.tup []) = .p (.int .i64 (tabAt ts n))))) := by
    refine loop_wp (α := Nat) (I := fun i st => i ≤ ts.length ∧ tabAt ts n = posI (fun t : Tbl => t.name == n) (ts.drop i) i ∧ Live Fn.f_haulageref08_Find_k0 (Fn.f_haulageref08_Find_s0 (.p (.str n)) (.ptr 0 0) (.p (.int .i64 i))) [.cells [.p tp]] st) (meas := fun i => ts.length - i) ?_ k 0 _ ⟨Nat.zero_le _, rfl, rfl, rfl, rfl, rfl⟩ (by omega)
    rintro i st ⟨hi, hv, hlive⟩
    rw [loopF_live hlive]
    by_cases hlt : i < ts.length
    · have hlt' : (i : Int) < ts.length := by omega
      obtain ⟨c, hc⟩ : ∃ c, ts[i]? = some c := ⟨_, List.getElem?_eq_getElem hlt⟩
      have hw : IntKind.i64.wrap ((i : Int) + 1) = ((i + 1 : Nat) : Int) := by rw [wrap_i64 (by omega) (by omega)]; omega
      rw [posI_step hc] at hv
      generalize tabAt ts n = r at *
      rcases ht with ⟨hs, hs2⟩ | hs2
      · rw [hs] at hlt; simp at hlt
      cases q : (fun t : Tbl => t.name == n) c with
      | true =>
        simp only at q
        simp only [q, if_true] at hv
        simp [Fn.f_haulageref08_Find_b0, Fn.f_haulageref08_Find_s0, tblP, hs2, hlt, hlt', hc, q, hv]
      | false =>
        simp only at q
        simp only [q, Bool.false_eq_true, if_false] at hv
        simp [Fn.f_haulageref08_Find_b0, Fn.f_haulageref08_Find_s0, tblP, hs2, hlt, hlt', hc, q, hw, -Int.natCast_add]
        exact ⟨i + 1, by omega, hlt, hv, rfl, rfl, rfl, rfl⟩
    · have hlt' : ¬ (i : Int) < ts.length := by omega
      rw [List.drop_eq_nil_of_le (by omega)] at hv
      have hv0 : tabAt ts n = -1 := hv
      clear hv
      generalize tabAt ts n = r at *
      rcases ht with ⟨hs, hs2⟩ | hs2
      · rw [hs] at hi hlt'
        obtain rfl : i = 0 := by simpa using hi
        simp [Fn.f_haulageref08_Find_b0, Fn.f_haulageref08_Find_s0, tblP, hs2, hv0]
      · simp [Fn.f_haulageref08_Find_b0, Fn.f_haulageref08_Find_s0, tblP, hs2, hlt', hv0]
  obtain ⟨e, st, hrun, hds, hlen, hq⟩ := hmain
  obtain ⟨ts', m', ds⟩ := st
  simp only at hds hlen hq
  subst hds
  simp only [List.replicate, List.cons_append, List.nil_append, tblP, List.map_cons, List.map_nil] at hrun
  refine denF_wp h rfl (args' := [.p (.agg [tp]), .p (.str n)]) rfl ?_
  rcases hq with ⟨rfl, hq⟩ | ⟨rfl, hq⟩
  · have hx := expand_ts 22 ts' hlen
    simp only [List.range, List.range.loop, List.map_cons, List.map_nil] at hx
    simp [Fn.f_haulageref08_Find, tblP, f1, hrun]
    rw [hx]
    simp [hq]
  · simp [Fn.f_haulageref08_Find, tblP, f1, hrun, hq]
theorem ref_Col (h : E.fn 190 = some Fn.f_haulageref08_Col) {t : Tbl} (ht : TblF t) (n : List UInt8) (hn : (t.cols.length : Int) ≤ 1000000) (k : Nat) (hk : t.cols.length + 3 ≤ k) (m : Mem) :
    denF E (k + 1) 190 [.p (.agg (tblP t)), .p (.str n)] m = some (.ret (.p (.int .i64 (colAt t n))), m) := by
  have f1 := ht.flat
  unfold PV.flat at f1
  have hmain : Wp (iter (loopF E (denF E k) k Fn.f_haulageref08_Col_k0 Fn.f_haulageref08_Col_b0) k ⟨[.p (.agg (tblP t)), .p (.str n), .ptr 0 0, .tup [], .p (.int .i64 0), .p (.int .i64 0)] ++ List.replicate 16 (.tup []), [.cells ((tblP t).map .p)], []⟩)
      (fun e st => st.ds = [] ∧ st.ts.length = 22 ∧ ((e = .exit 0 ∧ colAt t n = -1) ∨ (e = .ret ∧ st.ts.getD 4 (.tup []) = .p (.int .i64 (colAt t n))))) := by
    refine loop_wp (α := Nat) (I := fun i st => i ≤ t.cols.length ∧ colAt t n = posI (fun c : Int × Col => c.2.name == n) (t.cols.drop i) i ∧ Live Fn.f_haulageref08_Col_k0 (Fn.f_haulageref08_Col_s0 (.p (.str n)) (.ptr 0 0) (.p (.int .i64 i))) [.cells ((tblP t).map .p)] st) (meas := fun i => t.cols.length - i) ?_ k 0 _ ⟨Nat.zero_le _, rfl, rfl, rfl, rfl, rfl⟩ (by omega)
    rintro i st ⟨hi, hv, hlive⟩
    rw [loopF_live hlive]
    by_cases hlt : i < t.cols.length
    · have hlt' : (i : Int) < t.cols.length := by omega
      obtain ⟨c, hc⟩ : ∃ c, t.cols[i]? = some c := ⟨_, List.getElem?_eq_getElem hlt⟩
      have hw : IntKind.i64.wrap ((i : Int) + 1) = ((i + 1 : Nat) : Int) := by rw [wrap_i64 (by omega) (by omega)]; omega
      rw [posI_step hc] at hv
      generalize colAt t n = r at *
      rcases ht with ⟨hs, hs2⟩ | hs2
      · rw [hs] at hlt; simp at hlt
      cases q : (fun c : Int × Col => c.2.name == n) c with
      | true =>
        simp only at q
        simp only [q, if_true] at hv
        simp [Fn.f_haulageref08_Col_b0, Fn.f_haulageref08_Col_s0, tblP, colQ, hs2, hlt, hlt', hc, q, hv]
      | false =>
        simp only at q
        simp only [q, Bool.false_eq_true, if_false] at hv
        simp [Fn.f_haulageref08_Col_b0, Fn.f_haulageref08_Col_s0, tblP, colQ, hs2, hlt, hlt', hc, q, hw, -Int.natCast_add]
        exact ⟨i + 1, by omega, hlt, hv, rfl, rfl, rfl, rfl⟩
    · have hlt' : ¬ (i : Int) < t.cols.length := by omega
      rw [List.drop_eq_nil_of_le (by omega)] at hv
      have hv0 : colAt t n = -1 := hv
      clear hv
      generalize colAt t n = r at *
      rcases ht with ⟨hs, hs2⟩ | hs2
      · rw [hs] at hi hlt'
        obtain rfl : i = 0 := by simpa using hi
        simp [Fn.f_haulageref08_Col_b0, Fn.f_haulageref08_Col_s0, tblP, colQ, hs2, hv0]
      · simp [Fn.f_haulageref08_Col_b0, Fn.f_haulageref08_Col_s0, tblP, colQ, hs2, hlt', hv0]
  obtain ⟨e, st, hrun, hds, hlen, hq⟩ := hmain
  obtain ⟨ts', m', ds⟩ := st
  simp only at hds hlen hq
  subst hds
  simp only [List.replicate, List.cons_append, List.nil_append, tblP, List.map_cons, List.map_nil] at hrun
  refine denF_wp h rfl (args' := [.p (.agg (tblP t)), .p (.str n)]) rfl ?_
  rcases hq with ⟨rfl, hq⟩ | ⟨rfl, hq⟩
  · have hx := expand_ts 22 ts' hlen
    simp only [List.range, List.range.loop, List.map_cons, List.map_nil] at hx
    simp [Fn.f_haulageref08_Col, tblP, f1, hrun]
    rw [hx]
    simp [hq]
  · simp [Fn.f_haulageref08_Col, tblP, f1, hrun, hq]
theorem ref_ById (h : E.fn 180 = some Fn.f_haulageref08_ById) {tp : PV} {ts : List Tbl} (ht : TabQ tp ts) (n : Int) (hn : (ts.length : Int) ≤ 1000000) (k : Nat) (hk : ts.length + 3 ≤ k) (m : Mem) :
    denF E (k + 1) 180 [.p (.agg [tp]), .p (.int .i64 n)] m = some (.ret (.p (.int .i64 (idAt ts n))), m) := by
  have f1 := ht.flat
  unfold PV.flat at f1
  have hmain : Wp (iter (loopF E (denF E k) k Fn.f_haulageref08_ById_k0 Fn.f_haulageref08_ById_b0) k ⟨[.p (.agg [tp]), .p (.int .i64 n), .ptr 0 0, .tup [], .p (.int .i64 0), .p (.int .i64 0)] ++ List.replicate 16 (.tup []), [.cells [.p tp]], []⟩)
      (fun e st => st.ds = [] ∧ st.ts.length = 22 ∧ ((e = .exit 0 ∧ idAt ts n = -1) ∨ (e = .ret ∧ st.ts.getD 4 (.tup []) = .p (.int .i64 (idAt ts n))))) := by
    refine loop_wp (α := Nat) (I := fun i st => i ≤ ts.length ∧ idAt ts n = posI (fun t : Tbl => t.id == n) (ts.drop i) i ∧ Live Fn.f_haulageref08_ById_k0 (Fn.f_haulageref08_ById_s0 (.p (.int .i64 n)) (.ptr 0 0) (.p (.int .i64 i))) [.cells [.p tp]] st) (meas := fun i => ts.length - i) ?_ k 0 _ ⟨Nat.zero_le _, rfl, rfl, rfl, rfl, rfl⟩ (by omega)
    rintro i st ⟨hi, hv, hlive⟩
    rw [loopF_live hlive]
    by_cases hlt : i < ts.length
    · have hlt' : (i : Int) < ts.length := by omega
      obtain ⟨c, hc⟩ : ∃ c, ts[i]? = some c := ⟨_, List.getElem?_eq_getElem hlt⟩
      have hw : IntKind.i64.wrap ((i : Int) + 1) = ((i + 1 : Nat) : Int) := by rw [wrap_i64 (by omega) (by omega)]; omega
      rw [posI_step hc] at hv
      generalize idAt ts n = r at *
      rcases ht with ⟨hs, hs2⟩ | hs2
      · rw [hs] at hlt; simp at hlt
      cases q : (fun t : Tbl => t.id == n) c with
      | true =>
        simp only at q
        simp only [q, if_true] at hv
        simp [Fn.f_haulageref08_ById_b0, Fn.f_haulageref08_ById_s0, tblP, hs2, hlt, hlt', hc, q, hv]
      | false =>
        simp only at q
        simp only [q, Bool.false_eq_true, if_false] at hv
        simp [Fn.f_haulageref08_ById_b0, Fn.f_haulageref08_ById_s0, tblP, hs2, hlt, hlt', hc, q, hw, -Int.natCast_add]
        exact ⟨i + 1, by omega, hlt, hv, rfl, rfl, rfl, rfl⟩
    · have hlt' : ¬ (i : Int) < ts.length := by omega
      rw [List.drop_eq_nil_of_le (by omega)] at hv
      have hv0 : idAt ts n = -1 := hv
      clear hv
      generalize idAt ts n = r at *
      rcases ht with ⟨hs, hs2⟩ | hs2
      · rw [hs] at hi hlt'
        obtain rfl : i = 0 := by simpa using hi
        simp [Fn.f_haulageref08_ById_b0, Fn.f_haulageref08_ById_s0, tblP, hs2, hv0]
      · simp [Fn.f_haulageref08_ById_b0, Fn.f_haulageref08_ById_s0, tblP, hs2, hlt', hv0]
  obtain ⟨e, st, hrun, hds, hlen, hq⟩ := hmain
  obtain ⟨ts', m', ds⟩ := st
  simp only at hds hlen hq
  subst hds
  simp only [List.replicate, List.cons_append, List.nil_append, tblP, List.map_cons, List.map_nil] at hrun
  refine denF_wp h rfl (args' := [.p (.agg [tp]), .p (.int .i64 n)]) rfl ?_
  rcases hq with ⟨rfl, hq⟩ | ⟨rfl, hq⟩
  · have hx := expand_ts 22 ts' hlen
    simp only [List.range, List.range.loop, List.map_cons, List.map_nil] at hx
    simp [Fn.f_haulageref08_ById, tblP, f1, hrun]
    rw [hx]
    simp [hq]
  · simp [Fn.f_haulageref08_ById, tblP, f1, hrun, hq]
end Hx
