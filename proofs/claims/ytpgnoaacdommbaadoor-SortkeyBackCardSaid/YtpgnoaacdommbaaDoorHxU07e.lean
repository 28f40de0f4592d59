/-
  HxU07e: the key of a value, as both the program and the document make it.
-/
import Derived.Test.YtpgnoaacdommbaaDoorHxU07c
import Derived.Test.YtpgnoaacdommbaaDoorHxU06v
namespace Hx
open Go
set_option linter.unusedSimpArgs false
set_option linter.unusedVariables false
set_option maxHeartbeats 4000000
variable {E : Env}
attribute [-simp] List.getD_eq_getElem?_getD getElem?_pos
theorem rightV_kinds {k n : Int} {s : List UInt8} (h : rightV k n s = true) : (k = 0 ∧ n = 0 ∧ s = []) ∨ (k = 1 ∧ s = [] ∧ -2147483648 ≤ n ∧ n < 2147483648) ∨ (k = 2 ∧ s = []) ∨ (k = 3 ∧ n = 0 ∧ s.length ≤ 120 ∧ (signs s).isSome = true) ∨ (k = 4 ∧ n = 0 ∧ s.length ≤ 120) := by
  have he : s.isEmpty = true → s = [] := by intro h; cases s with | nil => rfl | cons => cases h
  unfold rightV at h
  split at h
  · simp only [Bool.and_eq_true, beq_iff_eq] at h
    exact .inl ⟨by assumption, h.1, he h.2⟩
  split at h
  · simp only [Bool.and_eq_true] at h
    unfold fits32 at h
    have := of_decide_eq_true h.1
    exact .inr (.inl ⟨by assumption, he h.2, this.1, this.2⟩)
  split at h
  · exact .inr (.inr (.inl ⟨by assumption, he h⟩))
  split at h
  · simp only [Bool.and_eq_true, beq_iff_eq, decide_eq_true_eq] at h
    exact .inr (.inr (.inr (.inl ⟨by assumption, h.1.1, h.1.2, h.2⟩)))
  split at h
  · simp only [Bool.and_eq_true, beq_iff_eq, decide_eq_true_eq] at h
    exact .inr (.inr (.inr (.inr ⟨by assumption, h.1, h.2⟩)))
  · cases h
def keyTail (k n : Int) (s : List UInt8) : List UInt8 :=
  if k = 1 then be 4 (n + 2147483648).toNat else if k = 2 then be 8 (n + 9223372036854775808).toNat else if k = 3 ∨ k = 4 then esc s ++ [0, 0] else []
theorem keyOf_eq (k n : Int) (s : List UInt8) : keyOf k n s = UInt8.ofNat k.toNat :: keyTail k n s := rfl
theorem esc_cons (c : UInt8) (r : List UInt8) : esc (c :: r) = (if c = 0 then [0, 255] else [c]) ++ esc r := by
  unfold esc
  rw [List.flatMap_cons]
theorem esc_len : ∀ s : List UInt8, (esc s).length ≤ 2 * s.length
  | [] => Nat.le_refl _
  | c :: r => by
    have := esc_len r
    rw [esc_cons, List.length_append, List.length_cons]
    split <;> simp only [List.length_cons, List.length_nil] <;> omega
theorem u8_0 {c : UInt8} : c = 0 ↔ (c.toNat : Int) = 0 := by
  constructor
  · rintro rfl; rfl
  · intro h
    apply UInt8.toNat_inj.1
    show c.toNat = 0
    omega
theorem byteRows_app (x y : List UInt8) : byteRows (x ++ y) = byteRows x ++ byteRows y := by simp [byteRows]
theorem byteRows_len (x : List UInt8) : (byteRows x).length = x.length := by simp [byteRows]
structure K07 (E : Env) : Prop where
  put : E.fn 118 = some Fn.f_sortkey_put
  add : E.fn 113 = some Fn.f_sortkey_add
  rput : E.fn 119 = some Fn.f_haulageref01_Put
  rback : E.fn 120 = some Fn.f_haulageref07_back
  one : E.fn 114 = some Fn.f_haulageref07_One
def addTail : XCode := match Fn.f_sortkey_add.body with
  | .seq _ (.seq _ c) => c
  | _ => .skip
def EscInv (s : List UInt8) (id t : Nat) (all : List UInt8) (cells : List AV) (i : Nat) (st : St) : Prop := ∃ (D : List UInt8) (m : Mem), i ≤ s.length ∧ D ≠ [] ∧ D ++ esc (s.drop i) = all ∧ D.length ≤ 1000000000000 + 2 * i ∧ m[id]? = some (.cells cells) ∧ m[t]? = some (.tok 1 D.length) ∧
  Live Fn.f_sortkey_add_k0 (Fn.f_sortkey_add_s0 (.tv 1 (byteRows D) t) (.ptr id 0) (.p (.int .i64 s.length)) (.p (.int .i64 i))) m st
theorem EscInv.mk {s : List UInt8} {id t : Nat} {all : List UInt8} {cells : List AV} {i : Nat} {st : St} (D : List UInt8) (m : Mem) (h1 : i ≤ s.length) (h2 : D ≠ []) (h3 : D ++ esc (s.drop i) = all) (h4 : D.length ≤ 1000000000000 + 2 * i) (h5 : m[id]? = some (.cells cells)) (h6 : m[t]? = some (.tok 1 D.length))
  (h7 : Live Fn.f_sortkey_add_k0 (Fn.f_sortkey_add_s0 (.tv 1 (byteRows D) t) (.ptr id 0) (.p (.int .i64 s.length)) (.p (.int .i64 i))) m st) : EscInv s id t all cells i st := ⟨D, m, h1, h2, h3, h4, h5, h6, h7⟩
theorem esc_loop (call : Caller) (K : Nat) (a n : Int) (s : List UInt8) (hs : (s.length : Int) ≤ 1000000000) (hK : s.length < K) (id t : Nat) (hidt : t ≠ id) (acc : List UInt8) (hne : acc ≠ []) (hacc : acc.length ≤ 1000000000000) (M : Mem)
    (h1 : M[id]? = some (.cells [.p (.int .i64 a), .p (.int .i64 n), .p (.str s)])) (h2 : M[t]? = some (.tok 1 acc.length)) (st : St)
    (hst : Live Fn.f_sortkey_add_k0 (Fn.f_sortkey_add_s0 (.tv 1 (byteRows acc) t) (.ptr id 0) (.p (.int .i64 s.length)) (.p (.int .i64 0))) M st) :
    Wp (iter (loopF E call K Fn.f_sortkey_add_k0 Fn.f_sortkey_add_b0) K st) (fun e st => e = .exit 1 ∧ st.ds = [] ∧ st.ts.length = 58 ∧ st.ts.getD 0 (.tup []) = .tv 1 (byteRows (acc ++ esc s)) t ∧ st.m[t]? = some (.tok 1 (acc ++ esc s).length)) := by
  refine loop_wp (α := Nat) (I := fun i st => EscInv s id t (acc ++ esc s) [.p (.int .i64 a), .p (.int .i64 n), .p (.str s)] i st) (meas := fun i => s.length - i) ?_ K 0 st (EscInv.mk acc M (Nat.zero_le _) hne rfl (by omega) h1 h2 hst) (by omega)
  rintro i st ⟨D, m, hi0, hDne, hD, hDl, hid, ht, hlive⟩
  rw [loopF_live hlive]
  by_cases hi : i < s.length
  · have hi' : (i : Int) < s.length := by omega
    obtain ⟨c, hc⟩ : ∃ c, s[i]? = some c := ⟨_, List.getElem?_eq_getElem hi⟩
    have hw : IntKind.i64.wrap ((i : Int) + 1) = i + 1 := wrap_i64 (by omega) (by omega)
    rw [drop_at7 hc, esc_cons] at hD
    have ht2 : ∀ z, (m ++ [z])[t]? = some (.tok 1 D.length) := fun z => get_app ht [z]
    have hid2 : ∀ z w, ((m ++ [z]).set t w)[id]? = some (.cells [.p (.int .i64 a), .p (.int .i64 n), .p (.str s)]) := fun z w => by rw [set_other hidt]; exact get_app hid [z]
    have hid3 : ∀ z w x y, ((((m ++ [z]).set t w) ++ [x]).set t y)[id]? = some (.cells [.p (.int .i64 a), .p (.int .i64 n), .p (.str s)]) := fun z w x y => by rw [set_other hidt]; exact get_app (hid2 z w) [x]
    have ht3 : ∀ z w, ((m ++ [z]).set t w)[t]? = some w := fun z w => get_set (ht2 z) w
    have ht4 : ∀ z w x, (((m ++ [z]).set t w) ++ [x])[t]? = some w := fun z w x => get_app (ht3 z w) [x]
    have hbl := byteRows_len D
    have hb2 : D.length + 1 ≤ room := by unfold room; omega
    have hb3 : D.length + 1 + 1 ≤ room := by unfold room; omega
    by_cases h0 : c = 0
    · rw [if_pos h0] at hD
      have g : ((c.toNat : Int) == 0) = true := by rw [h0]; rfl
      have g0 : (c.toNat : Int) = 0 := u8_0.1 h0
      simp [Fn.f_sortkey_add_b0, Fn.f_sortkey_add_s0, hi', hc, hw, hid, ht2, ht3, ht4, hid2, hid3, hbl, hb2, hb3, g]
      refine ⟨i + 1, by omega, EscInv.mk (D ++ [0, 255]) _ (by omega) (by simp) (by rw [← hD]; simp) (by simp; omega) (hid3 _ _ _ _) ?_ ⟨rfl, ?_, rfl, rfl⟩⟩
      · rw [get_set (ht4 _ _ _)]; simp
      · simp [keep, Fn.f_sortkey_add_k0, Fn.f_sortkey_add_s0, byteRows_app, byteRows, byteRow, g0]
    · rw [if_neg h0] at hD
      have g : ((c.toNat : Int) == 0) = false := by
        have := mt u8_0.2 h0
        simpa using this
      simp [Fn.f_sortkey_add_b0, Fn.f_sortkey_add_s0, hi', hc, hw, hid, ht2, ht3, hid2, hbl, hb2, g]
      refine ⟨i + 1, by omega, EscInv.mk (D ++ [c]) _ (by omega) (by simp) (by rw [← hD]; simp) (by simp; omega) (hid2 _ _) ?_ ⟨rfl, ?_, rfl, rfl⟩⟩
      · rw [ht3]; simp
      · simp [keep, Fn.f_sortkey_add_k0, Fn.f_sortkey_add_s0, byteRows_app, byteRows, byteRow]
  · have hi2 : i = s.length := by omega
    subst hi2
    rw [List.drop_length] at hD
    have : esc [] = [] := rfl
    rw [this, List.append_nil] at hD
    subst hD
    simp [Fn.f_sortkey_add_b0, Fn.f_sortkey_add_s0]
    simpa using ht
end Hx
