/-
  HxV05m: the value that a text begins with, and is, as both the program and the document read it; the law ValueReads on the evaluator.
-/
import Derived.Test.YtbdnghmmiobdcaaDoorHxSimp
import Derived.Test.YtbdnghmmiobdcaaDoorHxFn05
import Derived.Test.YtbdnghmmiobdcaaDoorHxU03k
import Derived.Test.YtbdnghmmiobdcaaDoorHxU05c
import Derived.Test.YtbdnghmmiobdcaaDoorHxU04
import Derived.Test.YtbdnghmmiobdcaaDoorHxV05b
import Derived.Test.YtbdnghmmiobdcaaDoorHxU05g
namespace Hx
open Go
set_option linter.unusedSimpArgs false
set_option linter.unusedVariables false
set_option maxHeartbeats 4000000
variable {E : Env}
def hexS : List UInt8 := [48, 49, 50, 51, 52, 53, 54, 55, 56, 57, 97, 98, 99, 100, 101, 102]
def hexd (n : Nat) : UInt8 := hexS.getD n 0
def hexv (c : UInt8) : Option Nat := hexS.findIdx? (· == c)
def plainC (c : UInt8) : Bool := decide ((32 : Int) ≤ c.toNat) && decide ((c.toNat : Int) ≤ 126) && (!((c.toNat : Int) == 34) && !((c.toNat : Int) == 92))
/-- A byte as it stands between quotes. -/
def quoteC (c : UInt8) : List UInt8 :=
  if (c.toNat : Int) = 34 ∨ (c.toNat : Int) = 92 then [92, c] else if (c.toNat : Int) = 10 then [92, 110]
  else if (c.toNat : Int) < 32 ∨ 126 < (c.toNat : Int) then [92, 120, hexd (c.toNat / 16), hexd (c.toNat % 16)] else [c]
def quotes (s : List UInt8) : List UInt8 := s.flatMap quoteC
/-- The byte behind a backslash, and how many bytes tell it; 0: none. -/
def esc : List UInt8 → UInt8 × Nat
  | [] => (0, 0)
  | a :: r => if a = 110 then (10, 1) else if a = 34 ∨ a = 92 then (a, 1) else if a = 120 then
      match r with
      | h :: l :: _ => match hexv h, hexv l with
        | some x, some y => if (32 ≤ 16 * x + y ∧ 16 * x + y ≤ 126) ∨ 16 * x + y = 10 then (0, 0) else (UInt8.ofNat (16 * x + y), 3)
        | _, _ => (0, 0)
      | _ => (0, 0)
    else (0, 0)
/-- The byte that a text begins with, between quotes, and how many bytes tell it. -/
def stepQ : List UInt8 → Option (UInt8 × Nat)
  | [] => none
  | a :: r => if plainC a then some (a, 1) else if a = 92 then (if (esc r).2 = 0 then none else some ((esc r).1, (esc r).2 + 1)) else none
theorem stepQ_cons (a : UInt8) (r : List UInt8) : stepQ (a :: r) = if plainC a then some (a, 1) else if a = 92 then (if (esc r).2 = 0 then none else some ((esc r).1, (esc r).2 + 1)) else none := rfl
theorem esc_cons (a : UInt8) (r : List UInt8) : esc (a :: r) = if a = 110 then (10, 1) else if a = 34 ∨ a = 92 then (a, 1) else if a = 120 then
      match r with
      | h :: l :: _ => match hexv h, hexv l with
        | some x, some y => if (32 ≤ 16 * x + y ∧ 16 * x + y ≤ 126) ∨ 16 * x + y = 10 then (0, 0) else (UInt8.ofNat (16 * x + y), 3)
        | _, _ => (0, 0)
      | _ => (0, 0)
    else (0, 0) := rfl
def starts (s t : List UInt8) : Bool := decide (t.length ≤ s.length) && (s.take t.length == t)
theorem u8_every {P : UInt8 → Prop} (h : ∀ x : Fin 256, P (UInt8.ofNat x.val)) (c : UInt8) : P c := by
  have := h ⟨c.toNat, UInt8.toNat_lt c⟩
  rwa [show UInt8.ofNat (⟨c.toNat, UInt8.toNat_lt c⟩ : Fin 256).val = c from UInt8.ofNat_toNat] at this
theorem hexv_hexd : ∀ x : Fin 16, hexv (hexd x.val) = some x.val := by decide +kernel
theorem hexd_hexv : ∀ c : UInt8, ∀ x, hexv c = some x → x < 16 ∧ hexd x = c := by
  intro c x h
  have hx := (List.findIdx?_eq_some_iff_getElem.1 h)
  obtain ⟨h1, h2, _⟩ := hx
  refine ⟨h1, ?_⟩
  unfold hexd
  rw [List.getD_eq_getElem?_getD, List.getElem?_eq_getElem h1]
  simpa using h2
theorem hexv_lt {c : UInt8} {x : Nat} (h : hexv c = some x) : x < 16 := (hexd_hexv c x h).1
theorem hexv_d {n : Nat} (h : n < 16) : hexv (hexd n) = some n := hexv_hexd ⟨n, h⟩
theorem hexd_inj {a b : Nat} (ha : a < 16) (hb : b < 16) (h : hexd a = hexd b) : a = b := by
  have := hexv_d ha
  rw [h, hexv_d hb] at this
  exact (Option.some.inj this).symm
theorem quoteC_ne (c : UInt8) : quoteC c ≠ [] := by
  unfold quoteC
  split
  · simp
  split
  · simp
  split <;> simp
/-- What a byte stands as is read as that byte. -/
theorem step_quote (c : UInt8) (t : List UInt8) : stepQ (quoteC c ++ t) = some (c, (quoteC c).length) := by
  unfold quoteC
  by_cases h1 : (c.toNat : Int) = 34 ∨ (c.toNat : Int) = 92
  · rw [if_pos h1]
    have hp : plainC 92 = false := by decide
    have : c = 34 ∨ c = 92 := by
      rcases h1 with h | h
      · exact .inl (UInt8.toNat_inj.1 (by simp; omega))
      · exact .inr (UInt8.toNat_inj.1 (by simp; omega))
    have h110 : ¬ c = 110 := by rcases this with rfl | rfl <;> decide
    simp only [List.cons_append, List.nil_append, stepQ, hp, esc, h110, this, if_true, if_false]
    simp
  rw [if_neg h1]
  by_cases h2 : (c.toNat : Int) = 10
  · rw [if_pos h2]
    have : c = 10 := UInt8.toNat_inj.1 (by simp; omega)
    subst this
    rfl
  rw [if_neg h2]
  by_cases h3 : (c.toNat : Int) < 32 ∨ 126 < (c.toNat : Int)
  · rw [if_pos h3]
    have hp : plainC 92 = false := by decide
    have hc := UInt8.toNat_lt c
    have e : 16 * (c.toNat / 16) + c.toNat % 16 = c.toNat := by omega
    have hn : ¬ ((32 ≤ c.toNat ∧ c.toNat ≤ 126) ∨ c.toNat = 10) := by omega
    simp only [List.cons_append, List.nil_append, stepQ, hp, esc, hexv_d (show c.toNat / 16 < 16 by omega), hexv_d (show c.toNat % 16 < 16 by omega), e, if_neg hn, UInt8.ofNat_toNat]
    simp
  · rw [if_neg h3]
    have hp : plainC c = true := by
      unfold plainC
      simp
      omega
    simp only [List.cons_append, List.nil_append, stepQ, hp, if_true]
    simp
/-- What is read as a byte is what that byte stands as. -/
theorem step_some {s : List UInt8} {c : UInt8} {n : Nat} (h : stepQ s = some (c, n)) : s.take n = quoteC c ∧ n = (quoteC c).length ∧ n ≤ s.length := by
  cases s with
  | nil => cases h
  | cons a r =>
    rw [stepQ_cons] at h
    cases hp : plainC a with
    | true =>
      rw [if_pos hp] at h
      obtain ⟨rfl, rfl⟩ := by simpa using h
      unfold plainC at hp
      simp at hp
      have : quoteC a = [a] := by
        unfold quoteC
        rw [if_neg (by omega), if_neg (by omega), if_neg (by omega)]
      rw [this]
      simp
    | false =>
      rw [if_neg (by rw [hp]; simp)] at h
      by_cases h92 : a = 92
      · rw [if_pos h92] at h
        subst h92
        split at h
        · cases h
        rename_i hz
        have e1 : (esc r).1 = c := by have := congrArg (fun o => o.map Prod.fst) h; simpa using this
        have e2 : (esc r).2 + 1 = n := by have := congrArg (fun o => o.map Prod.snd) h; simpa using this
        cases r with
        | nil => exact absurd rfl hz
        | cons b r =>
          rw [esc_cons] at e1 e2 hz
          by_cases hb : b = 110
          · subst hb
            simp only [if_true] at e1 e2
            subst e1 e2
            have : quoteC 10 = [92, 110] := by decide
            rw [this]
            simp
          rw [if_neg hb] at e1 e2 hz
          by_cases hb2 : b = 34 ∨ b = 92
          · rw [if_pos hb2] at e1 e2
            subst e1 e2
            have : quoteC b = [92, b] := by rcases hb2 with rfl | rfl <;> decide
            rw [this]
            simp
          rw [if_neg hb2] at e1 e2 hz
          by_cases hb3 : b = 120
          · rw [if_pos hb3] at e1 e2 hz
            subst hb3
            match r with
            | [] => exact absurd rfl hz
            | [_] => exact absurd rfl hz
            | x :: y :: r =>
              simp only at e1 e2 hz
              cases hx : hexv x with
              | none => rw [hx] at hz; exact absurd rfl hz
              | some i =>
                cases hy : hexv y with
                | none => rw [hx, hy] at hz; exact absurd rfl hz
                | some j =>
                  rw [hx, hy] at e1 e2 hz
                  simp only at e1 e2 hz
                  by_cases hq : (32 ≤ 16 * i + j ∧ 16 * i + j ≤ 126) ∨ 16 * i + j = 10
                  · rw [if_pos hq] at hz
                    exact absurd rfl hz
                  rw [if_neg hq] at e1 e2
                  obtain ⟨i1, i2⟩ := hexd_hexv x i hx
                  obtain ⟨j1, j2⟩ := hexd_hexv y j hy
                  simp only at e1 e2
                  subst e1 e2 i2 j2
                  have ht : (UInt8.ofNat (16 * i + j)).toNat = 16 * i + j := by rw [UInt8.toNat_ofNat']; omega
                  have : quoteC (UInt8.ofNat (16 * i + j)) = [92, 120, hexd i, hexd j] := by
                    unfold quoteC
                    rw [ht]
                    rw [if_neg (by omega), if_neg (by omega), if_pos (by omega)]
                    have e1 : (16 * i + j) / 16 = i := by omega
                    have e2 : (16 * i + j) % 16 = j := by omega
                    rw [e1, e2]
                  rw [this]
                  simp
          · rw [if_neg hb3] at hz
            exact absurd rfl hz
      · rw [if_neg h92] at h
        cases h
theorem step_pos {s : List UInt8} {c : UInt8} {n : Nat} (h : stepQ s = some (c, n)) : 0 < n := by
  obtain ⟨_, h2, _⟩ := step_some h
  rw [h2]
  exact List.length_pos_iff.2 (quoteC_ne c)
theorem starts_quote (s : List UInt8) (c : UInt8) : starts s (quoteC c) = decide (stepQ s = some (c, (quoteC c).length)) := by
  rw [Bool.eq_iff_iff]
  unfold starts
  simp only [Bool.and_eq_true, decide_eq_true_eq, beq_iff_eq]
  constructor
  · rintro ⟨h1, h2⟩
    have := step_quote c (s.drop (quoteC c).length)
    have e : quoteC c ++ s.drop (quoteC c).length = s := by
      have := List.take_append_drop (quoteC c).length s
      rwa [h2] at this
    rwa [e] at this
  · intro h
    obtain ⟨h1, h2, h3⟩ := step_some h
    exact ⟨h3, h1⟩
/-- The text up to a quote, and how many bytes it has with that. -/
def unqF : Nat → List UInt8 → Option (List UInt8 × Nat)
  | 0, _ => none
  | k + 1, s => if s.head? = some 34 then some ([], 1) else match stepQ s with
    | none => none
    | some p => match unqF k (s.drop p.2) with
      | none => none
      | some q => some (p.1 :: q.1, q.2 + p.2)
theorem unqF_more : ∀ (k j : Nat) (s : List UInt8), s.length < k → s.length < j → unqF k s = unqF j s
  | 0, _, _, h, _ => absurd h (Nat.not_lt_zero _)
  | _, 0, _, _, h => absurd h (Nat.not_lt_zero _)
  | k + 1, j + 1, s, h1, h2 => by
    unfold unqF
    cases hs : stepQ s with
    | none => rfl
    | some p =>
      obtain ⟨c, n⟩ := p
      have := step_pos hs
      obtain ⟨_, _, h3⟩ := step_some hs
      simp only
      rw [unqF_more k j (s.drop n) (by rw [List.length_drop]; omega) (by rw [List.length_drop]; omega)]
def unq (s : List UInt8) : Option (List UInt8 × Nat) := unqF (s.length + 1) s
theorem unq_quote {s : List UInt8} (h : s.head? = some 34) : unq s = some ([], 1) := by
  unfold unq unqF
  rw [if_pos h]
theorem unq_none {s : List UInt8} (h : ¬ s.head? = some 34) (hs : stepQ s = none) : unq s = none := by
  unfold unq unqF
  rw [if_neg h, hs]
theorem unq_step {s : List UInt8} {c : UInt8} {n : Nat} (h : ¬ s.head? = some 34) (hs : stepQ s = some (c, n)) : unq s = match unq (s.drop n) with | none => none | some q => some (c :: q.1, q.2 + n) := by
  have := step_pos hs
  obtain ⟨_, _, h3⟩ := step_some hs
  have e : unqF s.length (s.drop n) = unq (s.drop n) := unqF_more _ _ _ (by rw [List.length_drop]; omega) (by omega)
  unfold unq at *
  rw [unqF, if_neg h, hs]
  simp only
  rw [e]
theorem quoteC_head (c : UInt8) : ∀ t, (quoteC c ++ t).head? ≠ some 34 := by
  intro t
  unfold quoteC
  split
  · simp
  split
  · simp
  split
  · simp
  · rename_i h1 h2 h3
    simp
    rintro rfl
    exact h1 (.inl rfl)
/-- What stands between quotes is read as it was. -/
theorem unq_quotes (t : List UInt8) : ∀ s : List UInt8, unq (quotes s ++ 34 :: t) = some (s, (quotes s).length + 1)
  | [] => unq_quote rfl
  | c :: s => by
    have e : quotes (c :: s) = quoteC c ++ quotes s := by simp [quotes]
    rw [e, List.append_assoc, unq_step (quoteC_head c _) (step_quote c _), List.drop_left, unq_quotes t s]
    simp only [List.length_append, Option.some.injEq, Prod.mk.injEq, true_and]
    omega
/-- What is read stood there just so. -/
theorem unq_some : ∀ (k : Nat) (s t : List UInt8) (n : Nat), s.length ≤ k → unq s = some (t, n) → s.take n = quotes t ++ [34] ∧ n = (quotes t).length + 1 ∧ n ≤ s.length
  | k, s, t, n, hk, h => by
    by_cases h0 : s.head? = some 34
    · rw [unq_quote h0] at h
      obtain ⟨rfl, rfl⟩ := by simpa using h
      cases s with
      | nil => cases h0
      | cons a r =>
        simp at h0
        subst h0
        simp [quotes]
    · cases hs : stepQ s with
      | none => rw [unq_none h0 hs] at h; cases h
      | some p =>
        obtain ⟨c, m⟩ := p
        rw [unq_step h0 hs] at h
        have hp := step_pos hs
        obtain ⟨g1, g2, g3⟩ := step_some hs
        cases hu : unq (s.drop m) with
        | none => rw [hu] at h; cases h
        | some q =>
          obtain ⟨t', n'⟩ := q
          rw [hu] at h
          simp only [Option.some.injEq, Prod.mk.injEq] at h
          obtain ⟨rfl, rfl⟩ := h
          cases k with
          | zero =>
            have : s = [] := List.length_eq_zero_iff.1 (by omega)
            subst this
            cases hs
          | succ k =>
            obtain ⟨a1, a2, a3⟩ := unq_some k (s.drop m) t' n' (by rw [List.length_drop]; omega) hu
            rw [List.length_drop] at a3
            have e : quotes (c :: t') = quoteC c ++ quotes t' := by simp [quotes]
            rw [e]
            refine ⟨?_, ?_, by omega⟩
            · rw [Nat.add_comm, List.take_add, g1, a1, List.append_assoc]
            · rw [List.length_append]
              omega
theorem unq_len {s t : List UInt8} {n : Nat} (h : unq s = some (t, n)) : n ≤ s.length ∧ 0 < n ∧ t.length < n := by
  obtain ⟨h1, h2, h3⟩ := unq_some _ s t n (Nat.le_refl _) h
  refine ⟨h3, by omega, ?_⟩
  have : ∀ t : List UInt8, t.length ≤ (quotes t).length := by
    intro t
    induction t with
    | nil => simp
    | cons c t ih =>
      have e : quotes (c :: t) = quoteC c ++ quotes t := by simp [quotes]
      have := List.length_pos_iff.2 (quoteC_ne c)
      rw [e, List.length_append, List.length_cons]
      omega
  have := this t
  omega
/-- The text between quotes that a text begins with, how many bytes it has, and whether there is one. -/
def unquoteV (s : List UInt8) : AV := if s.head? = some 34 then (match unq s.tail with
  | none => .tup [.p (.str []), .p (.int .i64 0), .p (.bool false)]
  | some q => .tup [.p (.str q.1), .p (.int .i64 ((q.2 : Int) + 1)), .p (.bool true)]) else .tup [.p (.str []), .p (.int .i64 0), .p (.bool false)]
/-- How far a text between quotes was read: 'at' place i, with these bytes. -/
def UInv (s : List UInt8) (i : Nat) (acc : List UInt8) : Prop := 1 ≤ i ∧ i ≤ s.length ∧ acc.length ≤ i ∧ unq s.tail = match unq (s.drop i) with | none => none | some q => some (acc ++ q.1, q.2 + (i - 1))
theorem uinv_0 {s : List UInt8} (h : s.head? = some 34) : UInv s 1 [] := by
  cases s with
  | nil => cases h
  | cons a r =>
    refine ⟨Nat.le_refl _, by simp, by simp, ?_⟩
    simp only [List.tail_cons, List.drop_succ_cons, List.drop_zero, List.nil_append, Nat.sub_self, Nat.add_zero]
    cases unq r <;> rfl
theorem uinv_quote {s acc : List UInt8} {i : Nat} (h : UInv s i acc) (hi : (s.drop i).head? = some 34) : unq s.tail = some (acc, i) := by
  obtain ⟨h1, h2, h0, h3⟩ := h
  rw [h3, unq_quote hi]
  simp
  omega
theorem uinv_none {s acc : List UInt8} {i : Nat} (h : UInv s i acc) (hi : ¬ (s.drop i).head? = some 34) (hs : stepQ (s.drop i) = none) : unq s.tail = none := by
  obtain ⟨h1, h2, h0, h3⟩ := h
  rw [h3, unq_none hi hs]
theorem uinv_step {s acc : List UInt8} {i n : Nat} {c : UInt8} (h : UInv s i acc) (hi : ¬ (s.drop i).head? = some 34) (hs : stepQ (s.drop i) = some (c, n)) : UInv s (i + n) (acc ++ [c]) := by
  obtain ⟨h1, h2, h0, h3⟩ := h
  have hp := step_pos hs
  obtain ⟨_, _, g3⟩ := step_some hs
  rw [List.length_drop] at g3
  refine ⟨by omega, by omega, by rw [List.length_append]; simp; omega, ?_⟩
  rw [h3, unq_step hi hs, List.drop_drop]
  cases unq (s.drop (i + n)) with
  | none => rfl
  | some q =>
    simp only [Option.some.injEq, Prod.mk.injEq, List.append_assoc, List.singleton_append, true_and]
    omega
end Hx

namespace Hx
open Go
set_option linter.unusedSimpArgs false
set_option linter.unusedVariables false
set_option maxHeartbeats 4000000
variable {E : Env}
attribute [-simp] List.getD_eq_getElem?_getD getElem?_pos
structure Q05 (E : Env) : Prop where
  plain : E.fn 72 = some Fn.f_name_plain
  one : E.fn 68 = some Fn.f_haulageref04_one
  starts : E.fn 69 = some Fn.f_haulageref04_starts
  idx : E.fn 64 = some Fn.f_strings_IndexByte
  idx' : E.fn 76 = some Fn.f_internal_stringslite_IndexByte
  escaped : E.fn 75 = some Fn.f_name_escaped
  wbyte : E.fn 71 = some Fn.f_strings_Builder_WriteByte
  wstr : E.fn 73 = some Fn.f_strings_Builder_WriteString
  str : E.fn 74 = some Fn.f_strings_Builder_String
  copy : E.fn 77 = some Fn.f_strings_Builder_copyCheck
  quote : E.fn 214 = some Fn.f_name_Quote
  rquote : E.fn 60 = some Fn.f_haulageref04_Quote
  unquote : E.fn 62 = some Fn.f_name_Unquote
  runquote : E.fn 52 = some Fn.f_haulageref04_Unquote
theorem hexS_at {n : Nat} (h : n < 16) : ([48, 49, 50, 51, 52, 53, 54, 55, 56, 57, 97, 98, 99, 100, 101, 102] : List UInt8)[n]? = some (hexd n) := by
  have : ∀ x : Fin 16, ([48, 49, 50, 51, 52, 53, 54, 55, 56, 57, 97, 98, 99, 100, 101, 102] : List UInt8)[x.val]? = some (hexd x.val) := by decide +kernel
  exact this ⟨n, h⟩
theorem hexS_cut {n : Nat} (h : n < 16) : (([48, 49, 50, 51, 52, 53, 54, 55, 56, 57, 97, 98, 99, 100, 101, 102] : List UInt8).take (n + 1)).drop n = [hexd n] := by
  have : ∀ x : Fin 16, (([48, 49, 50, 51, 52, 53, 54, 55, 56, 57, 97, 98, 99, 100, 101, 102] : List UInt8).take (x.val + 1)).drop x.val = [hexd x.val] := by decide +kernel
  exact this ⟨n, h⟩
theorem fdiv16 (n : Nat) : (n : Int).fdiv 16 = ((n / 16 : Nat) : Int) := by
  rw [Int.fdiv_eq_ediv_of_nonneg _ (by decide)]; rfl
theorem tdiv16 (n : Nat) : (n : Int).tdiv 16 = ((n / 16 : Nat) : Int) := by
  rw [Int.tdiv_eq_ediv_of_nonneg (by omega)]; rfl
theorem tmod16 (n : Nat) : (n : Int).tmod 16 = ((n % 16 : Nat) : Int) := by
  rw [Int.tmod_eq_emod_of_nonneg (by omega)]; rfl
theorem u8beq {c d : UInt8} : (c == d) = ((c.toNat : Int) == d.toNat) := by
  rw [Bool.eq_iff_iff]
  simp only [beq_iff_eq]
  exact ⟨fun h => by rw [h], fun h => UInt8.toNat_inj.1 (by omega)⟩
theorem name_plain (u : Q05 E) (k : Nat) (c : UInt8) (m : Mem) : denF E (k + 1) 72 [.p (.int .u8 c.toNat)] m = some (.ret (.p (.bool (plainC c))), m) := by
  refine denF_wp u.plain rfl (args' := [.p (.int .u8 c.toNat)]) rfl ?_
  unfold plainC
  generalize (c.toNat : Int) = x
  by_cases h1 : (32 : Int) ≤ x
  · by_cases h2 : x ≤ 126
    · cases h3 : (x == 34) <;> simp [Fn.f_name_plain, h1, h2, h3, bne]
    · simp [Fn.f_name_plain, h1, h2]
  · simp [Fn.f_name_plain, h1]
theorem ref_one4 (u : Q05 E) (k : Nat) (c : UInt8) (m : Mem) : denF E (k + 1) 68 [.p (.int .u8 c.toNat)] m = some (.ret (.p (.str (quoteC c))), m) := by
  refine denF_wp u.one rfl (args' := [.p (.int .u8 c.toNat)]) rfl ?_
  unfold quoteC
  have hc := UInt8.toNat_lt c
  by_cases h1 : (c.toNat : Int) = 34
  · have : c = 34 := UInt8.toNat_inj.1 (by simp; omega)
    subst this
    simp [Fn.f_haulageref04_one, unBytes, unByte]
  by_cases h2 : (c.toNat : Int) = 92
  · have : c = 92 := UInt8.toNat_inj.1 (by simp; omega)
    subst this
    simp [Fn.f_haulageref04_one, unBytes, unByte]
  have b1 : ((c.toNat : Int) == 34) = false := by simpa using h1
  have b2 : ((c.toNat : Int) == 92) = false := by simpa using h2
  rw [if_neg (by omega)]
  by_cases h3 : (c.toNat : Int) = 10
  · have b3 : ((c.toNat : Int) == 10) = true := by simpa using h3
    rw [if_pos h3]
    simp [Fn.f_haulageref04_one, b1, b2, b3]
  have b3 : ((c.toNat : Int) == 10) = false := by simpa using h3
  rw [if_neg h3]
  have w1 : IntKind.u8.wrap ((c.toNat / 16 : Nat) : Int) = ((c.toNat / 16 : Nat) : Int) := wrap_u8 (by omega) (by omega)
  have w2 : IntKind.u8.wrap (((c.toNat / 16 : Nat) : Int) + 1) = ((c.toNat / 16 + 1 : Nat) : Int) := by rw [wrap_u8 (by omega) (by omega)]; omega
  have w3 : IntKind.u8.wrap (((c.toNat % 16 : Nat) : Int) + 1) = ((c.toNat % 16 + 1 : Nat) : Int) := by rw [wrap_u8 (by omega) (by omega)]; omega
  have x1 := hexS_cut (n := c.toNat / 16) (by omega)
  have x2 := hexS_cut (n := c.toNat % 16) (by omega)
  have d1 := tdiv16 c.toNat
  have d2 := tmod16 c.toNat
  have l1 : c.toNat / 16 + 1 ≤ 16 := by omega
  have l2 : c.toNat % 16 + 1 ≤ 16 := by omega
  generalize hq1 : c.toNat / 16 = q1 at *
  generalize hq2 : c.toNat % 16 = q2 at *
  by_cases h4 : (c.toNat : Int) < 32
  · rw [if_pos (.inl h4)]
    simp [Fn.f_haulageref04_one, b1, b2, b3, h4, d1, d2, w1, w2, w3, l1, l2, x1, x2, strLim, -Int.natCast_add, -List.take_succ_cons]
  · by_cases h5 : 126 < (c.toNat : Int)
    · rw [if_pos (.inr h5)]
      simp [Fn.f_haulageref04_one, b1, b2, b3, h4, h5, d1, d2, w1, w2, w3, l1, l2, x1, x2, strLim, -Int.natCast_add, -List.take_succ_cons]
    · rw [if_neg (by omega)]
      simp [Fn.f_haulageref04_one, b1, b2, b3, h4, h5, unBytes, unByte]
theorem ref_starts (u : Q05 E) (k : Nat) (s t : List UInt8) (m : Mem) : denF E (k + 1) 69 [.p (.str s), .p (.str t)] m = some (.ret (.p (.bool (starts s t))), m) := by
  refine denF_wp u.starts rfl (args' := [.p (.str s), .p (.str t)]) rfl ?_
  unfold starts
  by_cases h : t.length ≤ s.length
  · have h' : (t.length : Int) ≤ s.length := by omega
    simp [Fn.f_haulageref04_starts, h, h', bounds, asNat, asInt]
  · have h' : ¬ (t.length : Int) ≤ s.length := by omega
    simp [Fn.f_haulageref04_starts, h, h']
theorem index_byte (u : Q05 E) (k : Nat) (s : List UInt8) (c : UInt8) (m : Mem) : denF E (k + 2) 64 [.p (.str s), .p (.int .u8 c.toNat)] m = some (.ret (.p (.int .i64 (idxByte s c))), m) := by
  have h : ∀ m, denF E (k + 1) 76 [.p (.str s), .p (.int .u8 c.toNat)] m = some (.ret (.p (.int .i64 (idxByte s c))), m) := by
    intro m
    refine denF_wp u.idx' rfl (args' := [.p (.str s), .p (.int .u8 c.toNat)]) rfl ?_
    simp [Fn.f_internal_stringslite_IndexByte]
  refine denF_wp u.idx rfl (args' := [.p (.str s), .p (.int .u8 c.toNat)]) rfl ?_
  simp [Fn.f_strings_IndexByte, h]
/-- The place of a byte in the digits. -/
def hexi (c : UInt8) : Int := match hexv c with | some i => i | none => -1
theorem index_hex (u : Q05 E) (k : Nat) (c : UInt8) (m : Mem) : denF E (k + 2) 64 [.p (.str [48, 49, 50, 51, 52, 53, 54, 55, 56, 57, 97, 98, 99, 100, 101, 102]), .p (.int .u8 c.toNat)] m = some (.ret (.p (.int .i64 (hexi c))), m) := index_byte u k hexS c m
theorem or_i64_hex : ∀ x y : Fin 16, bitsI .or .i64 (16 * x.val : Int) (y.val : Int) = some ((16 * x.val + y.val : Nat) : Int) := by decide +kernel
theorem or_i64_neg : ∀ y : Fin 17, ∃ r, bitsI .or .i64 (-16) ((y.val : Int) - 1) = some r := fun y => ⟨_, rfl⟩
theorem or_i64_any (x y : Int) : ∃ r, bitsI .or .i64 x y = some r := ⟨_, rfl⟩
theorem name_escaped (u : Q05 E) (k : Nat) (s : List UInt8) (m : Mem) : denF E (k + 3) 75 [.p (.str s)] m = some (.ret (.tup [.p (.int .u8 (esc s).1.toNat), .p (.int .i64 (esc s).2)]), m) := by
  refine denF_wp u.escaped rfl (args' := [.p (.str s)]) rfl ?_
  cases s with
  | nil => simp [Fn.f_name_escaped, esc]
  | cons a r =>
    rw [esc_cons]
    by_cases h1 : a = 110
    · subst h1
      simp [Fn.f_name_escaped]
    rw [if_neg h1]
    have b1 : ((a.toNat : Int) == 110) = false := by
      have : (a == 110) = false := by simpa using h1
      rw [u8beq] at this; exact this
    by_cases h2 : a = 34 ∨ a = 92
    · rw [if_pos h2]
      rcases h2 with rfl | rfl <;> simp [Fn.f_name_escaped]
    rw [if_neg h2]
    have b2 : ((a.toNat : Int) == 34) = false := by
      have : (a == 34) = false := by simp; exact fun e => h2 (.inl e)
      rw [u8beq] at this; exact this
    have b3 : ((a.toNat : Int) == 92) = false := by
      have : (a == 92) = false := by simp; exact fun e => h2 (.inr e)
      rw [u8beq] at this; exact this
    by_cases h3 : a = 120
    · rw [if_pos h3]
      subst h3
      match r with
      | [] => simp [Fn.f_name_escaped]
      | [_] => simp [Fn.f_name_escaped]
      | x :: y :: r =>
        have i1 := fun m => index_hex u k x m
        have i2 := fun m => index_hex u k y m
        have f1 := u.idx
        have p1 : Fn.f_strings_IndexByte.pure = true := rfl
        have hl : ¬ ((r.length : Int) + 1 + 1 + 1 < 3) := by omega
        cases hx : hexv x with
        | none =>
          have e : hexi x = -1 := by unfold hexi; rw [hx]
          rw [e] at i1
          have e16 : IntKind.i64.wrap (-16) = -16 := by decide
          obtain ⟨o, ho⟩ := or_i64_any (-16) (hexi y)
          simp [Fn.f_name_escaped, i1, i2, f1, p1, hl, e16, ho, hx]
        | some i =>
          have e : hexi x = i := by unfold hexi; rw [hx]
          have hi := hexv_lt hx
          rw [e] at i1
          have w16 : IntKind.i64.wrap ((i : Int) * 16) = 16 * i := by rw [wrap_i64 (by omega) (by omega)]; omega
          cases hy : hexv y with
          | none =>
            have e2 : hexi y = -1 := by unfold hexi; rw [hy]
            rw [e2] at i2
            have n0 : ¬ (i : Int) < 0 := by omega
            obtain ⟨o, ho⟩ := or_i64_any (16 * (i : Int)) (-1)
            simp [Fn.f_name_escaped, i1, i2, f1, p1, hl, w16, ho, n0, hx, hy]
          | some j =>
            have e2 : hexi y = j := by unfold hexi; rw [hy]
            have hj := hexv_lt hy
            rw [e2] at i2
            have n0 : ¬ (i : Int) < 0 := by omega
            have n1 : ¬ (j : Int) < 0 := by omega
            have ho := or_i64_hex ⟨i, hi⟩ ⟨j, hj⟩
            simp only at ho
            have w8 : IntKind.u8.wrap ((16 * i + j : Nat) : Int) = ((16 * i + j : Nat) : Int) := wrap_u8 (by omega) (by omega)
            have t8 : (UInt8.ofNat (16 * i + j)).toNat = 16 * i + j := by rw [UInt8.toNat_ofNat']; omega
            obtain ⟨z, hz⟩ : ∃ z, z = 16 * i + j := ⟨_, rfl⟩
            rw [← hz] at ho w8 t8
            simp only [hx, hy]
            simp only [← hz]
            have hZ : z < 256 := by omega
            by_cases g1 : 32 ≤ z ∧ z ≤ 126
            · have g1a : (32 : Int) ≤ z := by omega
              have g1b : (z : Int) ≤ 126 := by omega
              rw [if_pos (.inl g1)]
              simp [Fn.f_name_escaped, i1, i2, f1, p1, hl, w16, ho, n0, n1, w8, g1a, g1b]
            · by_cases g2 : z = 10
              · rw [if_pos (.inr g2)]
                subst g2
                have w10 : IntKind.u8.wrap 10 = 10 := by decide
                simp [Fn.f_name_escaped, i1, i2, f1, p1, hl, w16, ho, n0, n1, w8, w10]
              · have g2b : ((z : Int) == 10) = false := by simp; omega
                rw [if_neg (by omega)]
                by_cases g3 : (32 : Int) ≤ z
                · have g4 : ¬ (z : Int) ≤ 126 := by omega
                  simp [Fn.f_name_escaped, i1, i2, f1, p1, hl, w16, ho, n0, n1, w8, g2b, g3, g4, t8]
                · simp [Fn.f_name_escaped, i1, i2, f1, p1, hl, w16, ho, n0, n1, w8, g2b, g3, t8]
    · rw [if_neg h3]
      have b4 : ((a.toNat : Int) == 120) = false := by
        have : (a == 120) = false := by simpa using h3
        rw [u8beq] at this; exact this
      simp [Fn.f_name_escaped, b1, b2, b3, b4]
/-! ### a text that grows -/
/-- The cells of a growing text at block id, and its bytes. -/
def BGrow (acc : List UInt8) (id : Nat) (m : Mem) : Prop := ∃ a b, m[id]? = some (.cells [a, b]) ∧ (a = .p .nilp ∨ a = .ty 0 (.ptr id 0)) ∧
  ((acc = [] ∧ b = .p .nils) ∨ (acc ≠ [] ∧ ∃ t, t ≠ id ∧ b = .ty 1 (.tv 1 (byteRows acc) t) ∧ m[t]? = some (.tok 1 acc.length)))
theorem get_ne {m : Mem} {i j : Nat} {x : Blk} (h : i ≠ j) : (m.set i x)[j]? = m[j]? := by
  rw [List.getElem?_set]
  rw [if_neg h]
theorem get_lt {m : Mem} {t : Nat} {b : Blk} (h : m[t]? = some b) : t < m.length := by
  rcases Nat.lt_or_ge t m.length with h' | h'
  · exact h'
  · rw [List.getElem?_eq_none h'] at h; cases h
/-- The first look: the text's address is kept in it. -/
theorem bld_copy (u : Q05 E) (k : Nat) (id : Nat) (a b : AV) (m : Mem) (h : m[id]? = some (.cells [a, b])) (ha : a = .p .nilp ∨ a = .ty 0 (.ptr id 0)) :
    denF E (k + 1) 77 [.ty 0 (.ptr id 0)] m = some (.ret (.tup []), m.set id (.cells [.ty 0 (.ptr id 0), b])) := by
  refine denF_wp_own u.copy rfl ?_
  rcases ha with rfl | rfl
  · simp [Fn.f_strings_Builder_copyCheck, h]
  · have e : m.set id (.cells [.ty 0 (.ptr id 0), b]) = m := by
      obtain ⟨h1, h2⟩ := List.getElem?_eq_some_iff.1 h
      rw [← h2, List.set_getElem_self]
    rw [e]
    simp [Fn.f_strings_Builder_copyCheck, h]
end Hx

namespace Hx
open Go
set_option linter.unusedSimpArgs false
set_option linter.unusedVariables false
set_option maxHeartbeats 4000000
variable {E : Env}
attribute [-simp] List.getD_eq_getElem?_getD getElem?_pos
theorem byteRows_len' (t : List UInt8) : (byteRows t).length = t.length := by simp [byteRows]
theorem byteRows_app (a b : List UInt8) : byteRows (a ++ b) = byteRows a ++ byteRows b := by simp [byteRows]
theorem byteRows_ne {a : List UInt8} (h : a ≠ []) : byteRows a ≠ [] := by
  intro e; exact h (by simpa [byteRows] using e)
/-- What both ways of adding do to the memory. -/
theorem bgrow_step {acc new : List UInt8} (hn : new ≠ []) {id : Nat} {m : Mem} (h : BGrow acc id m) : True := trivial
theorem bld_byte (u : Q05 E) (k : Nat) (id : Nat) (acc : List UInt8) (c : UInt8) (m : Mem) (h : BGrow acc id m) (hl : acc.length < 1000000000000) :
    ∃ m', denF E (k + 2) 71 [.ty 0 (.ptr id 0), .p (.int .u8 c.toNat)] m = some (.ret (.p .nili), m') ∧ BGrow (acc ++ [c]) id m' ∧ m.length ≤ m'.length ∧
      (∀ j b, m[j]? = some b → j ≠ id → (∀ n z, b ≠ .tok n z) → m'[j]? = some b) := by
  obtain ⟨a, b, h1, ha, hb⟩ := h
  have hid := get_lt h1
  have hc := fun m => bld_copy u k id a b m
  have hset : ∀ x : Blk, (m.set id x)[id]? = some x := fun x => get_set h1 x
  rcases hb with ⟨rfl, rfl⟩ | ⟨hne, t, htid, rfl, ht⟩
  · refine ⟨((m.set id (.cells [.ty 0 (.ptr id 0), .p .nils]) ++ [Blk.tok 1 1] ++ [Blk.tok 1 1])).set id (.cells [.ty 0 (.ptr id 0), .ty 1 (.tv 1 (byteRows [c]) (m.length + 1))]), ?_, ?_, ?_, ?_⟩
    · refine denF_wp_own u.wbyte rfl ?_
      have hcc := hc m h1 ha
      have g1 : ∀ (x y z : Blk), (m.set id x ++ [y] ++ [z])[id]? = some x := fun x y z => get_app (get_app (hset x) _) _
      have g2 : ∀ (x y z : Blk), (m.set id x ++ [y, z])[id]? = some x := fun x y z => get_app (hset x) _
      simp [Fn.f_strings_Builder_WriteByte, hcc, hset, room, byteRows, byteRow, g1, g2]
    · refine ⟨.ty 0 (.ptr id 0), _, get_set (get_app (get_app (hset _) _) _) _, .inr rfl, .inr ⟨by simp, m.length + 1, by omega, by simp, ?_⟩⟩
      rw [get_ne (by omega), List.getElem?_append_right (by simp)]
      simp
    · simp
    · intro j b hj hne hb
      rw [get_ne (fun e => hne e.symm)]
      refine get_app (get_app ?_ _) _
      rw [get_ne (fun e => hne e.symm)]
      exact hj
  · refine ⟨(((m.set id (.cells [.ty 0 (.ptr id 0), .ty 1 (.tv 1 (byteRows acc) t)])) ++ [Blk.tok 1 1]).set t (Blk.tok 1 (acc.length + 1))).set id (.cells [.ty 0 (.ptr id 0), .ty 1 (.tv 1 (byteRows (acc ++ [c])) t)]), ?_, ?_, ?_, ?_⟩
    · refine denF_wp_own u.wbyte rfl ?_
      have hcc := hc m h1 ha
      have g1 : ∀ (x : Blk) (y z : Blk), ((m.set id x ++ [y]).set t z)[id]? = some x := fun x y z => by rw [get_ne htid]; exact get_app (hset x) _
      have g2 : ∀ (x y : Blk), (m.set id x ++ [y])[t]? = some (.tok 1 acc.length) := fun x y => get_app (by rw [get_ne (fun e => htid e.symm)]; exact ht) _
      have hbl := byteRows_len' acc
      have hb2 : acc.length + 1 ≤ room := by unfold room; omega
      have happ : byteRows acc ++ [[PV.int .u8 c.toNat]] = byteRows (acc ++ [c]) := by simp [byteRows, byteRow]
      simp [Fn.f_strings_Builder_WriteByte, hcc, hset, hbl, hb2, g1, g2, happ]
    · have g0 : ∀ (x : Blk) (y z : Blk), ((m.set id x ++ [y]).set t z)[id]? = some x := fun x y z => by rw [get_ne htid]; exact get_app (hset x) _
      refine ⟨.ty 0 (.ptr id 0), _, get_set (g0 _ _ _) _, .inr rfl, .inr ⟨by simp, t, htid, rfl, ?_⟩⟩
      rw [get_ne (fun e => htid e.symm), get_set (get_app (by rw [get_ne (fun e => htid e.symm)]; exact ht) _)]
      simp
    · simp
    · intro j b hj hne' hb
      rw [get_ne (fun e => hne' e.symm)]
      have : j ≠ t := by
        rintro rfl
        rw [ht] at hj
        exact hb _ _ (Option.some.inj hj).symm
      rw [get_ne (fun e => this e.symm)]
      refine get_app ?_ _
      rw [get_ne (fun e => hne' e.symm)]
      exact hj
theorem bld_text (u : Q05 E) (k : Nat) (id : Nat) (acc new : List UInt8) (hn : new ≠ []) (hnl : new.length < 1000000000000) (m : Mem) (h : BGrow acc id m) (hl : acc.length < 1000000000000) :
    ∃ m', denF E (k + 2) 73 [.ty 0 (.ptr id 0), .p (.str new)] m = some (.ret (.tup [.p (.int .i64 new.length), .p .nili]), m') ∧ BGrow (acc ++ new) id m' ∧ m.length ≤ m'.length ∧
      (∀ j b, m[j]? = some b → j ≠ id → (∀ n z, b ≠ .tok n z) → m'[j]? = some b) := by
  obtain ⟨a, b, h1, ha, hb⟩ := h
  have hid := get_lt h1
  have hc := fun m => bld_copy u k id a b m
  have hset : ∀ x : Blk, (m.set id x)[id]? = some x := fun x => get_set h1 x
  have hnl' := byteRows_len' new
  have hnn := byteRows_ne hn
  have hr1 : new.length ≤ room := by unfold room; omega
  rcases hb with ⟨rfl, rfl⟩ | ⟨hne, t, htid, rfl, ht⟩
  · refine ⟨((m.set id (.cells [.ty 0 (.ptr id 0), .p .nils]) ++ [Blk.tok 1 new.length])).set id (.cells [.ty 0 (.ptr id 0), .ty 1 (.tv 1 (byteRows new) m.length)]), ?_, ?_, ?_, ?_⟩
    · refine denF_wp_own u.wstr rfl ?_
      have hcc := hc m h1 ha
      have g1 : ∀ (x y : Blk), (m.set id x ++ [y])[id]? = some x := fun x y => get_app (hset x) _
      simp [Fn.f_strings_Builder_WriteString, hcc, hset, hnl', hnn, hr1, g1]
    · refine ⟨.ty 0 (.ptr id 0), _, get_set (get_app (hset _) _) _, .inr rfl, .inr ⟨by simpa using hn, m.length, by omega, by simp, ?_⟩⟩
      rw [get_ne (by omega), List.getElem?_append_right (by simp)]
      simp
    · simp
    · intro j b hj hne hb
      rw [get_ne (fun e => hne e.symm)]
      refine get_app ?_ _
      rw [get_ne (fun e => hne e.symm)]
      exact hj
  · refine ⟨((m.set id (.cells [.ty 0 (.ptr id 0), .ty 1 (.tv 1 (byteRows acc) t)])).set t (Blk.tok 1 (acc.length + new.length))).set id (.cells [.ty 0 (.ptr id 0), .ty 1 (.tv 1 (byteRows (acc ++ new)) t)]), ?_, ?_, ?_, ?_⟩
    · refine denF_wp_own u.wstr rfl ?_
      have hcc := hc m h1 ha
      have g1 : ∀ (x z : Blk), ((m.set id x).set t z)[id]? = some x := fun x z => by rw [get_ne htid]; exact hset x
      have g2 : ∀ (x : Blk), (m.set id x)[t]? = some (.tok 1 acc.length) := fun x => by rw [get_ne (fun e => htid e.symm)]; exact ht
      have hbl := byteRows_len' acc
      have hb2 : acc.length + new.length ≤ room := by unfold room; omega
      have happ := (byteRows_app acc new).symm
      simp [Fn.f_strings_Builder_WriteString, hcc, hset, hbl, hb2, hnl', g1, g2, happ]
    · have g0 : ∀ (x z : Blk), ((m.set id x).set t z)[id]? = some x := fun x z => by rw [get_ne htid]; exact hset x
      refine ⟨.ty 0 (.ptr id 0), _, get_set (g0 _ _) _, .inr rfl, .inr ⟨by simp [hn], t, htid, rfl, ?_⟩⟩
      rw [get_ne (fun e => htid e.symm), get_set (by rw [get_ne (fun e => htid e.symm)]; exact ht)]
      simp
    · simp
    · intro j b hj hne' hb
      rw [get_ne (fun e => hne' e.symm)]
      have : j ≠ t := by
        rintro rfl
        rw [ht] at hj
        exact hb _ _ (Option.some.inj hj).symm
      rw [get_ne (fun e => this e.symm), get_ne (fun e => hne' e.symm)]
      exact hj
theorem unBytes_rows' : ∀ t : List UInt8, unBytes (byteRows t) = some t
  | [] => rfl
  | c :: t => by
    have : byteRows (c :: t) = byteRow c :: byteRows t := rfl
    rw [this, unBytes, unBytes_rows' t]
    simp [byteRow, unByte]
theorem bld_str (u : Q05 E) (k : Nat) (id : Nat) (acc : List UInt8) (hne : acc ≠ []) (m : Mem) (h : BGrow acc id m) (hl : acc.length < 1000000000000) :
    ∃ m', denF E (k + 1) 74 [.ty 0 (.ptr id 0)] m = some (.ret (.p (.str acc)), m') := by
  obtain ⟨a, b, h1, ha, hb⟩ := h
  rcases hb with ⟨rfl, rfl⟩ | ⟨_, t, htid, rfl, ht⟩
  · exact absurd rfl hne
  · refine ⟨m.set t .dead, ?_⟩
    refine denF_wp_own u.str rfl ?_
    have hid := get_lt h1
    have hbl := byteRows_len' acc
    have hun := unBytes_rows' acc
    have hnn := byteRows_ne hne
    have hsl : acc.length ≤ strLim := by unfold strLim; omega
    simp [Fn.f_strings_Builder_String, h1, hid, hnn, hbl, ht, hun, hne, hsl]
end Hx

namespace Hx
open Go
set_option linter.unusedSimpArgs false
set_option linter.unusedVariables false
set_option maxHeartbeats 4000000
variable {E : Env}
attribute [-simp] List.getD_eq_getElem?_getD getElem?_pos
theorem quotes_snoc (s : List UInt8) (c : UInt8) : quotes (s ++ [c]) = quotes s ++ quoteC c := by simp [quotes]
theorem quoteC_len (c : UInt8) : (quoteC c).length ≤ 4 := by
  unfold quoteC
  split
  · simp
  split
  · simp
  split <;> simp
theorem quotes_len : ∀ s : List UInt8, (quotes s).length ≤ 4 * s.length
  | [] => by simp [quotes]
  | c :: s => by
    have e : quotes (c :: s) = quoteC c ++ quotes s := by simp [quotes]
    have := quoteC_len c
    have := quotes_len s
    rw [e, List.length_append, List.length_cons]
    omega
theorem take_snoc {s : List UInt8} {i : Nat} {c : UInt8} (h : s[i]? = some c) : s.take (i + 1) = s.take i ++ [c] := by
  rw [List.take_add_one, h]; rfl
def QInv (s : List UInt8) (i : Nat) (st : St) : Prop := ∃ m, i ≤ s.length ∧ BGrow (34 :: quotes (s.take i)) 0 m ∧ Live Fn.f_name_Quote_k0 (Fn.f_name_Quote_s0 (.p (.str s)) (.ty 0 (.ptr 0 0)) (.p (.int .i64 s.length)) (.p (.int .i64 i))) m st
theorem QInv.mk {s : List UInt8} {i : Nat} {st : St} (m : Mem) (h1 : i ≤ s.length) (h2 : BGrow (34 :: quotes (s.take i)) 0 m) (h3 : Live Fn.f_name_Quote_k0 (Fn.f_name_Quote_s0 (.p (.str s)) (.ty 0 (.ptr 0 0)) (.p (.int .i64 s.length)) (.p (.int .i64 i))) m st) : QInv s i st := ⟨m, h1, h2, h3⟩
theorem name_Quote (u : Q05 E) (s : List UInt8) (hs : (s.length : Int) ≤ 1000000000) (k : Nat) (hk : s.length + 10 ≤ k) (m : Mem) : denF E (k + 1) 214 [.p (.str s)] m = some (.ret (.p (.str (34 :: (quotes s ++ [34])))), m) := by
  refine denF_wp u.quote rfl (args' := [.p (.str s)]) rfl ?_
  obtain ⟨j, rfl⟩ : ∃ j, k = j + 2 := ⟨k - 2, by omega⟩
  have hB0 : BGrow [] 0 [Blk.cells [.p .nilp, .p .nils]] := ⟨_, _, rfl, .inl rfl, .inl ⟨rfl, rfl⟩⟩
  obtain ⟨m1, e1, b1, l1, _⟩ := bld_byte u j 0 [] 34 _ hB0 (by simp)
  have e34 : ((34 : UInt8).toNat : Int) = 34 := rfl
  rw [e34] at e1
  simp [Fn.f_name_Quote, e1]
  refine (loop_wp (α := Nat) (I := fun i st => QInv s i st) (meas := fun i => s.length - i)
    (Q := fun e st => e = .exit 0 ∧ st.ds = [] ∧ st.ts.length = 46 ∧ BGrow (34 :: quotes s) 0 st.m ∧ st.ts.getD 3 (.tup []) = .ty 0 (.ptr 0 0)) ?_ (j + 2) 0 _ (QInv.mk m1 (Nat.zero_le _) b1 ⟨rfl, rfl, rfl, rfl⟩) (by omega)).mono ?_
  · rintro i st ⟨m, hi0, hg, hlive⟩
    rw [loopF_live hlive]
    by_cases hi : i < s.length
    · have hi' : (i : Int) < s.length := by omega
      obtain ⟨c, hc⟩ : ∃ c, s[i]? = some c := ⟨_, List.getElem?_eq_getElem hi⟩
      have hw : IntKind.i64.wrap ((i : Int) + 1) = i + 1 := wrap_i64 (by omega) (by omega)
      have hP := fun m => name_plain u (j + 1) c m
      have hq := quotes_len (s.take i)
      have ht : (s.take i).length ≤ s.length := by rw [List.length_take]; omega
      have hqs : 34 :: quotes (s.take (i + 1)) = (34 :: quotes (s.take i)) ++ quoteC c := by rw [take_snoc hc, quotes_snoc]; rfl
      have hcl := UInt8.toNat_lt c
      have hfin : ∀ (m' : Mem) (st' : St), BGrow ((34 :: quotes (s.take i)) ++ quoteC c) 0 m' → Live Fn.f_name_Quote_k0 (Fn.f_name_Quote_s0 (.p (.str s)) (.ty 0 (.ptr 0 0)) (.p (.int .i64 s.length)) (.p (.int .i64 ((i + 1 : Nat) : Int)))) m' st' → QInv s (i + 1) st' := fun m' st' h1 h2 => QInv.mk m' hi (by rw [hqs]; exact h1) h2
      cases hp : plainC c with
      | true =>
        rw [hp] at hP
        have hqc : quoteC c = [c] := by
          have := step_quote c []
          unfold plainC at hp
          simp at hp
          unfold quoteC
          rw [if_neg (by omega), if_neg (by omega), if_neg (by omega)]
        rw [hqc] at hfin
        obtain ⟨m2, e2, b2, l2, _⟩ := bld_byte u j 0 _ c m hg (by simp; omega)
        simp [Fn.f_name_Quote_b0, Fn.f_name_Quote_s0, hi, hi', hc, hP, hw, e2]
        exact ⟨i + 1, by omega, hfin m2 _ b2 ⟨rfl, rfl, rfl, rfl⟩⟩
      | false =>
        rw [hp] at hP
        by_cases h10 : c = 10
        · subst h10
          have hqc : quoteC 10 = [92, 110] := by decide
          rw [hqc] at hfin
          have g : (((10 : UInt8).toNat : Int)) = 10 := rfl
          rw [g] at hP
          obtain ⟨m2, e2, b2, l2, _⟩ := bld_text u j 0 _ [92, 110] (by simp) (by simp) m hg (by simp; omega)
          simp [Fn.f_name_Quote_b0, Fn.f_name_Quote_s0, hi, hi', hc, hP, hw, e2]
          exact ⟨i + 1, by omega, hfin m2 _ b2 ⟨rfl, rfl, rfl, rfl⟩⟩
        have g10 : ((c.toNat : Int) == 10) = false := by
          have : (c == 10) = false := by simpa using h10
          rw [u8beq] at this; exact this
        obtain ⟨m2, e2, b2, l2, _⟩ := bld_byte u j 0 _ 92 m hg (by simp; omega)
        have g92 : ((92 : UInt8).toNat : Int) = 92 := rfl
        rw [g92] at e2
        obtain ⟨m3, e3, b3, l3, _⟩ := bld_byte u j 0 _ c m2 b2 (by simp; omega)
        by_cases h34 : c = 34
        · subst h34
          have hqc : quoteC 34 = [92, 34] := by decide
          rw [hqc] at hfin
          simp only [List.append_assoc, List.singleton_append] at b3
          have g : (((34 : UInt8).toNat : Int)) = 34 := rfl
          rw [g] at hP e3
          simp [Fn.f_name_Quote_b0, Fn.f_name_Quote_s0, hi, hi', hc, hP, hw, e2, e3]
          exact ⟨i + 1, by omega, hfin m3 _ b3 ⟨rfl, rfl, rfl, rfl⟩⟩
        by_cases h92 : c = 92
        · subst h92
          have hqc : quoteC 92 = [92, 92] := by decide
          rw [hqc] at hfin
          simp only [List.append_assoc, List.singleton_append] at b3
          rw [g92] at hP e3
          simp [Fn.f_name_Quote_b0, Fn.f_name_Quote_s0, hi, hi', hc, hP, hw, e2, e3]
          exact ⟨i + 1, by omega, hfin m3 _ b3 ⟨rfl, rfl, rfl, rfl⟩⟩
        have g34 : ((c.toNat : Int) == 34) = false := by
          have : (c == 34) = false := by simpa using h34
          rw [u8beq] at this; exact this
        have g92' : ((c.toNat : Int) == 92) = false := by
          have : (c == 92) = false := by simpa using h92
          rw [u8beq] at this; exact this
        have hqc : quoteC c = [92, 120, hexd (c.toNat / 16), hexd (c.toNat % 16)] := by
          have n34 : ¬ (c.toNat : Int) = 34 := by simpa using g34
          have n92 : ¬ (c.toNat : Int) = 92 := by simpa using g92'
          have n10 : ¬ (c.toNat : Int) = 10 := by simpa using g10
          have : ¬ ((32 : Int) ≤ c.toNat ∧ (c.toNat : Int) ≤ 126) := by
            rintro ⟨h1, h2⟩
            unfold plainC at hp
            simp [n34, n92, h1, h2] at hp
          unfold quoteC
          rw [if_neg (by omega), if_neg (by omega), if_pos (by omega)]
        rw [hqc] at hfin
        have x1 := hexS_at (n := c.toNat / 16) (by omega)
        have x2 := hexS_at (n := c.toNat % 16) (by omega)
        have d1 := fdiv16 c.toNat
        have d2 : bitsI .and .u8 (c.toNat : Int) 15 = some ((c.toNat % 16 : Nat) : Int) := by
          rw [and_u8_15 (by omega) (by omega)]
          rfl
        obtain ⟨q1, hq1⟩ : ∃ q, q = c.toNat / 16 := ⟨_, rfl⟩
        obtain ⟨q2, hq2⟩ : ∃ q, q = c.toNat % 16 := ⟨_, rfl⟩
        rw [← hq1] at x1 d1
        rw [← hq2] at x2 d2
        rw [← hq1, ← hq2] at hfin
        obtain ⟨m2, e2, b2, l2, _⟩ := bld_text u j 0 _ [92, 120] (by simp) (by simp) m hg (by simp; omega)
        obtain ⟨m3, e3, b3, l3, _⟩ := bld_byte u j 0 _ (hexd q1) m2 b2 (by simp; omega)
        obtain ⟨m4, e4, b4, l4, _⟩ := bld_byte u j 0 _ (hexd q2) m3 b3 (by simp; omega)
        simp only [List.append_assoc, List.singleton_append, List.cons_append, List.nil_append] at b4
        simp [Fn.f_name_Quote_b0, Fn.f_name_Quote_s0, hi, hi', hc, hP, hw, g10, g34, g92', d1, d2, x1, x2, e2, e3, e4]
        exact ⟨i + 1, by omega, hfin m4 _ b4 ⟨rfl, rfl, rfl, rfl⟩⟩
    · have hi' : ¬ (i : Int) < s.length := by omega
      rw [List.take_of_length_le (by omega)] at hg
      simp [Fn.f_name_Quote_b0, Fn.f_name_Quote_s0, hi, hi', hg]
  · rintro e st ⟨rfl, h1, h2, hg, h3⟩
    obtain ⟨ts, m', ds⟩ := st
    simp only at h1 h2 h3 hg
    subst h1
    have hq := quotes_len s
    obtain ⟨m2, e2, b2, l2, _⟩ := bld_byte u j 0 _ 34 m' hg (by simp; omega)
    rw [e34] at e2
    obtain ⟨m3, e3⟩ := bld_str u (j + 1) 0 _ (by simp) m2 b2 (by simp; omega)
    simp only [List.cons_append] at e3
    match ts, h2, h3 with
    | t0 :: t1 :: t2 :: t3 :: t4 :: t5 :: t6 :: t7 :: t8 :: t9 :: t10 :: t11 :: t12 :: t13 :: t14 :: t15 :: t16 :: t17 :: t18 :: t19 :: t20 :: t21 :: t22 :: t23 :: t24 :: t25 :: t26 :: t27 :: t28 :: t29 :: t30 :: t31 :: t32 :: t33 :: t34 :: t35 :: t36 :: t37 :: t38 :: t39 :: t40 :: t41 :: t42 :: t43 :: t44 :: t45 :: [], h2, h3 =>
      simp only [getD_zero', getD_succ'] at h3
      subst h3
      simp [e2, e3]
theorem ref_Quote (u : Q05 E) (s : List UInt8) (hs : (s.length : Int) ≤ 1000000000) (k : Nat) (hk : s.length + 10 ≤ k) (m : Mem) : denF E (k + 1) 60 [.p (.str s)] m = some (.ret (.p (.str (34 :: (quotes s ++ [34])))), m) := by
  refine denF_wp u.rquote rfl (args' := [.p (.str s)]) rfl ?_
  obtain ⟨j, rfl⟩ : ∃ j, k = j + 1 := ⟨k - 1, by omega⟩
  simp [Fn.f_haulageref04_Quote]
  refine (loop_wp (α := Nat) (I := fun i st => i ≤ s.length ∧ Live Fn.f_haulageref04_Quote_k0 (Fn.f_haulageref04_Quote_s0 (.p (.str s)) (.p (.str (34 :: quotes (s.take i)))) (.p (.int .i64 i))) [] st) (meas := fun i => s.length - i)
    (Q := fun e st => e = .exit 0 ∧ st.ds = [] ∧ st.ts.length = 19 ∧ st.ts.getD 3 (.tup []) = .p (.str (34 :: quotes s))) ?_ (j + 1) 0 _ ⟨Nat.zero_le _, rfl, rfl, rfl, rfl⟩ (by omega)).mono ?_
  · rintro i st ⟨hi0, hlive⟩
    rw [loopF_live hlive]
    by_cases hi : i < s.length
    · have hi' : (i : Int) < s.length := by omega
      obtain ⟨c, hc⟩ : ∃ c, s[i]? = some c := ⟨_, List.getElem?_eq_getElem hi⟩
      have hw : IntKind.i64.wrap ((i : Int) + 1) = i + 1 := wrap_i64 (by omega) (by omega)
      have hO := fun m => ref_one4 u j c m
      have hq := quotes_len (s.take i)
      have ht : (s.take i).length ≤ s.length := by rw [List.length_take]; omega
      have hqs : quotes (s.take (i + 1)) = quotes (s.take i) ++ quoteC c := by rw [take_snoc hc, quotes_snoc]
      have hcl := quoteC_len c
      have hlim : (quotes (s.take i)).length + 1 + (quoteC c).length ≤ strLim := by unfold strLim; omega
      simp [Fn.f_haulageref04_Quote_b0, Fn.f_haulageref04_Quote_s0, hi, hi', hc, hO, hw, hlim]
      exact ⟨i + 1, by omega, hi, rfl, by simp [keep, Fn.f_haulageref04_Quote_k0, hqs], rfl, rfl⟩
    · have hi' : ¬ (i : Int) < s.length := by omega
      rw [List.take_of_length_le (by omega)] at hlive
      have e : s.take i = s := List.take_of_length_le (by omega)
      simp [Fn.f_haulageref04_Quote_b0, Fn.f_haulageref04_Quote_s0, hi, hi', e]
  · rintro e st ⟨rfl, h1, h2, h3⟩
    obtain ⟨ts, m', ds⟩ := st
    simp only at h1 h2 h3
    subst h1
    have hq := quotes_len s
    have hlim : (quotes s).length + 1 + 1 ≤ strLim := by unfold strLim; omega
    match ts, h2, h3 with
    | t0 :: t1 :: t2 :: t3 :: t4 :: t5 :: t6 :: t7 :: t8 :: t9 :: t10 :: t11 :: t12 :: t13 :: t14 :: t15 :: t16 :: t17 :: t18 :: [], h2, h3 =>
      simp only [getD_zero', getD_succ'] at h3
      subst h3
      simp [hlim]
end Hx

namespace Hx
open Go
set_option linter.unusedSimpArgs false
set_option linter.unusedVariables false
set_option maxHeartbeats 4000000
variable {E : Env}
attribute [-simp] List.getD_eq_getElem?_getD getElem?_pos
theorem head_at {s : List UInt8} {i : Nat} : (s.drop i).head? = s[i]? := by rw [List.head?_drop]
theorem u8ne {c d : UInt8} (h : c ≠ d) : ((c.toNat : Int) == d.toNat) = false := by
  have : (c == d) = false := by simpa using h
  rw [u8beq] at this; exact this
def UqInv (s : List UInt8) (i : Nat) (st : St) : Prop := ∃ (acc : List UInt8) (ov : AV) (m : Mem), UInv s i acc ∧ Grow 1 (byteRows acc) ov m ∧ Live Fn.f_name_Unquote_k0 (Fn.f_name_Unquote_s0 (.p (.str s)) ov (.p (.int .i64 i))) m st
theorem UqInv.mk {s : List UInt8} {i : Nat} {st : St} (acc : List UInt8) (ov : AV) (m : Mem) (h1 : UInv s i acc) (h2 : Grow 1 (byteRows acc) ov m) (h3 : Live Fn.f_name_Unquote_k0 (Fn.f_name_Unquote_s0 (.p (.str s)) ov (.p (.int .i64 i))) m st) : UqInv s i st := ⟨acc, ov, m, h1, h2, h3⟩
/-- Bytes that grow by one, whatever they were. -/
theorem grow_one {D : List UInt8} {ov : AV} {m : Mem} (hg : Grow 1 (byteRows D) ov m) (hl : D.length < 1000000000000) (c : UInt8) : (D = [] ∧ ov = .p .nils) ∨ (∃ t, ov = .tv 1 (byteRows D) t ∧ ∀ z : Blk, (m ++ [z])[t]? = some (.tok 1 D.length)) := by
  rcases hg with ⟨hr, rfl⟩ | ⟨hr, t, rfl, ht⟩
  · exact .inl ⟨by simpa [byteRows] using hr, rfl⟩
  · exact .inr ⟨t, rfl, fun z => by rw [get_app ht, byteRows_len']⟩
theorem grow_nil1 {m : Mem} {c : UInt8} : Grow 1 (byteRows [c]) (.tv 1 (byteRows [c]) (m.length + 1)) (m ++ [Blk.tok 1 1, Blk.tok 1 1]) := .inr ⟨by simp [byteRows], m.length + 1, rfl, by rw [List.getElem?_append_right (by omega)]; simp [byteRows]⟩
theorem grow_set1 {m : Mem} {D : List UInt8} {c : UInt8} {t : Nat} (ht2 : ∀ z : Blk, (m ++ [z])[t]? = some (.tok 1 D.length)) : Grow 1 (byteRows (D ++ [c])) (.tv 1 (byteRows (D ++ [c])) t) ((m ++ [Blk.tok 1 1]).set t (.tok 1 (D.length + 1))) := .inr ⟨by simp [byteRows], t, rfl, by rw [get_set (ht2 _), byteRows_len']; simp⟩
theorem name_Unquote (u : Q05 E) (s : List UInt8) (hs : (s.length : Int) ≤ 1000000000) (k : Nat) (hk : s.length + 10 ≤ k) (m : Mem) : denF E (k + 1) 62 [.p (.str s)] m = some (.ret (unquoteV s), m) := by
  refine denF_wp u.unquote rfl (args' := [.p (.str s)]) rfl ?_
  obtain ⟨j, rfl⟩ : ∃ j, k = j + 3 := ⟨k - 3, by omega⟩
  unfold unquoteV
  cases s with
  | nil => simp [Fn.f_name_Unquote]
  | cons a r =>
  by_cases h34 : ¬ a = 34
  · have g := u8ne h34
    have g34 : ((34 : UInt8).toNat : Int) = 34 := rfl
    rw [g34] at g
    simp [Fn.f_name_Unquote, g, bne, h34]
  obtain rfl := Classical.not_not.1 h34
  have hh : (34 :: r : List UInt8).head? = some 34 := rfl
  rw [if_pos hh]
  simp [Fn.f_name_Unquote, bne]
  have hU0 := uinv_0 hh
  generalize hsx : (34 :: r : List UInt8) = s at *
  have htail : r = s.tail := by rw [← hsx]; rfl
  rw [htail]
  refine (loop_wp (α := Nat) (I := fun i st => UqInv s i st) (meas := fun i => s.length - i)
    (Q := fun e st => st.ds = [] ∧ ((e = .exit 0 ∧ unq s.tail = none ∧ st.ts.length = 60) ∨ (e = .ret ∧ ∃ q, unq s.tail = some q ∧ st.ts.getD 2 (.tup []) = .p (.str q.1) ∧ st.ts.getD 3 (.tup []) = .p (.int .i64 ((q.2 : Int) + 1)) ∧ st.ts.getD 4 (.tup []) = .p (.bool true)) ∨
      (e = .ret ∧ unq s.tail = none ∧ st.ts.getD 2 (.tup []) = .p (.str []) ∧ st.ts.getD 3 (.tup []) = .p (.int .i64 0) ∧ st.ts.getD 4 (.tup []) = .p (.bool false)))) ?_ (j + 3) 1 _ (UqInv.mk [] (.p .nils) [] hU0 (.inl ⟨rfl, rfl⟩) ⟨rfl, rfl, rfl, rfl⟩) (by omega)).mono ?_
  · rintro i st ⟨D, ov, m, hU, hg, hlive⟩
    rw [loopF_live hlive]
    have hi0 := hU.2.1
    have hDl := hU.2.2.1
    by_cases hi : i < s.length
    · have hi' : (i : Int) < s.length := by omega
      obtain ⟨c, hc⟩ : ∃ c, s[i]? = some c := ⟨_, List.getElem?_eq_getElem hi⟩
      have hw : IntKind.i64.wrap ((i : Int) + 1) = i + 1 := wrap_i64 (by omega) (by omega)
      have hP := fun m => name_plain u (j + 2) c m
      have hdrop : s.drop i = c :: s.drop (i + 1) := drop_at hc
      have hgo := grow_one hg (by omega) c
      by_cases c34 : c = 34
      · subst c34
        have hq := uinv_quote hU (by rw [hdrop]; rfl)
        have g34 : ((34 : UInt8).toNat : Int) = 34 := rfl
        have hun := unBytes_rows' D
        rcases hgo with ⟨rfl, rfl⟩ | ⟨t, rfl, ht2⟩
        · simp [Fn.f_name_Unquote_b0, Fn.f_name_Unquote_s0, hi, hi', hc, hw, hq, unBytes]
        · simp [Fn.f_name_Unquote_b0, Fn.f_name_Unquote_s0, hi, hi', hc, hw, hun, hq]
      have g := u8ne c34
      have g34 : ((34 : UInt8).toNat : Int) = 34 := rfl
      rw [g34] at g
      have hn34 : ¬ (s.drop i).head? = some 34 := by
        rw [head_at, hc]
        simpa using c34
      have happ : byteRows (D ++ [c]) = byteRows D ++ [[PV.int .u8 c.toNat]] := by simp [byteRows, byteRow]
      have hbl := byteRows_len' D
      have hb2 : D.length + 1 ≤ room := by unfold room; omega
      cases hp : plainC c with
      | true =>
        rw [hp] at hP
        have hst : stepQ (s.drop i) = some (c, 1) := by rw [hdrop, stepQ_cons, if_pos hp]
        have hU1 := uinv_step hU hn34 hst
        rcases hgo with ⟨rfl, rfl⟩ | ⟨t, rfl, ht2⟩
        · simp [Fn.f_name_Unquote_b0, Fn.f_name_Unquote_s0, hi, hi', hc, hw, g, hP, room]
          exact ⟨i + 1, by omega, UqInv.mk [c] (.tv 1 (byteRows [c]) (m.length + 1)) _ hU1 grow_nil1 ⟨rfl, by simp [keep, Fn.f_name_Unquote_k0, Fn.f_name_Unquote_s0, byteRows, byteRow], rfl, rfl⟩⟩
        · simp [Fn.f_name_Unquote_b0, Fn.f_name_Unquote_s0, hi, hi', hc, hw, g, hP, hbl, hb2, ht2]
          exact ⟨i + 1, by omega, UqInv.mk (D ++ [c]) (.tv 1 (byteRows (D ++ [c])) t) _ hU1 (grow_set1 ht2) ⟨rfl, by simp [keep, Fn.f_name_Unquote_k0, Fn.f_name_Unquote_s0, happ], rfl, rfl⟩⟩
      | false =>
        rw [hp] at hP
        by_cases c92 : c = 92
        · subst c92
          have g92 : ((92 : UInt8).toNat : Int) = 92 := rfl
          rw [g92] at hP g
          have hE := fun m => name_escaped u j (s.drop (i + 1)) m
          have hlt : i + 1 ≤ s.length := hi
          have hst0 : stepQ (s.drop i) = if (esc (s.drop (i + 1))).2 = 0 then none else some ((esc (s.drop (i + 1))).1, (esc (s.drop (i + 1))).2 + 1) := by rw [hdrop, stepQ_cons, if_neg (by rw [hp]; simp), if_pos rfl]
          have t1 : ((i : Int) + 1).toNat = i + 1 := by omega
          have p1 : (0 : Int) ≤ (i : Int) + 1 := by omega
          obtain ⟨x, hx⟩ : ∃ x, (esc (s.drop (i + 1))).1 = x := ⟨_, rfl⟩
          obtain ⟨n, hn⟩ : ∃ n, (esc (s.drop (i + 1))).2 = n := ⟨_, rfl⟩
          rw [hx, hn] at hE hst0
          cases n with
          | zero =>
            have := uinv_none hU hn34 (by rw [hst0]; rfl)
            simp [Fn.f_name_Unquote_b0, Fn.f_name_Unquote_s0, hi, hi', hc, hw, g, hP, hE, this, hlt, t1, p1]
          | succ n =>
            have hst : stepQ (s.drop i) = some (x, n + 2) := by rw [hst0, if_neg (by omega)]
            have hU1 := uinv_step hU hn34 hst
            have hle := hU1.2.1
            have hw3 : IntKind.i64.wrap ((i : Int) + ((n : Int) + 1)) = (i : Int) + n + 1 := by rw [wrap_i64] <;> omega
            have hw4 : IntKind.i64.wrap ((i : Int) + n + 1 + 1) = ((i + (n + 2) : Nat) : Int) := by rw [wrap_i64] <;> omega
            have happ : byteRows (D ++ [x]) = byteRows D ++ [[PV.int .u8 x.toNat]] := by simp [byteRows, byteRow]
            have hn0 : ((n : Int) + 1 == 0) = false := by simp; omega
            rcases hgo with ⟨rfl, rfl⟩ | ⟨t, rfl, ht2⟩
            · simp [Fn.f_name_Unquote_b0, Fn.f_name_Unquote_s0, hi, hi', hc, hw, g, hP, hE, hlt, t1, p1, hn0, hw3, hw4, room]
              exact ⟨i + (n + 2), by omega, UqInv.mk [x] (.tv 1 (byteRows [x]) (m.length + 1)) _ hU1 grow_nil1 ⟨rfl, by simp [keep, Fn.f_name_Unquote_k0, Fn.f_name_Unquote_s0, byteRows, byteRow, hw4], rfl, rfl⟩⟩
            · simp [Fn.f_name_Unquote_b0, Fn.f_name_Unquote_s0, hi, hi', hc, hw, g, hP, hE, hlt, t1, p1, hn0, hw3, hw4, hbl, hb2, ht2]
              exact ⟨i + (n + 2), by omega, UqInv.mk (D ++ [x]) (.tv 1 (byteRows (D ++ [x])) t) _ hU1 (grow_set1 ht2) ⟨rfl, by simp [keep, Fn.f_name_Unquote_k0, Fn.f_name_Unquote_s0, happ, hw4], rfl, rfl⟩⟩
        · have g2 := u8ne c92
          have g92 : ((92 : UInt8).toNat : Int) = 92 := rfl
          rw [g92] at g2
          have hst : stepQ (s.drop i) = none := by rw [hdrop, stepQ_cons, if_neg (by rw [hp]; simp), if_neg c92]
          have := uinv_none hU hn34 hst
          simp [Fn.f_name_Unquote_b0, Fn.f_name_Unquote_s0, hi, hi', hc, hw, g, g2, hP, this]
    · have hi' : ¬ (i : Int) < s.length := by omega
      have hnil : s.drop i = [] := List.drop_eq_nil_of_le (by omega)
      have := uinv_none hU (by rw [hnil]; simp) (by rw [hnil]; rfl)
      simp [Fn.f_name_Unquote_b0, Fn.f_name_Unquote_s0, hi, hi', this]
  · rintro e st ⟨h0, h⟩
    obtain ⟨ts, m', ds⟩ := st
    simp only at h0 h
    subst h0
    rcases h with ⟨rfl, hx, hl⟩ | ⟨rfl, q, hq, q1, q2, q3⟩ | ⟨rfl, hq, q1, q2, q3⟩
    · rw [hx]
      match ts, hl with
      | t0 :: t1 :: t2 :: t3 :: t4 :: t5 :: t6 :: t7 :: t8 :: t9 :: t10 :: t11 :: t12 :: t13 :: t14 :: t15 :: t16 :: t17 :: t18 :: t19 :: t20 :: t21 :: t22 :: t23 :: t24 :: t25 :: t26 :: t27 :: t28 :: t29 :: t30 :: t31 :: t32 :: t33 :: t34 :: t35 :: t36 :: t37 :: t38 :: t39 :: t40 :: t41 :: t42 :: t43 :: t44 :: t45 :: t46 :: t47 :: t48 :: t49 :: t50 :: t51 :: t52 :: t53 :: t54 :: t55 :: t56 :: t57 :: t58 :: t59 :: [], hl => simp
    · simp [hq, q1, q2, q3]
    · simp [hq, q1, q2, q3]
end Hx

namespace Hx
open Go
set_option linter.unusedSimpArgs false
set_option linter.unusedVariables false
set_option maxHeartbeats 4000000
variable {E : Env}
attribute [-simp] List.getD_eq_getElem?_getD getElem?_pos
theorem ofNat8 {c : Nat} (h : c < 256) : (UInt8.ofNat c).toNat = c := by rw [UInt8.toNat_ofNat']; omega
theorem starts_no {s : List UInt8} (h : ∀ c : Nat, c < 256 → starts s (quoteC (UInt8.ofNat c)) = false) : stepQ s = none := by
  cases hs : stepQ s with
  | none => rfl
  | some p =>
    obtain ⟨x, n⟩ := p
    have := h x.toNat (UInt8.toNat_lt x)
    rw [UInt8.ofNat_toNat, starts_quote] at this
    obtain ⟨_, h2, _⟩ := step_some hs
    rw [hs, h2] at this
    simp at this
theorem starts_yes {s : List UInt8} {c : UInt8} (h : starts s (quoteC c) = true) : stepQ s = some (c, (quoteC c).length) := by
  rw [starts_quote] at h
  simpa using h
def RqIn (s acc : List UInt8) (i c : Nat) (st : St) : Prop := ∃ m, c ≤ 256 ∧ ((Live Fn.f_haulageref04_Unquote_k1 (Fn.f_haulageref04_Unquote_s1 (.p (.str s)) (.p (.str acc)) (.p (.int .i64 i)) (.p (.bool false)) (.p (.int .i64 c))) m st ∧ ∀ x, x < c → starts (s.drop i) (quoteC (UInt8.ofNat x)) = false) ∨
  (∃ x n, stepQ (s.drop i) = some (x, n) ∧ Live Fn.f_haulageref04_Unquote_k1 (Fn.f_haulageref04_Unquote_s1 (.p (.str s)) (.p (.str (acc ++ [x]))) (.p (.int .i64 ((i + n : Nat) : Int))) (.p (.bool true)) (.p (.int .i64 c))) m st))
theorem ref_Unquote_in (u : Q05 E) (s acc : List UInt8) (i : Nat) (hs : (s.length : Int) ≤ 1000000000) (hi : i < s.length) (ha : acc.length ≤ i) (K : Nat) (hK : 260 ≤ K) (m : Mem) (st : St)
    (hst : Live Fn.f_haulageref04_Unquote_k1 (Fn.f_haulageref04_Unquote_s1 (.p (.str s)) (.p (.str acc)) (.p (.int .i64 i)) (.p (.bool false)) (.p (.int .i64 0))) m st) :
    Wp (iter (loopF E (denF E K) K Fn.f_haulageref04_Unquote_k1 Fn.f_haulageref04_Unquote_b1) K st)
      (fun e st => e = .exit 2 ∧ st.ds = [] ∧ st.ts.length = 62 ∧ st.ts.getD 0 (.tup []) = .p (.str s) ∧
        ((stepQ (s.drop i) = none ∧ st.ts.getD 7 (.tup []) = .p (.bool false)) ∨
         (∃ x n, stepQ (s.drop i) = some (x, n) ∧ st.ts.getD 7 (.tup []) = .p (.bool true) ∧ st.ts.getD 5 (.tup []) = .p (.str (acc ++ [x])) ∧ st.ts.getD 6 (.tup []) = .p (.int .i64 ((i + n : Nat) : Int))))) := by
  obtain ⟨j, rfl⟩ : ∃ j, K = j + 1 := ⟨K - 1, by omega⟩
  refine loop_wp (α := Nat) (I := fun c st => RqIn s acc i c st) (meas := fun c => 257 - c) ?_ (j + 1) 0 st ⟨m, by omega, .inl ⟨hst, by intro x hx; omega⟩⟩ (by omega)
  rintro c st ⟨m, hc, ⟨hlive, hno⟩ | ⟨x, n, hx, hlive⟩⟩
  · rw [loopF_live hlive]
    by_cases hc2 : c < 256
    · have hc' : (c : Int) < 256 := by omega
      have w1 : IntKind.u8.wrap (c : Int) = c := wrap_u8 (by omega) (by omega)
      have w2 : IntKind.i64.wrap ((c : Int) + 1) = ((c + 1 : Nat) : Int) := by rw [wrap_i64 (by omega) (by omega)]; omega
      have hO := fun m => ref_one4 u j (UInt8.ofNat c) m
      have hS := fun m => ref_starts u j (s.drop i) (quoteC (UInt8.ofNat c)) m
      rw [ofNat8 hc2] at hO
      have hle : i ≤ s.length := by omega
      cases hq : starts (s.drop i) (quoteC (UInt8.ofNat c)) with
      | false =>
        rw [hq] at hS
        simp [Fn.f_haulageref04_Unquote_b1, Fn.f_haulageref04_Unquote_s1, hc', w1, w2, hO, hS, hle]
        refine ⟨c + 1, by omega, m, hc2, .inl ⟨⟨rfl, by simp [keep, Fn.f_haulageref04_Unquote_k1, Fn.f_haulageref04_Unquote_s1], rfl, rfl⟩, ?_⟩⟩
        intro x hx
        by_cases hxc : x = c
        · subst hxc; exact hq
        · exact hno x (by omega)
      | true =>
        rw [hq] at hS
        have hst := starts_yes hq
        have hq4 := quoteC_len (UInt8.ofNat c)
        have hlim : acc.length + 1 ≤ strLim := by unfold strLim; omega
        have w3 : IntKind.i64.wrap ((i : Int) + (quoteC (UInt8.ofNat c)).length) = ((i + (quoteC (UInt8.ofNat c)).length : Nat) : Int) := by rw [wrap_i64 (by omega) (by omega)]; omega
        simp [Fn.f_haulageref04_Unquote_b1, Fn.f_haulageref04_Unquote_s1, hc', w1, w2, w3, hO, hS, hle, unBytes, unByte, hlim, -Int.natCast_add]
        exact ⟨c + 1, by omega, _, hc2, .inr ⟨_, _, hst, ⟨rfl, by simp [keep, Fn.f_haulageref04_Unquote_k1, Fn.f_haulageref04_Unquote_s1], rfl, rfl⟩⟩⟩
    · have hc' : ¬ (c : Int) < 256 := by omega
      have hnone := starts_no (s := s.drop i) (fun x hx => hno x (by omega))
      simp [Fn.f_haulageref04_Unquote_b1, Fn.f_haulageref04_Unquote_s1, hc', hnone]
  · rw [loopF_live hlive]
    by_cases hc2 : (c : Int) < 256
    · simp [Fn.f_haulageref04_Unquote_b1, Fn.f_haulageref04_Unquote_s1, hc2, hx]
      exact ⟨x, n, ⟨rfl, rfl⟩, rfl, rfl⟩
    · simp [Fn.f_haulageref04_Unquote_b1, Fn.f_haulageref04_Unquote_s1, hc2, hx]
      exact ⟨x, n, ⟨rfl, rfl⟩, rfl, rfl⟩
def RqInv (s : List UInt8) (i : Nat) (st : St) : Prop := ∃ (acc : List UInt8) (m : Mem), UInv s i acc ∧ Live Fn.f_haulageref04_Unquote_k0 (Fn.f_haulageref04_Unquote_s0 (.p (.str s)) (.p (.str acc)) (.p (.int .i64 i))) m st
theorem RqInv.mk {s : List UInt8} {i : Nat} {st : St} (acc : List UInt8) (m : Mem) (h1 : UInv s i acc) (h3 : Live Fn.f_haulageref04_Unquote_k0 (Fn.f_haulageref04_Unquote_s0 (.p (.str s)) (.p (.str acc)) (.p (.int .i64 i))) m st) : RqInv s i st := ⟨acc, m, h1, h3⟩
theorem ref_Unquote (u : Q05 E) (s : List UInt8) (hs : (s.length : Int) ≤ 1000000000) (k : Nat) (hk : s.length + 260 ≤ k) (m : Mem) : denF E (k + 1) 52 [.p (.str s)] m = some (.ret (unquoteV s), m) := by
  refine denF_wp u.runquote rfl (args' := [.p (.str s)]) rfl ?_
  unfold unquoteV
  cases s with
  | nil => simp [Fn.f_haulageref04_Unquote]
  | cons a r =>
  by_cases h34 : ¬ a = 34
  · have g := u8ne h34
    have g34 : ((34 : UInt8).toNat : Int) = 34 := rfl
    rw [g34] at g
    simp [Fn.f_haulageref04_Unquote, g, bne, h34]
  obtain rfl := Classical.not_not.1 h34
  have hh : (34 :: r : List UInt8).head? = some 34 := rfl
  rw [if_pos hh]
  simp [Fn.f_haulageref04_Unquote, bne]
  have hU0 := uinv_0 hh
  generalize hsx : (34 :: r : List UInt8) = s at *
  have htail : r = s.tail := by rw [← hsx]; rfl
  rw [htail]
  refine (loop_wp (α := Nat) (I := fun i st => RqInv s i st) (meas := fun i => s.length - i)
    (Q := fun e st => st.ds = [] ∧ ((e = .exit 0 ∧ st.ts.length = 62 ∧ st.ts.getD 0 (.tup []) = .p (.str s) ∧ (∃ acc i, st.ts.getD 5 (.tup []) = .p (.str acc) ∧ st.ts.getD 6 (.tup []) = .p (.int .i64 ((i : Nat) : Int)) ∧ ((s.length ≤ i ∧ unq s.tail = none) ∨ (i < s.length ∧ unq s.tail = some (acc, i))))) ∨
      (e = .ret ∧ unq s.tail = none ∧ st.ts.getD 2 (.tup []) = .p (.str []) ∧ st.ts.getD 3 (.tup []) = .p (.int .i64 0) ∧ st.ts.getD 4 (.tup []) = .p (.bool false)))) ?_ k 1 _ (RqInv.mk [] [] hU0 ⟨rfl, rfl, rfl, rfl⟩) (by omega)).mono ?_
  · rintro i st ⟨D, m, hU, hlive⟩
    rw [loopF_live hlive]
    have hi0 := hU.2.1
    have hDl := hU.2.2.1
    by_cases hi : i < s.length
    · have hi' : (i : Int) < s.length := by omega
      obtain ⟨c, hc⟩ : ∃ c, s[i]? = some c := ⟨_, List.getElem?_eq_getElem hi⟩
      have hdrop : s.drop i = c :: s.drop (i + 1) := drop_at hc
      have g34 : ((34 : UInt8).toNat : Int) = 34 := rfl
      by_cases c34 : c = 34
      · subst c34
        have hq := uinv_quote hU (by rw [hdrop]; rfl)
        simp [Fn.f_haulageref04_Unquote_b0, Fn.f_haulageref04_Unquote_s0, hi, hi', hc, bne]
        exact ⟨i, rfl, .inr ⟨hi, hq⟩⟩
      have g := u8ne c34
      rw [g34] at g
      have hn34 : ¬ (s.drop i).head? = some 34 := by
        rw [head_at, hc]
        simpa using c34
      simp [Fn.f_haulageref04_Unquote_b0, Fn.f_haulageref04_Unquote_s0, hi, hi', hc, bne, g]
      refine (ref_Unquote_in u s D i hs hi hDl k (by omega) m _ ⟨rfl, rfl, rfl, rfl⟩).mono ?_
      rintro e st ⟨rfl, q1, q2, q3, q4⟩
      obtain ⟨ts, m', ds⟩ := st
      simp only at q1 q2 q3 q4
      subst q1
      rcases q4 with ⟨hnone, q4⟩ | ⟨x, n, hx, q4, q5, q6⟩
      · have := uinv_none hU hn34 hnone
        match ts, q2, q3, q4 with
        | t0 :: t1 :: t2 :: t3 :: t4 :: t5 :: t6 :: t7 :: t8 :: t9 :: t10 :: t11 :: t12 :: t13 :: t14 :: t15 :: t16 :: t17 :: t18 :: t19 :: t20 :: t21 :: t22 :: t23 :: t24 :: t25 :: t26 :: t27 :: t28 :: t29 :: t30 :: t31 :: t32 :: t33 :: t34 :: t35 :: t36 :: t37 :: t38 :: t39 :: t40 :: t41 :: t42 :: t43 :: t44 :: t45 :: t46 :: t47 :: t48 :: t49 :: t50 :: t51 :: t52 :: t53 :: t54 :: t55 :: t56 :: t57 :: t58 :: t59 :: t60 :: t61 :: [], q2, q3, q4 =>
          simp only [getD_zero', getD_succ'] at q3 q4
          subst q3 q4
          simp [this]
      · have hU1 := uinv_step hU hn34 hx
        have hp := step_pos hx
        match ts, q2, q3, q4, q5, q6 with
        | t0 :: t1 :: t2 :: t3 :: t4 :: t5 :: t6 :: t7 :: t8 :: t9 :: t10 :: t11 :: t12 :: t13 :: t14 :: t15 :: t16 :: t17 :: t18 :: t19 :: t20 :: t21 :: t22 :: t23 :: t24 :: t25 :: t26 :: t27 :: t28 :: t29 :: t30 :: t31 :: t32 :: t33 :: t34 :: t35 :: t36 :: t37 :: t38 :: t39 :: t40 :: t41 :: t42 :: t43 :: t44 :: t45 :: t46 :: t47 :: t48 :: t49 :: t50 :: t51 :: t52 :: t53 :: t54 :: t55 :: t56 :: t57 :: t58 :: t59 :: t60 :: t61 :: [], q2, q3, q4, q5, q6 =>
          simp only [getD_zero', getD_succ'] at q3 q4 q5 q6
          subst q3 q4 q5 q6
          simp
          exact ⟨i + n, by omega, RqInv.mk (D ++ [x]) _ hU1 ⟨rfl, rfl, rfl, rfl⟩⟩
    · have hi' : ¬ (i : Int) < s.length := by omega
      have hnil : s.drop i = [] := List.drop_eq_nil_of_le (by omega)
      have := uinv_none hU (by rw [hnil]; simp) (by rw [hnil]; rfl)
      simp [Fn.f_haulageref04_Unquote_b0, Fn.f_haulageref04_Unquote_s0, hi, hi', this]
      exact ⟨i, rfl, by omega⟩
  · rintro e st ⟨h0, h⟩
    obtain ⟨ts, m', ds⟩ := st
    simp only at h0 h
    subst h0
    rcases h with ⟨rfl, hl, q0, D, i, q1, q2, ⟨hi, hx⟩ | ⟨hi, hx⟩⟩ | ⟨rfl, hq, q1, q2, q3⟩
    · rw [hx]
      have hi' : (s.length : Int) ≤ i := by omega
      match ts, hl, q0, q1, q2 with
      | t0 :: t1 :: t2 :: t3 :: t4 :: t5 :: t6 :: t7 :: t8 :: t9 :: t10 :: t11 :: t12 :: t13 :: t14 :: t15 :: t16 :: t17 :: t18 :: t19 :: t20 :: t21 :: t22 :: t23 :: t24 :: t25 :: t26 :: t27 :: t28 :: t29 :: t30 :: t31 :: t32 :: t33 :: t34 :: t35 :: t36 :: t37 :: t38 :: t39 :: t40 :: t41 :: t42 :: t43 :: t44 :: t45 :: t46 :: t47 :: t48 :: t49 :: t50 :: t51 :: t52 :: t53 :: t54 :: t55 :: t56 :: t57 :: t58 :: t59 :: t60 :: t61 :: [], hl, q0, q1, q2 =>
        simp only [getD_zero', getD_succ'] at q0 q1 q2
        subst q0 q1 q2
        simp [hi, hi']
    · rw [hx]
      have hi' : ¬ (s.length : Int) ≤ i := by omega
      have hi2 : ¬ s.length ≤ i := by omega
      have hw : IntKind.i64.wrap ((i : Int) + 1) = i + 1 := wrap_i64 (by omega) (by omega)
      match ts, hl, q0, q1, q2 with
      | t0 :: t1 :: t2 :: t3 :: t4 :: t5 :: t6 :: t7 :: t8 :: t9 :: t10 :: t11 :: t12 :: t13 :: t14 :: t15 :: t16 :: t17 :: t18 :: t19 :: t20 :: t21 :: t22 :: t23 :: t24 :: t25 :: t26 :: t27 :: t28 :: t29 :: t30 :: t31 :: t32 :: t33 :: t34 :: t35 :: t36 :: t37 :: t38 :: t39 :: t40 :: t41 :: t42 :: t43 :: t44 :: t45 :: t46 :: t47 :: t48 :: t49 :: t50 :: t51 :: t52 :: t53 :: t54 :: t55 :: t56 :: t57 :: t58 :: t59 :: t60 :: t61 :: [], hl, q0, q1, q2 =>
        simp only [getD_zero', getD_succ'] at q0 q1 q2
        subst q0 q1 q2
        simp [hi2, hi', hw]
    · simp [hq, q1, q2, q3]
end Hx

namespace Hx
open Go
set_option linter.unusedSimpArgs false
set_option linter.unusedVariables false
set_option maxHeartbeats 4000000
variable {E : Env}
attribute [-simp] List.getD_eq_getElem?_getD getElem?_pos
def hexC (c : UInt8) : List UInt8 := [hexd (c.toNat / 16), hexd (c.toNat % 16)]
def hexes (s : List UInt8) : List UInt8 := s.flatMap hexC
theorem hexes_snoc (s : List UInt8) (c : UInt8) : hexes (s ++ [c]) = hexes s ++ hexC c := by simp [hexes]
theorem hexes_len (s : List UInt8) : (hexes s).length = 2 * s.length := by
  induction s with
  | nil => rfl
  | cons c s ih =>
    have e : hexes (c :: s) = hexC c ++ hexes s := by simp [hexes]
    have : (hexC c).length = 2 := rfl
    rw [e, List.length_append, ih, List.length_cons]
    omega
structure H05 (E : Env) : Prop where
  q : Q05 E
  rhex : E.fn 61 = some Fn.f_haulageref05_hex
  runhex : E.fn 54 = some Fn.f_haulageref05_unhex
theorem ref_hex (u : H05 E) (s : List UInt8) (hs : (s.length : Int) ≤ 1000000000) (k : Nat) (hk : s.length + 4 ≤ k) (m : Mem) : denF E (k + 1) 61 [.p (.str s)] m = some (.ret (.p (.str (hexes s))), m) := by
  refine denF_wp u.rhex rfl (args' := [.p (.str s)]) rfl ?_
  simp [Fn.f_haulageref05_hex]
  refine (loop_wp (α := Nat) (I := fun i st => i ≤ s.length ∧ Live Fn.f_haulageref05_hex_k0 (Fn.f_haulageref05_hex_s0 (.p (.str s)) (.p (.str (hexes (s.take i)))) (.p (.int .i64 i))) [] st) (meas := fun i => s.length - i)
    (Q := fun e st => e = .exit 0 ∧ st.ds = [] ∧ st.ts.length = 35 ∧ st.ts.getD 3 (.tup []) = .p (.str (hexes s))) ?_ k 0 _ ⟨Nat.zero_le _, rfl, rfl, rfl, rfl⟩ (by omega)).mono ?_
  · rintro i st ⟨hi0, hlive⟩
    rw [loopF_live hlive]
    by_cases hi : i < s.length
    · have hi' : (i : Int) < s.length := by omega
      obtain ⟨c, hc⟩ : ∃ c, s[i]? = some c := ⟨_, List.getElem?_eq_getElem hi⟩
      have hw : IntKind.i64.wrap ((i : Int) + 1) = ((i + 1 : Nat) : Int) := by rw [wrap_i64 (by omega) (by omega)]; omega
      have hcl := UInt8.toNat_lt c
      have hqs : hexes (s.take (i + 1)) = hexes (s.take i) ++ hexC c := by rw [take_snoc hc, hexes_snoc]
      have hl := hexes_len (s.take i)
      have ht : (s.take i).length ≤ s.length := by rw [List.length_take]; omega
      have w1 : IntKind.u8.wrap ((c.toNat / 16 : Nat) : Int) = ((c.toNat / 16 : Nat) : Int) := wrap_u8 (by omega) (by omega)
      have w2 : IntKind.u8.wrap (((c.toNat / 16 : Nat) : Int) + 1) = ((c.toNat / 16 + 1 : Nat) : Int) := by rw [wrap_u8 (by omega) (by omega)]; omega
      have w3 : IntKind.u8.wrap (((c.toNat % 16 : Nat) : Int) + 1) = ((c.toNat % 16 + 1 : Nat) : Int) := by rw [wrap_u8 (by omega) (by omega)]; omega
      have x1 := hexS_cut (n := c.toNat / 16) (by omega)
      have x2 := hexS_cut (n := c.toNat % 16) (by omega)
      have d1 := tdiv16 c.toNat
      have d2 := tmod16 c.toNat
      have l1 : c.toNat / 16 + 1 ≤ 16 := by omega
      have l2 : c.toNat % 16 + 1 ≤ 16 := by omega
      unfold hexC at hqs
      generalize hq1 : c.toNat / 16 = q1 at *
      generalize hq2 : c.toNat % 16 = q2 at *
      generalize hX : hexes (s.take i) = X at *
      have m1 : X.length + 1 ≤ strLim := by unfold strLim; omega
      have m2 : X.length + 1 + 1 ≤ strLim := by unfold strLim; omega
      simp [Fn.f_haulageref05_hex_b0, Fn.f_haulageref05_hex_s0, hi, hi', hc, hw, d1, d2, w1, w2, w3, l1, l2, x1, x2, m1, m2, -Int.natCast_add, -List.take_succ_cons]
      exact ⟨i + 1, by omega, hi, rfl, by simp [keep, Fn.f_haulageref05_hex_k0, Fn.f_haulageref05_hex_s0, hqs], rfl, rfl⟩
    · have hi' : ¬ (i : Int) < s.length := by omega
      have e : s.take i = s := List.take_of_length_le (by omega)
      simp [Fn.f_haulageref05_hex_b0, Fn.f_haulageref05_hex_s0, hi, hi', e]
  · rintro e st ⟨rfl, h1, h2, h3⟩
    obtain ⟨ts, m', ds⟩ := st
    simp only at h1 h2 h3
    subst h1
    match ts, h2, h3 with
    | t0 :: t1 :: t2 :: t3 :: t4 :: t5 :: t6 :: t7 :: t8 :: t9 :: t10 :: t11 :: t12 :: t13 :: t14 :: t15 :: t16 :: t17 :: t18 :: t19 :: t20 :: t21 :: t22 :: t23 :: t24 :: t25 :: t26 :: t27 :: t28 :: t29 :: t30 :: t31 :: t32 :: t33 :: t34 :: [], h2, h3 =>
      simp only [getD_zero', getD_succ'] at h3
      subst h3
      simp
/-! ### read -/
def stepH : List UInt8 → Option UInt8
  | h :: l :: _ => match hexv h, hexv l with
    | some x, some y => some (UInt8.ofNat (16 * x + y))
    | _, _ => none
  | _ => none
theorem stepH_cons (h l : UInt8) (r : List UInt8) : stepH (h :: l :: r) = match hexv h, hexv l with
    | some x, some y => some (UInt8.ofNat (16 * x + y))
    | _, _ => none := rfl
theorem stepH_some {s : List UInt8} {c : UInt8} (h : stepH s = some c) : s.take 2 = hexC c ∧ 2 ≤ s.length := by
  match s with
  | [] => cases h
  | [_] => cases h
  | a :: b :: r =>
    rw [stepH_cons] at h
    cases hx : hexv a with
    | none => rw [hx] at h; cases h
    | some x =>
      cases hy : hexv b with
      | none => rw [hx, hy] at h; cases h
      | some y =>
        rw [hx, hy] at h
        obtain rfl := Option.some.inj h
        obtain ⟨i1, i2⟩ := hexd_hexv a x hx
        obtain ⟨j1, j2⟩ := hexd_hexv b y hy
        subst i2 j2
        have ht : (UInt8.ofNat (16 * x + y)).toNat = 16 * x + y := by rw [UInt8.toNat_ofNat']; omega
        unfold hexC
        rw [ht]
        have e1 : (16 * x + y) / 16 = x := by omega
        have e2 : (16 * x + y) % 16 = y := by omega
        rw [e1, e2]
        exact ⟨rfl, by simp⟩
theorem stepH_hex (c : UInt8) (t : List UInt8) : stepH (hexC c ++ t) = some c := by
  have hc := UInt8.toNat_lt c
  have e : 16 * (c.toNat / 16) + c.toNat % 16 = c.toNat := by omega
  unfold hexC stepH
  simp only [List.cons_append, List.nil_append, hexv_d (show c.toNat / 16 < 16 by omega), hexv_d (show c.toNat % 16 < 16 by omega), e, UInt8.ofNat_toNat]
/-- The bytes of digits up to a quote, how many digits; false: none. -/
def unhX : Nat → List UInt8 → Nat → List UInt8 → List UInt8 × Nat × Bool
  | 0, _, _, _ => ([], 0, false)
  | k + 1, acc, n, s => if s = [] then (acc, n, false) else if s.head? = some 34 then (acc, n, true) else match stepH s with
    | none => ([], 0, false)
    | some c => unhX k (acc ++ [c]) (n + 2) (s.drop 2)
theorem unhX_more : ∀ (k j : Nat) (acc : List UInt8) (n : Nat) (s : List UInt8), s.length < k → s.length < j → unhX k acc n s = unhX j acc n s
  | 0, _, _, _, _, h, _ => absurd h (Nat.not_lt_zero _)
  | _, 0, _, _, _, _, h => absurd h (Nat.not_lt_zero _)
  | k + 1, j + 1, acc, n, s, h1, h2 => by
    unfold unhX
    cases hs : stepH s with
    | none => rfl
    | some c =>
      obtain ⟨_, h3⟩ := stepH_some hs
      simp only
      rw [unhX_more k j (acc ++ [c]) (n + 2) (s.drop 2) (by rw [List.length_drop]; omega) (by rw [List.length_drop]; omega)]
def unh (acc : List UInt8) (n : Nat) (s : List UInt8) : List UInt8 × Nat × Bool := unhX (s.length + 1) acc n s
theorem unh_nil {acc : List UInt8} {n : Nat} : unh acc n [] = (acc, n, false) := rfl
theorem unh_quote {acc : List UInt8} {n : Nat} {s : List UInt8} (h : s.head? = some 34) : unh acc n s = (acc, n, true) := by
  unfold unh unhX
  rw [if_neg (by intro e; subst e; cases h), if_pos h]
theorem unh_none {acc : List UInt8} {n : Nat} {s : List UInt8} (h0 : s ≠ []) (h : ¬ s.head? = some 34) (hs : stepH s = none) : unh acc n s = ([], 0, false) := by
  unfold unh unhX
  rw [if_neg h0, if_neg h, hs]
theorem unh_step {acc : List UInt8} {n : Nat} {s : List UInt8} {c : UInt8} (h : ¬ s.head? = some 34) (hs : stepH s = some c) : unh acc n s = unh (acc ++ [c]) (n + 2) (s.drop 2) := by
  obtain ⟨_, h3⟩ := stepH_some hs
  have e : unhX s.length (acc ++ [c]) (n + 2) (s.drop 2) = unh (acc ++ [c]) (n + 2) (s.drop 2) := unhX_more _ _ _ _ _ (by rw [List.length_drop]; omega) (by omega)
  rw [← e]
  unfold unh
  rw [unhX, if_neg (by intro e; subst e; cases hs), if_neg h, hs]
theorem hexd_ne34 : ∀ x : Fin 16, hexd x.val ≠ 34 := by decide +kernel
theorem hexC_head (c : UInt8) (t : List UInt8) : ¬ (hexC c ++ t).head? = some 34 := by
  unfold hexC
  have := hexd_ne34 ⟨c.toNat / 16, by have := UInt8.toNat_lt c; omega⟩
  simpa using this
theorem unh_hexes (t : List UInt8) : ∀ (s acc : List UInt8) (n : Nat), unh acc n (hexes s ++ 34 :: t) = (acc ++ s, n + 2 * s.length, true)
  | [], acc, n => by rw [unh_quote rfl]; simp
  | c :: s, acc, n => by
    have e : hexes (c :: s) = hexC c ++ hexes s := by simp [hexes]
    rw [e, List.append_assoc, unh_step (hexC_head c _) (stepH_hex c _)]
    have : (hexC c ++ (hexes s ++ 34 :: t)).drop 2 = hexes s ++ 34 :: t := List.drop_left (l₁ := hexC c)
    rw [this, unh_hexes t s]
    simp only [List.append_assoc, List.singleton_append, List.length_cons, Prod.mk.injEq, true_and, and_true]
    omega
theorem unh_some : ∀ (k : Nat) (s acc t : List UInt8) (n z : Nat), s.length ≤ k → unh acc n s = (t, z, true) → ∃ r, t = acc ++ r ∧ z = n + 2 * r.length ∧ s.take (2 * r.length + 1) = hexes r ++ [34] ∧ 2 * r.length + 1 ≤ s.length
  | k, s, acc, t, n, z, hk, h => by
    by_cases h0 : s = []
    · subst h0
      rw [unh_nil] at h
      simp at h
    by_cases h1 : s.head? = some 34
    · rw [unh_quote h1] at h
      simp only [Prod.mk.injEq, and_true] at h
      obtain ⟨rfl, rfl⟩ := h
      refine ⟨[], by simp, by simp, ?_, ?_⟩
      · cases s with
        | nil => exact absurd rfl h0
        | cons a r => simp at h1; subst h1; simp [hexes]
      · cases s with
        | nil => exact absurd rfl h0
        | cons a r => simp
    cases hs : stepH s with
    | none =>
      rw [unh_none h0 h1 hs] at h
      simp at h
    | some c =>
      rw [unh_step h1 hs] at h
      obtain ⟨g1, g2⟩ := stepH_some hs
      cases k with
      | zero => exact absurd (List.length_eq_zero_iff.1 (by omega)) h0
      | succ k =>
        obtain ⟨r, r1, r2, r3, r4⟩ := unh_some k (s.drop 2) (acc ++ [c]) t (n + 2) z (by rw [List.length_drop]; omega) h
        rw [List.length_drop] at r4
        refine ⟨c :: r, by rw [r1]; simp, by rw [r2, List.length_cons]; omega, ?_, by rw [List.length_cons]; omega⟩
        have e : hexes (c :: r) = hexC c ++ hexes r := by simp [hexes]
        have e2 : 2 * (c :: r).length + 1 = 2 + (2 * r.length + 1) := by rw [List.length_cons]; omega
        rw [e, e2, List.take_add, g1, r3, List.append_assoc]
end Hx

namespace Hx
open Go
set_option linter.unusedSimpArgs false
set_option linter.unusedVariables false
set_option maxHeartbeats 8000000
set_option maxRecDepth 20000
variable {E : Env}
attribute [-simp] List.getD_eq_getElem?_getD getElem?_pos
structure P05 (E : Env) : Prop where
  w : W05 E
  h : H05 E
  m : M05 E
  vdig : E.fn 39 = some Fn.f_value_Digits
  rdig : E.fn 40 = some Fn.f_haulageref05_Digits
  n : N04 E
  bytes : E.fn 49 = some Fn.f_value_bytes
  number : E.fn 46 = some Fn.f_value_number
  text : E.fn 47 = some Fn.f_value_text
  read : E.fn 26 = some Fn.f_value_Read
  rread : E.fn 27 = some Fn.f_haulageref05_Read
  parse : E.fn 28 = some Fn.f_value_Parse
  rparse : E.fn 29 = some Fn.f_haulageref05_Parse
  print : E.fn 43 = some Fn.f_value_Print
  rprint : E.fn 44 = some Fn.f_haulageref05_Print
  long : E.fn 53 = some Fn.f_haulageref05_long
/-- A value, how many bytes, and an error's number. -/
def rT5 (k n : Int) (s : List UInt8) (z e : Int) : AV := .tup [.p (.agg [.int .i64 k, .int .i64 n, .str s]), .p (.int .i64 z), .p (.int .i64 e)]
abbrev Rd := Int × Int × List UInt8 × Int × Int
def rdV (r : Rd) : AV := rT5 r.1 r.2.1 r.2.2.1 r.2.2.2.1 r.2.2.2.2
def badR (e : Int) : Rd := (0, 0, [], 0, e)
def cleanR (r : Rd) : Rd := if r.2.2.2.2 = 0 then r else badR r.2.2.2.2
/-- What a number's, a text's and bytes' readers tell. -/
def numN (s : List UInt8) : Rd := match numS s with
  | .tup [.p (.int _ n), .p (.int _ z), .p (.int _ e)] => if e ≠ 0 then badR e else if s[z.toNat]? = some 108 then (2, n, [], z + 1, 0) else if fits32 n then (1, n, [], z, 0) else (0, 0, [], z, 10)
  | _ => badR 0
theorem numN_of {s : List UInt8} {n e : Int} {z : Nat} (h : numS s = numT n z e) : numN s = if e ≠ 0 then badR e else if s[z]? = some 108 then (2, n, [], (z : Int) + 1, 0) else if fits32 n then (1, n, [], (z : Int), 0) else (0, 0, [], (z : Int), 10) := by
  unfold numN
  rw [h]
  simp only [numT, Int.toNat_natCast]
def textW (t : List UInt8) (z : Int) : Rd := if 120 < t.length then (0, 0, [], z, 3) else if (signs t).isSome then (3, 0, t, z, 0) else (0, 0, [], z, 5)
def textN (s : List UInt8) : Rd := if s.head? = some 34 then (match unq s.tail with
  | none => badR 5
  | some q => textW q.1 ((q.2 : Int) + 1)) else badR 5
def hexW (t : List UInt8) (z : Int) : Rd := if 120 < t.length then (0, 0, [], z, 3) else (4, 0, t, z, 0)
def hexN (s : List UInt8) : Rd := if (unh [] 0 (s.drop 2)).2.2 then hexW (unh [] 0 (s.drop 2)).1 (((unh [] 0 (s.drop 2)).2.1 : Int) + 3) else badR 5
theorem head_drop5 (s : List UInt8) (n : Nat) (c : UInt8) : ((s.drop n).head? == some c) = decide (s[n]? = some c) := by
  rw [Bool.eq_iff_iff, List.head?_drop]
  simp
theorem numS_info (s : List UInt8) : ∃ (v e : Int) (z : Nat), numS s = numT v z e ∧ z ≤ s.length ∧ isI64 v := by
  unfold numS
  generalize hb : (s.head? == some 45) = neg
  have hl : ahead neg + (runD neg s).length ≤ s.length := by
    have h1 : ahead neg ≤ s.length := by
      cases neg with
      | false => exact Nat.zero_le _
      | true =>
        cases s with
        | nil => simp at hb
        | cons c r => simp [ahead]
    unfold runD
    have := (List.takeWhile_prefix isDig (l := s.drop (ahead neg))).length_le
    rw [List.length_drop] at this
    omega
  unfold numO
  split
  · exact ⟨0, 5, 0, rfl, Nat.zero_le _, by decide, by decide⟩
  split
  · rename_i h1
    refine ⟨_, 0, _, rfl, hl, ?_⟩
    unfold mostOf at h1
    unfold isI64
    cases neg with
    | true => simp only [if_true] at *; omega
    | false => simp only [Bool.false_eq_true, if_false] at *; omega
  · exact ⟨0, 10, 0, rfl, Nat.zero_le _, by decide, by decide⟩
theorem value_number (u : P05 E) (s : List UInt8) (hs : (s.length : Int) ≤ 1000000000) (k : Nat) (hk : s.length + 40 ≤ k) (m : Mem) : denF E (k + 1) 46 [.p (.str s)] m = some (.ret (rdV (numN s)), m) := by
  refine denF_wp u.number rfl (args' := [.p (.str s)]) rfl ?_
  obtain ⟨j, rfl⟩ : ∃ j, k = j + 3 := ⟨k - 3, by omega⟩
  obtain ⟨n, e, z, hN, hz, hn⟩ := numS_info s
  rw [numN_of hN]
  have hD := fun m => value_Number u.m s (by omega) (j + 2) (by omega) m
  rw [hN] at hD
  have hF := fun m => has_prefix1 u.m (j + 1) (s.drop z) 108 m
  rw [head_drop5] at hF
  have hI := fun h m => value_Int u.w n h j m
  have hL := fun m => value_Long u.w n (j + 2) m
  have w1 : IntKind.i64.wrap ((z : Int) + 1) = z + 1 := wrap_i64 (by omega) (by omega)
  have hI := hI hn
  unfold numT at hD
  by_cases he : e = 0
  · subst he
    rw [if_neg (by simp)]
    by_cases h108 : s[z]? = some 108
    · rw [if_pos h108]
      rw [decide_eq_true h108] at hF
      simp [Fn.f_value_number, hD, hF, hL, hz, w1, rdV, rT5, bounds, asNat, asInt, bne]
    · rw [if_neg h108]
      rw [decide_eq_false h108] at hF
      unfold intE valE at hI
      cases hf : fits32 n with
      | true =>
        rw [hf] at hI
        simp at hI
        simp [Fn.f_value_number, hD, hF, hI, hz, w1, rdV, rT5, bounds, asNat, asInt, bne]
      | false =>
        rw [hf] at hI
        simp at hI
        simp [Fn.f_value_number, hD, hF, hI, hz, w1, rdV, rT5, bounds, asNat, asInt, bne, badR]
  · rw [if_pos he]
    have b : (e == 0) = false := by simpa using he
    simp [Fn.f_value_number, hD, b, rdV, rT5, badR, bne]
theorem value_text (u : P05 E) (s : List UInt8) (hs : (s.length : Int) ≤ 1000000000) (k : Nat) (hk : s.length + 40 ≤ k) (m : Mem) : denF E (k + 1) 47 [.p (.str s)] m = some (.ret (rdV (textN s)), m) := by
  refine denF_wp u.text rfl (args' := [.p (.str s)]) rfl ?_
  obtain ⟨j, rfl⟩ : ∃ j, k = j + 1 := ⟨k - 1, by omega⟩
  have hU := fun m => name_Unquote u.h.q s hs j (by omega) m
  unfold textN
  unfold unquoteV at hU
  by_cases h0 : s.head? = some 34
  · rw [if_pos h0] at hU ⊢
    cases hq : unq s.tail with
    | none =>
      rw [hq] at hU
      simp [Fn.f_value_text, hU, rdV, rT5, badR]
    | some q =>
      obtain ⟨t, z⟩ := q
      rw [hq] at hU
      have hl := unq_len hq
      have htl : t.length ≤ s.length := by
        have : s.tail.length ≤ s.length := by simp
        omega
      have hT := fun m => value_Text u.w t (by omega) j (by omega) m
      unfold textE valE at hT
      unfold textW
      simp only
      by_cases h1 : 120 < t.length
      · rw [if_pos h1] at hT ⊢
        simp [Fn.f_value_text, hU, hT, rdV, rT5]
      · rw [if_neg h1] at hT ⊢
        cases hr : (signs t).isSome with
        | true =>
          rw [hr] at hT
          simp at hT
          simp [Fn.f_value_text, hU, hT, rdV, rT5]
        | false =>
          rw [hr] at hT
          simp at hT
          simp [Fn.f_value_text, hU, hT, rdV, rT5]
  · rw [if_neg h0] at hU ⊢
    simp [Fn.f_value_text, hU, rdV, rT5, badR]
def HbInv (s : List UInt8) (i : Nat) (st : St) : Prop := ∃ (acc : List UInt8) (ov : AV) (m : Mem), 2 ≤ i ∧ (i ≤ s.length ∨ i = 2) ∧ acc.length ≤ i ∧ unh [] 0 (s.drop 2) = unh acc (i - 2) (s.drop i) ∧ Grow 1 (byteRows acc) ov m ∧ m[0]? = some (.cells [.p (.int .i64 0), .p (.int .i64 0), .p (.str [])]) ∧
  Live Fn.f_value_bytes_k0 (Fn.f_value_bytes_s0 (.p (.str s)) (.ptr 0 0) ov (.p (.int .i64 i))) m st
theorem HbInv.mk {s : List UInt8} {i : Nat} {st : St} (acc : List UInt8) (ov : AV) (m : Mem) (h1 : 2 ≤ i) (h2 : i ≤ s.length ∨ i = 2) (h3 : acc.length ≤ i) (h4 : unh [] 0 (s.drop 2) = unh acc (i - 2) (s.drop i)) (h5 : Grow 1 (byteRows acc) ov m) (h6 : m[0]? = some (.cells [.p (.int .i64 0), .p (.int .i64 0), .p (.str [])]))
  (h7 : Live Fn.f_value_bytes_k0 (Fn.f_value_bytes_s0 (.p (.str s)) (.ptr 0 0) ov (.p (.int .i64 i))) m st) : HbInv s i st := ⟨acc, ov, m, h1, h2, h3, h4, h5, h6, h7⟩
theorem or_u8_hex : ∀ x y : Fin 16, bitsI .or .u8 (16 * x.val : Int) (y.val : Int) = some ((16 * x.val + y.val : Nat) : Int) := by decide +kernel
theorem value_bytes (u : P05 E) (s : List UInt8) (hs : (s.length : Int) ≤ 1000000000) (k : Nat) (hk : s.length + 40 ≤ k) (m : Mem) : denF E (k + 1) 49 [.p (.str s)] m = some (.ret (rdV (hexN s)), m) := by
  refine denF_wp u.bytes rfl (args' := [.p (.str s)]) rfl ?_
  obtain ⟨j, rfl⟩ : ∃ j, k = j + 2 := ⟨k - 2, by omega⟩
  unfold hexN
  simp [Fn.f_value_bytes]
  refine (loop_wp (α := Nat) (I := fun i st => HbInv s i st) (meas := fun i => s.length - i)
    (Q := fun e st => st.ds = [] ∧ ((e = .exit 0 ∧ (unh [] 0 (s.drop 2)).2.2 = false ∧ st.ts.length = 61 ∧ st.ts.getD 2 (.tup []) = .ptr 0 0 ∧ (∃ c, st.m[0]? = some (.cells c) ∧ c.length = 3)) ∨ (e = .ret ∧ ∃ r : Rd, (if (unh [] 0 (s.drop 2)).2.2 then hexW (unh [] 0 (s.drop 2)).1 (((unh [] 0 (s.drop 2)).2.1 : Int) + 3) else badR 5) = r ∧ st.ts.getD 2 (.tup []) = .ptr 0 0 ∧ st.m[0]? = some (.cells [.p (.int .i64 r.1), .p (.int .i64 r.2.1), .p (.str r.2.2.1)]) ∧ st.ts.getD 3 (.tup []) = .p (.int .i64 r.2.2.2.1) ∧ st.ts.getD 4 (.tup []) = .p (.int .i64 r.2.2.2.2)))) ?_ (j + 2) 2 _
    (HbInv.mk [] (.p .nils) _ (by omega) (.inr rfl) (by simp) rfl (.inl ⟨rfl, rfl⟩) rfl ⟨rfl, rfl, rfl, rfl⟩) (by omega)).mono ?_
  · rintro i st ⟨D, ov, m, hi2, hi0, hDl, hU, hg, hm0, hlive⟩
    rw [loopF_live hlive]
    by_cases hi : i < s.length
    · have hi' : (i : Int) < s.length := by omega
      obtain ⟨c, hc⟩ : ∃ c, s[i]? = some c := ⟨_, List.getElem?_eq_getElem hi⟩
      have hw : IntKind.i64.wrap ((i : Int) + 1) = i + 1 := wrap_i64 (by omega) (by omega)
      have hw2 : IntKind.i64.wrap ((i : Int) + 2) = ((i + 2 : Nat) : Int) := by rw [wrap_i64] <;> omega
      have hdrop : s.drop i = c :: s.drop (i + 1) := drop_at hc
      have hgo := grow_one hg (by omega) c
      have g34 : ((34 : UInt8).toNat : Int) = 34 := rfl
      by_cases c34 : c = 34
      · subst c34
        have hq := unh_quote (acc := D) (n := i - 2) (s := s.drop i) (by rw [hdrop]; rfl)
        rw [← hU] at hq
        rw [hq]
        have hB := fun m => value_Bytes u.w D (j + 1) m
        unfold bytesE valE at hB
        have hun := unBytes_rows' D
        have ez : (((i - 2 : Nat) : Int) + 3) = (i : Int) + 1 := by omega
        simp only [if_true, ez]
        have ml := get_lt hm0
        have hm1 : ∀ x : Blk, (m ++ [x])[0]? = m[0]? := fun x => by rw [List.getElem?_append_left ml]
        have hm2 : ∀ x : Blk, (m ++ [x])[m.length]? = some x := fun x => get_new
        unfold hexW
        by_cases h120 : 120 < D.length
        · rw [if_pos h120] at hB ⊢
          rcases hgo with ⟨rfl, rfl⟩ | ⟨t, rfl, ht2⟩
          · simp at h120
          · simp [Fn.f_value_bytes_b0, Fn.f_value_bytes_s0, hi, hi', hc, hw, hun, hB, hm0, hm1, hm2]
        · rw [if_neg h120] at hB ⊢
          rcases hgo with ⟨rfl, rfl⟩ | ⟨t, rfl, ht2⟩
          · simp [Fn.f_value_bytes_b0, Fn.f_value_bytes_s0, hi, hi', hc, hw, hB, unBytes, hm0, hm1, hm2]
          · simp [Fn.f_value_bytes_b0, Fn.f_value_bytes_s0, hi, hi', hc, hw, hun, hB, hm0, hm1, hm2]
      have g := u8ne c34
      rw [g34] at g
      have hn34 : ¬ (s.drop i).head? = some 34 := by
        rw [head_at, hc]
        simpa using c34
      have hne : s.drop i ≠ [] := by rw [hdrop]; simp
      by_cases hl1 : i + 1 = s.length
      · have hnil : s.drop (i + 1) = [] := List.drop_eq_nil_of_le (by omega)
        have hst : stepH (s.drop i) = none := by rw [hdrop, hnil]; rfl
        have hq := unh_none (acc := D) (n := i - 2) hne hn34 hst
        rw [← hU] at hq
        have n1 : ((i : Int) + 1 == s.length) = true := by simp; omega
        simp [Fn.f_value_bytes_b0, Fn.f_value_bytes_s0, hi, hi', hc, hw, g, n1, hq]
        exact ⟨_, hm0, rfl⟩
      have n1 : ((i : Int) + 1 == s.length) = false := by simp; omega
      obtain ⟨d, hd⟩ : ∃ d, s[i + 1]? = some d := ⟨_, List.getElem?_eq_getElem (by omega)⟩
      have hdrop2 : s.drop (i + 1) = d :: s.drop (i + 2) := drop_at hd
      have i1 := fun m => index_hex u.h.q j c m
      have i2 := fun m => index_hex u.h.q j d m
      have f1 := u.h.q.idx
      have p1 : Fn.f_strings_IndexByte.pure = true := rfl
      have t1 : ((i : Int) + 1).toNat = i + 1 := by omega
      have q1 : (0 : Int) ≤ (i : Int) + 1 := by omega
      have hst0 : stepH (s.drop i) = match hexv c, hexv d with
          | some x, some y => some (UInt8.ofNat (16 * x + y))
          | _, _ => none := by rw [hdrop, hdrop2]; rfl
      cases hx : hexv c with
      | none =>
        have e : hexi c = -1 := by unfold hexi; rw [hx]
        rw [e] at i1
        have hst : stepH (s.drop i) = none := by rw [hst0, hx]
        have hq := unh_none (acc := D) (n := i - 2) hne hn34 hst
        rw [← hU] at hq
        simp [Fn.f_value_bytes_b0, Fn.f_value_bytes_s0, hi, hi', hc, hw, g, n1, hd, t1, q1, i1, i2, f1, p1, hq]
        exact ⟨_, hm0, rfl⟩
      | some x =>
        have e : hexi c = x := by unfold hexi; rw [hx]
        have hx16 := hexv_lt hx
        rw [e] at i1
        have n0 : ¬ (x : Int) < 0 := by omega
        cases hy : hexv d with
        | none =>
          have e2 : hexi d = -1 := by unfold hexi; rw [hy]
          rw [e2] at i2
          have hst : stepH (s.drop i) = none := by rw [hst0, hx, hy]
          have hq := unh_none (acc := D) (n := i - 2) hne hn34 hst
          rw [← hU] at hq
          simp [Fn.f_value_bytes_b0, Fn.f_value_bytes_s0, hi, hi', hc, hw, g, n1, hd, t1, q1, i1, i2, f1, p1, hq, n0]
          exact ⟨_, hm0, rfl⟩
        | some y =>
          have e2 : hexi d = y := by unfold hexi; rw [hy]
          have hy16 := hexv_lt hy
          rw [e2] at i2
          have n2 : ¬ (y : Int) < 0 := by omega
          have hst : stepH (s.drop i) = some (UInt8.ofNat (16 * x + y)) := by rw [hst0, hx, hy]
          have hq := unh_step (acc := D) (n := i - 2) hn34 hst
          rw [← hU, List.drop_drop] at hq
          have ho := or_u8_hex ⟨x, hx16⟩ ⟨y, hy16⟩
          simp only at ho
          have w8 : IntKind.u8.wrap (x : Int) = x := wrap_u8 (by omega) (by omega)
          have w9 : IntKind.u8.wrap (y : Int) = y := wrap_u8 (by omega) (by omega)
          have w16 : IntKind.u8.wrap ((x : Int) * 16) = 16 * x := by rw [wrap_u8 (by omega) (by omega)]; omega
          have t8 : ((UInt8.ofNat (16 * x + y)).toNat : Int) = ((16 * x + y : Nat) : Int) := by rw [UInt8.toNat_ofNat']; omega
          rw [← t8] at ho
          generalize UInt8.ofNat (16 * x + y) = z at *
          have happ : byteRows (D ++ [z]) = byteRows D ++ [[PV.int .u8 z.toNat]] := by simp [byteRows, byteRow]
          have hbl := byteRows_len' D
          have hb2 : D.length + 1 ≤ room := by unfold room; omega
          have e3 : i - 2 + 2 = i + 2 - 2 := by omega
          rw [e3] at hq
          have ml := get_lt hm0
          rcases hgo with ⟨rfl, rfl⟩ | ⟨t, rfl, ht2⟩
          · simp [Fn.f_value_bytes_b0, Fn.f_value_bytes_s0, hi, hi', hc, hw, hw2, g, n1, hd, t1, q1, i1, i2, f1, p1, n0, n2, w8, w9, w16, ho, room]
            refine ⟨i + 2, by omega, HbInv.mk [z] (.tv 1 (byteRows [z]) (m.length + 1)) _ (by omega) (by omega) (by simp) hq grow_nil1 ?_ ⟨rfl, by simp [keep, Fn.f_value_bytes_k0, Fn.f_value_bytes_s0, byteRows, byteRow, hw2], rfl, rfl⟩⟩
            rw [List.getElem?_append_left ml]; exact hm0
          · have t0 : t ≠ 0 := by
              rintro rfl
              have := ht2 (.dead)
              rw [List.getElem?_append_left ml, hm0] at this
              cases this
            simp [Fn.f_value_bytes_b0, Fn.f_value_bytes_s0, hi, hi', hc, hw, hw2, g, n1, hd, t1, q1, i1, i2, f1, p1, n0, n2, w8, w9, w16, ho, hbl, hb2, ht2]
            refine ⟨i + 2, by omega, HbInv.mk (D ++ [z]) (.tv 1 (byteRows (D ++ [z])) t) _ (by omega) (by omega) (by simp; omega) hq (grow_set1 ht2) ?_ ⟨rfl, by simp [keep, Fn.f_value_bytes_k0, Fn.f_value_bytes_s0, happ, hw2], rfl, rfl⟩⟩
            rw [get_ne t0, List.getElem?_append_left ml]; exact hm0
    · have hi' : ¬ (i : Int) < s.length := by omega
      have hnil : s.drop i = [] := List.drop_eq_nil_of_le (by omega)
      rw [hnil, unh_nil] at hU
      simp [Fn.f_value_bytes_b0, Fn.f_value_bytes_s0, hi, hi', hU]
      exact ⟨_, hm0, rfl⟩
  · rintro e st ⟨h0, h⟩
    obtain ⟨ts, m', ds⟩ := st
    simp only at h0 h
    subst h0
    rcases h with ⟨rfl, hx, hl, q2, c, hc, hc3⟩ | ⟨rfl, r, hr, q2, hm, q3, q4⟩
    · have ml := get_lt hc
      match ts, hl, q2 with
      | t0 :: t1 :: t2 :: t3 :: t4 :: t5 :: t6 :: t7 :: t8 :: t9 :: t10 :: t11 :: t12 :: t13 :: t14 :: t15 :: t16 :: t17 :: t18 :: t19 :: t20 :: t21 :: t22 :: t23 :: t24 :: t25 :: t26 :: t27 :: t28 :: t29 :: t30 :: t31 :: t32 :: t33 :: t34 :: t35 :: t36 :: t37 :: t38 :: t39 :: t40 :: t41 :: t42 :: t43 :: t44 :: t45 :: t46 :: t47 :: t48 :: t49 :: t50 :: t51 :: t52 :: t53 :: t54 :: t55 :: t56 :: t57 :: t58 :: t59 :: t60 :: [], hl, q2 =>
        simp only [getD_zero', getD_succ'] at q2
        subst q2
        simp [hx, hc, hc3, rdV, rT5, badR, ml]
    · rw [hr]
      simp [q2, q3, q4, hm, rdV, rT5]
end Hx

namespace Hx
open Go
set_option linter.unusedSimpArgs false
set_option linter.unusedVariables false
set_option maxHeartbeats 8000000
set_option maxRecDepth 20000
variable {E : Env}
attribute [-simp] List.getD_eq_getElem?_getD getElem?_pos
def hexAt (s : List UInt8) (i : Nat) (c : UInt8) : Bool := decide (i + 2 ≤ s.length) && ((s.take (i + 2)).drop i == hexC c)
theorem hexAt_iff {s : List UInt8} {i : Nat} {c : UInt8} : hexAt s i c = true ↔ stepH (s.drop i) = some c := by
  have e : (s.take (i + 2)).drop i = (s.drop i).take 2 := by rw [List.drop_take]; congr 1; omega
  unfold hexAt
  rw [e]
  simp only [Bool.and_eq_true, decide_eq_true_eq, beq_iff_eq]
  constructor
  · rintro ⟨h1, h2⟩
    have := stepH_hex c ((s.drop i).drop 2)
    rwa [← h2, List.take_append_drop] at this
  · intro h
    obtain ⟨h1, h2⟩ := stepH_some h
    rw [List.length_drop] at h2
    exact ⟨by omega, h1⟩
theorem hexAt_no {s : List UInt8} {i : Nat} (h : ∀ c : Nat, c < 256 → hexAt s i (UInt8.ofNat c) = false) : stepH (s.drop i) = none := by
  cases hs : stepH (s.drop i) with
  | none => rfl
  | some x =>
    have := h x.toNat (UInt8.toNat_lt x)
    rw [UInt8.ofNat_toNat, hexAt_iff.2 hs] at this
    cases this
def RhIn (s acc : List UInt8) (i c : Nat) (st : St) : Prop := ∃ m, c ≤ 256 ∧ ((Live Fn.f_haulageref05_unhex_k1 (Fn.f_haulageref05_unhex_s1 (.p (.str s)) (.p (.str acc)) (.p (.int .i64 i)) (.p (.bool false)) (.p (.int .i64 c))) m st ∧ ∀ x, x < c → hexAt s i (UInt8.ofNat x) = false) ∨
  (∃ x, stepH (s.drop i) = some x ∧ Live Fn.f_haulageref05_unhex_k1 (Fn.f_haulageref05_unhex_s1 (.p (.str s)) (.p (.str (acc ++ [x]))) (.p (.int .i64 ((i + 2 : Nat) : Int))) (.p (.bool true)) (.p (.int .i64 c))) m st))
theorem ref_unhex_in (u : H05 E) (s acc : List UInt8) (i : Nat) (hs : (s.length : Int) ≤ 1000000000) (hi : i < s.length) (ha : acc.length ≤ i) (K : Nat) (hK : 260 ≤ K) (m : Mem) (st : St)
    (hst : Live Fn.f_haulageref05_unhex_k1 (Fn.f_haulageref05_unhex_s1 (.p (.str s)) (.p (.str acc)) (.p (.int .i64 i)) (.p (.bool false)) (.p (.int .i64 0))) m st) :
    Wp (iter (loopF E (denF E K) K Fn.f_haulageref05_unhex_k1 Fn.f_haulageref05_unhex_b1) K st)
      (fun e st => e = .exit 2 ∧ st.ds = [] ∧ st.ts.length = 60 ∧ st.ts.getD 0 (.tup []) = .p (.str s) ∧
        ((stepH (s.drop i) = none ∧ st.ts.getD 7 (.tup []) = .p (.bool false)) ∨
         (∃ x, stepH (s.drop i) = some x ∧ st.ts.getD 7 (.tup []) = .p (.bool true) ∧ st.ts.getD 5 (.tup []) = .p (.str (acc ++ [x])) ∧ st.ts.getD 6 (.tup []) = .p (.int .i64 ((i + 2 : Nat) : Int))))) := by
  obtain ⟨j, rfl⟩ : ∃ j, K = j + 1 := ⟨K - 1, by omega⟩
  refine loop_wp (α := Nat) (I := fun c st => RhIn s acc i c st) (meas := fun c => 257 - c) ?_ (j + 1) 0 st ⟨m, by omega, .inl ⟨hst, by intro x hx; omega⟩⟩ (by omega)
  rintro c st ⟨m, hc, ⟨hlive, hno⟩ | ⟨x, hx, hlive⟩⟩
  · rw [loopF_live hlive]
    by_cases hc2 : c < 256
    · have hc' : (c : Int) < 256 := by omega
      have w1 : IntKind.u8.wrap (c : Int) = c := wrap_u8 (by omega) (by omega)
      have w2 : IntKind.i64.wrap ((c : Int) + 1) = ((c + 1 : Nat) : Int) := by rw [wrap_i64 (by omega) (by omega)]; omega
      have w3 : IntKind.i64.wrap ((i : Int) + 2) = ((i + 2 : Nat) : Int) := by rw [wrap_i64 (by omega) (by omega)]; omega
      have hO := fun m => ref_hex u [UInt8.ofNat c] (by simp) j (by simp; omega) m
      have eh : hexes [UInt8.ofNat c] = hexC (UInt8.ofNat c) := by simp [hexes]
      rw [eh] at hO
      have f1 := u.rhex
      have p1 : Fn.f_haulageref05_hex.pure = true := rfl
      have hle : i ≤ i + 2 := by omega
      by_cases hl : i + 2 ≤ s.length
      · have hl' : ((i + 2 : Nat) : Int) ≤ s.length := by omega
        have hA : hexAt s i (UInt8.ofNat c) = ((s.take (i + 2)).drop i == hexC (UInt8.ofNat c)) := by unfold hexAt; simp [hl]
        cases hq : hexAt s i (UInt8.ofNat c) with
        | false =>
          rw [hq] at hA
          simp [Fn.f_haulageref05_unhex_b1, Fn.f_haulageref05_unhex_s1, hc', w1, w2, w3, hO, hle, hl, hl', f1, p1, ← hA, unBytes, unByte, -Int.natCast_add]
          refine ⟨c + 1, by omega, _, hc2, .inl ⟨⟨rfl, by simp [keep, Fn.f_haulageref05_unhex_k1, Fn.f_haulageref05_unhex_s1], rfl, rfl⟩, ?_⟩⟩
          intro x hx
          by_cases hxc : x = c
          · subst hxc; exact hq
          · exact hno x (by omega)
        | true =>
          rw [hq] at hA
          have hst := hexAt_iff.1 hq
          have hlim : acc.length + 1 ≤ strLim := by unfold strLim; omega
          simp [Fn.f_haulageref05_unhex_b1, Fn.f_haulageref05_unhex_s1, hc', w1, w2, w3, hO, hle, hl, hl', f1, p1, ← hA, unBytes, unByte, hlim, -Int.natCast_add]
          exact ⟨c + 1, by omega, _, hc2, .inr ⟨_, hst, ⟨rfl, by simp [keep, Fn.f_haulageref05_unhex_k1, Fn.f_haulageref05_unhex_s1], rfl, rfl⟩⟩⟩
      · have hl' : ¬ ((i + 2 : Nat) : Int) ≤ s.length := by omega
        have hq : hexAt s i (UInt8.ofNat c) = false := by unfold hexAt; simp [hl]
        simp [Fn.f_haulageref05_unhex_b1, Fn.f_haulageref05_unhex_s1, hc', w1, w2, w3, hl', f1, p1, unBytes, unByte, -Int.natCast_add]
        refine ⟨c + 1, by omega, _, hc2, .inl ⟨⟨rfl, by simp [keep, Fn.f_haulageref05_unhex_k1, Fn.f_haulageref05_unhex_s1], rfl, rfl⟩, ?_⟩⟩
        intro x hx
        by_cases hxc : x = c
        · subst hxc; exact hq
        · exact hno x (by omega)
    · have hc' : ¬ (c : Int) < 256 := by omega
      have hnone := hexAt_no (s := s) (i := i) (fun x hx => hno x (by omega))
      simp [Fn.f_haulageref05_unhex_b1, Fn.f_haulageref05_unhex_s1, hc', hnone]
  · rw [loopF_live hlive]
    by_cases hc2 : (c : Int) < 256
    · simp [Fn.f_haulageref05_unhex_b1, Fn.f_haulageref05_unhex_s1, hc2, hx]
    · simp [Fn.f_haulageref05_unhex_b1, Fn.f_haulageref05_unhex_s1, hc2, hx]
def RhInv (s : List UInt8) (i : Nat) (st : St) : Prop := ∃ (acc : List UInt8) (m : Mem), i ≤ s.length ∧ acc.length ≤ i ∧ unh [] 0 s = unh acc i (s.drop i) ∧ Live Fn.f_haulageref05_unhex_k0 (Fn.f_haulageref05_unhex_s0 (.p (.str s)) (.p (.str acc)) (.p (.int .i64 i))) m st
theorem RhInv.mk {s : List UInt8} {i : Nat} {st : St} (acc : List UInt8) (m : Mem) (h0 : i ≤ s.length) (h1 : acc.length ≤ i) (h2 : unh [] 0 s = unh acc i (s.drop i)) (h3 : Live Fn.f_haulageref05_unhex_k0 (Fn.f_haulageref05_unhex_s0 (.p (.str s)) (.p (.str acc)) (.p (.int .i64 i))) m st) : RhInv s i st := ⟨acc, m, h0, h1, h2, h3⟩
theorem ref_unhex (u : H05 E) (s : List UInt8) (hs : (s.length : Int) ≤ 1000000000) (k : Nat) (hk : s.length + 260 ≤ k) (m : Mem) : denF E (k + 1) 54 [.p (.str s)] m = some (.ret (.tup [.p (.str (unh [] 0 s).1), .p (.int .i64 (unh [] 0 s).2.1), .p (.bool (unh [] 0 s).2.2)]), m) := by
  refine denF_wp u.runhex rfl (args' := [.p (.str s)]) rfl ?_
  simp [Fn.f_haulageref05_unhex]
  refine (loop_wp (α := Nat) (I := fun i st => RhInv s i st) (meas := fun i => s.length - i)
    (Q := fun e st => st.ds = [] ∧ ((e = .exit 0 ∧ st.ts.length = 60 ∧ st.ts.getD 0 (.tup []) = .p (.str s) ∧ (∃ acc i, st.ts.getD 5 (.tup []) = .p (.str acc) ∧ st.ts.getD 6 (.tup []) = .p (.int .i64 ((i : Nat) : Int)) ∧ unh [] 0 s = (acc, i, decide (i < s.length)))) ∨
      (e = .ret ∧ unh [] 0 s = ([], 0, false) ∧ st.ts.getD 2 (.tup []) = .p (.str []) ∧ st.ts.getD 3 (.tup []) = .p (.int .i64 0) ∧ st.ts.getD 4 (.tup []) = .p (.bool false)))) ?_ k 0 _ (RhInv.mk [] [] (by omega) (by simp) rfl ⟨rfl, rfl, rfl, rfl⟩) (by omega)).mono ?_
  · rintro i st ⟨D, m, hi0, hDl, hU, hlive⟩
    rw [loopF_live hlive]
    by_cases hi : i < s.length
    · have hi' : (i : Int) < s.length := by omega
      obtain ⟨c, hc⟩ : ∃ c, s[i]? = some c := ⟨_, List.getElem?_eq_getElem hi⟩
      have hdrop : s.drop i = c :: s.drop (i + 1) := drop_at hc
      have g34 : ((34 : UInt8).toNat : Int) = 34 := rfl
      by_cases c34 : c = 34
      · subst c34
        rw [unh_quote (s := s.drop i) (by rw [hdrop]; rfl)] at hU
        simp [Fn.f_haulageref05_unhex_b0, Fn.f_haulageref05_unhex_s0, hi, hi', hc, bne]
        exact ⟨i, rfl, by rw [hU]; simp [hi]⟩
      have g := u8ne c34
      rw [g34] at g
      have hn34 : ¬ (s.drop i).head? = some 34 := by
        rw [head_at, hc]
        simpa using c34
      have hne : s.drop i ≠ [] := by rw [hdrop]; simp
      simp [Fn.f_haulageref05_unhex_b0, Fn.f_haulageref05_unhex_s0, hi, hi', hc, bne, g]
      refine (ref_unhex_in u s D i hs hi hDl k (by omega) m _ ⟨rfl, rfl, rfl, rfl⟩).mono ?_
      rintro e st ⟨rfl, q1, q2, q3, q4⟩
      obtain ⟨ts, m', ds⟩ := st
      simp only at q1 q2 q3 q4
      subst q1
      rcases q4 with ⟨hnone, q4⟩ | ⟨x, hx, q4, q5, q6⟩
      · rw [unh_none hne hn34 hnone] at hU
        match ts, q2, q3, q4 with
        | t0 :: t1 :: t2 :: t3 :: t4 :: t5 :: t6 :: t7 :: t8 :: t9 :: t10 :: t11 :: t12 :: t13 :: t14 :: t15 :: t16 :: t17 :: t18 :: t19 :: t20 :: t21 :: t22 :: t23 :: t24 :: t25 :: t26 :: t27 :: t28 :: t29 :: t30 :: t31 :: t32 :: t33 :: t34 :: t35 :: t36 :: t37 :: t38 :: t39 :: t40 :: t41 :: t42 :: t43 :: t44 :: t45 :: t46 :: t47 :: t48 :: t49 :: t50 :: t51 :: t52 :: t53 :: t54 :: t55 :: t56 :: t57 :: t58 :: t59 :: [], q2, q3, q4 =>
          simp only [getD_zero', getD_succ'] at q3 q4
          subst q3 q4
          simp [hU]
      · rw [unh_step hn34 hx, List.drop_drop] at hU
        obtain ⟨_, h2⟩ := stepH_some hx
        rw [List.length_drop] at h2
        match ts, q2, q3, q4, q5, q6 with
        | t0 :: t1 :: t2 :: t3 :: t4 :: t5 :: t6 :: t7 :: t8 :: t9 :: t10 :: t11 :: t12 :: t13 :: t14 :: t15 :: t16 :: t17 :: t18 :: t19 :: t20 :: t21 :: t22 :: t23 :: t24 :: t25 :: t26 :: t27 :: t28 :: t29 :: t30 :: t31 :: t32 :: t33 :: t34 :: t35 :: t36 :: t37 :: t38 :: t39 :: t40 :: t41 :: t42 :: t43 :: t44 :: t45 :: t46 :: t47 :: t48 :: t49 :: t50 :: t51 :: t52 :: t53 :: t54 :: t55 :: t56 :: t57 :: t58 :: t59 :: [], q2, q3, q4, q5, q6 =>
          simp only [getD_zero', getD_succ'] at q3 q4 q5 q6
          subst q3 q4 q5 q6
          simp
          exact ⟨i + 2, by omega, RhInv.mk (D ++ [x]) _ (by omega) (by simp; omega) hU ⟨rfl, rfl, rfl, rfl⟩⟩
    · have hi' : ¬ (i : Int) < s.length := by omega
      have hnil : s.drop i = [] := List.drop_eq_nil_of_le (by omega)
      rw [hnil, unh_nil] at hU
      simp [Fn.f_haulageref05_unhex_b0, Fn.f_haulageref05_unhex_s0, hi, hi', hU]
      exact ⟨i, rfl, rfl, by omega⟩
  · rintro e st ⟨h0, h⟩
    obtain ⟨ts, m', ds⟩ := st
    simp only at h0 h
    subst h0
    rcases h with ⟨rfl, hl, q0, D, i, q1, q2, hx⟩ | ⟨rfl, hq, q1, q2, q3⟩
    · rw [hx]
      match ts, hl, q0, q1, q2 with
      | t0 :: t1 :: t2 :: t3 :: t4 :: t5 :: t6 :: t7 :: t8 :: t9 :: t10 :: t11 :: t12 :: t13 :: t14 :: t15 :: t16 :: t17 :: t18 :: t19 :: t20 :: t21 :: t22 :: t23 :: t24 :: t25 :: t26 :: t27 :: t28 :: t29 :: t30 :: t31 :: t32 :: t33 :: t34 :: t35 :: t36 :: t37 :: t38 :: t39 :: t40 :: t41 :: t42 :: t43 :: t44 :: t45 :: t46 :: t47 :: t48 :: t49 :: t50 :: t51 :: t52 :: t53 :: t54 :: t55 :: t56 :: t57 :: t58 :: t59 :: [], hl, q0, q1, q2 =>
        simp only [getD_zero', getD_succ'] at q0 q1 q2
        subst q0 q1 q2
        simp
    · simp [hq, q1, q2, q3]
end Hx

namespace Hx
open Go
set_option linter.unusedSimpArgs false
set_option linter.unusedVariables false
set_option maxHeartbeats 8000000
set_option maxRecDepth 20000
variable {E : Env}
attribute [-simp] List.getD_eq_getElem?_getD getElem?_pos
def wNull : List UInt8 := [110, 117, 108, 108]
def readR (s : List UInt8) : Rd := match s with
  | [] => badR 5
  | c :: _ => if c = 45 ∨ isDig c = true then cleanR (numN s) else if c = 34 then cleanR (textN s) else if starts s [120, 34] = true then cleanR (hexN s)
    else if s.take (nameLen s) = wNull then (0, 0, [], 4, 0) else badR 5
theorem readR_cons (c : UInt8) (r : List UInt8) : readR (c :: r) = if c = 45 ∨ isDig c = true then cleanR (numN (c :: r)) else if c = 34 then cleanR (textN (c :: r)) else if starts (c :: r) [120, 34] = true then cleanR (hexN (c :: r))
    else if (c :: r).take (nameLen (c :: r)) = wNull then (0, 0, [], 4, 0) else badR 5 := rfl
theorem has_prefix2 (u : M05 E) (k : Nat) (s p : List UInt8) (m : Mem) : denF E (k + 2) 48 [.p (.str s), .p (.str p)] m = some (.ret (.p (.bool (starts s p))), m) := by
  have h : ∀ m, denF E (k + 1) 63 [.p (.str s), .p (.str p)] m = some (.ret (.p (.bool (starts s p))), m) := by
    intro m
    refine denF_wp u.has' rfl (args' := [.p (.str s), .p (.str p)]) rfl ?_
    unfold starts
    by_cases h : p.length ≤ s.length
    · have h1 : (p.length : Int) ≤ s.length := by omega
      simp [Fn.f_internal_stringslite_HasPrefix, h, h1, bounds, asNat, asInt]
    · have h1 : ¬ (p.length : Int) ≤ s.length := by omega
      simp [Fn.f_internal_stringslite_HasPrefix, h, h1]
  refine denF_wp u.has rfl (args' := [.p (.str s), .p (.str p)]) rfl ?_
  simp [Fn.f_strings_HasPrefix, h]
theorem value_Read (u : P05 E) (s : List UInt8) (hs : (s.length : Int) ≤ 1000000000) (k : Nat) (hk : s.length + 60 ≤ k) (m : Mem) : denF E (k + 1) 26 [.p (.str s)] m = some (.ret (rdV (readR s)), m) := by
  refine denF_wp u.read rfl (args' := [.p (.str s)]) rfl ?_
  obtain ⟨j, rfl⟩ : ∃ j, k = j + 2 := ⟨k - 2, by omega⟩
  cases s with
  | nil => simp [Fn.f_value_Read, readR, rdV, rT5, badR]
  | cons c r =>
    rw [readR_cons]
    have hdig := fun m => value_digit u.m.digit (j + 1) c m
    have hN := fun m => value_number u (c :: r) hs (j + 1) (by omega) m
    have hT := fun m => value_text u (c :: r) hs (j + 1) (by omega) m
    have hB := fun m => value_bytes u (c :: r) hs (j + 1) (by omega) m
    have hP := fun m => has_prefix2 u.m j (c :: r) [120, 34] m
    have hM := fun m => name_Read u.n (c :: r) (by omega) (j + 1) (by omega) m
    have hnl := nameLen_le (c :: r)
    have g45 : ((45 : UInt8).toNat : Int) = 45 := rfl
    have g34 : ((34 : UInt8).toNat : Int) = 34 := rfl
    rcases hNr : numN (c :: r) with ⟨n1, n2, n3, n4, n5⟩
    rcases hTr : textN (c :: r) with ⟨t1, t2, t3, t4, t5⟩
    rcases hBr : hexN (c :: r) with ⟨b1, b2, b3, b4, b5⟩
    rw [hNr] at hN
    rw [hTr] at hT
    rw [hBr] at hB
    unfold rdV rT5 at *
    simp only at hN hT hB
    unfold cleanR
    simp only
    generalize hS : (c :: r : List UInt8) = s at *
    have hs0 : s[0]? = some c := by rw [← hS]; rfl
    have hse : (s == []) = false := by rw [← hS]; rfl
    by_cases h45 : c = 45
    · subst h45
      rw [if_pos (.inl rfl)]
      by_cases h0 : n5 = 0
      · subst h0
        simp [Fn.f_value_Read, hse, hs0, hN, bne]
      · have : (n5 == 0) = false := by simpa using h0
        simp [Fn.f_value_Read, hse, hs0, hN, bne, this, h0, badR]
    have b45 := u8ne h45
    rw [g45] at b45
    cases hd : isDig c with
    | true =>
      rw [hd] at hdig
      rw [if_pos (.inr rfl)]
      by_cases h0 : n5 = 0
      · subst h0
        simp [Fn.f_value_Read, hse, hs0, hN, bne, b45, hdig]
      · have : (n5 == 0) = false := by simpa using h0
        simp [Fn.f_value_Read, hse, hs0, hN, bne, b45, hdig, this, h0, badR]
    | false =>
      rw [hd] at hdig
      rw [if_neg (by simp [h45])]
      by_cases h34 : c = 34
      · subst h34
        rw [g34] at hdig
        rw [if_pos rfl]
        by_cases h0 : t5 = 0
        · subst h0
          simp [Fn.f_value_Read, hse, hs0, hT, bne, hdig]
        · have : (t5 == 0) = false := by simpa using h0
          simp [Fn.f_value_Read, hse, hs0, hT, bne, hdig, this, h0, badR]
      have b34 := u8ne h34
      rw [g34] at b34
      rw [if_neg h34]
      cases hp : starts s [120, 34] with
      | true =>
        rw [hp] at hP
        rw [if_pos rfl]
        by_cases h0 : b5 = 0
        · subst h0
          simp [Fn.f_value_Read, hse, hs0, hB, hP, bne, b45, b34, hdig]
        · have : (b5 == 0) = false := by simpa using h0
          simp [Fn.f_value_Read, hse, hs0, hB, hP, bne, b45, b34, hdig, this, h0, badR]
      | false =>
        rw [hp] at hP
        rw [if_neg (by simp)]
        by_cases hz : s.take (nameLen s) = wNull
        · rw [if_pos hz]
          unfold wNull at hz
          simp [Fn.f_value_Read, hse, hs0, hP, bne, b45, b34, hdig, hM, hnl, hz, bounds, asNat, asInt]
        · rw [if_neg hz]
          have hz' : (s.take (nameLen s) == [110, 117, 108, 108]) = false := by simpa [wNull] using hz
          simp [Fn.f_value_Read, hse, hs0, hP, bne, b45, b34, hdig, hM, hnl, hz', bounds, asNat, asInt, badR]
end Hx
