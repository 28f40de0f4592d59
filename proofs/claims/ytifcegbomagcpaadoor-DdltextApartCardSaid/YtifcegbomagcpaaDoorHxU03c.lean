/-
  HxU03c: 'Put' and 'Read' of chapter 03, the program's and the document's.
-/
import Derived.Test.YtifcegbomagcpaaDoorHxSimp
import Derived.Test.YtifcegbomagcpaaDoorHxFn03
namespace Hx
open Go
set_option linter.unusedSimpArgs false
set_option linter.unusedVariables false
set_option maxHeartbeats 4000000
variable {E : Env}
def hexS : List UInt8 := [48, 49, 50, 51, 52, 53, 54, 55, 56, 57, 97, 98, 99, 100, 101, 102]
def hexd (n : Nat) : UInt8 := hexS.getD n 0
def hexv (c : UInt8) : Option Nat := hexS.findIdx? (· == c)
def plainC (c : UInt8) : Bool := decide ((32 : Int) ≤ c.toNat) && decide ((c.toNat : Int) ≤ 126) && (!((c.toNat : Int) == 34) && !((c.toNat : Int) == 92))
def quoteC (c : UInt8) : List UInt8 :=
  if (c.toNat : Int) = 34 ∨ (c.toNat : Int) = 92 then [92, c] else if (c.toNat : Int) = 10 then [92, 110]
  else if (c.toNat : Int) < 32 ∨ 126 < (c.toNat : Int) then [92, 120, hexd (c.toNat / 16), hexd (c.toNat % 16)] else [c]
def quotes (s : List UInt8) : List UInt8 := s.flatMap quoteC
def esc : List UInt8 → UInt8 × Nat
  | [] => (0, 0)
  | a :: r => if a = 110 then (10, 1) else if a = 34 ∨ a = 92 then (a, 1) else if a = 120 then
      match r with
      | h :: l :: _ => match hexv h, hexv l with
        | some x, some y => if (32 ≤ 16 * x + y ∧ 16 * x + y ≤ 126) ∨ 16 * x + y = 10 then (0, 0) else (UInt8.ofNat (16 * x + y), 3)
        | _, _ => (0, 0)
      | _ => (0, 0)
    else (0, 0)
def stepQ : List UInt8 → Option (UInt8 × Nat)
  | [] => none
  | a :: r => if plainC a then some (a, 1) else if a = 92 then (if (esc r).2 = 0 then none else some ((esc r).1, (esc r).2 + 1)) else none
theorem stepQ_cons (a : UInt8) (r : List UInt8) : stepQ (a :: r) = if plainC a then some (a, 1) else if a = 92 then (if (esc r).2 = 0 then none else some ((esc r).1, (esc r).2 + 1)) else none := rfl
theorem esc_cons (a : UInt8) (r : List UInt8) : esc (a :: r) = if a = 110 then (10, 1) else if a = 34 ∨ a = 92 then (a, 1) else if a = 120 then
      match r with
      | h :: l :: _ => match hexv h, hexv l with
        | some x, some y => if (32 ≤ 16 * x + y ∧ 16 * x + y ≤ 126) ∨ 16 * x + y = 10 then (0, 0) else (UInt8.ofNat (16 * x + y), 3)
        | _, _ => (0, 0)
      | _ => (0, 0)
    else (0, 0) := rfl
def starts (s t : List UInt8) : Bool := decide (t.length ≤ s.length) && (s.take t.length == t)
theorem hexv_hexd : ∀ x : Fin 16, hexv (hexd x.val) = some x.val := by decide +kernel
theorem hexd_hexv : ∀ c : UInt8, ∀ x, hexv c = some x → x < 16 ∧ hexd x = c := by
  intro c x h
  have hx := (List.findIdx?_eq_some_iff_getElem.1 h)
  obtain ⟨h1, h2, _⟩ := hx
  refine ⟨h1, ?_⟩
  unfold hexd
  rw [List.getD_eq_getElem?_getD, List.getElem?_eq_getElem h1]
  simpa using h2
theorem hexv_lt {c : UInt8} {x : Nat} (h : hexv c = some x) : x < 16 := (hexd_hexv c x h).1
theorem hexv_d {n : Nat} (h : n < 16) : hexv (hexd n) = some n := hexv_hexd ⟨n, h⟩
theorem quoteC_ne (c : UInt8) : quoteC c ≠ [] := by
  unfold quoteC
  split
  · simp
  split
  · simp
  split <;> simp
theorem step_quote (c : UInt8) (t : List UInt8) : stepQ (quoteC c ++ t) = some (c, (quoteC c).length) := by
  unfold quoteC
  by_cases h1 : (c.toNat : Int) = 34 ∨ (c.toNat : Int) = 92
  · rw [if_pos h1]
    have hp : plainC 92 = false := by decide
    have : c = 34 ∨ c = 92 := by
      rcases h1 with h | h
      · exact .inl (UInt8.toNat_inj.1 (by simp; omega))
      · exact .inr (UInt8.toNat_inj.1 (by simp; omega))
    have h110 : ¬ c = 110 := by rcases this with rfl | rfl <;> decide
    simp only [List.cons_append, List.nil_append, stepQ, hp, esc, h110, this, if_true, if_false]
    simp
  rw [if_neg h1]
  by_cases h2 : (c.toNat : Int) = 10
  · rw [if_pos h2]
    have : c = 10 := UInt8.toNat_inj.1 (by simp; omega)
    subst this
    rfl
  rw [if_neg h2]
  by_cases h3 : (c.toNat : Int) < 32 ∨ 126 < (c.toNat : Int)
  · rw [if_pos h3]
    have hp : plainC 92 = false := by decide
    have hc := UInt8.toNat_lt c
    have e : 16 * (c.toNat / 16) + c.toNat % 16 = c.toNat := by omega
    have hn : ¬ ((32 ≤ c.toNat ∧ c.toNat ≤ 126) ∨ c.toNat = 10) := by omega
    simp only [List.cons_append, List.nil_append, stepQ, hp, esc, hexv_d (show c.toNat / 16 < 16 by omega), hexv_d (show c.toNat % 16 < 16 by omega), e, if_neg hn, UInt8.ofNat_toNat]
    simp
  · rw [if_neg h3]
    have hp : plainC c = true := by
      unfold plainC
      simp
      omega
    simp only [List.cons_append, List.nil_append, stepQ, hp, if_true]
    simp
theorem step_some {s : List UInt8} {c : UInt8} {n : Nat} (h : stepQ s = some (c, n)) : s.take n = quoteC c ∧ n = (quoteC c).length ∧ n ≤ s.length := by
  cases s with
  | nil => cases h
  | cons a r =>
    rw [stepQ_cons] at h
    cases hp : plainC a with
    | true =>
      rw [if_pos hp] at h
      obtain ⟨rfl, rfl⟩ := by simpa using h
      unfold plainC at hp
      simp at hp
      have : quoteC a = [a] := by
        unfold quoteC
        rw [if_neg (by omega), if_neg (by omega), if_neg (by omega)]
      rw [this]
      simp
    | false =>
      rw [if_neg (by rw [hp]; simp)] at h
      by_cases h92 : a = 92
      · rw [if_pos h92] at h
        subst h92
        split at h
        · cases h
        rename_i hz
        have e1 : (esc r).1 = c := by have := congrArg (fun o => o.map Prod.fst) h; simpa using this
        have e2 : (esc r).2 + 1 = n := by have := congrArg (fun o => o.map Prod.snd) h; simpa using this
        cases r with
        | nil => exact absurd rfl hz
        | cons b r =>
          rw [esc_cons] at e1 e2 hz
          by_cases hb : b = 110
          · subst hb
            simp only [if_true] at e1 e2
            subst e1 e2
            have : quoteC 10 = [92, 110] := by decide
            rw [this]
            simp
          rw [if_neg hb] at e1 e2 hz
          by_cases hb2 : b = 34 ∨ b = 92
          · rw [if_pos hb2] at e1 e2
            subst e1 e2
            have : quoteC b = [92, b] := by rcases hb2 with rfl | rfl <;> decide
            rw [this]
            simp
          rw [if_neg hb2] at e1 e2 hz
          by_cases hb3 : b = 120
          · rw [if_pos hb3] at e1 e2 hz
            subst hb3
            match r with
            | [] => exact absurd rfl hz
            | [_] => exact absurd rfl hz
            | x :: y :: r =>
              simp only at e1 e2 hz
              cases hx : hexv x with
              | none => rw [hx] at hz; exact absurd rfl hz
              | some i =>
                cases hy : hexv y with
                | none => rw [hx, hy] at hz; exact absurd rfl hz
                | some j =>
                  rw [hx, hy] at e1 e2 hz
                  simp only at e1 e2 hz
                  by_cases hq : (32 ≤ 16 * i + j ∧ 16 * i + j ≤ 126) ∨ 16 * i + j = 10
                  · rw [if_pos hq] at hz
                    exact absurd rfl hz
                  rw [if_neg hq] at e1 e2
                  obtain ⟨i1, i2⟩ := hexd_hexv x i hx
                  obtain ⟨j1, j2⟩ := hexd_hexv y j hy
                  simp only at e1 e2
                  subst e1 e2 i2 j2
                  have ht : (UInt8.ofNat (16 * i + j)).toNat = 16 * i + j := by rw [UInt8.toNat_ofNat']; omega
                  have : quoteC (UInt8.ofNat (16 * i + j)) = [92, 120, hexd i, hexd j] := by
                    unfold quoteC
                    rw [ht]
                    rw [if_neg (by omega), if_neg (by omega), if_pos (by omega)]
                    have e1 : (16 * i + j) / 16 = i := by omega
                    have e2 : (16 * i + j) % 16 = j := by omega
                    rw [e1, e2]
                  rw [this]
                  simp
          · rw [if_neg hb3] at hz
            exact absurd rfl hz
      · rw [if_neg h92] at h
        cases h
theorem step_pos {s : List UInt8} {c : UInt8} {n : Nat} (h : stepQ s = some (c, n)) : 0 < n := by
  obtain ⟨_, h2, _⟩ := step_some h
  rw [h2]
  exact List.length_pos_iff.2 (quoteC_ne c)
def unqF : Nat → List UInt8 → Option (List UInt8 × Nat)
  | 0, _ => none
  | k + 1, s => if s.head? = some 34 then some ([], 1) else match stepQ s with
    | none => none
    | some p => match unqF k (s.drop p.2) with
      | none => none
      | some q => some (p.1 :: q.1, q.2 + p.2)
theorem unqF_more : ∀ (k j : Nat) (s : List UInt8), s.length < k → s.length < j → unqF k s = unqF j s
  | 0, _, _, h, _ => absurd h (Nat.not_lt_zero _)
  | _, 0, _, _, h => absurd h (Nat.not_lt_zero _)
  | k + 1, j + 1, s, h1, h2 => by
    unfold unqF
    cases hs : stepQ s with
    | none => rfl
    | some p =>
      obtain ⟨c, n⟩ := p
      have := step_pos hs
      obtain ⟨_, _, h3⟩ := step_some hs
      simp only
      rw [unqF_more k j (s.drop n) (by rw [List.length_drop]; omega) (by rw [List.length_drop]; omega)]
def unq (s : List UInt8) : Option (List UInt8 × Nat) := unqF (s.length + 1) s
theorem unq_quote {s : List UInt8} (h : s.head? = some 34) : unq s = some ([], 1) := by
  unfold unq unqF
  rw [if_pos h]
theorem unq_none {s : List UInt8} (h : ¬ s.head? = some 34) (hs : stepQ s = none) : unq s = none := by
  unfold unq unqF
  rw [if_neg h, hs]
theorem unq_step {s : List UInt8} {c : UInt8} {n : Nat} (h : ¬ s.head? = some 34) (hs : stepQ s = some (c, n)) : unq s = match unq (s.drop n) with | none => none | some q => some (c :: q.1, q.2 + n) := by
  have := step_pos hs
  obtain ⟨_, _, h3⟩ := step_some hs
  have e : unqF s.length (s.drop n) = unq (s.drop n) := unqF_more _ _ _ (by rw [List.length_drop]; omega) (by omega)
  unfold unq at *
  rw [unqF, if_neg h, hs]
  simp only
  rw [e]
theorem quoteC_head (c : UInt8) : ∀ t, (quoteC c ++ t).head? ≠ some 34 := by
  intro t
  unfold quoteC
  split
  · simp
  split
  · simp
  split
  · simp
  · rename_i h1 h2 h3
    simp
    rintro rfl
    exact h1 (.inl rfl)
theorem unq_quotes (t : List UInt8) : ∀ s : List UInt8, unq (quotes s ++ 34 :: t) = some (s, (quotes s).length + 1)
  | [] => unq_quote rfl
  | c :: s => by
    have e : quotes (c :: s) = quoteC c ++ quotes s := by simp [quotes]
    rw [e, List.append_assoc, unq_step (quoteC_head c _) (step_quote c _), List.drop_left, unq_quotes t s]
    simp only [List.length_append, Option.some.injEq, Prod.mk.injEq, true_and]
    omega
theorem unq_some : ∀ (k : Nat) (s t : List UInt8) (n : Nat), s.length ≤ k → unq s = some (t, n) → s.take n = quotes t ++ [34] ∧ n = (quotes t).length + 1 ∧ n ≤ s.length
  | k, s, t, n, hk, h => by
    by_cases h0 : s.head? = some 34
    · rw [unq_quote h0] at h
      obtain ⟨rfl, rfl⟩ := by simpa using h
      cases s with
      | nil => cases h0
      | cons a r =>
        simp at h0
        subst h0
        simp [quotes]
    · cases hs : stepQ s with
      | none => rw [unq_none h0 hs] at h; cases h
      | some p =>
        obtain ⟨c, m⟩ := p
        rw [unq_step h0 hs] at h
        have hp := step_pos hs
        obtain ⟨g1, g2, g3⟩ := step_some hs
        cases hu : unq (s.drop m) with
        | none => rw [hu] at h; cases h
        | some q =>
          obtain ⟨t', n'⟩ := q
          rw [hu] at h
          simp only [Option.some.injEq, Prod.mk.injEq] at h
          obtain ⟨rfl, rfl⟩ := h
          cases k with
          | zero =>
            have : s = [] := List.length_eq_zero_iff.1 (by omega)
            subst this
            cases hs
          | succ k =>
            obtain ⟨a1, a2, a3⟩ := unq_some k (s.drop m) t' n' (by rw [List.length_drop]; omega) hu
            rw [List.length_drop] at a3
            have e : quotes (c :: t') = quoteC c ++ quotes t' := by simp [quotes]
            rw [e]
            refine ⟨?_, ?_, by omega⟩
            · rw [Nat.add_comm, List.take_add, g1, a1, List.append_assoc]
            · rw [List.length_append]
              omega
theorem unq_len {s t : List UInt8} {n : Nat} (h : unq s = some (t, n)) : n ≤ s.length ∧ 0 < n ∧ t.length < n := by
  obtain ⟨h1, h2, h3⟩ := unq_some _ s t n (Nat.le_refl _) h
  refine ⟨h3, by omega, ?_⟩
  have : ∀ t : List UInt8, t.length ≤ (quotes t).length := by
    intro t
    induction t with
    | nil => simp
    | cons c t ih =>
      have e : quotes (c :: t) = quoteC c ++ quotes t := by simp [quotes]
      have := List.length_pos_iff.2 (quoteC_ne c)
      rw [e, List.length_append, List.length_cons]
      omega
  have := this t
  omega
def unquoteV (s : List UInt8) : AV := if s.head? = some 34 then (match unq s.tail with
  | none => .tup [.p (.str []), .p (.int .i64 0), .p (.bool false)]
  | some q => .tup [.p (.str q.1), .p (.int .i64 ((q.2 : Int) + 1)), .p (.bool true)]) else .tup [.p (.str []), .p (.int .i64 0), .p (.bool false)]
def UInv (s : List UInt8) (i : Nat) (acc : List UInt8) : Prop := 1 ≤ i ∧ i ≤ s.length ∧ acc.length ≤ i ∧ unq s.tail = match unq (s.drop i) with | none => none | some q => some (acc ++ q.1, q.2 + (i - 1))
theorem uinv_0 {s : List UInt8} (h : s.head? = some 34) : UInv s 1 [] := by
  cases s with
  | nil => cases h
  | cons a r =>
    refine ⟨Nat.le_refl _, by simp, by simp, ?_⟩
    simp only [List.tail_cons, List.drop_succ_cons, List.drop_zero, List.nil_append, Nat.sub_self, Nat.add_zero]
    cases unq r <;> rfl
theorem uinv_quote {s acc : List UInt8} {i : Nat} (h : UInv s i acc) (hi : (s.drop i).head? = some 34) : unq s.tail = some (acc, i) := by
  obtain ⟨h1, h2, h0, h3⟩ := h
  rw [h3, unq_quote hi]
  simp
  omega
theorem uinv_none {s acc : List UInt8} {i : Nat} (h : UInv s i acc) (hi : ¬ (s.drop i).head? = some 34) (hs : stepQ (s.drop i) = none) : unq s.tail = none := by
  obtain ⟨h1, h2, h0, h3⟩ := h
  rw [h3, unq_none hi hs]
theorem uinv_step {s acc : List UInt8} {i n : Nat} {c : UInt8} (h : UInv s i acc) (hi : ¬ (s.drop i).head? = some 34) (hs : stepQ (s.drop i) = some (c, n)) : UInv s (i + n) (acc ++ [c]) := by
  obtain ⟨h1, h2, h0, h3⟩ := h
  have hp := step_pos hs
  obtain ⟨_, _, g3⟩ := step_some hs
  rw [List.length_drop] at g3
  refine ⟨by omega, by omega, by rw [List.length_append]; simp; omega, ?_⟩
  rw [h3, unq_step hi hs, List.drop_drop]
  cases unq (s.drop (i + n)) with
  | none => rfl
  | some q =>
    simp only [Option.some.injEq, Prod.mk.injEq, List.append_assoc, List.singleton_append, true_and]
    omega
end Hx

namespace Hx
open Go
set_option linter.unusedSimpArgs false
set_option linter.unusedVariables false
variable {E : Env}
def isSign (n : Int) : Bool := decide (0 ≤ n) && decide (n ≤ 1114111) && (decide (n < 55296) || decide (n > 57343))
theorem utf_is (h : E.fn 15 = some Fn.f_utf_is) (k : Nat) (n : Int) (m : Mem) : denF E (k + 1) 15 [.p (.int .i64 n)] m = some (.ret (.p (.bool (isSign n))), m) := by
  rw [denF_pure h rfl]
  by_cases h1 : n ≥ 0 <;> by_cases h2 : n ≤ 1114111 <;> by_cases h3 : n < 55296 <;>
  simp [Fn.f_utf_is, isSign, h1, h2, h3]
def widthOf (n : Int) : Int := if n ≥ 65536 then 4 else if n ≥ 2048 then 3 else if n ≥ 128 then 2 else 1
theorem utf_width (h : E.fn 19 = some Fn.f_utf_width) (hg : E.gl 1 = [.int .i64 0, .int .i64 0, .int .i64 128, .int .i64 2048, .int .i64 65536]) (k : Nat) (n : Int) (m : Mem) :
    denF E (k + 5) 19 [.p (.int .i64 n)] m = some (.ret (.p (.int .i64 (widthOf n))), m) := by
  rw [denF_pure h rfl]
  by_cases h1 : n ≥ 65536
  · simp [Fn.f_utf_width, Fn.f_utf_width_b0, Fn.f_utf_width_k0, loopF, iter, hg, h1, widthOf]
  by_cases h2 : n ≥ 2048
  · simp [Fn.f_utf_width, Fn.f_utf_width_b0, Fn.f_utf_width_k0, loopF, iter, hg, h1, h2, widthOf, wrap_i64]
  by_cases h3 : n ≥ 128
  · simp [Fn.f_utf_width, Fn.f_utf_width_b0, Fn.f_utf_width_k0, loopF, iter, hg, h1, h2, h3, widthOf, wrap_i64]
  · simp [Fn.f_utf_width, Fn.f_utf_width_b0, Fn.f_utf_width_k0, loopF, iter, hg, h1, h2, h3, widthOf, wrap_i64]
def byte (x : Int) : UInt8 := UInt8.ofNat (x % 256).toNat
def utf8 (n : Int) : List UInt8 :=
  if n < 128 then [byte n]
  else if n < 2048 then [byte (192 + n / 64), byte (128 + n % 64)]
  else if n < 65536 then [byte (224 + n / 4096), byte (128 + n / 64 % 64), byte (128 + n % 64)]
  else [byte (240 + n / 262144), byte (128 + n / 4096 % 64), byte (128 + n / 64 % 64), byte (128 + n % 64)]
theorem and_u8_31 {x : Int} (h1 : 0 ≤ x) (h2 : x ≤ 255) : bitsI .and .u8 x 31 = some (x % 32) := u8_all (P := fun x => bitsI .and .u8 x 31 = some (x % 32)) (by decide +kernel) x h1 h2
theorem and_u8_15 {x : Int} (h1 : 0 ≤ x) (h2 : x ≤ 255) : bitsI .and .u8 x 15 = some (x % 16) := u8_all (P := fun x => bitsI .and .u8 x 15 = some (x % 16)) (by decide +kernel) x h1 h2
theorem and_u8_7 {x : Int} (h1 : 0 ≤ x) (h2 : x ≤ 255) : bitsI .and .u8 x 7 = some (x % 8) := u8_all (P := fun x => bitsI .and .u8 x 7 = some (x % 8)) (by decide +kernel) x h1 h2
theorem and_u8_63 {x : Int} (h1 : 0 ≤ x) (h2 : x ≤ 255) : bitsI .and .u8 x 63 = some (x % 64) := u8_all (P := fun x => bitsI .and .u8 x 63 = some (x % 64)) (by decide +kernel) x h1 h2
def leadOf (c : Int) : Int × Int := if c < 128 then (1, c) else if c / 32 = 6 then (2, c % 32) else if c / 16 = 14 then (3, c % 16) else if c / 8 = 30 then (4, c % 8) else (0, 0)
theorem utf_lead (h : E.fn 18 = some Fn.f_utf_lead) (k : Nat) (c : Int) (hc : 0 ≤ c) (hc' : c ≤ 255) (m : Mem) :
    denF E (k + 1) 18 [.p (.int .u8 c)] m = some (.ret (.tup [.p (.int .i64 (leadOf c).1), .p (.int .i64 (leadOf c).2)]), m) := by
  rw [denF_pure h rfl]
  by_cases h1 : c < 128
  · simp [Fn.f_utf_lead, leadOf, h1]
    rw [wrap_i64 (by omega) (by omega)]
  have e1 : c.fdiv 32 = c / 32 := Int.fdiv_eq_ediv_of_nonneg _ (by decide)
  have e2 : c.fdiv 16 = c / 16 := Int.fdiv_eq_ediv_of_nonneg _ (by decide)
  have e3 : c.fdiv 8 = c / 8 := Int.fdiv_eq_ediv_of_nonneg _ (by decide)
  cases h2 : (c / 32 == 6) with
  | true =>
    have := of_decide_eq_true (p := c / 32 = 6) (by simpa using h2)
    simp [Fn.f_utf_lead, leadOf, h1, h2, this, e1, and_u8_31 hc hc']
    rw [wrap_i64 (by omega) (by omega)]
  | false =>
  have n2 : ¬ c / 32 = 6 := by simpa using h2
  cases h3 : (c / 16 == 14) with
  | true =>
    have := of_decide_eq_true (p := c / 16 = 14) (by simpa using h3)
    simp [Fn.f_utf_lead, leadOf, h1, h2, h3, n2, this, e1, e2, and_u8_15 hc hc']
    rw [wrap_i64 (by omega) (by omega)]
  | false =>
  have n3 : ¬ c / 16 = 14 := by simpa using h3
  cases h4 : (c / 8 == 30) with
  | true =>
    have := of_decide_eq_true (p := c / 8 = 30) (by simpa using h4)
    simp [Fn.f_utf_lead, leadOf, h1, h2, h3, h4, n2, n3, this, e1, e2, e3, and_u8_7 hc hc']
    rw [wrap_i64 (by omega) (by omega)]
  | false =>
    have n4 : ¬ c / 8 = 30 := by simpa using h4
    simp [Fn.f_utf_lead, leadOf, h1, h2, h3, h4, n2, n3, n4, e1, e2, e3]
end Hx

namespace Hx
open Go
set_option linter.unusedSimpArgs false
set_option linter.unusedVariables false
variable {E : Env}
theorem fdiv64 (x : Int) : x.fdiv 64 = x / 64 := Int.fdiv_eq_ediv_of_nonneg _ (by decide)
structure V03 (E : Env) : Prop where
  is : E.fn 15 = some Fn.f_utf_is
  width : E.fn 19 = some Fn.f_utf_width
  lead : E.fn 18 = some Fn.f_utf_lead
  read : E.fn 4 = some Fn.f_utf_Read
  rIs : E.fn 2 = some Fn.f_haulageref03_Is
  rPut : E.fn 3 = some Fn.f_haulageref03_Put
  rRead : E.fn 5 = some Fn.f_haulageref03_Read
  rOne : E.fn 17 = some Fn.f_haulageref03_one
  least : E.gl 1 = [.int .i64 0, .int .i64 0, .int .i64 128, .int .i64 2048, .int .i64 65536]
end Hx

namespace Hx
set_option linter.unusedSimpArgs false
open Go
variable {E : Env}
end Hx
