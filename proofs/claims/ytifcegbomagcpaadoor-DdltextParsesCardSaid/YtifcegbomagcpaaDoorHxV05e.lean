/-
  HxV05e: the bytes between quotes, one by one, as the program and the document write and read them; the library's growing text.
-/
import Derived.Test.YtifcegbomagcpaaDoorHxSimp
import Derived.Test.YtifcegbomagcpaaDoorHxFn05
import Derived.Test.YtifcegbomagcpaaDoorHxU03k
import Derived.Test.YtifcegbomagcpaaDoorHxU05c
namespace Hx
open Go
set_option linter.unusedSimpArgs false
set_option linter.unusedVariables false
set_option maxHeartbeats 4000000
variable {E : Env}
def hexS : List UInt8 := [48, 49, 50, 51, 52, 53, 54, 55, 56, 57, 97, 98, 99, 100, 101, 102]
def hexd (n : Nat) : UInt8 := hexS.getD n 0
def hexv (c : UInt8) : Option Nat := hexS.findIdx? (· == c)
def plainC (c : UInt8) : Bool := decide ((32 : Int) ≤ c.toNat) && decide ((c.toNat : Int) ≤ 126) && (!((c.toNat : Int) == 34) && !((c.toNat : Int) == 92))
def quoteC (c : UInt8) : List UInt8 :=
  if (c.toNat : Int) = 34 ∨ (c.toNat : Int) = 92 then [92, c] else if (c.toNat : Int) = 10 then [92, 110]
  else if (c.toNat : Int) < 32 ∨ 126 < (c.toNat : Int) then [92, 120, hexd (c.toNat / 16), hexd (c.toNat % 16)] else [c]
def quotes (s : List UInt8) : List UInt8 := s.flatMap quoteC
def esc : List UInt8 → UInt8 × Nat
  | [] => (0, 0)
  | a :: r => if a = 110 then (10, 1) else if a = 34 ∨ a = 92 then (a, 1) else if a = 120 then
      match r with
      | h :: l :: _ => match hexv h, hexv l with
        | some x, some y => if (32 ≤ 16 * x + y ∧ 16 * x + y ≤ 126) ∨ 16 * x + y = 10 then (0, 0) else (UInt8.ofNat (16 * x + y), 3)
        | _, _ => (0, 0)
      | _ => (0, 0)
    else (0, 0)
def stepQ : List UInt8 → Option (UInt8 × Nat)
  | [] => none
  | a :: r => if plainC a then some (a, 1) else if a = 92 then (if (esc r).2 = 0 then none else some ((esc r).1, (esc r).2 + 1)) else none
theorem stepQ_cons (a : UInt8) (r : List UInt8) : stepQ (a :: r) = if plainC a then some (a, 1) else if a = 92 then (if (esc r).2 = 0 then none else some ((esc r).1, (esc r).2 + 1)) else none := rfl
theorem esc_cons (a : UInt8) (r : List UInt8) : esc (a :: r) = if a = 110 then (10, 1) else if a = 34 ∨ a = 92 then (a, 1) else if a = 120 then
      match r with
      | h :: l :: _ => match hexv h, hexv l with
        | some x, some y => if (32 ≤ 16 * x + y ∧ 16 * x + y ≤ 126) ∨ 16 * x + y = 10 then (0, 0) else (UInt8.ofNat (16 * x + y), 3)
        | _, _ => (0, 0)
      | _ => (0, 0)
    else (0, 0) := rfl
def starts (s t : List UInt8) : Bool := decide (t.length ≤ s.length) && (s.take t.length == t)
theorem hexv_hexd : ∀ x : Fin 16, hexv (hexd x.val) = some x.val := by decide +kernel
theorem hexd_hexv : ∀ c : UInt8, ∀ x, hexv c = some x → x < 16 ∧ hexd x = c := by
  intro c x h
  have hx := (List.findIdx?_eq_some_iff_getElem.1 h)
  obtain ⟨h1, h2, _⟩ := hx
  refine ⟨h1, ?_⟩
  unfold hexd
  rw [List.getD_eq_getElem?_getD, List.getElem?_eq_getElem h1]
  simpa using h2
theorem hexv_lt {c : UInt8} {x : Nat} (h : hexv c = some x) : x < 16 := (hexd_hexv c x h).1
theorem hexv_d {n : Nat} (h : n < 16) : hexv (hexd n) = some n := hexv_hexd ⟨n, h⟩
theorem quoteC_ne (c : UInt8) : quoteC c ≠ [] := by
  unfold quoteC
  split
  · simp
  split
  · simp
  split <;> simp
theorem step_quote (c : UInt8) (t : List UInt8) : stepQ (quoteC c ++ t) = some (c, (quoteC c).length) := by
  unfold quoteC
  by_cases h1 : (c.toNat : Int) = 34 ∨ (c.toNat : Int) = 92
  · rw [if_pos h1]
    have hp : plainC 92 = false := by decide
    have : c = 34 ∨ c = 92 := by
      rcases h1 with h | h
      · exact .inl (UInt8.toNat_inj.1 (by simp; omega))
      · exact .inr (UInt8.toNat_inj.1 (by simp; omega))
    have h110 : ¬ c = 110 := by rcases this with rfl | rfl <;> decide
    simp only [List.cons_append, List.nil_append, stepQ, hp, esc, h110, this, if_true, if_false]
    simp
  rw [if_neg h1]
  by_cases h2 : (c.toNat : Int) = 10
  · rw [if_pos h2]
    have : c = 10 := UInt8.toNat_inj.1 (by simp; omega)
    subst this
    rfl
  rw [if_neg h2]
  by_cases h3 : (c.toNat : Int) < 32 ∨ 126 < (c.toNat : Int)
  · rw [if_pos h3]
    have hp : plainC 92 = false := by decide
    have hc := UInt8.toNat_lt c
    have e : 16 * (c.toNat / 16) + c.toNat % 16 = c.toNat := by omega
    have hn : ¬ ((32 ≤ c.toNat ∧ c.toNat ≤ 126) ∨ c.toNat = 10) := by omega
    simp only [List.cons_append, List.nil_append, stepQ, hp, esc, hexv_d (show c.toNat / 16 < 16 by omega), hexv_d (show c.toNat % 16 < 16 by omega), e, if_neg hn, UInt8.ofNat_toNat]
    simp
  · rw [if_neg h3]
    have hp : plainC c = true := by
      unfold plainC
      simp
      omega
    simp only [List.cons_append, List.nil_append, stepQ, hp, if_true]
    simp
theorem step_some {s : List UInt8} {c : UInt8} {n : Nat} (h : stepQ s = some (c, n)) : s.take n = quoteC c ∧ n = (quoteC c).length ∧ n ≤ s.length := by
  cases s with
  | nil => cases h
  | cons a r =>
    rw [stepQ_cons] at h
    cases hp : plainC a with
    | true =>
      rw [if_pos hp] at h
      obtain ⟨rfl, rfl⟩ := by simpa using h
      unfold plainC at hp
      simp at hp
      have : quoteC a = [a] := by
        unfold quoteC
        rw [if_neg (by omega), if_neg (by omega), if_neg (by omega)]
      rw [this]
      simp
    | false =>
      rw [if_neg (by rw [hp]; simp)] at h
      by_cases h92 : a = 92
      · rw [if_pos h92] at h
        subst h92
        split at h
        · cases h
        rename_i hz
        have e1 : (esc r).1 = c := by have := congrArg (fun o => o.map Prod.fst) h; simpa using this
        have e2 : (esc r).2 + 1 = n := by have := congrArg (fun o => o.map Prod.snd) h; simpa using this
        cases r with
        | nil => exact absurd rfl hz
        | cons b r =>
          rw [esc_cons] at e1 e2 hz
          by_cases hb : b = 110
          · subst hb
            simp only [if_true] at e1 e2
            subst e1 e2
            have : quoteC 10 = [92, 110] := by decide
            rw [this]
            simp
          rw [if_neg hb] at e1 e2 hz
          by_cases hb2 : b = 34 ∨ b = 92
          · rw [if_pos hb2] at e1 e2
            subst e1 e2
            have : quoteC b = [92, b] := by rcases hb2 with rfl | rfl <;> decide
            rw [this]
            simp
          rw [if_neg hb2] at e1 e2 hz
          by_cases hb3 : b = 120
          · rw [if_pos hb3] at e1 e2 hz
            subst hb3
            match r with
            | [] => exact absurd rfl hz
            | [_] => exact absurd rfl hz
            | x :: y :: r =>
              simp only at e1 e2 hz
              cases hx : hexv x with
              | none => rw [hx] at hz; exact absurd rfl hz
              | some i =>
                cases hy : hexv y with
                | none => rw [hx, hy] at hz; exact absurd rfl hz
                | some j =>
                  rw [hx, hy] at e1 e2 hz
                  simp only at e1 e2 hz
                  by_cases hq : (32 ≤ 16 * i + j ∧ 16 * i + j ≤ 126) ∨ 16 * i + j = 10
                  · rw [if_pos hq] at hz
                    exact absurd rfl hz
                  rw [if_neg hq] at e1 e2
                  obtain ⟨i1, i2⟩ := hexd_hexv x i hx
                  obtain ⟨j1, j2⟩ := hexd_hexv y j hy
                  simp only at e1 e2
                  subst e1 e2 i2 j2
                  have ht : (UInt8.ofNat (16 * i + j)).toNat = 16 * i + j := by rw [UInt8.toNat_ofNat']; omega
                  have : quoteC (UInt8.ofNat (16 * i + j)) = [92, 120, hexd i, hexd j] := by
                    unfold quoteC
                    rw [ht]
                    rw [if_neg (by omega), if_neg (by omega), if_pos (by omega)]
                    have e1 : (16 * i + j) / 16 = i := by omega
                    have e2 : (16 * i + j) % 16 = j := by omega
                    rw [e1, e2]
                  rw [this]
                  simp
          · rw [if_neg hb3] at hz
            exact absurd rfl hz
      · rw [if_neg h92] at h
        cases h
theorem step_pos {s : List UInt8} {c : UInt8} {n : Nat} (h : stepQ s = some (c, n)) : 0 < n := by
  obtain ⟨_, h2, _⟩ := step_some h
  rw [h2]
  exact List.length_pos_iff.2 (quoteC_ne c)
theorem starts_quote (s : List UInt8) (c : UInt8) : starts s (quoteC c) = decide (stepQ s = some (c, (quoteC c).length)) := by
  rw [Bool.eq_iff_iff]
  unfold starts
  simp only [Bool.and_eq_true, decide_eq_true_eq, beq_iff_eq]
  constructor
  · rintro ⟨h1, h2⟩
    have := step_quote c (s.drop (quoteC c).length)
    have e : quoteC c ++ s.drop (quoteC c).length = s := by
      have := List.take_append_drop (quoteC c).length s
      rwa [h2] at this
    rwa [e] at this
  · intro h
    obtain ⟨h1, h2, h3⟩ := step_some h
    exact ⟨h3, h1⟩
def unqF : Nat → List UInt8 → Option (List UInt8 × Nat)
  | 0, _ => none
  | k + 1, s => if s.head? = some 34 then some ([], 1) else match stepQ s with
    | none => none
    | some p => match unqF k (s.drop p.2) with
      | none => none
      | some q => some (p.1 :: q.1, q.2 + p.2)
theorem unqF_more : ∀ (k j : Nat) (s : List UInt8), s.length < k → s.length < j → unqF k s = unqF j s
  | 0, _, _, h, _ => absurd h (Nat.not_lt_zero _)
  | _, 0, _, _, h => absurd h (Nat.not_lt_zero _)
  | k + 1, j + 1, s, h1, h2 => by
    unfold unqF
    cases hs : stepQ s with
    | none => rfl
    | some p =>
      obtain ⟨c, n⟩ := p
      have := step_pos hs
      obtain ⟨_, _, h3⟩ := step_some hs
      simp only
      rw [unqF_more k j (s.drop n) (by rw [List.length_drop]; omega) (by rw [List.length_drop]; omega)]
def unq (s : List UInt8) : Option (List UInt8 × Nat) := unqF (s.length + 1) s
theorem unq_quote {s : List UInt8} (h : s.head? = some 34) : unq s = some ([], 1) := by
  unfold unq unqF
  rw [if_pos h]
theorem unq_none {s : List UInt8} (h : ¬ s.head? = some 34) (hs : stepQ s = none) : unq s = none := by
  unfold unq unqF
  rw [if_neg h, hs]
theorem unq_step {s : List UInt8} {c : UInt8} {n : Nat} (h : ¬ s.head? = some 34) (hs : stepQ s = some (c, n)) : unq s = match unq (s.drop n) with | none => none | some q => some (c :: q.1, q.2 + n) := by
  have := step_pos hs
  obtain ⟨_, _, h3⟩ := step_some hs
  have e : unqF s.length (s.drop n) = unq (s.drop n) := unqF_more _ _ _ (by rw [List.length_drop]; omega) (by omega)
  unfold unq at *
  rw [unqF, if_neg h, hs]
  simp only
  rw [e]
theorem unq_some : ∀ (k : Nat) (s t : List UInt8) (n : Nat), s.length ≤ k → unq s = some (t, n) → s.take n = quotes t ++ [34] ∧ n = (quotes t).length + 1 ∧ n ≤ s.length
  | k, s, t, n, hk, h => by
    by_cases h0 : s.head? = some 34
    · rw [unq_quote h0] at h
      obtain ⟨rfl, rfl⟩ := by simpa using h
      cases s with
      | nil => cases h0
      | cons a r =>
        simp at h0
        subst h0
        simp [quotes]
    · cases hs : stepQ s with
      | none => rw [unq_none h0 hs] at h; cases h
      | some p =>
        obtain ⟨c, m⟩ := p
        rw [unq_step h0 hs] at h
        have hp := step_pos hs
        obtain ⟨g1, g2, g3⟩ := step_some hs
        cases hu : unq (s.drop m) with
        | none => rw [hu] at h; cases h
        | some q =>
          obtain ⟨t', n'⟩ := q
          rw [hu] at h
          simp only [Option.some.injEq, Prod.mk.injEq] at h
          obtain ⟨rfl, rfl⟩ := h
          cases k with
          | zero =>
            have : s = [] := List.length_eq_zero_iff.1 (by omega)
            subst this
            cases hs
          | succ k =>
            obtain ⟨a1, a2, a3⟩ := unq_some k (s.drop m) t' n' (by rw [List.length_drop]; omega) hu
            rw [List.length_drop] at a3
            have e : quotes (c :: t') = quoteC c ++ quotes t' := by simp [quotes]
            rw [e]
            refine ⟨?_, ?_, by omega⟩
            · rw [Nat.add_comm, List.take_add, g1, a1, List.append_assoc]
            · rw [List.length_append]
              omega
theorem unq_len {s t : List UInt8} {n : Nat} (h : unq s = some (t, n)) : n ≤ s.length ∧ 0 < n ∧ t.length < n := by
  obtain ⟨h1, h2, h3⟩ := unq_some _ s t n (Nat.le_refl _) h
  refine ⟨h3, by omega, ?_⟩
  have : ∀ t : List UInt8, t.length ≤ (quotes t).length := by
    intro t
    induction t with
    | nil => simp
    | cons c t ih =>
      have e : quotes (c :: t) = quoteC c ++ quotes t := by simp [quotes]
      have := List.length_pos_iff.2 (quoteC_ne c)
      rw [e, List.length_append, List.length_cons]
      omega
  have := this t
  omega
def unquoteV (s : List UInt8) : AV := if s.head? = some 34 then (match unq s.tail with
  | none => .tup [.p (.str []), .p (.int .i64 0), .p (.bool false)]
  | some q => .tup [.p (.str q.1), .p (.int .i64 ((q.2 : Int) + 1)), .p (.bool true)]) else .tup [.p (.str []), .p (.int .i64 0), .p (.bool false)]
def UInv (s : List UInt8) (i : Nat) (acc : List UInt8) : Prop := 1 ≤ i ∧ i ≤ s.length ∧ acc.length ≤ i ∧ unq s.tail = match unq (s.drop i) with | none => none | some q => some (acc ++ q.1, q.2 + (i - 1))
theorem uinv_0 {s : List UInt8} (h : s.head? = some 34) : UInv s 1 [] := by
  cases s with
  | nil => cases h
  | cons a r =>
    refine ⟨Nat.le_refl _, by simp, by simp, ?_⟩
    simp only [List.tail_cons, List.drop_succ_cons, List.drop_zero, List.nil_append, Nat.sub_self, Nat.add_zero]
    cases unq r <;> rfl
theorem uinv_quote {s acc : List UInt8} {i : Nat} (h : UInv s i acc) (hi : (s.drop i).head? = some 34) : unq s.tail = some (acc, i) := by
  obtain ⟨h1, h2, h0, h3⟩ := h
  rw [h3, unq_quote hi]
  simp
  omega
theorem uinv_none {s acc : List UInt8} {i : Nat} (h : UInv s i acc) (hi : ¬ (s.drop i).head? = some 34) (hs : stepQ (s.drop i) = none) : unq s.tail = none := by
  obtain ⟨h1, h2, h0, h3⟩ := h
  rw [h3, unq_none hi hs]
theorem uinv_step {s acc : List UInt8} {i n : Nat} {c : UInt8} (h : UInv s i acc) (hi : ¬ (s.drop i).head? = some 34) (hs : stepQ (s.drop i) = some (c, n)) : UInv s (i + n) (acc ++ [c]) := by
  obtain ⟨h1, h2, h0, h3⟩ := h
  have hp := step_pos hs
  obtain ⟨_, _, g3⟩ := step_some hs
  rw [List.length_drop] at g3
  refine ⟨by omega, by omega, by rw [List.length_append]; simp; omega, ?_⟩
  rw [h3, unq_step hi hs, List.drop_drop]
  cases unq (s.drop (i + n)) with
  | none => rfl
  | some q =>
    simp only [Option.some.injEq, Prod.mk.injEq, List.append_assoc, List.singleton_append, true_and]
    omega
end Hx

namespace Hx
open Go
set_option linter.unusedSimpArgs false
set_option linter.unusedVariables false
set_option maxHeartbeats 4000000
variable {E : Env}
attribute [-simp] List.getD_eq_getElem?_getD getElem?_pos
structure Q05 (E : Env) : Prop where
  plain : E.fn 72 = some Fn.f_name_plain
  one : E.fn 68 = some Fn.f_haulageref04_one
  idx : E.fn 64 = some Fn.f_strings_IndexByte
  idx' : E.fn 76 = some Fn.f_internal_stringslite_IndexByte
  escaped : E.fn 75 = some Fn.f_name_escaped
  wbyte : E.fn 71 = some Fn.f_strings_Builder_WriteByte
  wstr : E.fn 73 = some Fn.f_strings_Builder_WriteString
  str : E.fn 74 = some Fn.f_strings_Builder_String
  copy : E.fn 77 = some Fn.f_strings_Builder_copyCheck
  quote : E.fn 214 = some Fn.f_name_Quote
  unquote : E.fn 62 = some Fn.f_name_Unquote
theorem hexS_cut {n : Nat} (h : n < 16) : (([48, 49, 50, 51, 52, 53, 54, 55, 56, 57, 97, 98, 99, 100, 101, 102] : List UInt8).take (n + 1)).drop n = [hexd n] := by
  have : ∀ x : Fin 16, (([48, 49, 50, 51, 52, 53, 54, 55, 56, 57, 97, 98, 99, 100, 101, 102] : List UInt8).take (x.val + 1)).drop x.val = [hexd x.val] := by decide +kernel
  exact this ⟨n, h⟩
theorem tdiv16 (n : Nat) : (n : Int).tdiv 16 = ((n / 16 : Nat) : Int) := by
  rw [Int.tdiv_eq_ediv_of_nonneg (by omega)]; rfl
theorem tmod16 (n : Nat) : (n : Int).tmod 16 = ((n % 16 : Nat) : Int) := by
  rw [Int.tmod_eq_emod_of_nonneg (by omega)]; rfl
theorem u8beq {c d : UInt8} : (c == d) = ((c.toNat : Int) == d.toNat) := by
  rw [Bool.eq_iff_iff]
  simp only [beq_iff_eq]
  exact ⟨fun h => by rw [h], fun h => UInt8.toNat_inj.1 (by omega)⟩
theorem name_plain (u : Q05 E) (k : Nat) (c : UInt8) (m : Mem) : denF E (k + 1) 72 [.p (.int .u8 c.toNat)] m = some (.ret (.p (.bool (plainC c))), m) := by
  refine denF_wp u.plain rfl (args' := [.p (.int .u8 c.toNat)]) rfl ?_
  unfold plainC
  generalize (c.toNat : Int) = x
  by_cases h1 : (32 : Int) ≤ x
  · by_cases h2 : x ≤ 126
    · cases h3 : (x == 34) <;> simp [Fn.f_name_plain, h1, h2, h3, bne]
    · simp [Fn.f_name_plain, h1, h2]
  · simp [Fn.f_name_plain, h1]
theorem ref_one4 (u : Q05 E) (k : Nat) (c : UInt8) (m : Mem) : denF E (k + 1) 68 [.p (.int .u8 c.toNat)] m = some (.ret (.p (.str (quoteC c))), m) := by
  refine denF_wp u.one rfl (args' := [.p (.int .u8 c.toNat)]) rfl ?_
  unfold quoteC
  have hc := UInt8.toNat_lt c
  by_cases h1 : (c.toNat : Int) = 34
  · have : c = 34 := UInt8.toNat_inj.1 (by simp; omega)
    subst this
    simp [Fn.f_haulageref04_one, unBytes, unByte]
  by_cases h2 : (c.toNat : Int) = 92
  · have : c = 92 := UInt8.toNat_inj.1 (by simp; omega)
    subst this
    simp [Fn.f_haulageref04_one, unBytes, unByte]
  have b1 : ((c.toNat : Int) == 34) = false := by simpa using h1
  have b2 : ((c.toNat : Int) == 92) = false := by simpa using h2
  rw [if_neg (by omega)]
  by_cases h3 : (c.toNat : Int) = 10
  · have b3 : ((c.toNat : Int) == 10) = true := by simpa using h3
    rw [if_pos h3]
    simp [Fn.f_haulageref04_one, b1, b2, b3]
  have b3 : ((c.toNat : Int) == 10) = false := by simpa using h3
  rw [if_neg h3]
  have w1 : IntKind.u8.wrap ((c.toNat / 16 : Nat) : Int) = ((c.toNat / 16 : Nat) : Int) := wrap_u8 (by omega) (by omega)
  have w2 : IntKind.u8.wrap (((c.toNat / 16 : Nat) : Int) + 1) = ((c.toNat / 16 + 1 : Nat) : Int) := by rw [wrap_u8 (by omega) (by omega)]; omega
  have w3 : IntKind.u8.wrap (((c.toNat % 16 : Nat) : Int) + 1) = ((c.toNat % 16 + 1 : Nat) : Int) := by rw [wrap_u8 (by omega) (by omega)]; omega
  have x1 := hexS_cut (n := c.toNat / 16) (by omega)
  have x2 := hexS_cut (n := c.toNat % 16) (by omega)
  have d1 := tdiv16 c.toNat
  have d2 := tmod16 c.toNat
  have l1 : c.toNat / 16 + 1 ≤ 16 := by omega
  have l2 : c.toNat % 16 + 1 ≤ 16 := by omega
  generalize hq1 : c.toNat / 16 = q1 at *
  generalize hq2 : c.toNat % 16 = q2 at *
  by_cases h4 : (c.toNat : Int) < 32
  · rw [if_pos (.inl h4)]
    simp [Fn.f_haulageref04_one, b1, b2, b3, h4, d1, d2, w1, w2, w3, l1, l2, x1, x2, strLim, -Int.natCast_add, -List.take_succ_cons]
  · by_cases h5 : 126 < (c.toNat : Int)
    · rw [if_pos (.inr h5)]
      simp [Fn.f_haulageref04_one, b1, b2, b3, h4, h5, d1, d2, w1, w2, w3, l1, l2, x1, x2, strLim, -Int.natCast_add, -List.take_succ_cons]
    · rw [if_neg (by omega)]
      simp [Fn.f_haulageref04_one, b1, b2, b3, h4, h5, unBytes, unByte]
theorem ref_starts (h69 : E.fn 69 = some Fn.f_haulageref04_starts) (k : Nat) (s t : List UInt8) (m : Mem) : denF E (k + 1) 69 [.p (.str s), .p (.str t)] m = some (.ret (.p (.bool (starts s t))), m) := by
  refine denF_wp h69 rfl (args' := [.p (.str s), .p (.str t)]) rfl ?_
  unfold starts
  by_cases h : t.length ≤ s.length
  · have h' : (t.length : Int) ≤ s.length := by omega
    simp [Fn.f_haulageref04_starts, h, h', bounds, asNat, asInt]
  · have h' : ¬ (t.length : Int) ≤ s.length := by omega
    simp [Fn.f_haulageref04_starts, h, h']
theorem index_byte (u : Q05 E) (k : Nat) (s : List UInt8) (c : UInt8) (m : Mem) : denF E (k + 2) 64 [.p (.str s), .p (.int .u8 c.toNat)] m = some (.ret (.p (.int .i64 (idxByte s c))), m) := by
  have h : ∀ m, denF E (k + 1) 76 [.p (.str s), .p (.int .u8 c.toNat)] m = some (.ret (.p (.int .i64 (idxByte s c))), m) := by
    intro m
    refine denF_wp u.idx' rfl (args' := [.p (.str s), .p (.int .u8 c.toNat)]) rfl ?_
    simp [Fn.f_internal_stringslite_IndexByte]
  refine denF_wp u.idx rfl (args' := [.p (.str s), .p (.int .u8 c.toNat)]) rfl ?_
  simp [Fn.f_strings_IndexByte, h]
def hexi (c : UInt8) : Int := match hexv c with | some i => i | none => -1
theorem index_hex (u : Q05 E) (k : Nat) (c : UInt8) (m : Mem) : denF E (k + 2) 64 [.p (.str [48, 49, 50, 51, 52, 53, 54, 55, 56, 57, 97, 98, 99, 100, 101, 102]), .p (.int .u8 c.toNat)] m = some (.ret (.p (.int .i64 (hexi c))), m) := index_byte u k hexS c m
theorem or_i64_hex : ∀ x y : Fin 16, bitsI .or .i64 (16 * x.val : Int) (y.val : Int) = some ((16 * x.val + y.val : Nat) : Int) := by decide +kernel
theorem or_i64_any (x y : Int) : ∃ r, bitsI .or .i64 x y = some r := ⟨_, rfl⟩
theorem name_escaped (u : Q05 E) (k : Nat) (s : List UInt8) (m : Mem) : denF E (k + 3) 75 [.p (.str s)] m = some (.ret (.tup [.p (.int .u8 (esc s).1.toNat), .p (.int .i64 (esc s).2)]), m) := by
  refine denF_wp u.escaped rfl (args' := [.p (.str s)]) rfl ?_
  cases s with
  | nil => simp [Fn.f_name_escaped, esc]
  | cons a r =>
    rw [esc_cons]
    by_cases h1 : a = 110
    · subst h1
      simp [Fn.f_name_escaped]
    rw [if_neg h1]
    have b1 : ((a.toNat : Int) == 110) = false := by
      have : (a == 110) = false := by simpa using h1
      rw [u8beq] at this; exact this
    by_cases h2 : a = 34 ∨ a = 92
    · rw [if_pos h2]
      rcases h2 with rfl | rfl <;> simp [Fn.f_name_escaped]
    rw [if_neg h2]
    have b2 : ((a.toNat : Int) == 34) = false := by
      have : (a == 34) = false := by simp; exact fun e => h2 (.inl e)
      rw [u8beq] at this; exact this
    have b3 : ((a.toNat : Int) == 92) = false := by
      have : (a == 92) = false := by simp; exact fun e => h2 (.inr e)
      rw [u8beq] at this; exact this
    by_cases h3 : a = 120
    · rw [if_pos h3]
      subst h3
      match r with
      | [] => simp [Fn.f_name_escaped]
      | [_] => simp [Fn.f_name_escaped]
      | x :: y :: r =>
        have i1 := fun m => index_hex u k x m
        have i2 := fun m => index_hex u k y m
        have f1 := u.idx
        have p1 : Fn.f_strings_IndexByte.pure = true := rfl
        have hl : ¬ ((r.length : Int) + 1 + 1 + 1 < 3) := by omega
        cases hx : hexv x with
        | none =>
          have e : hexi x = -1 := by unfold hexi; rw [hx]
          rw [e] at i1
          have e16 : IntKind.i64.wrap (-16) = -16 := by decide
          obtain ⟨o, ho⟩ := or_i64_any (-16) (hexi y)
          simp [Fn.f_name_escaped, i1, i2, f1, p1, hl, e16, ho, hx]
        | some i =>
          have e : hexi x = i := by unfold hexi; rw [hx]
          have hi := hexv_lt hx
          rw [e] at i1
          have w16 : IntKind.i64.wrap ((i : Int) * 16) = 16 * i := by rw [wrap_i64 (by omega) (by omega)]; omega
          cases hy : hexv y with
          | none =>
            have e2 : hexi y = -1 := by unfold hexi; rw [hy]
            rw [e2] at i2
            have n0 : ¬ (i : Int) < 0 := by omega
            obtain ⟨o, ho⟩ := or_i64_any (16 * (i : Int)) (-1)
            simp [Fn.f_name_escaped, i1, i2, f1, p1, hl, w16, ho, n0, hx, hy]
          | some j =>
            have e2 : hexi y = j := by unfold hexi; rw [hy]
            have hj := hexv_lt hy
            rw [e2] at i2
            have n0 : ¬ (i : Int) < 0 := by omega
            have n1 : ¬ (j : Int) < 0 := by omega
            have ho := or_i64_hex ⟨i, hi⟩ ⟨j, hj⟩
            simp only at ho
            have w8 : IntKind.u8.wrap ((16 * i + j : Nat) : Int) = ((16 * i + j : Nat) : Int) := wrap_u8 (by omega) (by omega)
            have t8 : (UInt8.ofNat (16 * i + j)).toNat = 16 * i + j := by rw [UInt8.toNat_ofNat']; omega
            obtain ⟨z, hz⟩ : ∃ z, z = 16 * i + j := ⟨_, rfl⟩
            rw [← hz] at ho w8 t8
            simp only [hx, hy]
            simp only [← hz]
            have hZ : z < 256 := by omega
            by_cases g1 : 32 ≤ z ∧ z ≤ 126
            · have g1a : (32 : Int) ≤ z := by omega
              have g1b : (z : Int) ≤ 126 := by omega
              rw [if_pos (.inl g1)]
              simp [Fn.f_name_escaped, i1, i2, f1, p1, hl, w16, ho, n0, n1, w8, g1a, g1b]
            · by_cases g2 : z = 10
              · rw [if_pos (.inr g2)]
                subst g2
                have w10 : IntKind.u8.wrap 10 = 10 := by decide
                simp [Fn.f_name_escaped, i1, i2, f1, p1, hl, w16, ho, n0, n1, w8, w10]
              · have g2b : ((z : Int) == 10) = false := by simp; omega
                rw [if_neg (by omega)]
                by_cases g3 : (32 : Int) ≤ z
                · have g4 : ¬ (z : Int) ≤ 126 := by omega
                  simp [Fn.f_name_escaped, i1, i2, f1, p1, hl, w16, ho, n0, n1, w8, g2b, g3, g4, t8]
                · simp [Fn.f_name_escaped, i1, i2, f1, p1, hl, w16, ho, n0, n1, w8, g2b, g3, t8]
    · rw [if_neg h3]
      have b4 : ((a.toNat : Int) == 120) = false := by
        have : (a == 120) = false := by simpa using h3
        rw [u8beq] at this; exact this
      simp [Fn.f_name_escaped, b1, b2, b3, b4]

def BGrow (acc : List UInt8) (id : Nat) (m : Mem) : Prop := ∃ a b, m[id]? = some (.cells [a, b]) ∧ (a = .p .nilp ∨ a = .ty 0 (.ptr id 0)) ∧
  ((acc = [] ∧ b = .p .nils) ∨ (acc ≠ [] ∧ ∃ t, t ≠ id ∧ b = .ty 1 (.tv 1 (byteRows acc) t) ∧ m[t]? = some (.tok 1 acc.length)))
theorem get_ne {m : Mem} {i j : Nat} {x : Blk} (h : i ≠ j) : (m.set i x)[j]? = m[j]? := by
  rw [List.getElem?_set]
  rw [if_neg h]
theorem get_lt {m : Mem} {t : Nat} {b : Blk} (h : m[t]? = some b) : t < m.length := by
  rcases Nat.lt_or_ge t m.length with h' | h'
  · exact h'
  · rw [List.getElem?_eq_none h'] at h; cases h
end Hx
