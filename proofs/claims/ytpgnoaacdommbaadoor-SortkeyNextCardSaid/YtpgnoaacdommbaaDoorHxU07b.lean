/-
  HxU07b: sortkey.Next; the law SortkeyNext.
-/
import Derived.Test.YtpgnoaacdommbaaDoorHxU07a
import Derived.Test.YtpgnoaacdommbaaDoorHxArg
namespace Hx
open Go
set_option linter.unusedSimpArgs false
set_option linter.unusedVariables false
set_option maxHeartbeats 8000000
variable {E : Env}
attribute [-simp] List.getD_eq_getElem?_getD getElem?_pos
theorem set_last (j : Nat) (p : List UInt8) (post : List AV) (c d : UInt8) (h : p.length = j) : ((p ++ [c]).map bcell ++ post).take j ++ bcell d :: ((p ++ [c]).map bcell ++ post).drop (j + 1) = (p ++ [d]).map bcell ++ post := by
  subst h
  rw [List.map_append, List.append_assoc]
  have h1 : (p.map bcell ++ ([c].map bcell ++ post)).take p.length = p.map bcell := by
    have := List.take_left (l₁ := p.map bcell) (l₂ := [c].map bcell ++ post)
    rwa [List.length_map] at this
  have h2 : (p.map bcell ++ ([c].map bcell ++ post)).drop (p.length + 1) = post := by
    rw [← List.append_assoc]
    have := List.drop_left (l₁ := p.map bcell ++ [c].map bcell) (l₂ := post)
    simpa using this
  rw [h1, h2]
  simp
theorem sk_Next (h : E.fn 105 = some Fn.f_sortkey_Next) (s : List UInt8) (hs : (s.length : Int) ≤ 1000000000000) (k : Nat) (hk : s.length + 2 ≤ k) (m : Mem) : denF E (k + 1) 105 [.p (.str s)] m = some (.ret (nextR s), m) := by
  refine denF_wp h rfl (args' := [.p (.str s)]) rfl ?_
  simp [Fn.f_sortkey_Next]
  refine (loop_wp (α := Nat) (I := fun i st => (i ≤ s.length ∧ nextS s = nextS (s.take i)) ∧ Live Fn.f_sortkey_Next_k0 (Fn.f_sortkey_Next_s0 (.own 1 0 0 i)) [.cells (s.map bcell)] st) (meas := fun i => i)
    (Q := fun e st => st.ds = [] ∧ ((e = .exit 0 ∧ nextS s = none ∧ st.ts.length = 30) ∨ (e = .ret ∧ ∃ t, nextS s = some t ∧ st.ts.getD 2 (.tup []) = .p (.str t) ∧ st.ts.getD 3 (.tup []) = .p (.bool true)))) ?_ k s.length _ ⟨⟨Nat.le_refl _, by rw [List.take_length]⟩, rfl, rfl, rfl, rfl⟩ (by omega)).mono ?_
  · rintro i st ⟨⟨hi1, ho⟩, hlive⟩
    rw [loopF_live hlive]
    cases i with
    | zero =>
      have : nextS s = none := by rw [ho, List.take_zero]; rfl
      simp [Fn.f_sortkey_Next_b0, Fn.f_sortkey_Next_s0, this]
    | succ j =>
      obtain ⟨c, hc⟩ : ∃ c, s[j]? = some c := ⟨_, List.getElem?_eq_getElem (by omega)⟩
      rw [take_last hc, nextS_last] at ho
      have hw : IntKind.i64.wrap (j : Int) = j := wrap_i64 (by omega) (by omega)
      have hcell : (s.map bcell)[j]? = some (.p (.int .u8 c.toNat)) := by rw [List.getElem?_map, hc]; rfl
      have hjs : j + 1 ≤ s.length := hi1
      have hjs' : j < s.length := by omega
      have hlen : (s.map bcell).length = s.length := List.length_map _
      by_cases h255 : c = 255
      · rw [if_pos h255] at ho
        have g : ¬ (c.toNat : Int) < 255 := u8_255.1 h255
        generalize hC : s.map bcell = C at *
        simp [Fn.f_sortkey_Next_b0, Fn.f_sortkey_Next_s0, hw, hcell, g]
        exact ⟨j, by omega, ⟨by omega, ho⟩, rfl, rfl, rfl, rfl⟩
      · rw [if_neg h255] at ho
        have h3 : (c.toNat : Int) < 255 := by
          by_cases h4 : (c.toNat : Int) < 255
          · exact h4
          · exact absurd (u8_255.2 h4) h255
        have hw2 : IntKind.u8.wrap ((c.toNat : Int) + 1) = ((c + 1).toNat : Int) := by
          rw [wrap_u8 (by omega) (by omega), UInt8.toNat_add]
          have : (1 : UInt8).toNat = 1 := rfl
          omega
        have hl : (s.take j).length = j := by rw [List.length_take]; omega
        have hsplit : s = (s.take j ++ [c]) ++ s.drop (j + 1) := by rw [← take_last hc, List.take_append_drop]
        have hset := set_last j (s.take j) ((s.drop (j + 1)).map bcell) c (c + 1) hl
        rw [← List.map_append, ← hsplit] at hset
        have hrow := own_pre (m := [Blk.cells ((s.take j ++ [c + 1]).map bcell ++ (s.drop (j + 1)).map bcell)]) (id := 0) (t := s.take j ++ [c + 1]) (post := (s.drop (j + 1)).map bcell) rfl
        have hlen2 : (s.take j ++ [c + 1]).length = j + 1 := by rw [List.length_append, hl]; rfl
        rw [hlen2] at hrow
        have hun := unBytes_rows (s.take j ++ [c + 1])
        have hb1 : j + 1 ≤ (s.map bcell).length := by rw [hlen]; omega
        rw [ho]
        generalize s.take j ++ [c + 1] = T at *
        generalize (List.map bcell T ++ List.map bcell (List.drop (j + 1) s)) = M2 at *
        generalize s.map bcell = C at *
        have hset' : List.take j C ++ AV.p (PV.int IntKind.u8 (((c + 1).toNat : Nat) : Int)) :: List.drop (j + 1) C = M2 := hset
        generalize c + 1 = d at *
        simp [Fn.f_sortkey_Next_b0, Fn.f_sortkey_Next_s0, hw, hcell, h3, hw2, hb1, hset', hrow, hun, own_nil]
  · rintro e st ⟨h0, h⟩
    obtain ⟨ts, m', ds⟩ := st
    simp only at h0 h
    subst h0
    unfold nextR
    rcases h with ⟨rfl, hn, h1⟩ | ⟨rfl, t, hn, h1, h2⟩
    · rw [hn]
      match ts, h1 with
      | t0 :: t1 :: t2 :: t3 :: t4 :: t5 :: t6 :: t7 :: t8 :: t9 :: t10 :: t11 :: t12 :: t13 :: t14 :: t15 :: t16 :: t17 :: t18 :: t19 :: t20 :: t21 :: t22 :: t23 :: t24 :: t25 :: t26 :: t27 :: t28 :: t29 :: [], h1 => simp
    · rw [hn]
      simp [h1, h2]
structure S07 (E : Env) : Prop where
  next : E.fn 105 = some Fn.f_sortkey_Next
  rnext : E.fn 106 = some Fn.f_haulageref07_Next
  norder : E.fn 59 = some Fn.f_haulageref04_Order
theorem law_SortkeyNext (u : S07 E) (h : E.fn 222 = some Fn.f_haulagelaw07_SortkeyNext) (k : Nat) (hlv : ∀ m, denF E (k + 399) 100 [] m = some (.ret (.p (.bool true)), m)) {x0 x1 x2 : PV} (c0 : Conf .str x0) (c1 : Conf .str x1) (c2 : Conf .str x2) (m : Mem) :
    denF E (k + 400) 222 [.p x0, .p x1, .p x2] m = some (.ret (.p (.bool true)), m) := by
  simp only [Conf] at c0 c1 c2
  obtain ⟨s, rfl, _⟩ := c0
  obtain ⟨more, rfl, _⟩ := c1
  obtain ⟨other, rfl, _⟩ := c2
  rw [denF_pure h rfl]
  by_cases h1 : (100 : Int) < s.length
  · simp (maxSteps := 1000000) [Fn.f_haulagelaw07_SortkeyNext, hlv, h1]
  by_cases h2 : (100 : Int) < more.length
  · simp (maxSteps := 1000000) [Fn.f_haulagelaw07_SortkeyNext, hlv, h1, h2]
  by_cases h3 : (100 : Int) < other.length
  · simp (maxSteps := 1000000) [Fn.f_haulagelaw07_SortkeyNext, hlv, h1, h2, h3]
  have hN := fun m => sk_Next u.next s (by omega) (k + 398) (by omega) m
  have hR := fun m => ref_Next u.rnext s (by omega) (k + 398) (by omega) m
  unfold nextR at hN hR
  cases hn : nextS s with
  | none =>
    rw [hn] at hN hR
    simp (maxSteps := 1000000) [Fn.f_haulagelaw07_SortkeyNext, hlv, h1, h2, h3, hN, hR, bne]
  | some t =>
    rw [hn] at hN hR
    have hO1 := fun m => ref_NOrder u.norder (s ++ more) t (by rw [List.length_append]; omega) (k + 398) (by rw [List.length_append]; omega) m
    have hO2 := fun m => ref_NOrder u.norder other t (by omega) (k + 398) (by omega) m
    have hO3 := fun m => ref_NOrder u.norder other s (by omega) (k + 398) (by omega) m
    rw [next_above hn more] at hO1
    have hlim : s.length + more.length ≤ strLim := by unfold strLim; omega
    by_cases g1 : 0 ≤ ordL other t
    · by_cases g2 : s.length ≤ other.length
      · have g2' : (s.length : Int) ≤ other.length := by omega
        simp (maxSteps := 1000000) [Fn.f_haulagelaw07_SortkeyNext, hlv, h1, h2, h3, hN, hR, bne, hO1, hO2, hO3, hlim, g1, g2, g2']
      · have g2' : ¬ (s.length : Int) ≤ other.length := by omega
        simp (maxSteps := 1000000) [Fn.f_haulagelaw07_SortkeyNext, hlv, h1, h2, h3, hN, hR, bne, hO1, hO2, hO3, hlim, g1, g2, g2']
    · have hl := next_least hn other (by omega)
      by_cases g3 : ordL other s < 0
      · by_cases g2 : s.length ≤ other.length
        · have g2' : (s.length : Int) ≤ other.length := by omega
          cases g4 : (other.take s.length == s) <;> simp (maxSteps := 1000000) [Fn.f_haulagelaw07_SortkeyNext, hlv, h1, h2, h3, hN, hR, bne, hO1, hO2, hO3, hlim, g1, g2, g2', g3, g4]
        · have g2' : ¬ (s.length : Int) ≤ other.length := by omega
          simp (maxSteps := 1000000) [Fn.f_haulagelaw07_SortkeyNext, hlv, h1, h2, h3, hN, hR, bne, hO1, hO2, hO3, hlim, g1, g2, g2', g3]
      · have hl := hl (by omega)
        have g2 : s.length ≤ other.length := by
          have := congrArg List.length hl
          rw [List.length_take] at this
          omega
        have g2' : (s.length : Int) ≤ other.length := by omega
        simp (maxSteps := 1000000) [Fn.f_haulagelaw07_SortkeyNext, hlv, h1, h2, h3, hN, hR, bne, hO1, hO2, hO3, hlim, g1, g2, g2', hl]
end Hx
