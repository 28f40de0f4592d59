/-
  HxW06f: the law TypWidens on the evaluator.
-/
import Derived.Test.YtompbjamfhkgfaaDoorHxU06e
import Derived.Test.YtompbjamfhkgfaaDoorHxConf
namespace Hx
open Go
set_option linter.unusedSimpArgs false
set_option linter.unusedVariables false
set_option maxHeartbeats 8000000
set_option maxRecDepth 4000
variable {E : Env}
attribute [-simp] List.getD_eq_getElem?_getD getElem?_pos
theorem law_TypWidens (u : C06 E) (h : E.fn 219 = some Fn.f_haulagelaw06_TypWidens) (k : Nat) (hlv : ∀ m, denF E (k + 399) 78 [] m = some (.ret (.p (.bool true)), m)) {x0 x1 x2 x3 x4 : List PV}
    (c0 : Confs [.int .i64, .int .i64] x0) (c1 : Confs [.int .i64, .int .i64] x1) (c2 : Confs [.int .i64, .int .i64] x2) (c3 : Confs [.int .i64, .int .i64, .str] x3) (c4 : Confs [.int .i64, .int .i64, .str] x4) (m : Mem) :
    denF E (k + 400) 219 [.p (.agg x0), .p (.agg x1), .p (.agg x2), .p (.agg x3), .p (.agg x4)] m = some (.ret (.p (.bool true)), m) := by
  obtain ⟨a, ma, rfl, _, _⟩ := conf_type c0
  obtain ⟨b, mb, rfl, _, _⟩ := conf_type c1
  obtain ⟨c, mc, rfl, _, _⟩ := conf_type c2
  obtain ⟨kv, n, s, rfl, _, hn, _⟩ := conf_value c3
  obtain ⟨kw, n', s', rfl, _, hn', _⟩ := conf_value c4
  rw [denF_pure h rfl]
  by_cases hs : (300 : Int) < s.length
  · simp (maxSteps := 1000000) [Fn.f_haulagelaw06_TypWidens, hlv, hs]
  by_cases hs' : (300 : Int) < s'.length
  · simp (maxSteps := 1000000) [Fn.f_haulagelaw06_TypWidens, hlv, hs, hs']
  have hW := fun a b c d m => typ_Wide u.u.t (k + 396) a b c d m
  have hF := fun m => typ_Fits u.u a ma kv n s hn (by omega) (k + 398) (by omega) m
  have hF' := fun m => typ_Fits u.u a ma kw n' s' hn' (by omega) (k + 398) (by omega) m
  cases e1 : wideT b mb a ma with
  | false =>
    unfold tP vP at *
    simp (maxSteps := 1000000) [Fn.f_haulagelaw06_TypWidens, hlv, hs, hs', hW, e1]
  | true =>
  cases e2 : fitsT a ma kv n s with
  | false =>
    unfold tP vP at *
    simp (maxSteps := 1000000) [Fn.f_haulagelaw06_TypWidens, hlv, hs, hs', hW, hF, e1, e2]
  | true =>
  cases e3 : fitsT a ma kw n' s' with
  | false =>
    unfold tP vP at *
    simp (maxSteps := 1000000) [Fn.f_haulagelaw06_TypWidens, hlv, hs, hs', hW, hF, hF', e1, e2, e3]
  | true =>
  have hk : ∀ {k n : Int} {s : List UInt8}, fitsT a ma k n s = true → k = a := by
    intro k n s h
    unfold fitsT at h
    simp only [Bool.and_eq_true, decide_eq_true_eq] at h
    exact h.1.2
  have hk2 := hk e2
  have hk3 := hk e3
  subst hk2
  subst hk3
  have hC := fun m => typ_Cast u kw n b mb s hn (by omega) (k + 398) (by omega) m
  have hC' := fun m => typ_Cast u kw n' b mb s' hn' (by omega) (k + 398) (by omega) m
  rw [cast_ok hn e1 e2] at hC
  rw [cast_ok hn' e1 e3] at hC'
  obtain ⟨x1, x2⟩ := cast_fits hn e1 e2
  have hnX : isI64 (castN b n) := by unfold castN; split; exact hn; exact ⟨by omega, by omega⟩
  have hlX : (castT kw n s b).length ≤ 300 := by
    unfold castT castS
    have := digits_64 hn.1 hn.2
    split
    · simp
    split
    · omega
    · omega
  have hFX := fun m => typ_Fits u.u b mb b (castN b n) (castT kw n s b) hnX (by omega) (k + 398) (by omega) m
  obtain ⟨q, hq⟩ : ∃ q, (n == n' && s == s') = q := ⟨_, rfl⟩
  have hq2 := cast_one e1 e2 e3
  rw [hq] at hq2
  have f7 := u.u.tFits
  have p7 : Fn.f_typ_Fits.pure = true := rfl
  have hCX := fun m => typ_Cast u b (castN b n) c mc (castT kw n s b) hnX (by omega) (k + 398) (by omega) m
  have hCc := fun m => typ_Cast u kw n c mc s hn (by omega) (k + 398) (by omega) m
  cases e4 : wideT c mc b mb with
  | false =>
    clear hCX hCc
    unfold castR at hC hC'
    unfold tP vP at *
    generalize castN b n = nX at *
    generalize castT kw n s b = sX at *
    generalize castN b n' = nY at *
    generalize castT kw n' s' b = sY at *
    cases q <;> simp (maxSteps := 1000000) [Fn.f_haulagelaw06_TypWidens, hlv, hs, hs', hW, hF, hF', e1, e2, e3, e4, hC, hC', hFX, x2, f7, p7, eq_vP, hq, hq2, bne]
  | true =>
    obtain ⟨y1, y2⟩ := cast_on (n := n) (s := s) e1 e4
    have e5 := wide_trans e4 e1
    rw [cast_ok hnX e4 x2, y1, y2] at hCX
    rw [cast_ok hn e5 e2] at hCc
    clear y1 y2
    unfold castR at hC hC' hCX hCc
    unfold tP vP at *
    generalize castN b n = nX at *
    generalize castT kw n s b = sX at *
    generalize castN b n' = nY at *
    generalize castT kw n' s' b = sY at *
    generalize castN c n = nZ at *
    generalize castT kw n s c = sZ at *
    cases q <;> simp (maxSteps := 1000000) [Fn.f_haulagelaw06_TypWidens, hlv, hs, hs', hW, hF, hF', e1, e2, e3, e4, hC, hC', hCX, hCc, hFX, x2, f7, p7, eq_vP, hq, hq2, bne]
end Hx
