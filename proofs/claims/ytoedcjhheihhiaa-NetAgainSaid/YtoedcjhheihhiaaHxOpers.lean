/-
  HxOpers: the operations of a region, one behind the other.
-/
import Derived.Test.YtoedcjhheihhiaaHxSound
namespace Hx
open Go Go.RowKit
set_option linter.unusedSimpArgs false
set_option linter.unusedVariables false

section
variable {F : Fix} {E : Env} {w0 : Base}

theorem okOpers_get {ops : Array Oper} : ∀ {xs : List XOper} {os : List Oper}, okOpers F ops xs os = true → xs.length = os.length ∧ ∀ (i : Nat) (x : XOper) (o : Oper), xs[i]? = some x → os[i]? = some o → okOper F ops x o = true
  | [], [], _ => ⟨rfl, by simp⟩
  | [], _ :: _, h => by simp [okOpers] at h
  | _ :: _, [], h => by simp [okOpers] at h
  | x :: xs, o :: os, h => by
    simp only [okOpers, Bool.and_eq_true] at h
    obtain ⟨h1, h2⟩ := okOpers_get h.2
    refine ⟨by simp [h1], ?_⟩
    intro i x' o' hx ho
    cases i with
    | zero => simp at hx ho; subst hx ho; exact h.1
    | succ i => exact h2 i x' o' (by simpa using hx) (by simpa using ho)

theorem opers_sound {call : Caller} (hc : CallOk F E w0 call) {Q : Exit → Act → World → Prop} {ops : Array Oper} : ∀ (xs : List XOper) (is : List Nat) (hl : xs.length = is.length)
    (hok : ∀ (k : Nat) (x : XOper) (i : Nat), xs[k]? = some x → is[k]? = some i → ∃ o, ops[i]? = some o ∧ okOper F ops x o = true) {c : Cx} {st : St} {a : Act} (hs : RSt F E w0 c st a) {e : Ex} {st' : St} {d : Option Dr} (hd : denOpers E call d xs st = some (e, st')) (hQ : Post F E w0 Q c e st'), wpOps F.P ops Q is a c.w
  | [], [], _, _, c, st, a, hs, e, st', d, hd, hQ => by
    simp only [denOpers, Option.some.injEq, Prod.mk.injEq] at hd
    obtain ⟨rfl, rfl⟩ := hd
    simp only [wpOps]
    exact hQ c a (Ext.refl c) hs
  | [], _ :: _, hl, _, _, _, _, _, _, _, _, _, _ => by simp at hl
  | _ :: _, [], hl, _, _, _, _, _, _, _, _, _, _ => by simp at hl
  | x :: xs, i :: is, hl, hok, c, st, a, hs, e, st', d, hd, hQ => by
    obtain ⟨o, ho, hoo⟩ := hok 0 x i (by simp) (by simp)
    simp only [denOpers] at hd
    cases hx : denOper E call d x st with
    | none => rw [hx] at hd; cases hd
    | some r =>
      obtain ⟨e1, st1⟩ := r
      rw [hx] at hd
      cases e1 with
      | norm =>
        simp only at hd
        refine oper_sound hc ho hoo hs hx ?_
        intro c' a' he hs'
        refine opers_sound hc xs is (by simpa using hl) (fun k y j hy hj => hok (k + 1) y j (by simpa using hy) (by simpa using hj)) hs' hd ?_
        intro c'' a'' he' hs''
        exact hQ c'' a'' (he.trans he') hs''
      | exit id =>
        simp only [Option.some.injEq, Prod.mk.injEq] at hd
        obtain ⟨rfl, rfl⟩ := hd
        exact oper_sound hc ho hoo hs hx (fun c' a' he hs' => hQ c' a' he hs')
      | ret =>
        simp only [Option.some.injEq, Prod.mk.injEq] at hd
        obtain ⟨rfl, rfl⟩ := hd
        exact oper_sound hc ho hoo hs hx (fun c' a' he hs' => hQ c' a' he hs')
      | pan v =>
        simp only [Option.some.injEq, Prod.mk.injEq] at hd
        obtain ⟨rfl, rfl⟩ := hd
        exact oper_sound hc ho hoo hs hx (fun c' a' he hs' => hQ c' a' he hs')

end
end Hx
