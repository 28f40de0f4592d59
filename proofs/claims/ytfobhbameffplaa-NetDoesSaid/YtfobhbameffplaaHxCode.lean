/-
  HxCode: code.
-/
import Derived.Test.YtfobhbameffplaaHxDraw
namespace Hx
open Go Go.RowKit
set_option linter.unusedSimpArgs false
set_option linter.unusedVariables false

section
variable {F : Fix} {E : Env} {w0 : Base}

theorem Rs_keep {c : Cx} : ∀ {mask : List Bool} {xs : List AV} {ys : List Value}, mask.length = xs.length → Rs F c xs ys → Rs F c (keep mask xs) ys
  | [], [], ys, _, h => by simpa [keep] using h
  | [], _ :: _, _, hl, _ => by simp at hl
  | _ :: _, [], _, hl, _ => by simp at hl
  | b :: bs, x :: xs, ys, hl, h => by
    simp only [Rs] at h
    obtain ⟨y, r, rfl, h1, h2⟩ := h
    simp only [keep, Rs]
    refine ⟨y, r, rfl, ?_, Rs_keep (by simpa using hl) h2⟩
    cases b
    · simp [R]
    · exact h1

theorem code_sound {call : Caller} (hc : CallOk F E w0 call) {n : Nat} : ∀ (x : XCode) (k : Code), okCode F x k = true → ∀ {c : Cx} {st : St} {a : Act} (hs : RSt F E w0 c st a) {e : Ex} {st' : St} (hd : den E call n x st = some (e, st')) {Q : Exit → Act → World → Prop} (hQ : Post F E w0 Q c e st'), k.wp F.P Q a c.w
  | .skip, k, hok, c, st, a, hs, e, st', hd, Q, hQ => by
    simp only [den, Option.some.injEq, Prod.mk.injEq] at hd
    obtain ⟨rfl, rfl⟩ := hd
    cases k <;> simp [okCode] at hok
    · exact wp_skip (hQ c a (Ext.refl c) hs)
    · exact wp_label (hQ c a (Ext.refl c) hs)
  | .ops l, k, hok, c, st, a, hs, e, st', hd, Q, hQ => by
    cases k <;> try (simp [okCode] at hok; done)
    rename_i id ops draw
    cases draw <;> try (simp [okCode] at hok; done)
    simp only [okCode] at hok
    simp only [den] at hd
    obtain ⟨h1, h2⟩ := okOpers_get hok
    refine wp_region (opers_sound hc l (List.range ops.size) (by simp at h1; simp [h1]) ?_ hs hd hQ)
    intro k x i hx hi
    have hk : k < ops.size := by
      have : k < l.length := by rw [List.getElem?_eq_some_iff] at hx; exact hx.1
      simp at h1; omega
    have : i = k := by
      rw [List.getElem?_range hk] at hi
      exact (Option.some.inj hi).symm
    subst this
    exact ⟨ops[i], by simp [hk], h2 i x ops[i] hx (by simp [hk])⟩
  | .draw l anc, k, hok, c, st, a, hs, e, st', hd, Q, hQ => by
    cases k <;> try (simp [okCode] at hok; done)
    rename_i id ops draw
    cases draw <;> try (simp [okCode] at hok; done)
    simp only [okCode] at hok
    simp only [den] at hd
    exact draw_sound hc hok hs hd hQ
  | .drawS l anc sts, k, hok, c, st, a, hs, e, st', hd, Q, hQ => by
    cases k <;> try (simp [okCode] at hok; done)
    rename_i id ops draw
    cases draw <;> try (simp [okCode] at hok; done)
    simp only [okCode] at hok
    simp only [den] at hd
    exact draw_sound hc hok hs hd hQ
  | .drawK l anc ks, k, hok, c, st, a, hs, e, st', hd, Q, hQ => by
    cases k <;> try (simp [okCode] at hok; done)
    rename_i id ops draw
    cases draw <;> try (simp [okCode] at hok; done)
    simp only [okCode] at hok
    simp only [den] at hd
    exact draw_sound hc hok hs hd hQ
  | .seq x y, k, hok, c, st, a, hs, e, st', hd, Q, hQ => by
    cases k <;> try (simp [okCode] at hok; done)
    rename_i p q
    simp only [okCode, Bool.and_eq_true] at hok
    simp only [den] at hd
    cases hx : den E call n x st with
    | none => rw [hx] at hd; cases hd
    | some r =>
      obtain ⟨e1, st1⟩ := r
      rw [hx] at hd
      refine wp_seq (code_sound hc x p hok.1 hs hx ?_)
      cases e1 with
      | norm =>
        simp only at hd
        intro c' a' he hs'
        simp only [Exit.then]
        exact code_sound hc y q hok.2 hs' hd (fun c'' a'' he' hs'' => hQ c'' a'' (he.trans he') hs'')
      | exit id =>
        simp only [Option.some.injEq, Prod.mk.injEq] at hd
        obtain ⟨rfl, rfl⟩ := hd
        exact fun c' a' he hs' => hQ c' a' he hs'
      | ret =>
        simp only [Option.some.injEq, Prod.mk.injEq] at hd
        obtain ⟨rfl, rfl⟩ := hd
        exact fun c' a' he hs' => hQ c' a' he hs'
      | pan v =>
        simp only [Option.some.injEq, Prod.mk.injEq] at hd
        obtain ⟨rfl, rfl⟩ := hd
        exact fun c' a' he hs' => hQ c' a' he hs'
  | .cond x t f, k, hok, c, st, a, hs, e, st', hd, Q, hQ => by
    cases k <;> try (simp [okCode] at hok; done)
    rename_i y p q
    simp only [okCode, Bool.and_eq_true] at hok
    simp only [den] at hd
    split at hd <;> try (cases hd; done)
    rename_i b hb
    have hR := evs_of hs.inv hs.ts x y hok.1.1
    rw [hb] at hR
    refine wp_cond (R_bool hR) ?_
    cases b
    · exact code_sound hc f q hok.2 hs hd hQ
    · exact code_sound hc t p hok.1.2 hs hd hQ
  | .block id x, k, hok, c, st, a, hs, e, st', hd, Q, hQ => by
    cases k <;> try (simp [okCode] at hok; done)
    rename_i id' p
    simp only [okCode, Bool.and_eq_true, decide_eq_true_eq] at hok
    obtain ⟨rfl, hok⟩ := hok
    simp only [den] at hd
    cases hx : den E call n x st with
    | none => rw [hx] at hd; cases hd
    | some r =>
      obtain ⟨e1, st1⟩ := r
      rw [hx] at hd
      refine wp_block (code_sound hc x p hok hs hx ?_)
      cases e1 with
      | norm =>
        simp only [Option.some.injEq, Prod.mk.injEq] at hd
        obtain ⟨rfl, rfl⟩ := hd
        exact fun c' a' he hs' => hQ c' a' he hs'
      | exit id' =>
        simp only at hd
        intro c' a' he hs'
        simp only [Exit.inBlock]
        split at hd
        · rename_i hid
          simp only [Option.some.injEq, Prod.mk.injEq] at hd
          obtain ⟨rfl, rfl⟩ := hd
          rw [if_pos hid]
          exact hQ c' a' he hs'
        · rename_i hid
          simp only [Option.some.injEq, Prod.mk.injEq] at hd
          obtain ⟨rfl, rfl⟩ := hd
          rw [if_neg hid]
          exact hQ c' a' he hs'
      | ret =>
        simp only [Option.some.injEq, Prod.mk.injEq] at hd
        obtain ⟨rfl, rfl⟩ := hd
        exact fun c' a' he hs' => hQ c' a' he hs'
      | pan v =>
        simp only [Option.some.injEq, Prod.mk.injEq] at hd
        obtain ⟨rfl, rfl⟩ := hd
        exact fun c' a' he hs' => hQ c' a' he hs'
  | .loop mask x, k, hok, c, st, a, hs, e, st', hd, Q, hQ => by
    cases k <;> try (simp [okCode] at hok; done)
    rename_i p
    simp only [okCode] at hok
    simp only [den] at hd
    refine wp_loop_ghost (fun j a w => ∃ c1 st1, c1.w = w ∧ Ext c c1 ∧ RSt F E w0 c1 st1 a ∧ iter (fun st => if mask.length = st.ts.length then den E call n x { st with ts := keep mask st.ts } else none) j st1 = some (e, st')) n ⟨c, st, rfl, Ext.refl c, hs, hd⟩ ?_
    rintro j a1 w1 ⟨c1, st1, rfl, he1, hs1, hd1⟩
    cases j with
    | zero => simp [iter] at hd1
    | succ j =>
      simp only [iter] at hd1
      split at hd1
      · rename_i st2 hb
        split at hb <;> try (cases hb; done)
        rename_i hl
        refine code_sound hc x p hok (st := { st1 with ts := keep mask st1.ts }) ⟨hs1.inv, Rs_keep hl hs1.ts, hs1.ds⟩ hb ?_
        intro c2 a2 he2 hs2
        simp only [Exit.then]
        exact ⟨j, Nat.lt_succ_self j, c2, st2, rfl, he1.trans he2, hs2, hd1⟩
      · rename_i r hne
        split at hd1 <;> try (cases hd1; done)
        rename_i hl
        refine code_sound hc x p hok (st := { st1 with ts := keep mask st1.ts }) ⟨hs1.inv, Rs_keep hl hs1.ts, hs1.ds⟩ hd1 ?_
        intro c2 a2 he2 hs2
        cases e with
        | norm =>
          exfalso
          refine hne st' ?_
          rw [if_pos hl]
          exact hd1
        | exit id => exact hQ c2 a2 (he1.trans he2) hs2
        | ret => exact hQ c2 a2 (he1.trans he2) hs2
        | pan v => exact hQ c2 a2 (he1.trans he2) hs2
  | .exit id, k, hok, c, st, a, hs, e, st', hd, Q, hQ => by
    simp only [den, Option.some.injEq, Prod.mk.injEq] at hd
    obtain ⟨rfl, rfl⟩ := hd
    cases k <;> simp [okCode] at hok
    subst hok
    exact wp_exit (hQ c a (Ext.refl c) hs)
  | .refuse, k, hok, c, st, a, hs, e, st', hd, Q, hQ => by simp [den] at hd
  | .ret, k, hok, c, st, a, hs, e, st', hd, Q, hQ => by
    simp only [den, Option.some.injEq, Prod.mk.injEq] at hd
    obtain ⟨rfl, rfl⟩ := hd
    cases k <;> simp [okCode] at hok
    exact wp_ret (hQ c a (Ext.refl c) hs)
end
end Hx
