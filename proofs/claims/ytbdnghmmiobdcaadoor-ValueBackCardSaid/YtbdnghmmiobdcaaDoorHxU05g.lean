/-
  HxU05g: the document's Number, whole.
-/
import Derived.Test.YtbdnghmmiobdcaaDoorHxU05f
namespace Hx
open Go
set_option linter.unusedSimpArgs false
set_option linter.unusedVariables false
set_option maxHeartbeats 8000000
variable {E : Env}
attribute [-simp] List.getD_eq_getElem?_getD getElem?_pos
def nHead : XCode := match Fn.f_haulageref05_Number.body with
  | .seq a (.seq b (.seq c (.seq d _))) => .seq a (.seq b (.seq c d))
  | _ => .skip
def nLoop : XCode := match Fn.f_haulageref05_Number.body with
  | .seq _ (.seq _ (.seq _ (.seq _ (.seq e _)))) => e
  | _ => .skip
def nA : XCode := match nHead with | .seq a _ => a | _ => .skip
def nB : XCode := match nHead with | .seq _ (.seq b _) => b | _ => .skip
def nC : XCode := match nHead with | .seq _ (.seq _ (.seq c _)) => c | _ => .skip
def nD : XCode := match nHead with | .seq _ (.seq _ (.seq _ d)) => d | _ => .skip
theorem num_parts : Fn.f_haulageref05_Number.body = .seq nA (.seq nB (.seq nC (.seq nD (.seq nLoop numTail)))) := rfl
theorem num_start (neg : Bool) (s : List UInt8) (hs : (s.length : Int) ≤ 1000000000) (hneg : (s.head? == some 45) = neg) (j : Nat) (Q : Ex → St → Prop) (hQ : ∀ ts : List AV, ts.length = 90 → ts.getD 0 (.tup []) = .p (.str s) → ts.getD 5 (.tup []) = .p (.int .i64 (ahead neg)) → ts.getD 6 (.tup []) = .p (.int .i64 ((ahead neg + (runD neg s).length : Nat) : Int)) →
      ahead neg + (runD neg s).length ≤ s.length → (s.take (ahead neg + (runD neg s).length)).drop (ahead neg) = runD neg s → Wp (den E (denF E (j + 22)) (j + 22) numTail ⟨ts, [], []⟩) Q) (hk : s.length + 2 ≤ j + 22) :
    Wp (den E (denF E (j + 22)) (j + 22) Fn.f_haulageref05_Number.body ⟨[.p (.str s)] ++ List.replicate 89 (.tup []), [], []⟩) Q := by
  rw [num_parts]
  have go : ∀ ts : List AV, Fn.f_haulageref05_Number_k0.length = ts.length → keep Fn.f_haulageref05_Number_k0 ts = Fn.f_haulageref05_Number_s0 (.p (.str s)) (.p (.int .i64 (ahead neg))) (.p (.int .i64 (ahead neg))) → ahead neg ≤ s.length →
      Wp (den E (denF E (j + 22)) (j + 22) (.seq nLoop numTail) ⟨ts, [], []⟩) Q := by
    intro ts h1 h2 h3
    have hl : nLoop = .block 0 (.loop Fn.f_haulageref05_Number_k0 Fn.f_haulageref05_Number_b0) := rfl
    rw [hl, den_seq, Wp_seqK, den_block, Wp_exitAt, den_loop]
    refine (refnum_run (E := E) (j + 22) _ s (by omega) neg h3 hk _ ⟨h1, h2, rfl, rfl⟩).mono ?_
    rintro e st ⟨rfl, q1, q2, q3, q4, q5, q6, q7, q8⟩
    obtain ⟨us, m', ds⟩ := st
    simp only at q1 q2 q3 q4 q5 q6
    subst q1 q2
    rw [exitQ_exit, if_pos rfl, seqQ_norm]
    exact hQ us q3 q4 q5 q6 q7 q8
  generalize hT : XCode.seq nLoop numTail = T at *
  cases s with
  | nil =>
    have : neg = false := by rw [← hneg]; rfl
    subst this
    have g := fun ts h1 h2 => go ts h1 h2 (Nat.zero_le _)
    simp [nA, nB, nC, nD, nHead, Fn.f_haulageref05_Number, bne]
    exact g _ rfl rfl
  | cons c r =>
    have hcc : ((c.toNat : Int) == 45) = neg := by
      rw [← hneg, List.head?_cons]
      have e1 : (some c == some (45 : UInt8)) = (c == 45) := rfl
      rw [e1, u8_beq]
      rfl
    have hne : (c :: r == []) = false := rfl
    cases neg with
    | true =>
      have g := fun ts h1 h2 => go ts h1 h2 (by simp [ahead])
      generalize hS : c :: r = S at *
      have hS0 : S[0]? = some c := by rw [← hS]; rfl
      simp [nA, nB, nC, nD, nHead, Fn.f_haulageref05_Number, bne, hne, hS0, hcc]
      exact g _ rfl rfl
    | false =>
      have g := fun ts h1 h2 => go ts h1 h2 (by simp [ahead])
      generalize hS : c :: r = S at *
      have hS0 : S[0]? = some c := by rw [← hS]; rfl
      simp [nA, nB, nC, nD, nHead, Fn.f_haulageref05_Number, bne, hne, hS0, hcc]
      exact g _ rfl rfl
theorem ref_Number (u : M05 E) (s : List UInt8) (hs : (s.length : Int) ≤ 1000000000) (k : Nat) (hk : s.length + 30 ≤ k) (m : Mem) : denF E (k + 1) 38 [.p (.str s)] m = some (.ret (numS s), m) := by
  refine denF_wp u.rnumber rfl (args' := [.p (.str s)]) rfl ?_
  obtain ⟨j, rfl⟩ : ∃ j, k = j + 22 := ⟨k - 22, by omega⟩
  unfold numS
  obtain ⟨neg, hneg⟩ : ∃ b, (s.head? == some 45) = b := ⟨_, rfl⟩
  rw [hneg]
  have hdg := run_digs neg s
  have fin : ∀ e st, (e = .ret ∧ st.ds = [] ∧ ∃ n size er, numO neg (runD neg s) = numT n size er ∧ st.ts.getD 2 (.tup []) = .p (.int .i64 n) ∧ st.ts.getD 3 (.tup []) = .p (.int .i64 size) ∧ st.ts.getD 4 (.tup []) = .p (.int .i64 er)) →
      ∃ out1 m1, leave Fn.f_haulageref05_Number (some (e, st)) = some (out1, m1) ∧ stripOut out1 = some (.ret (numO neg (runD neg s))) := by
    rintro e st ⟨rfl, h1, n, size, er, hO, h2, h3, h4⟩
    rw [hO]
    obtain ⟨ts, m', ds⟩ := st
    simp only at h1 h2 h3 h4
    subst h1
    simp [Fn.f_haulageref05_Number, h2, h3, h4, numT]
  have start := num_start (E := E) neg s hs hneg j (fun e st => ∃ out1 m1, leave Fn.f_haulageref05_Number (some (e, st)) = some (out1, m1) ∧ stripOut out1 = some (.ret (numO neg (runD neg s))))
  refine start (fun ts t1 t2 t3 t4 t5 t6 => ?_) (by omega)
  cases neg with
  | true =>
    have hfull : s.take (1 + (runD true s).length) = 45 :: runD true s := by
      have hc : ∃ r, s = 45 :: r := by
        cases s with
        | nil => simp at hneg
        | cons c r => simp at hneg; exact ⟨r, by rw [hneg]⟩
      obtain ⟨r, rfl⟩ := hc
      have := t6
      simp only [ahead, if_true] at this
      rw [Nat.add_comm, List.take_succ_cons] at this ⊢
      rw [List.drop_succ_cons, List.drop_zero] at this
      rw [this]
    exact (rn_tail_true u j s (runD true s) (1 + (runD true s).length) hs hdg rfl t5 t6 hfull ts t1 t2 t3 t4).mono fin
  | false =>
    have hfull : s.take (0 + (runD false s).length) = runD false s := by
      have := t6
      simp only [ahead, Bool.false_eq_true, if_false, List.drop_zero] at this
      exact this
    exact (rn_tail_false u j s (runD false s) (0 + (runD false s).length) hs hdg rfl t5 t6 hfull ts t1 t2 t3 t4).mono fin
end Hx
