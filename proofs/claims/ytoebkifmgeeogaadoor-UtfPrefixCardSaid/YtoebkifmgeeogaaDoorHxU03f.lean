/-
  HxU03f: 'Read' of chapter 03, the document's: her steps put together.
-/
import Derived.Test.YtoebkifmgeeogaaDoorHxU03e
namespace Hx
open Go
set_option linter.unusedSimpArgs false
variable {E : Env}
attribute [-simp] List.getD_eq_getElem?_getD getElem?_pos
def rdF (E : Env) (k : Nat) (st : St) : Option (Ex × St) := if rdMask.length = st.ts.length then den E (denF E k) k rdBody { st with ts := keep rdMask st.ts } else none
def rdFin (s : List UInt8) (r : Ex × St) : Prop :=
  (∃ n size, refR s = some (n, size) ∧ rdDone n size r) ∨ (refR s = none ∧ r.1 = .exit 0 ∧ r.2.m = [] ∧ r.2.ds = [] ∧ r.2.ts.length = 58)
def rdAt (s : List UInt8) (size : Int) (st : St) : Prop := st.m = [] ∧ st.ds = [] ∧ rdMask.length = st.ts.length ∧ ∃ t11 t12 t13 t14 t49 t50 t51 t52 t53 t54, keep rdMask st.ts = rdSt s size t11 t12 t13 t14 t49 t50 t51 t52 t53 t54
theorem rdF_at {k : Nat} {s : List UInt8} {size : Int} {st : St} {t11 t12 t13 t14 t49 t50 t51 t52 t53 t54 : AV} (h : st.m = [] ∧ st.ds = [] ∧ rdMask.length = st.ts.length) (hk : keep rdMask st.ts = rdSt s size t11 t12 t13 t14 t49 t50 t51 t52 t53 t54) :
    rdF E k st = den E (denF E k) k rdBody ⟨rdSt s size t11 t12 t13 t14 t49 t50 t51 t52 t53 t54, [], []⟩ := by
  obtain ⟨h1, h2, h3⟩ := h
  obtain ⟨ts, m, ds⟩ := st
  simp only at h1 h2 h3 hk
  subst h1 h2
  simp only [rdF, if_pos h3, hk]
theorem rd_exit (k : Nat) (s : List UInt8) (size : Int) (h : 4 < size ∨ (s.length : Int) < size) (t11 t12 t13 t14 t49 t50 t51 t52 t53 t54 : AV) :
    OptPost (den E (denF E k) k rdBody ⟨rdSt s size t11 t12 t13 t14 t49 t50 t51 t52 t53 t54, [], []⟩) (fun r => r.1 = .exit 0 ∧ r.2.m = [] ∧ r.2.ds = [] ∧ r.2.ts.length = 58) := by
  by_cases h1 : size ≤ 4
  · have h2 : ¬ (size ≤ (s.length : Int)) := by omega
    simp [OptPost_some, rdBody, rdSt, h1, h2]
  · simp [OptPost_some, rdBody, rdSt, h1]
theorem rd_out {k n : Nat} {s : List UInt8} {size : Int} {st : St} (ha : rdAt s size st) (h : 4 < size ∨ (s.length : Int) < size) (hr : refR s = none) :
    OptPost (iter (rdF E k) (n + 1) st) (rdFin s) := by
  obtain ⟨h1, h2, h3, t11, t12, t13, t14, t49, t50, t51, t52, t53, t54, hk⟩ := ha
  obtain ⟨r, hr1, hx, hm, hd, hl⟩ := rd_exit (E := E) k s size h t11 t12 t13 t14 t49 t50 t51 t52 t53 t54
  refine ⟨r, ?_, .inr ⟨hr, hx, hm, hd, hl⟩⟩
  rw [iter_succ, rdF_at ⟨h1, h2, h3⟩ hk, hr1]
  obtain ⟨e, st'⟩ := r
  simp only at hx
  subst hx
  rfl
theorem rd_go {k n : Nat} {s : List UInt8} {size size' x : Int} {hit : Bool} {st : St} {t11 t12 t13 t14 t49 t50 t51 t52 t53 t54 : AV} (h : st.m = [] ∧ st.ds = [] ∧ rdMask.length = st.ts.length) (hk : keep rdMask st.ts = rdSt s size t11 t12 t13 t14 t49 t50 t51 t52 t53 t54)
    (hs : OptPost (den E (denF E k) k rdBody ⟨rdSt s size t11 t12 t13 t14 t49 t50 t51 t52 t53 t54, [], []⟩) (if hit = true then rdDone x size else rdNext s size')) :
    (hit = true ∧ OptPost (iter (rdF E k) (n + 1) st) (rdDone x size)) ∨ (hit = false ∧ ∃ st', rdAt s size' st' ∧ iter (rdF E k) (n + 1) st = iter (rdF E k) n st') := by
  obtain ⟨r, hr1, hq⟩ := hs
  obtain ⟨e, st'⟩ := r
  cases hit with
  | true =>
    rw [if_pos rfl] at hq
    refine .inl ⟨rfl, (e, st'), ?_, hq⟩
    rw [iter_succ, rdF_at h hk, hr1]
    have := hq.1
    simp only at this
    subst this
    rfl
  | false =>
    rw [if_neg (by decide)] at hq
    obtain ⟨h1, h2, h3, h4, h5⟩ := hq
    simp only at h1
    subst h1
    exact .inr ⟨rfl, st', ⟨h2, h3, h4, h5⟩, by rw [iter_succ, rdF_at h hk, hr1]⟩
theorem rd_loop (u : U03 E) (k : Nat) (s : List UInt8) (st : St) (ha : rdAt s 1 st) : OptPost (iter (rdF E (k + 5)) (k + 5) st) (rdFin s) := by
  cases s with
  | nil => exact rd_out ha (by simp) (by simp only [refR])
  | cons c r =>
  obtain ⟨a1, a2, a3, t11, t12, t13, t14, t49, t50, t51, t52, t53, t54, hk⟩ := ha
  rcases rd_go (n := k + 4) ⟨a1, a2, a3⟩ hk (rd_step1 u (k + 1) c r t11 t12 t13 t14 t49 t50 t51 t52 t53 t54 _ rfl) with ⟨g1, hr⟩ | ⟨g1, st1, ha1, e1⟩
  · obtain ⟨r', h1, h2⟩ := hr
    refine ⟨r', h1, .inl ⟨_, _, ?_, h2⟩⟩
    simp only [refR, cond_false, cond_true, g1]
  rw [e1]
  clear hk
  cases r with
  | nil => exact rd_out ha1 (by simp) (by simp only [refR, cond_false, g1])
  | cons b r =>
  obtain ⟨a1, a2, a3, t11, t12, t13, t14, t49, t50, t51, t52, t53, t54, hk⟩ := ha1
  rcases rd_go (n := k + 3) ⟨a1, a2, a3⟩ hk (rd_step2 u (k + 1) c b r t11 t12 t13 t14 t49 t50 t51 t52 t53 t54 _ rfl) with ⟨g2, hr⟩ | ⟨g2, st2, ha2, e2⟩
  · obtain ⟨r', h1, h2⟩ := hr
    refine ⟨r', h1, .inl ⟨_, _, ?_, h2⟩⟩
    simp only [refR, cond_false, cond_true, g1, g2]
  rw [e2]
  clear hk
  cases r with
  | nil => exact rd_out ha2 (by simp) (by simp only [refR, cond_false, g1, cond_false, g2])
  | cons d r =>
  obtain ⟨a1, a2, a3, t11, t12, t13, t14, t49, t50, t51, t52, t53, t54, hk⟩ := ha2
  rcases rd_go (n := k + 2) ⟨a1, a2, a3⟩ hk (rd_step3 u (k + 1) c b d r t11 t12 t13 t14 t49 t50 t51 t52 t53 t54 _ rfl) with ⟨g3, hr⟩ | ⟨g3, st3, ha3, e3⟩
  · obtain ⟨r', h1, h2⟩ := hr
    refine ⟨r', h1, .inl ⟨_, _, ?_, h2⟩⟩
    simp only [refR, cond_false, cond_true, g1, g2, g3]
  rw [e3]
  clear hk
  cases r with
  | nil => exact rd_out ha3 (by simp) (by simp only [refR, cond_false, g1, cond_false, g2, cond_false, g3])
  | cons e r =>
  obtain ⟨a1, a2, a3, t11, t12, t13, t14, t49, t50, t51, t52, t53, t54, hk⟩ := ha3
  rcases rd_go (n := k + 1) ⟨a1, a2, a3⟩ hk (rd_step4 u (k + 1) c b d e r t11 t12 t13 t14 t49 t50 t51 t52 t53 t54 _ rfl) with ⟨g4, hr⟩ | ⟨g4, st4, ha4, e4⟩
  · obtain ⟨r', h1, h2⟩ := hr
    refine ⟨r', h1, .inl ⟨_, _, ?_, h2⟩⟩
    simp only [refR, cond_false, cond_true, g1, g2, g3, g4]
  rw [e4]
  clear hk
  exact rd_out ha4 (.inl (by decide)) (by simp only [refR, cond_false, g1, g2, g3, g4])
theorem set3_get {ts : List AV} (h : ts.length = 58) (a b c : AV) : (((ts.set 2 a).set 3 b).set 4 c).getD 2 (.tup []) = a ∧ (((ts.set 2 a).set 3 b).set 4 c).getD 3 (.tup []) = b ∧ (((ts.set 2 a).set 3 b).set 4 c).getD 4 (.tup []) = c := by
  match ts, h with
  | _ :: _ :: _ :: _ :: _ :: _, _ => exact ⟨rfl, rfl, rfl⟩
def rdA : XCode := .ops [⟨some 2, .mov (.con (.int .i64 0)), none, 0⟩, ⟨some 3, .mov (.con (.int .i64 0)), none, 0⟩, ⟨some 4, .mov (.con (.bool false)), none, 0⟩]
def rdB : XCode := .ops [⟨some 5, .mov (.con (.int .i64 1)), none, 0⟩]
def rdC : XCode := .seq (.ops [⟨some 2, .mov (.con (.int .i64 0)), none, 0⟩, ⟨some 3, .mov (.con (.int .i64 0)), none, 0⟩, ⟨some 4, .mov (.con (.bool false)), none, 0⟩]) .ret
theorem rd_h1 (call : Caller) (n : Nat) (s : List UInt8) : den E call n rdA ⟨[.p (.str s)] ++ List.replicate 57 (.tup []), [], []⟩ = some (.norm, ⟨[.p (.str s), .tup [], .p (.int .i64 0), .p (.int .i64 0), .p (.bool false)] ++ List.replicate 53 (.tup []), [], []⟩) := rfl
theorem rd_h2 (call : Caller) (n : Nat) (s : List UInt8) : den E call n rdB ⟨[.p (.str s), .tup [], .p (.int .i64 0), .p (.int .i64 0), .p (.bool false)] ++ List.replicate 53 (.tup []), [], []⟩ = some (.norm, ⟨[.p (.str s), .tup [], .p (.int .i64 0), .p (.int .i64 0), .p (.bool false), .p (.int .i64 1)] ++ List.replicate 52 (.tup []), [], []⟩) := rfl
theorem ref_Read (u : U03 E) (k : Nat) (s : List UInt8) (m : Mem) : denF E (k + 6) 5 [.p (.str s)] m = some (.ret (readV (refR s)), m) := by
  have hst : ∀ ts, ts.length = 58 → keep rdMask ts = rdSt s 1 (.tup []) (.tup []) (.tup []) (.tup []) (.tup []) (.tup []) (.tup []) (.tup []) (.tup []) (.tup []) → rdAt s 1 ⟨ts, [], []⟩ := fun ts hl hk => ⟨rfl, rfl, by rw [hl]; rfl, _, _, _, _, _, _, _, _, _, _, hk⟩
  obtain ⟨⟨e, st'⟩, hr, hf⟩ := rd_loop u k s ⟨[.p (.str s), .tup [], .p (.int .i64 0), .p (.int .i64 0), .p (.bool false), .p (.int .i64 1)] ++ List.replicate 52 (.tup []), [], []⟩ (hst _ rfl rfl)
  have hb : Fn.f_haulageref03_Read.body = .seq rdA (.seq (.seq rdB (.block 0 (.loop rdMask rdBody))) rdC) := rfl
  have h1 := rd_h1 (E := E) (denF E (k + 5)) (k + 5) s
  have h2 := rd_h2 (E := E) (denF E (k + 5)) (k + 5) s
  have hl : den E (denF E (k + 5)) (k + 5) (.loop rdMask rdBody) ⟨[.p (.str s), .tup [], .p (.int .i64 0), .p (.int .i64 0), .p (.bool false), .p (.int .i64 1)] ++ List.replicate 52 (.tup []), [], []⟩ = some (e, st') := den_loop.trans hr
  rcases hf with ⟨n, size, hn, g1, g2, g3, g4, g5⟩ | ⟨hn, g1, g2, g3, g4⟩
  · simp only at g1 g2 g3 g4 g5
    subst g1
    refine denF_pure_of u.rRead rfl (args' := [.p (.str s)]) (k := 57) (r := some (.ret, st')) rfl rfl hb ?_ (m1 := st'.m) (out := .ret (readV (some (n, size)))) ?_ (by rw [hn]; rfl)
    · rw [den_seq_norm h1]; exact den_seq_ret ((den_seq_norm h2).trans (den_block_ret hl))
    · simp only [leave, g2, resAll, resOne, Fn.f_haulageref03_Read, g3, g4, g5, oneOr, readV]
  · simp only at g1 g2 g3 g4
    subst g1
    obtain ⟨q1, q2, q3⟩ := set3_get g4 (.p (.int .i64 0)) (.p (.int .i64 0)) (.p (.bool false))
    refine denF_pure_of u.rRead rfl (args' := [.p (.str s)]) (k := 57) (r := some (.ret, ⟨((st'.ts.set 2 (.p (.int .i64 0))).set 3 (.p (.int .i64 0))).set 4 (.p (.bool false)), st'.m, st'.ds⟩)) rfl rfl hb ?_ (m1 := st'.m) (out := .ret (readV none)) ?_ (by rw [hn]; rfl)
    · rw [den_seq_norm h1, den_seq_norm ((den_seq_norm h2).trans (den_block_exit hl))]; rfl
    · simp only [leave, g3, resAll, resOne, Fn.f_haulageref03_Read, q1, q2, q3, oneOr, readV]
end Hx
