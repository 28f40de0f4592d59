/-
  HxQ10d: a text with more blanks, and whether a text has no backslash.
-/
import Derived.Test.YtifcegbomagcpaaDoorHxFn10
import Derived.Test.YtifcegbomagcpaaDoorHxU06
namespace Hx
open Go
set_option linter.unusedSimpArgs false
set_option linter.unusedVariables false
set_option maxHeartbeats 16000000
set_option maxRecDepth 20000
variable {E : Env}
attribute [-simp] List.getD_eq_getElem?_getD getElem?_pos
def plainB (s : List UInt8) : Bool := s.all fun c => !((c.toNat : Int) == 92)
def flipQ (q : Bool) (c : UInt8) : Bool := if c = 34 then !q else q
def looseF (g : List UInt8) : Bool → List UInt8 → List UInt8
  | _, [] => []
  | q, c :: r => c :: ((if c = 32 ∧ flipQ q c = false then g else []) ++ looseF g (flipQ q c) r)
def gOf (n : Nat) : List UInt8 := ([32, 9, 10] : List UInt8).take n
theorem looseF_cons (g : List UInt8) (q : Bool) (c : UInt8) (r : List UInt8) : looseF g q (c :: r) = c :: ((if c = 32 ∧ flipQ q c = false then g else []) ++ looseF g (flipQ q c) r) := rfl
theorem u8n {c d : UInt8} (h : ¬ c = d) : ((c.toNat : Int) == (d.toNat : Int)) = false := by
  rw [beq_eq_false_iff_ne]; intro e; exact h (UInt8.toNat_inj.1 (by omega))
theorem plainText_at (h : E.fn 235 = some Fn.f_haulagelaw10_plainText) (s : List UInt8) (hs : (s.length : Int) ≤ 1000000000) (k : Nat) (hk : s.length + 5 ≤ k) (m : Mem) : denF E (k + 1) 235 [.p (.str s)] m = some (.ret (.p (.bool (plainB s))), m) := by
  refine denF_wp h rfl (args' := [.p (.str s)]) rfl ?_
  simp [Fn.f_haulagelaw10_plainText]
  refine (loop_wp (α := Nat) (I := fun i st => i ≤ s.length ∧ plainB (s.drop i) = plainB s ∧ Live Fn.f_haulagelaw10_plainText_k0 (Fn.f_haulagelaw10_plainText_s0 (.p (.str s)) (.p (.int .i64 i))) [] st) (meas := fun i => s.length - i)
    (Q := fun e st => st.ds = [] ∧ st.ts.length = 14 ∧ ((e = .exit 0 ∧ plainB s = true) ∨ (e = .ret ∧ plainB s = false ∧ st.ts.getD 2 (.tup []) = .p (.bool false)))) ?_ k 0 _ ⟨Nat.zero_le _, rfl, rfl, rfl, rfl, rfl⟩ (by omega)).mono ?_
  · rintro i st ⟨hi, hq, hlive⟩
    rw [loopF_live hlive]
    by_cases hlt : i < s.length
    · have hlt' : (i : Int) < s.length := by omega
      obtain ⟨c, hc⟩ : ∃ c, s[i]? = some c := ⟨_, List.getElem?_eq_getElem hlt⟩
      have hw : IntKind.i64.wrap ((i : Int) + 1) = ((i + 1 : Nat) : Int) := by rw [wrap_i64 (by omega) (by omega)]; omega
      rw [drop_at hc] at hq
      unfold plainB at hq
      rw [List.all_cons] at hq
      cases h92 : ((c.toNat : Int) == 92) with
      | true =>
        rw [h92] at hq
        simp only [Bool.not_true, Bool.false_and] at hq
        have hq' : plainB s = false := hq.symm
        simp [Fn.f_haulagelaw10_plainText_b0, Fn.f_haulagelaw10_plainText_s0, hlt, hlt', hc, h92, hq']
      | false =>
        rw [h92] at hq
        simp only [Bool.not_false, Bool.true_and] at hq
        simp [Fn.f_haulagelaw10_plainText_b0, Fn.f_haulagelaw10_plainText_s0, hlt, hlt', hc, h92, hw, -Int.natCast_add]
        exact ⟨i + 1, by omega, hlt, hq, rfl, rfl, rfl, rfl⟩
    · have hlt' : ¬ (i : Int) < s.length := by omega
      have e1 : s.drop i = [] := List.drop_eq_nil_of_le (by omega)
      rw [e1] at hq
      have hq' : plainB s = true := hq.symm
      simp [Fn.f_haulagelaw10_plainText_b0, Fn.f_haulagelaw10_plainText_s0, hlt', hq']
  · rintro e st ⟨hds, hlen, ⟨rfl, hz⟩ | ⟨rfl, hz, h2⟩⟩
    · obtain ⟨ts, m', ds⟩ := st
      simp only at hds hlen
      subst hds
      have hx : ts = [ts.getD 0 (.tup []), ts.getD 1 (.tup []), ts.getD 2 (.tup []), ts.getD 3 (.tup []), ts.getD 4 (.tup []), ts.getD 5 (.tup []), ts.getD 6 (.tup []), ts.getD 7 (.tup []), ts.getD 8 (.tup []), ts.getD 9 (.tup []), ts.getD 10 (.tup []), ts.getD 11 (.tup []), ts.getD 12 (.tup []), ts.getD 13 (.tup [])] := expand_ts 14 ts hlen
      rw [hx]
      simp [hz]
    · simp [hds, h2, hz]
theorem loose_in (call : Caller) (s out : List UInt8) (q : Bool) (i : Nat) (c : UInt8) (hc : s[i]? = some c) (mn : Int) (n : Nat) (hn : mn.tmod 3 = n) (hn2 : n ≤ 2) (hol : out.length ≤ 100000000000) (K : Nat) (hK : 5 ≤ K) (M : Mem) (st : St)
    (h0 : Live Fn.f_haulagelaw10_loose_k1 (Fn.f_haulagelaw10_loose_s1 (.p (.str s)) (.p (.int .u8 mn)) (.p (.str out)) (.p (.bool q)) (.p (.int .i64 i)) (.p (.int .u8 0))) M st) :
    Wp (iter (loopF E call K Fn.f_haulagelaw10_loose_k1 Fn.f_haulagelaw10_loose_b1) K st) (fun e st => e = .exit 2 ∧ st.ds = [] ∧ st.ts.length = 66 ∧ st.ts.getD 0 (.tup []) = .p (.str s) ∧ st.ts.getD 1 (.tup []) = .p (.int .u8 mn) ∧ st.ts.getD 5 (.tup []) = .p (.str (out ++ if c = 32 ∧ q = false then gOf n else [])) ∧ st.ts.getD 6 (.tup []) = .p (.bool q) ∧ st.ts.getD 7 (.tup []) = .p (.int .i64 i)) := by
  refine loop_wp (α := Nat) (I := fun j st => j ≤ n ∧ (j = 0 ∨ (c = 32 ∧ q = false)) ∧ ∃ M, Live Fn.f_haulagelaw10_loose_k1 (Fn.f_haulagelaw10_loose_s1 (.p (.str s)) (.p (.int .u8 mn)) (.p (.str (out ++ gOf j))) (.p (.bool q)) (.p (.int .i64 i)) (.p (.int .u8 (j : Int)))) M st) (meas := fun j => 3 - j) ?_ K 0 _ ⟨Nat.zero_le _, .inl rfl, M, by simpa [gOf] using h0⟩ (by omega)
  rintro j st ⟨hj, hcq, M, hlive⟩
  rw [loopF_live hlive]
  have l1 : out.length + 1 ≤ strLim := by unfold strLim; omega
  have l2 : out.length + 1 + 1 ≤ strLim := by unfold strLim; omega
  have e32 : ((32 : UInt8).toNat : Int) = 32 := rfl
  by_cases hcond : c = 32 ∧ q = false
  · rw [if_pos hcond]
    obtain ⟨rfl, rfl⟩ := hcond
    by_cases hlt : j < n
    · have hw : IntKind.u8.wrap ((j : Int) + 1) = ((j + 1 : Nat) : Int) := by rw [wrap_u8 (by omega) (by omega)]; omega
      rcases (by omega : (j = 0 ∧ n = 1) ∨ (j = 0 ∧ n = 2) ∨ (j = 1 ∧ n = 2)) with ⟨rfl, rfl⟩ | ⟨rfl, rfl⟩ | ⟨rfl, rfl⟩
      · simp [Fn.f_haulagelaw10_loose_b1, Fn.f_haulagelaw10_loose_s1, hn, hc, gOf, l1]
        exact ⟨1, by omega, by omega, _, rfl, rfl, rfl, rfl⟩
      · simp [Fn.f_haulagelaw10_loose_b1, Fn.f_haulagelaw10_loose_s1, hn, hc, gOf, l1]
        exact ⟨1, by omega, by omega, _, rfl, rfl, rfl, rfl⟩
      · have hw2 : IntKind.u8.wrap 2 = 2 := by decide
        simp [Fn.f_haulagelaw10_loose_b1, Fn.f_haulagelaw10_loose_s1, hn, hc, gOf, l1, l2, hw2]
        exact ⟨2, by omega, by omega, _, rfl, by simp [keep, Fn.f_haulagelaw10_loose_k1, Fn.f_haulagelaw10_loose_s1, hw2], rfl, rfl⟩
    · have : j = n := by omega
      subst this
      have hl : ¬ ((j : Int) < (j : Int)) := by omega
      simp [Fn.f_haulagelaw10_loose_b1, Fn.f_haulagelaw10_loose_s1, hn]
  · rw [if_neg hcond]
    have hj0 : j = 0 := by rcases hcq with h | h; exact h; exact absurd h hcond
    subst hj0
    by_cases hn0 : n = 0
    · subst hn0
      simp [Fn.f_haulagelaw10_loose_b1, Fn.f_haulagelaw10_loose_s1, hn, gOf]
    · have hz : (0 : Int) < n := by omega
      have hz' : 0 < n := by omega
      by_cases h32 : c = 32
      · have hq : q = true := by cases q with | true => rfl | false => exact absurd ⟨h32, rfl⟩ hcond
        subst h32 hq
        simp [Fn.f_haulagelaw10_loose_b1, Fn.f_haulagelaw10_loose_s1, hn, hc, hz, hz', gOf]
      · have hb := u8n h32
        rw [e32] at hb
        simp [Fn.f_haulagelaw10_loose_b1, Fn.f_haulagelaw10_loose_s1, hn, hc, hz, hz', hb, gOf]
def LsI (s : List UInt8) (mn : Int) (n i : Nat) (st : St) : Prop := ∃ out q M, out.length ≤ 3 * i ∧ out ++ looseF (gOf n) q (s.drop i) = looseF (gOf n) false s ∧ Live Fn.f_haulagelaw10_loose_k0 (Fn.f_haulagelaw10_loose_s0 (.p (.str s)) (.p (.int .u8 mn)) (.p (.str out)) (.p (.bool q)) (.p (.int .i64 i))) M st
theorem LsI.mk {s : List UInt8} {mn : Int} {n i : Nat} {st : St} (out : List UInt8) (q : Bool) (M : Mem) (h1 : out.length ≤ 3 * i) (h2 : out ++ looseF (gOf n) q (s.drop i) = looseF (gOf n) false s) (h3 : Live Fn.f_haulagelaw10_loose_k0 (Fn.f_haulagelaw10_loose_s0 (.p (.str s)) (.p (.int .u8 mn)) (.p (.str out)) (.p (.bool q)) (.p (.int .i64 i))) M st) : LsI s mn n i st := ⟨out, q, M, h1, h2, h3⟩
theorem loose_at (h : E.fn 236 = some Fn.f_haulagelaw10_loose) (s : List UInt8) (hp : plainB s = true) (hs : (s.length : Int) ≤ 1000000000) (mn : Int) (n : Nat) (hn : mn.tmod 3 = n) (hn2 : n ≤ 2) (k : Nat) (hk : s.length + 10 ≤ k) (m : Mem) :
    denF E (k + 1) 236 [.p (.str s), .p (.int .u8 mn)] m = some (.ret (.p (.str (looseF (gOf n) false s))), m) := by
  refine denF_wp h rfl (args' := [.p (.str s), .p (.int .u8 mn)]) rfl ?_
  simp [Fn.f_haulagelaw10_loose]
  refine (loop_wp (α := Nat) (I := fun i st => i ≤ s.length ∧ LsI s mn n i st) (meas := fun i => s.length - i)
    (Q := fun e st => e = .exit 0 ∧ st.ds = [] ∧ st.ts.length = 66 ∧ st.ts.getD 5 (.tup []) = .p (.str (looseF (gOf n) false s))) ?_ k 0 _ ⟨Nat.zero_le _, LsI.mk [] false [] (by simp) rfl ⟨rfl, rfl, rfl, rfl⟩⟩ (by omega)).mono ?_
  · rintro i st ⟨hi, out, q, M, hol, hq, hlive⟩
    have hw1 : IntKind.i64.wrap 1 = 1 := by decide
    rw [loopF_live hlive]
    by_cases hlt : i < s.length
    · have hlt' : (i : Int) < s.length := by omega
      obtain ⟨c, hc⟩ : ∃ c, s[i]? = some c := ⟨_, List.getElem?_eq_getElem hlt⟩
      have hw : IntKind.i64.wrap ((i : Int) + 1) = ((i + 1 : Nat) : Int) := by rw [wrap_i64 (by omega) (by omega)]; omega
      have hws : IntKind.i64.wrap ((i : Int) - 1) = (i : Int) - 1 := wrap_i64 (by omega) (by omega)
      rw [drop_at hc, looseF_cons] at hq
      have hcut : (s.take (i + 1)).drop i = [c] := by rw [List.drop_take, drop_at hc]; simp
      have hle : i + 1 ≤ s.length := by omega
      have hle1 : i ≤ i + 1 := by omega
      have hli : ((i + 1 : Nat) : Int) ≤ s.length := by omega
      have hli2 : (i : Int) ≤ ((i + 1 : Nat) : Int) := by omega
      have hlim : out.length + 1 ≤ strLim := by unfold strLim; omega
      have hin := fun (q' : Bool) (M' : Mem) (st' : St) hl => loose_in (E := E) (denF E k) s (out ++ [c]) q' i c hc mn n hn hn2 (by simp; omega) k (by omega) M' st' hl
      have hgl : (gOf n).length ≤ 2 := by unfold gOf; rw [List.length_take]; omega
      have hend : ∀ (q' : Bool) (hq' : q' = flipQ q c) (e : Ex) (st' : St), (e = .exit 2 ∧ st'.ds = [] ∧ st'.ts.length = 66 ∧ st'.ts.getD 0 (.tup []) = .p (.str s) ∧ st'.ts.getD 1 (.tup []) = .p (.int .u8 mn) ∧ st'.ts.getD 5 (.tup []) = .p (.str (out ++ [c] ++ if c = 32 ∧ q' = false then gOf n else [])) ∧ st'.ts.getD 6 (.tup []) = .p (.bool q') ∧ st'.ts.getD 7 (.tup []) = .p (.int .i64 i)) →
          ∃ (ts : List AV) (M' : Mem), e = .exit 2 ∧ st' = ⟨ts, M', []⟩ ∧ ts = [ts.getD 0 (.tup []), ts.getD 1 (.tup []), ts.getD 2 (.tup []), ts.getD 3 (.tup []), ts.getD 4 (.tup []), ts.getD 5 (.tup []), ts.getD 6 (.tup []), ts.getD 7 (.tup []), ts.getD 8 (.tup []), ts.getD 9 (.tup []), ts.getD 10 (.tup []), ts.getD 11 (.tup []), ts.getD 12 (.tup []), ts.getD 13 (.tup []), ts.getD 14 (.tup []), ts.getD 15 (.tup []), ts.getD 16 (.tup []), ts.getD 17 (.tup []), ts.getD 18 (.tup []), ts.getD 19 (.tup []), ts.getD 20 (.tup []), ts.getD 21 (.tup []), ts.getD 22 (.tup []), ts.getD 23 (.tup []), ts.getD 24 (.tup []), ts.getD 25 (.tup []), ts.getD 26 (.tup []), ts.getD 27 (.tup []), ts.getD 28 (.tup []), ts.getD 29 (.tup []), ts.getD 30 (.tup []), ts.getD 31 (.tup []), ts.getD 32 (.tup []), ts.getD 33 (.tup []), ts.getD 34 (.tup []), ts.getD 35 (.tup []), ts.getD 36 (.tup []), ts.getD 37 (.tup []), ts.getD 38 (.tup []), ts.getD 39 (.tup []), ts.getD 40 (.tup []), ts.getD 41 (.tup []), ts.getD 42 (.tup []), ts.getD 43 (.tup []), ts.getD 44 (.tup []), ts.getD 45 (.tup []), ts.getD 46 (.tup []), ts.getD 47 (.tup []), ts.getD 48 (.tup []), ts.getD 49 (.tup []), ts.getD 50 (.tup []), ts.getD 51 (.tup []), ts.getD 52 (.tup []), ts.getD 53 (.tup []), ts.getD 54 (.tup []), ts.getD 55 (.tup []), ts.getD 56 (.tup []), ts.getD 57 (.tup []), ts.getD 58 (.tup []), ts.getD 59 (.tup []), ts.getD 60 (.tup []), ts.getD 61 (.tup []), ts.getD 62 (.tup []), ts.getD 63 (.tup []), ts.getD 64 (.tup []), ts.getD 65 (.tup [])] ∧ ts.getD 0 (.tup []) = .p (.str s) ∧ ts.getD 1 (.tup []) = .p (.int .u8 mn) ∧ ts.getD 5 (.tup []) = .p (.str (out ++ [c] ++ if c = 32 ∧ q' = false then gOf n else [])) ∧ ts.getD 6 (.tup []) = .p (.bool q') ∧ ts.getD 7 (.tup []) = .p (.int .i64 i) := by
        rintro q' _ e ⟨ts, M', ds⟩ ⟨rfl, h1, h2, h3⟩
        simp only at h1 h2 h3
        subst h1
        exact ⟨ts, M', rfl, rfl, expand_ts 66 ts h2, h3⟩
      have hnext : ∀ q', q' = flipQ q c → (out ++ [c] ++ (if c = 32 ∧ q' = false then gOf n else [])).length ≤ 3 * (i + 1) ∧ (out ++ [c] ++ (if c = 32 ∧ q' = false then gOf n else [])) ++ looseF (gOf n) q' (s.drop (i + 1)) = looseF (gOf n) false s := by
        rintro q' rfl
        refine ⟨?_, by rw [← hq]; simp⟩
        simp only [List.length_append, List.length_cons, List.length_nil]
        split
        · omega
        · simp; omega
      have e34 : ((34 : UInt8).toNat : Int) = 34 := rfl
      by_cases h34 : c = 34
      · have hf : flipQ q c = !q := by unfold flipQ; rw [if_pos h34]
        have hc34 : ((c.toNat : Int) == 34) = true := by rw [h34]; rfl
        have hprev : i = 0 ∨ ∃ b, s[i - 1]? = some b ∧ ((b.toNat : Int) == 92) = false := by
          by_cases h0 : i = 0
          · exact .inl h0
          · right
            obtain ⟨b, hb⟩ : ∃ b, s[i - 1]? = some b := ⟨_, List.getElem?_eq_getElem (by omega)⟩
            have := List.all_eq_true.1 hp b (List.mem_of_getElem? hb)
            exact ⟨b, hb, by simpa using this⟩
        obtain ⟨n1, n2⟩ := hnext (!q) hf.symm
        rcases hprev with rfl | ⟨b, hb, hb92⟩
        · simp [Fn.f_haulagelaw10_loose_b0, Fn.f_haulagelaw10_loose_s0, hlt, hc, hc34, hcut, hlim, hle, hw1]
          refine (hin (!q) M _ ?_).mono ?_
          · exact ⟨rfl, by simp [keep, Fn.f_haulagelaw10_loose_k1, Fn.f_haulagelaw10_loose_s1], rfl, rfl⟩
          · intro e st' hst'
            obtain ⟨ts, M', rfl, rfl, hx, t0, t1, t5, t6, t7⟩ := hend (!q) hf.symm e st' hst'
            rw [hx]
            simp [t0, t1, t5, t6, t7, hw1]
            exact ⟨1, by omega, by omega, LsI.mk _ _ M' n1 n2 ⟨rfl, by simp [keep, Fn.f_haulagelaw10_loose_k0, Fn.f_haulagelaw10_loose_s0], rfl, rfl⟩⟩
        · have hi0 : i ≠ 0 ∨ i = 0 := by omega
          rcases hi0 with hi0 | rfl
          · have h0 : ((i : Int) == 0) = false := by rw [beq_eq_false_iff_ne]; omega
            have t1' : ((i : Int) - 1).toNat = i - 1 := by omega
            have p1' : (0 : Int) ≤ (i : Int) - 1 := by omega
            have p2' : (1 : Int) ≤ (i : Int) := by omega
            have p3' : 1 ≤ i := by omega
            simp [Fn.f_haulagelaw10_loose_b0, Fn.f_haulagelaw10_loose_s0, hlt, hlt', hc, hc34, hcut, hlim, hle, hle1, hli, hli2, h0, hi0, hws, t1', p1', p2', p3', hb, hb92, hw, bne, -Int.natCast_add]
            refine (hin (!q) M _ ?_).mono ?_
            · exact ⟨rfl, by simp [keep, Fn.f_haulagelaw10_loose_k1, Fn.f_haulagelaw10_loose_s1], rfl, rfl⟩
            · intro e st' hst'
              obtain ⟨ts, M', rfl, rfl, hx, t0, t1, t5, t6, t7⟩ := hend (!q) hf.symm e st' hst'
              rw [hx]
              simp [t0, t1, t5, t6, t7, hw, -Int.natCast_add]
              exact ⟨i + 1, by omega, by omega, LsI.mk _ _ M' n1 n2 ⟨rfl, by simp [keep, Fn.f_haulagelaw10_loose_k0, Fn.f_haulagelaw10_loose_s0], rfl, rfl⟩⟩
          · simp [Fn.f_haulagelaw10_loose_b0, Fn.f_haulagelaw10_loose_s0, hlt, hc, hc34, hcut, hlim, hle, hw1]
            refine (hin (!q) M _ ?_).mono ?_
            · exact ⟨rfl, by simp [keep, Fn.f_haulagelaw10_loose_k1, Fn.f_haulagelaw10_loose_s1], rfl, rfl⟩
            · intro e st' hst'
              obtain ⟨ts, M', rfl, rfl, hx, t0, t1, t5, t6, t7⟩ := hend (!q) hf.symm e st' hst'
              rw [hx]
              simp [t0, t1, t5, t6, t7, hw1]
              exact ⟨1, by omega, by omega, LsI.mk _ _ M' n1 n2 ⟨rfl, by simp [keep, Fn.f_haulagelaw10_loose_k0, Fn.f_haulagelaw10_loose_s0], rfl, rfl⟩⟩
      · have hf : flipQ q c = q := by unfold flipQ; rw [if_neg h34]
        have hc34 := u8n h34
        rw [e34] at hc34
        obtain ⟨n1, n2⟩ := hnext q hf.symm
        simp [Fn.f_haulagelaw10_loose_b0, Fn.f_haulagelaw10_loose_s0, hlt, hlt', hc, hc34, hcut, hlim, hle, hle1, hli, hli2, hw, -Int.natCast_add]
        refine (hin q M _ ?_).mono ?_
        · exact ⟨rfl, by simp [keep, Fn.f_haulagelaw10_loose_k1, Fn.f_haulagelaw10_loose_s1], rfl, rfl⟩
        · intro e st' hst'
          obtain ⟨ts, M', rfl, rfl, hx, t0, t1, t5, t6, t7⟩ := hend q hf.symm e st' hst'
          rw [hx]
          simp [t0, t1, t5, t6, t7, hw, -Int.natCast_add]
          exact ⟨i + 1, by omega, by omega, LsI.mk _ _ M' n1 n2 ⟨rfl, by simp [keep, Fn.f_haulagelaw10_loose_k0, Fn.f_haulagelaw10_loose_s0], rfl, rfl⟩⟩
    · have hlt' : ¬ (i : Int) < s.length := by omega
      have e1 : s.drop i = [] := List.drop_eq_nil_of_le (by omega)
      rw [e1] at hq
      have hq' : out = looseF (gOf n) false s := by simpa [looseF] using hq
      simp [Fn.f_haulagelaw10_loose_b0, Fn.f_haulagelaw10_loose_s0, hlt', hq']
  · rintro e st ⟨rfl, hds, hlen, h5⟩
    obtain ⟨ts, m', ds⟩ := st
    simp only at hds hlen h5
    subst hds
    have hx : ts = [ts.getD 0 (.tup []), ts.getD 1 (.tup []), ts.getD 2 (.tup []), ts.getD 3 (.tup []), ts.getD 4 (.tup []), ts.getD 5 (.tup []), ts.getD 6 (.tup []), ts.getD 7 (.tup []), ts.getD 8 (.tup []), ts.getD 9 (.tup []), ts.getD 10 (.tup []), ts.getD 11 (.tup []), ts.getD 12 (.tup []), ts.getD 13 (.tup []), ts.getD 14 (.tup []), ts.getD 15 (.tup []), ts.getD 16 (.tup []), ts.getD 17 (.tup []), ts.getD 18 (.tup []), ts.getD 19 (.tup []), ts.getD 20 (.tup []), ts.getD 21 (.tup []), ts.getD 22 (.tup []), ts.getD 23 (.tup []), ts.getD 24 (.tup []), ts.getD 25 (.tup []), ts.getD 26 (.tup []), ts.getD 27 (.tup []), ts.getD 28 (.tup []), ts.getD 29 (.tup []), ts.getD 30 (.tup []), ts.getD 31 (.tup []), ts.getD 32 (.tup []), ts.getD 33 (.tup []), ts.getD 34 (.tup []), ts.getD 35 (.tup []), ts.getD 36 (.tup []), ts.getD 37 (.tup []), ts.getD 38 (.tup []), ts.getD 39 (.tup []), ts.getD 40 (.tup []), ts.getD 41 (.tup []), ts.getD 42 (.tup []), ts.getD 43 (.tup []), ts.getD 44 (.tup []), ts.getD 45 (.tup []), ts.getD 46 (.tup []), ts.getD 47 (.tup []), ts.getD 48 (.tup []), ts.getD 49 (.tup []), ts.getD 50 (.tup []), ts.getD 51 (.tup []), ts.getD 52 (.tup []), ts.getD 53 (.tup []), ts.getD 54 (.tup []), ts.getD 55 (.tup []), ts.getD 56 (.tup []), ts.getD 57 (.tup []), ts.getD 58 (.tup []), ts.getD 59 (.tup []), ts.getD 60 (.tup []), ts.getD 61 (.tup []), ts.getD 62 (.tup []), ts.getD 63 (.tup []), ts.getD 64 (.tup []), ts.getD 65 (.tup [])] := expand_ts 66 ts hlen
    rw [hx]
    simp [h5]
end Hx
