/-
  HxS15f: a state with other rows at a place, as the document says.
-/
import Derived.Test.YtfobhbameffplaaHxS15d
namespace Hx
open Go
set_option linter.unusedSimpArgs false
set_option linter.unusedVariables false
variable {E : Env}
def appR (n bytes : Nat) (m : Mem) (x y : AV) : Option (AV × Mem) := match rowsOf n m y with
  | none => none
  | some new => match x with
    | .p .nils => if new.length * bytes ≤ room ∧ new.length ≤ room then (if new = [] then some (.p .nils, m) else some (newTok n new m)) else none
    | .tv n' rows tok => match m[tok]? with
      | some (.tok n'' len) => if n' = n ∧ n'' = n ∧ len = rows.length ∧ (len + new.length) * bytes ≤ room ∧ len + new.length ≤ room then
          some (.tv n (rows ++ new) tok, m.set tok (.tok n (len + new.length))) else none
      | _ => none
    | _ => none
@[simp high] theorem ops_appR {call : Caller} {dst : Option Nat} {g : Option (Nat × Bool)} {c : Nat} {r : List XOper} {st : St} {n b : Nat} {x y : X} : denOpers E call none (⟨dst, .append false n b x y, g, c⟩ :: r) st = match wants st.ts g with
    | none => none
    | some false => denOpers E call none r ⟨putT st.ts dst (.tup []), st.m, st.ds⟩
    | some true => match appR n b st.m (evX E st.ts x) (evX E st.ts y) with
      | some (v, m) => denOpers E call none r ⟨putT st.ts dst v, m, st.ds⟩
      | none => none := ops_append
@[simp high] theorem ops_appRd {call : Caller} {D : Dr} {dst : Option Nat} {g : Option (Nat × Bool)} {r : List XOper} {st : St} {n b : Nat} {x y : X} : denOpers E call (some D) (⟨dst, .append false n b x y, g, 1⟩ :: r) st = match wants st.ts g with
    | none => none
    | some false => denOpers E call (some D) r ⟨putT st.ts dst (.tup []), st.m, st.ds⟩
    | some true => if D.n ≤ st.m.length then (match appR n b st.m (evX E st.ts x) (evX E st.ts y) with
      | some (v, m) => denOpers E call (some D) r ⟨putT st.ts dst v, m, st.ds⟩
      | none => none) else none := by
  rw [ops_some, denOper_some]
  cases wants st.ts g with
  | none => rfl
  | some q =>
    cases q with
    | false => rfl
    | true =>
      have h : denOp' (some D) (evX E st.ts) st.m ⟨dst, .append false n b x y, g, 1⟩ = if D.n ≤ st.m.length then appR n b st.m (evX E st.ts x) (evX E st.ts y) else none := by
        by_cases hd : D.n ≤ st.m.length
        · rw [if_pos hd]
          show (if adds (.append false n b x y) = true ∧ D.n ≤ st.m.length then denMove (evX E st.ts) st.m (.append false n b x y) else none) = _
          rw [if_pos ⟨rfl, hd⟩]; rfl
        · rw [if_neg hd]
          show (if adds (.append false n b x y) = true ∧ D.n ≤ st.m.length then denMove (evX E st.ts) st.m (.append false n b x y) else none) = _
          rw [if_neg (fun q => hd q.2)]
      simp only [h]
      by_cases hd : D.n ≤ st.m.length
      · simp only [if_pos hd]
        cases appR n b st.m (evX E st.ts x) (evX E st.ts y) with
        | none => rfl
        | some q => rfl
      · simp only [if_neg hd]
theorem appR_tv {n b : Nat} {m : Mem} {rows : List (List PV)} {av : AV} (h : OutG n m rows av) (r : List PV) (h1 : (rows.length + 1) * b ≤ 70368744177664) (h2 : rows.length + 1 ≤ 70368744177664) :
    ∃ tok m', appR n b m av (.p (.vals n [r])) = some (.tv n (rows ++ [r]) tok, m') ∧ OutG n m' (rows ++ [r]) (.tv n (rows ++ [r]) tok) ∧ m.length ≤ m'.length ∧ ∀ (i : Nat) (cs : List AV), m[i]? = some (.cells cs) → m'[i]? = some (.cells cs) := by
  rcases h with ⟨rfl, rfl⟩ | ⟨tok, rfl, ht⟩
  · refine ⟨m.length, m ++ [.tok n 1], ?_, .inr ⟨m.length, rfl, by simp⟩, by simp, ?_⟩
    · simp only [List.length_nil, Nat.zero_add] at h1 h2
      simp [appR, rowsOf, newTok, room, h1]
      omega
    · intro i cs hi
      have := idx_lt hi
      rw [List.getElem?_append_left this]; exact hi
  · refine ⟨tok, m.set tok (.tok n (rows.length + 1)), ?_, .inr ⟨tok, rfl, ?_⟩, by simp, ?_⟩
    · simp [appR, rowsOf, room, ht, h1, h2]
    · rw [List.getElem?_set_self (idx_lt ht)]; simp
    · intro i cs hi
      have : tok ≠ i := by
        rintro rfl
        rw [ht] at hi; cases hi
      rw [List.getElem?_set_ne this]; exact hi
theorem appR_out {n b : Nat} {m : Mem} {rows : List (List PV)} {av : AV} (h : OutG n m rows av) (r : List PV) (h1 : (rows.length + 1) * b ≤ 70368744177664) (h2 : rows.length + 1 ≤ 70368744177664) :
    ∃ av' m', appR n b m av (.p (.vals n [r])) = some (av', m') ∧ OutG n m' (rows ++ [r]) av' ∧ m.length ≤ m'.length ∧ ∀ (i : Nat) (cs : List AV), m[i]? = some (.cells cs) → m'[i]? = some (.cells cs) := by
  obtain ⟨tok, m', h⟩ := appR_tv h r h1 h2
  exact ⟨_, m', h⟩
theorem take_step {α : Type} {l : List α} {i : Nat} {x : α} (h : l[i]? = some x) : l.take (i + 1) = l.take i ++ [x] := by
  obtain ⟨h1, h2⟩ := List.getElem?_eq_some_iff.1 h
  rw [List.take_succ_eq_append_getElem h1, h2]
theorem out_set {n : Nat} {m : Mem} {rows : List (List PV)} {av : AV} (h : OutG n m rows av) {i : Nat} {cs : List AV} (hc : m[i]? = some (.cells cs)) (b : Blk) : OutG n (m.set i b) rows av := by
  rcases h with h | ⟨tok, rfl, ht⟩
  · exact .inl h
  · refine .inr ⟨tok, rfl, ?_⟩
    have : i ≠ tok := by
      rintro rfl
      rw [ht] at hc; cases hc
    rw [List.getElem?_set_ne this]; exact ht
theorem out_app {n : Nat} {m : Mem} {rows : List (List PV)} {av : AV} (h : OutG n m rows av) (l : Mem) : OutG n (m ++ l) rows av :=
  h.keep fun t q ht => get_app5 ht
theorem denF_ex {f : Nat} {xf : XFunc} (h : E.fn f = some xf) (hp : xf.pure = true) {n : Nat} {args args' : List AV} {P : AV → Prop} (ha : stripVs args = some args')
    (hd : Wp (den E (denF E n) n xf.body ⟨args' ++ List.replicate (xf.ntmps - args'.length) (.tup []), [], []⟩) fun e st => ∃ out1 m1, leave xf (some (e, st)) = some (out1, m1) ∧ ∃ v, stripOut out1 = some (.ret v) ∧ P v) : ∃ v, P v ∧ ∀ m, denF E (n + 1) f args m = some (.ret v, m) := by
  obtain ⟨e, st, h1, out1, m1, h2, v, h3, h4⟩ := hd
  refine ⟨v, h4, fun m => ?_⟩
  rw [denF, h]
  simp only [hp, if_true, ha, h1, leaveX_of h2, h3]
end Hx

namespace Hx
open Go
set_option linter.unusedSimpArgs false
set_option linter.unusedVariables false
set_option maxHeartbeats 64000000
set_option maxRecDepth 20000
variable {E : Env}
attribute [-simp] List.getD_eq_getElem?_getD getElem?_pos
theorem ltV_iff {a b : Val} : ltV a b = true ↔ ord5 a b < 0 := by
  unfold ltV
  have := ord5_vals a b
  rw [decide_eq_true_eq]
  omega
def putZ (k : Nat) (x : Row) (z : List Row) : List Row := putR ltV (keyN k) x z
theorem ZP_app (a b : List Row) : ZP (a ++ b) = ZP a ++ ZP b := by simp [ZP]
theorem ZP_len (a : List Row) : (ZP a).length = a.length := by simp [ZP]
structure PutInv (k : Nat) (x : Row) (z : List Row) (i : Nat) (m : Mem) (av : AV) (dn : Bool) (out : List Row) : Prop where
  o : OutG 1 m (ZP out) av
  len : out.length + (if dn then 0 else 1) ≤ i + 1
  eq : putZ k x z = out ++ (if dn then z.drop i else putZ k x (z.drop i))
theorem ref_put (u : C15 E) {t : Tbl} (ht : TblOk t) {k : Nat} (hkey : keyAt t = (k : Int)) (hcols : t.cols.length ≤ 20) {p : PV} {z : List Row} (hz : ListQ p z) (hk : ∀ e ∈ z, KeyOk k e) {x : Row} (hx : KeyOk k x) (hn : (z.length : Int) ≤ 1000000) (n : Nat) (hf : z.length + 1000 ≤ n) :
    ∃ o, ListQ o (putZ k x z) ∧ ∀ m, denF E (n + 1) 163 [.p (.agg (tblP t)), .p p, .p (.vals 3 (x.map valP))] m = some (.ret (.p o), m) := by
  obtain ⟨j, rfl⟩ : ∃ j, n = j + 1 := ⟨n - 1, by omega⟩
  have f1 := ht.f.flat
  unfold PV.flat at f1
  have hK := fun m => ref_Key u.key ht.f (by omega) j (by omega) m
  rw [hkey] at hK
  simp only [tblP] at hK
  have hxk := row_key hx.lt
  have zq := hz
  have hmain : ∀ st, Live Fn.f_haulageref15_put_k0 (Fn.f_haulageref15_put_s0 (.p p) (.p (.vals 3 (x.map valP))) (.p (.int .i64 k)) (.p .nils) (.p (.bool false)) (.p (.int .i64 0))) [.cells ((tblP t).map .p)] st →
      Wp (iter (loopF E (denF E (j + 1)) (j + 1) Fn.f_haulageref15_put_k0 Fn.f_haulageref15_put_b0) (j + 1) st)
      (fun e st => e = .exit 0 ∧ st.ds = [] ∧ st.ts.length = 58 ∧ st.ts.getD 2 (.tup []) = .p (.vals 3 (x.map valP)) ∧ ∃ dn out, st.ts.getD 9 (.tup []) = .p (.bool dn) ∧ OutG 1 st.m (ZP out) (st.ts.getD 8 (.tup [])) ∧ out.length ≤ z.length + 1 ∧ putZ k x z = out ++ (if dn then [] else [x])) := by
    intro st0 hst0
    refine loop_wp (α := Nat × Mem × AV × Bool × List Row) (I := fun s st => s.1 ≤ z.length ∧ PutInv k x z s.1 s.2.1 s.2.2.1 s.2.2.2.1 s.2.2.2.2 ∧ Live Fn.f_haulageref15_put_k0 (Fn.f_haulageref15_put_s0 (.p p) (.p (.vals 3 (x.map valP))) (.p (.int .i64 k)) s.2.2.1 (.p (.bool s.2.2.2.1)) (.p (.int .i64 s.1))) s.2.1 st) (meas := fun s => z.length - s.1) ?_ (j + 1) (0, [.cells ((tblP t).map .p)], .p .nils, false, []) _ ⟨Nat.zero_le _, ⟨.inl ⟨rfl, rfl⟩, by simp, by simp⟩, hst0⟩ (by simp only [Nat.sub_zero]; omega)
    rintro ⟨i, m, av, dn, out⟩ st ⟨hi, ⟨ho, hol, heq⟩, hlive⟩
    simp only at hi ho hol heq hlive
    have hol0 : out.length ≤ i + 1 := by omega
    rw [loopF_live hlive]
    by_cases hlt : i < z.length
    · have hlt' : (i : Int) < z.length := by omega
      obtain ⟨e, he⟩ : ∃ e, z[i]? = some e := ⟨_, List.getElem?_eq_getElem hlt⟩
      have hek' := hk e (List.mem_of_getElem? he)
      have hek := row_key hek'.lt
      have hw : IntKind.i64.wrap ((i : Int) + 1) = ((i + 1 : Nat) : Int) := by rw [wrap_i64 (by omega) (by omega)]; omega
      have hO : ∀ m, denF E (j + 1) 42 [.p (.agg (valP (keyN k e))), .p (.agg (valP (keyN k x)))] m = some (.ret (.p (.int .i64 (ord5 (keyN k e) (keyN k x)))), m) := fun m => ref_VOrder5Q u.order u.norder j (keyN k e).1 (keyN k e).2.1 (keyN k x).1 (keyN k x).2.1 (keyN k e).2.2 (keyN k x).2.2 (by have := hek'.len; omega) (by have := hek'.len; omega) m
      simp only [valP] at hO
      have hdr : z.drop i = e :: z.drop (i + 1) := by
        obtain ⟨h1, h2⟩ := List.getElem?_eq_some_iff.1 he
        rw [List.drop_eq_getElem_cons h1, h2]
      rw [hdr] at heq
      have hzl := ZP_len out
      rcases zq with ⟨rfl, rfl⟩ | rfl
      · simp at hlt
      obtain ⟨av1, m1, ha1, ho1, -, -⟩ := appR_out (b := 24) ho (rowP e) (by omega) (by omega)
      obtain ⟨av2, m2, ha2, ho2, -, -⟩ := appR_out (b := 24) ho (rowP x) (by omega) (by omega)
      rw [← show ZP [e] = [rowP e] from rfl, ← ZP_app] at ho1
      rw [← show ZP [x] = [rowP x] from rfl, ← ZP_app] at ho2
      obtain ⟨av3, m3, ha3, ho3, -, -⟩ := appR_out (b := 24) ho2 (rowP e) (by rw [ZP_len, List.length_append]; simp; omega) (by rw [ZP_len, List.length_append]; simp; omega)
      rw [← show ZP [e] = [rowP e] from rfl, ← ZP_app] at ho3
      simp only [rowP] at ha1 ha2 ha3
      generalize hq0 : ord5 (keyN k e) (keyN k x) = q at hO
      have hqv := ord5_vals (keyN k e) (keyN k x)
      rw [hq0] at hqv
      cases dn with
      | true =>
        simp only [if_true] at heq
        have hfin : PutInv k x z (i + 1) m1 av1 true (out ++ [e]) := ⟨ho1, by simp at hol ⊢; omega, by rw [heq]; simp⟩
        have hc1 : (decide (0 ≤ q) && false) = false := by simp
        by_cases q1 : 0 ≤ q
        all_goals
          simp (maxSteps := 4000000) [Fn.f_haulageref15_put_b0, Fn.f_haulageref15_put_s0, ZP, rowP, valP, hlt, hlt', he, hek, hxk, hO, u.order, p42, q1, ha1, hw, -Int.natCast_add]
          exact ⟨i + 1, by omega, hlt, m1, av1, .inr ⟨⟨_, hfin⟩, rfl, rfl, rfl, rfl⟩⟩
      | false =>
        simp only [Bool.false_eq_true, if_false] at heq
        by_cases q1 : 0 ≤ q
        · by_cases q2 : q = 0
          · subst q2
            have hke := ord5_0 hq0
            have hlt0 : ltV (keyN k e) (keyN k x) = false := by rw [Bool.eq_false_iff]; intro h; rw [ltV_iff, hq0] at h; omega
            have heq2 : putZ k x (e :: z.drop (i + 1)) = x :: z.drop (i + 1) := by unfold putZ putR; rw [if_neg (by rw [hlt0]; simp), if_pos hke]
            have hfin : PutInv k x z (i + 1) m2 av2 true (out ++ [x]) := ⟨ho2, by simp at hol ⊢; omega, by rw [heq, heq2]; simp⟩
            simp (maxSteps := 4000000) [Fn.f_haulageref15_put_b0, Fn.f_haulageref15_put_s0, ZP, rowP, valP, hlt, hlt', he, hek, hxk, hO, u.order, p42, ha2, hw, -Int.natCast_add]
            exact ⟨i + 1, by omega, hlt, m2, av2, .inr ⟨⟨_, hfin⟩, rfl, rfl, rfl, rfl⟩⟩
          · have q2b : (q == 0) = false := by simpa using q2
            have hlt0 : ltV (keyN k e) (keyN k x) = false := by rw [Bool.eq_false_iff]; intro h; rw [ltV_iff, hq0] at h; omega
            have hne : ¬ keyN k e = keyN k x := by intro h; rw [h, ord5_self] at hq0; exact q2 hq0.symm
            have heq2 : putZ k x (e :: z.drop (i + 1)) = x :: e :: z.drop (i + 1) := by unfold putZ putR; rw [if_neg (by rw [hlt0]; simp), if_neg hne]
            have hfin : PutInv k x z (i + 1) m3 av3 true (out ++ [x] ++ [e]) := ⟨ho3, by simp at hol ⊢; omega, by rw [heq, heq2]; simp⟩
            simp (maxSteps := 4000000) [Fn.f_haulageref15_put_b0, Fn.f_haulageref15_put_s0, ZP, rowP, valP, hlt, hlt', he, hek, hxk, hO, u.order, p42, q1, q2, q2b, ha2, ha3, hw, -Int.natCast_add]
            exact ⟨i + 1, by omega, hlt, m3, av3, .inr ⟨⟨_, hfin⟩, rfl, rfl, rfl, rfl⟩⟩
        · have hlt1 : ltV (keyN k e) (keyN k x) = true := by rw [ltV_iff, hq0]; omega
          have heq2 : putZ k x (e :: z.drop (i + 1)) = e :: putZ k x (z.drop (i + 1)) := by show putR ltV (keyN k) x (e :: z.drop (i + 1)) = _; rw [putR, if_pos hlt1]; rfl
          have hfin : PutInv k x z (i + 1) m1 av1 false (out ++ [e]) := ⟨ho1, by simp at hol ⊢; omega, by rw [heq, heq2]; simp⟩
          simp (maxSteps := 4000000) [Fn.f_haulageref15_put_b0, Fn.f_haulageref15_put_s0, ZP, rowP, valP, hlt, hlt', he, hek, hxk, hO, u.order, p42, q1, ha1, hw, -Int.natCast_add]
          exact ⟨i + 1, by omega, hlt, m1, av1, .inl ⟨⟨_, hfin⟩, rfl, rfl, rfl, rfl⟩⟩
    · have hlt' : ¬ (i : Int) < z.length := by omega
      rw [List.drop_eq_nil_of_le (by omega)] at heq
      have heq3 : putZ k x z = out ++ (if dn then [] else [x]) := by rw [heq]; cases dn <;> rfl
      have hol2 : out.length ≤ z.length + 1 := by omega
      rcases zq with ⟨rfl, rfl⟩ | rfl
      · obtain rfl : i = 0 := by simpa using hi
        simp (maxSteps := 4000000) [Fn.f_haulageref15_put_b0, Fn.f_haulageref15_put_s0]
        have hol3 : out.length ≤ 1 := by simpa using hol2
        cases dn with
        | true =>
          have e1 : putZ k x [] = out := by rw [heq3]; simp
          exact .inr ⟨rfl, by rw [e1]; exact ho, by rw [e1]; exact hol3⟩
        | false => exact .inl ⟨rfl, out, ho, hol3, heq3⟩
      · simp (maxSteps := 4000000) [Fn.f_haulageref15_put_b0, Fn.f_haulageref15_put_s0, ZP, hlt']
        cases dn with
        | true =>
          have e1 : putZ k x z = out := by rw [heq3]; simp
          exact .inr ⟨rfl, by rw [e1]; exact ho, by rw [e1]; exact hol2⟩
        | false => exact .inl ⟨rfl, out, ho, hol2, heq3⟩
  have hx : ∃ v, (∃ o, v = .p o ∧ ListQ o (putZ k x z)) ∧ ∀ m, denF E (j + 1 + 1) 163 [.p (.agg (tblP t)), .p p, .p (.vals 3 (x.map valP))] m = some (.ret v, m) := by
    refine denF_ex u.put rfl (args' := [.p (.agg (tblP t)), .p p, .p (.vals 3 (x.map valP))]) (by rcases hz with ⟨_, rfl⟩ | rfl <;> rfl) ?_
    simp (maxSteps := 4000000) [Fn.f_haulageref15_put, tblP, f1, hK, u.key]
    refine (hmain _ ⟨rfl, rfl, rfl, rfl⟩).mono ?_
    rintro e st ⟨rfl, hds, hlen, h2, dn, out, h9, ho, hol, heq⟩
    obtain ⟨ts', m', ds⟩ := st
    simp only at hds hlen h2 h9 ho
    subst hds
    have hx := expand_ts 58 ts' hlen
    simp only [List.range, List.range.loop, List.map_cons, List.map_nil] at hx
    obtain ⟨av2, m2, ha2, ho2, -, -⟩ := appR_out (b := 24) ho (rowP x) (by rw [ZP_len]; omega) (by rw [ZP_len]; omega)
    rw [← show ZP [x] = [rowP x] from rfl, ← ZP_app] at ho2
    simp only [rowP] at ha2
    generalize ts'.getD 8 (.tup []) = av at *
    rw [h9, h2] at hx
    rw [hx]
    cases dn with
    | true =>
      simp only [if_true, List.append_nil] at heq
      obtain ⟨o, q1, q2⟩ := ho.strip
      rw [heq]
      rcases ho with ⟨_, rfl⟩ | ⟨tok, rfl, _⟩
      all_goals
        simp at q1
        simp [q1, q2]
    | false =>
      simp only [Bool.false_eq_true, if_false] at heq
      obtain ⟨o, q1, q2⟩ := ho2.strip
      rw [heq]
      rcases ho2 with ⟨_, rfl⟩ | ⟨tok, rfl, _⟩
      all_goals
        simp at q1
        simp [ha2, q1, q2]
  obtain ⟨v, ⟨o, rfl, ho⟩, hrun⟩ := hx
  exact ⟨o, ho, hrun⟩
end Hx

namespace Hx
open Go
set_option linter.unusedSimpArgs false
set_option linter.unusedVariables false
set_option maxHeartbeats 64000000
set_option maxRecDepth 20000
variable {E : Env}
attribute [-simp] List.getD_eq_getElem?_getD getElem?_pos
abbrev RE := Int × PV × List Row
def reP (e : RE) : List PV := [.int .i64 e.1, e.2.1]
def RZ (es : List RE) : List (List PV) := es.map reP
def RsQ (rp : PV) (es : List RE) : Prop := (es = [] ∧ rp = .nils) ∨ rp = .vals 2 (RZ es)
theorem RsQ.flat {p : PV} {z : List RE} (h : RsQ p z) : p.flat = true := by rcases h with ⟨_, rfl⟩ | rfl <;> rfl
theorem RZ_app (a b : List RE) : RZ (a ++ b) = RZ a ++ RZ b := by simp [RZ]
theorem RZ_len (a : List RE) : (RZ a).length = a.length := by simp [RZ]
theorem OutG.stripR {m : Mem} {z : List RE} {av : AV} (h : OutG 2 m (RZ z) av) : ∃ o, stripV av = some (.p o) ∧ RsQ o z := by
  rcases h with ⟨h1, rfl⟩ | ⟨tok, rfl, _⟩
  · refine ⟨.nils, by simp, .inl ⟨by simpa [RZ] using h1, rfl⟩⟩
  · exact ⟨.vals 2 (RZ z), by simp, .inr rfl⟩
def setE15 (a : Nat) (lp : PV) (z : List Row) (es : List RE) : List RE := es.modify a fun e => (e.1, lp, z)
structure WithInv (tp rp : PV) (es' : List RE) (i : Nat) (m : Mem) (av : AV) : Prop where
  m0 : m[0]? = some (.cells [.p tp, .p rp])
  m1 : m[1]? = some (.cells [.p .nils, .p .nils])
  m2 : m[2]? = some (.cells [.p tp, av])
  o : OutG 2 m (RZ (es'.take i)) av
theorem ref_with (u : C15 E) {tp rp : PV} (ht : tp.flat = true) {es : List RE} (hr : RsQ rp es) (hle : ∀ e ∈ es, e.2.1.flat = true) (a : Nat) {lp : PV} (hlp : lp.flat = true) (z : List Row) (hn : (es.length : Int) ≤ 1000000) (n : Nat) (hf : es.length + 10 ≤ n) :
    ∃ o, RsQ o (setE15 a lp z es) ∧ ∀ m, denF E (n + 1) 161 [.p (.agg [tp, rp]), .p (.int .i64 a), .p lp] m = some (.ret (.p (.agg [tp, o])), m) := by
  have f1 := ht
  have f2 := hr.flat
  have f3 := hlp
  unfold PV.flat at f1 f2 f3
  have f5 : lp.cells = [lp] := by cases lp <;> first | rfl | cases hlp
  unfold PV.cells at f5
  have hlen' : (setE15 a lp z es).length = es.length := by simp [setE15]
  generalize hes' : setE15 a lp z es = es' at hlen'
  have hmain : ∀ st, Live Fn.f_haulageref15_with_k0 (Fn.f_haulageref15_with_s0 (.p (.int .i64 a)) (.p lp) (.ptr 0 0) (.ptr 1 0) (.ptr 2 0) (.p (.int .i64 0))) [.cells [.p tp, .p rp], .cells [.p .nils, .p .nils], .cells [.p tp, .p .nils]] st →
      Wp (iter (loopF E (denF E n) n Fn.f_haulageref15_with_k0 Fn.f_haulageref15_with_b0) n st)
      (fun e st => e = .exit 0 ∧ st.ds = [] ∧ st.ts.length = 37 ∧ st.ts.getD 6 (.tup []) = .ptr 1 0 ∧ st.ts.getD 7 (.tup []) = .ptr 2 0 ∧ ∃ av, WithInv tp rp es' es.length st.m av) := by
    intro st0 hst0
    refine loop_wp (α := Nat × Mem × AV) (I := fun s st => s.1 ≤ es.length ∧ WithInv tp rp es' s.1 s.2.1 s.2.2 ∧ Live Fn.f_haulageref15_with_k0 (Fn.f_haulageref15_with_s0 (.p (.int .i64 a)) (.p lp) (.ptr 0 0) (.ptr 1 0) (.ptr 2 0) (.p (.int .i64 s.1))) s.2.1 st) (meas := fun s => es.length - s.1) ?_ n (0, [.cells [.p tp, .p rp], .cells [.p .nils, .p .nils], .cells [.p tp, .p .nils]], .p .nils) _ ⟨Nat.zero_le _, ⟨rfl, rfl, rfl, .inl ⟨rfl, rfl⟩⟩, hst0⟩ (by simp only [Nat.sub_zero]; omega)
    rintro ⟨i, m, av⟩ st ⟨hi, ⟨m0, m1, m2, ho⟩, hlive⟩
    simp only at hi m0 m1 m2 ho hlive
    rw [loopF_live hlive]
    by_cases hlt : i < es.length
    · have hlt' : (i : Int) < es.length := by omega
      obtain ⟨e, he⟩ : ∃ e, es[i]? = some e := ⟨_, List.getElem?_eq_getElem hlt⟩
      have hw : IntKind.i64.wrap ((i : Int) + 1) = ((i + 1 : Nat) : Int) := by rw [wrap_i64 (by omega) (by omega)]; omega
      have g0 : ∀ l : Mem, (m ++ l)[0]? = some (.cells [.p tp, .p rp]) := fun l => get_app5 m0
      have g1 : ∀ l : Mem, (m ++ l)[1]? = some (.cells [.p .nils, .p .nils]) := fun l => get_app5 m1
      have g2 : ∀ l : Mem, (m ++ l)[2]? = some (.cells [.p tp, av]) := fun l => get_app5 m2
      have hee : es'[i]? = some (if a = i then (e.1, lp, z) else e) := by
        rw [← hes', setE15, List.getElem?_modify, he]
        by_cases q : a = i <;> simp [q]
      obtain ⟨e1, e2, e3⟩ := e
      have f4 := hle _ (List.mem_of_getElem? he)
      unfold PV.flat at f4
      simp only at f4
      rcases hr with ⟨rfl, rfl⟩ | rfl
      · simp at hlt
      have hlen2 : (es'.take i).length ≤ 1000000 := by rw [List.length_take]; omega
      have key : ∀ (p : PV), (if a = i then ((e1, lp, z) : RE) else (e1, e2, e3)).2.1 = p → ∃ R tok m', appR 2 32 (m ++ [.cells [.p (.int .i64 e1), .p p]]) av (.p (.vals 2 [[.int .i64 e1, p]])) = some (.tv 2 R tok, m') ∧ m'[2]? = some (.cells [.p tp, av]) ∧ WithInv tp (.vals 2 (RZ es)) es' (i + 1) (m'.set 2 (.cells [.p tp, .tv 2 R tok])) (.tv 2 R tok) := by
        intro p hp
        obtain ⟨tok, m', h1, h2, h3, h4⟩ := appR_tv (b := 32) (out_app ho [.cells [.p (.int .i64 e1), .p p]]) [.int .i64 e1, p] (by rw [RZ_len]; omega) (by rw [RZ_len]; omega)
        refine ⟨_, tok, m', h1, h4 _ _ (g2 _), ?_, ?_, ?_, ?_⟩
        · rw [List.getElem?_set_ne (by decide)]; exact h4 _ _ (g0 _)
        · rw [List.getElem?_set_ne (by decide)]; exact h4 _ _ (g1 _)
        · rw [List.getElem?_set_self (idx_lt (h4 _ _ (g2 _)))]
        · refine out_set ?_ (h4 _ _ (g2 _)) _
          rw [take_step hee, RZ_app]
          have : RZ [if a = i then ((e1, lp, z) : RE) else (e1, e2, e3)] = [[.int .i64 e1, p]] := by
            rw [← hp]
            by_cases q : a = i <;> simp [q, RZ, reP]
          rw [this]; exact h2
      by_cases q : i = a
      · obtain ⟨R, tok, m', h1, h2, h3⟩ := key lp (by rw [if_pos q.symm])
        subst q
        simp (maxSteps := 4000000) [Fn.f_haulageref15_with_b0, Fn.f_haulageref15_with_s0, RZ, reP, f3, f4, f5, hlt, hlt', he, hw, m0, m1, m2, g0, g1, g2, ln_at0, ln_set0, h1, h2, -Int.natCast_add]
        exact ⟨i + 1, by omega, hlt, _, ⟨_, h3⟩, rfl, rfl, rfl, rfl⟩
      · obtain ⟨R, tok, m', h1, h2, h3⟩ := key e2 (by rw [if_neg (fun h => q h.symm)])
        have q' : ((i : Int) == (a : Int)) = false := by rw [beq_eq_false_iff_ne]; omega
        simp (maxSteps := 4000000) [Fn.f_haulageref15_with_b0, Fn.f_haulageref15_with_s0, RZ, reP, f3, f4, f5, hlt, hlt', he, q, q', hw, m0, m1, m2, g0, g1, g2, ln_at0, ln_set0, h1, h2, -Int.natCast_add]
        exact ⟨i + 1, by omega, hlt, _, ⟨_, h3⟩, rfl, rfl, rfl, rfl⟩
    · have hlt' : ¬ (i : Int) < es.length := by omega
      obtain rfl : i = es.length := by omega
      have hinv : WithInv tp rp es' es.length m av := ⟨m0, m1, m2, ho⟩
      rcases hr with ⟨rfl, rfl⟩ | rfl
      · simp (maxSteps := 4000000) [Fn.f_haulageref15_with_b0, Fn.f_haulageref15_with_s0, m0]
        exact ⟨av, hinv⟩
      · simp (maxSteps := 4000000) [Fn.f_haulageref15_with_b0, Fn.f_haulageref15_with_s0, RZ, m0]
        exact ⟨av, hinv⟩
  have hx : ∃ v, (∃ o, v = .p (.agg [tp, o]) ∧ RsQ o es') ∧ ∀ m, denF E (n + 1) 161 [.p (.agg [tp, rp]), .p (.int .i64 a), .p lp] m = some (.ret v, m) := by
    refine denF_ex u.with_ rfl (args' := [.p (.agg [tp, rp]), .p (.int .i64 a), .p lp]) rfl ?_
    simp (maxSteps := 4000000) [Fn.f_haulageref15_with, f1, f2]
    refine (hmain _ ⟨rfl, rfl, rfl, rfl⟩).mono ?_
    rintro e st ⟨rfl, hds, hlen, h6, h7, av, ⟨m0, m1, m2, ho⟩⟩
    obtain ⟨ts', m', ds⟩ := st
    simp only at hds hlen h6 h7 m0 m1 m2 ho
    subst hds
    have hx := expand_ts 37 ts' hlen
    simp only [List.range, List.range.loop, List.map_cons, List.map_nil] at hx
    rw [h6, h7] at hx
    rw [hx]
    rw [List.take_of_length_le (by omega)] at ho
    obtain ⟨o, q1, q2⟩ := ho.stripR
    have i1 := idx_lt m1
    rcases ho with ⟨_, rfl⟩ | ⟨tok, rfl, _⟩
    all_goals
      simp at q1
      subst q1
      simp (maxSteps := 4000000) [m1, m2, i1, f1, q2]
  obtain ⟨v, ⟨o, rfl, ho⟩, hrun⟩ := hx
  exact ⟨o, ho, hrun⟩
end Hx
