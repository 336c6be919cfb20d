/- Messages: how they are drawn, checked and written. -/
import Derived.Test.YtieocmaaloaoaaaDoorRp
import Derived.Test.YtieocmaaloaoaaaDoorDc
import Derived.Test.YtieocmaaloaoaaaDoorLp
namespace Go.Vm.Tryd
set_option linter.unusedSectionVars false
set_option linter.unusedSimpArgs false
set_option linter.unusedVariables false
set_option maxRecDepth 10000
/-- A byte that words of messages have: no blank, colon or quotation mark. -/
def okc (c : UInt8) : Prop := 33 ≤ c.toNat ∧ c.toNat ≤ 126 ∧ c ≠ 58 ∧ c ≠ 34
theorem Drawn.fresh {H0 H : VH} {b k : Nat} (d : Drawn H0 H b k) (cs : List AV) : Drawn H0 (H.fresh cs) b k :=
  ⟨d.st.fresh d.ok cs, d.keep.trans (Keep.fresh _ _ _), fresh_ok d.ok cs, d.low⟩
theorem word_loop (n : Nat) (hn : 60 ≤ n) {H0 : VH} {b k : Nat} (hb0 : b < H0.next) (hk : k < 900000000) (N : Nat) (hN : N ≤ 8) :
    ∀ (m i : Nat) (l : List UInt8) (H : VH), i ≤ N → N - i < m → l.length = i → (∀ x ∈ l, 33 ≤ x.toNat ∧ x.toNat ≤ 126) → Drawn H0 H b (k + i) →
      ∃ (l' : List UInt8) (H' : VH), loopN (L106_0 (vcall T ext promo n) n (some (b, 0)) (N : Int)) m [.str (PS.of l), .int .i64 (i : Int)] H = some (.exit 0, [.str (PS.of l')], H') ∧ l'.length = N ∧ (∀ x ∈ l', 33 ≤ x.toNat ∧ x.toNat ≤ 126) ∧ Drawn H0 H' b (k + N) := by
  intro m
  induction m with
  | zero => intro i l H _ h; omega
  | succ m ih =>
    intro i l H hi hm hl ha hd
    rw [loopN_succ]
    generalize hlp : loopN (L106_0 (vcall T ext promo n) n (some (b, 0)) (N : Int)) m = lp at ih ⊢
    unfold L106_0
    simp only [letH_mk, bindC_mk, bindV_mk, bindH_mk, bindJ_mk, asB_mk, asI_mk, asS_mk, asP_mk, asSl_mk, asA_mk, asTu_mk, asSome_mk, unc_mk, endL_mk, selC_eq, condT_eq, letN_mk, letB_mk, case_nn, case_nr, case_ne, case_rn, case_rr, case_re, case_en, case_er, case_ee, decide_eq_true_eq, Bool.not_true, Bool.not_false, Bool.false_eq_true, if_false, if_true, Bool.not_eq_true', decide_eq_false_iff_not, ilt_eq, ile_eq, reduceCtorEq, not_false_eq_true, not_true_eq_false]
    by_cases h : i < N
    · obtain ⟨r, H1, e1, r1, r2, d1⟩ := range_ok n (by omega) hd.ok hd.st (by omega) 33 126 (by omega) (by omega) (by omega)
      obtain ⟨r, rfl⟩ : ∃ r' : Nat, r = (r' : Int) := ⟨r.toNat, by omega⟩
      have hx : (UInt8.ofNat r).toNat = r := by rw [UInt8.toNat_ofNat']; omega
      have hc := conv88 (H := H1.fresh (byteCells [UInt8.ofNat r])) (b := H1.next) (o := 0) (k := 1) (c := some 1) (e := 1) [UInt8.ofNat r] (fresh_cells d1.ok _ 0 1 (by simp [byteCells]))
      have hcell : ([.int .u8 (r : Int)] : List AV) = byteCells [UInt8.ofNat r] := by simp [byteCells, hx]
      rw [if_pos (by omega), e1]
      simp only [letH_mk, bindC_mk, bindV_mk, bindH_mk, bindJ_mk, asB_mk, asI_mk, asS_mk, asP_mk, asSl_mk, asA_mk, asTu_mk, asSome_mk, unc_mk, endL_mk, selC_eq, condT_eq, letN_mk, letB_mk, case_nn, case_nr, case_ne, case_rn, case_rr, case_re, case_en, case_er, case_ee, decide_eq_true_eq, Bool.not_true, Bool.not_false, Bool.false_eq_true, if_false, if_true, Bool.not_eq_true', decide_eq_false_iff_not, ilt_eq, ile_eq, reduceCtorEq, not_false_eq_true, not_true_eq_false]
      rw [fw_u8i r (by omega), hcell, hc]
      simp only [letH_mk, bindC_mk, bindV_mk, bindH_mk, bindJ_mk, asB_mk, asI_mk, asS_mk, asP_mk, asSl_mk, asA_mk, asTu_mk, asSome_mk, unc_mk, endL_mk, selC_eq, condT_eq, letN_mk, letB_mk, case_nn, case_nr, case_ne, case_rn, case_rr, case_re, case_en, case_er, case_ee, decide_eq_true_eq, Bool.not_true, Bool.not_false, Bool.false_eq_true, if_false, if_true, Bool.not_eq_true', decide_eq_false_iff_not, ilt_eq, ile_eq, reduceCtorEq, not_false_eq_true, not_true_eq_false]
      rw [str_add _ _ (by simp; omega)]
      simp only [letH_mk, bindC_mk, bindV_mk, bindH_mk, bindJ_mk, asB_mk, asI_mk, asS_mk, asP_mk, asSl_mk, asA_mk, asTu_mk, asSome_mk, unc_mk, endL_mk, selC_eq, condT_eq, letN_mk, letB_mk, case_nn, case_nr, case_ne, case_rn, case_rr, case_re, case_en, case_er, case_ee, decide_eq_true_eq, Bool.not_true, Bool.not_false, Bool.false_eq_true, if_false, if_true, Bool.not_eq_true', decide_eq_false_iff_not, ilt_eq, ile_eq, reduceCtorEq, not_false_eq_true, not_true_eq_false]
      rw [fw_i64 (by omega) (by omega)]
      exact ih (i + 1) (l ++ [UInt8.ofNat r]) _ (by omega) (by omega) (by simp [hl]) (fun x hx2 => by
        rcases List.mem_append.1 hx2 with g | g
        · exact ha x g
        · have : x = UInt8.ofNat r := by simpa using g
          subst this
          rw [hx]
          omega) ((hd.trans d1).fresh _)
    · rw [if_neg (by omega)]
      exact ⟨l, H, rfl, by omega, ha, by rwa [show i = N by omega] at hd⟩
theorem nWord_ok (n : Nat) (hn : 100 ≤ n) {H : VH} {b k : Nat} (hH : H.Ok) (hs : StB H b k) (hk : k < 800000000) :
    ∃ (l : List UInt8) (H' : VH), vcall T ext promo n 106 [.ptr (some (b, 0))] H = some (.str (PS.of l), H') ∧ 1 ≤ l.length ∧ l.length ≤ 8 ∧ (∀ x ∈ l, okc x) ∧ Drawn H H' b (k + 9) := by
  obtain ⟨n, rfl⟩ : ∃ m, n = m + 1 := ⟨n - 1, by omega⟩
  obtain ⟨N, H1, e1, N1, N2, d1⟩ := range_ok n (by omega) (lo_ok hH) hs.lo (by omega) 1 8 (by omega) (by omega) (by omega)
  obtain ⟨N, rfl⟩ : ∃ N' : Nat, N = (N' : Int) := ⟨N.toNat, by omega⟩
  obtain ⟨l, H2, e2, l2, a2, d2⟩ := word_loop n (by omega) (hs.lo.lt (lo_ok hH)) (k := k + 1) (by omega) N (by omega) n 0 [] H1 (by omega) (by omega) rfl (fun _ h => by cases h) d1
  refine ⟨repl1 34 113 (repl1 58 99 l), _, ok106 _ _ _ (r := (.str (PS.of (repl1 34 113 (repl1 58 99 l))), leave H H2 (.str (PS.of (repl1 34 113 (repl1 58 99 l)))))) ?_, by rw [repl1_len, repl1_len]; omega, by rw [repl1_len, repl1_len]; omega, fun x hx => ?_, (d2.up (by omega)).leave hH (hs.lt hH) _⟩
  · unfold F106
    simp only [letH_mk]
    rw [e1]
    simp only [letH_mk, bindC_mk, bindV_mk, bindH_mk, bindJ_mk, asB_mk, asI_mk, asS_mk, asP_mk, asSl_mk, asA_mk, asTu_mk, asSome_mk, unc_mk, endL_mk, selC_eq, condT_eq, letN_mk, letB_mk, case_nn, case_nr, case_ne, case_rn, case_rr, case_re, case_en, case_er, case_ee, decide_eq_true_eq, Bool.not_true, Bool.not_false, Bool.false_eq_true, if_false, if_true, Bool.not_eq_true', decide_eq_false_iff_not, ilt_eq, ile_eq, reduceCtorEq, not_false_eq_true, not_true_eq_false]
    rw [show (.int .i64 0 : AV) = .int .i64 ((0 : Nat) : Int) from rfl, e2]
    simp only [letH_mk, bindC_mk, bindV_mk, bindH_mk, bindJ_mk, asB_mk, asI_mk, asS_mk, asP_mk, asSl_mk, asA_mk, asTu_mk, asSome_mk, unc_mk, endL_mk, selC_eq, condT_eq, letN_mk, letB_mk, case_nn, case_nr, case_ne, case_rn, case_rr, case_re, case_en, case_er, case_ee, decide_eq_true_eq, Bool.not_true, Bool.not_false, Bool.false_eq_true, if_false, if_true, Bool.not_eq_true', decide_eq_false_iff_not, ilt_eq, ile_eq, reduceCtorEq, not_false_eq_true, not_true_eq_false]
    rw [replaceAll1_ok n l (by omega) (by omega) 58 99 (by decide) d2.ok]
    simp only [letH_mk, bindC_mk, bindV_mk, bindH_mk, bindJ_mk, asB_mk, asI_mk, asS_mk, asP_mk, asSl_mk, asA_mk, asTu_mk, asSome_mk, unc_mk, endL_mk, selC_eq, condT_eq, letN_mk, letB_mk, case_nn, case_nr, case_ne, case_rn, case_rr, case_re, case_en, case_er, case_ee, decide_eq_true_eq, Bool.not_true, Bool.not_false, Bool.false_eq_true, if_false, if_true, Bool.not_eq_true', decide_eq_false_iff_not, ilt_eq, ile_eq, reduceCtorEq, not_false_eq_true, not_true_eq_false]
    rw [replaceAll1_ok n _ (by rw [repl1_len]; omega) (by rw [repl1_len]; omega) 34 113 (by decide) d2.ok]
    simp only [letH_mk, bindC_mk, bindV_mk, bindH_mk, bindJ_mk, asB_mk, asI_mk, asS_mk, asP_mk, asSl_mk, asA_mk, asTu_mk, asSome_mk, unc_mk, endL_mk, selC_eq, condT_eq, letN_mk, letB_mk, case_nn, case_nr, case_ne, case_rn, case_rr, case_re, case_en, case_er, case_ee, decide_eq_true_eq, Bool.not_true, Bool.not_false, Bool.false_eq_true, if_false, if_true, Bool.not_eq_true', decide_eq_false_iff_not, ilt_eq, ile_eq, reduceCtorEq, not_false_eq_true, not_true_eq_false]
  · obtain ⟨y, hy, rfl⟩ := List.mem_map.1 hx
    obtain ⟨z, hz, rfl⟩ := List.mem_map.1 hy
    have := a2 z hz
    by_cases h1 : z = 58
    · subst h1; exact ⟨by decide, by decide, by decide, by decide⟩
    · rw [if_neg h1]
      by_cases h2 : z = 34
      · subst h2; exact ⟨by decide, by decide, by decide, by decide⟩
      · rw [if_neg h2]
        exact ⟨this.1, this.2, h1, h2⟩
/-- A message as the law draws it. -/
structure Msg (f : List UInt8) (ln co cd : Nat) (t : List UInt8) : Prop where
  f1 : 1 ≤ f.length
  f2 : f.length ≤ 9
  f3 : ∀ x ∈ f, okc x
  ln1 : 1 ≤ ln
  ln2 : ln ≤ 300
  co1 : 1 ≤ co
  co2 : co ≤ 90
  cd1 : 1 ≤ cd
  cd2 : cd ≤ 22
  t1 : t.length ≤ 8
  t2 : ∀ x ∈ t, okc x
abbrev noteV (f : List UInt8) (ln co cd : Nat) (t : List UInt8) : AV := .agg [.str (PS.of f), .int .i64 (ln : Int), .int .i64 (co : Int), .int .i64 (cd : Int), .str (PS.of t)]
theorem message_ok (n : Nat) (hn : 120 ≤ n) {H : VH} {b k : Nat} (hH : H.Ok) (hs : StB H b k) (hk : k < 700000000) :
    ∃ (f : List UInt8) (ln co cd : Nat) (t : List UInt8) (H' : VH), vcall T ext promo n 58 [.ptr (some (b, 0))] H = some (noteV f ln co cd t, H') ∧ Msg f ln co cd t ∧ Drawn H H' b (k + 22) := by
  obtain ⟨n, rfl⟩ : ∃ m, n = m + 1 := ⟨n - 1, by omega⟩
  obtain ⟨l, H1, e1, l1, l2, l3, d1⟩ := nWord_ok n (by omega) (lo_ok hH) hs.lo (by omega)
  obtain ⟨ln, H2, e2, a1, a2, d2⟩ := range_ok n (by omega) d1.ok d1.st (by omega) 1 300 (by omega) (by omega) (by omega)
  obtain ⟨ln, rfl⟩ : ∃ N' : Nat, ln = (N' : Int) := ⟨ln.toNat, by omega⟩
  obtain ⟨co, H3, e3, b1, b2, d3⟩ := range_ok n (by omega) d2.ok d2.st (by omega) 1 90 (by omega) (by omega) (by omega)
  obtain ⟨co, rfl⟩ : ∃ N' : Nat, co = (N' : Int) := ⟨co.toNat, by omega⟩
  obtain ⟨cd, H4, e4, c1, c2, d4⟩ := range_ok n (by omega) d3.ok d3.st (by omega) 1 22 (by omega) (by omega) (by omega)
  obtain ⟨cd, rfl⟩ : ∃ N' : Nat, cd = (N' : Int) := ⟨cd.toNat, by omega⟩
  obtain ⟨g, H5, e5, d5⟩ := flip_ok n (by omega) d4.ok d4.st (by omega) 3 (by omega)
  have d15 := (((d1.trans d2).trans d3).trans d4).trans d5
  have hf : ∀ x ∈ (102 :: l), okc x := fun x hx => by
    rcases List.mem_cons.1 hx with rfl | hx
    · exact ⟨by decide, by decide, by decide, by decide⟩
    · exact l3 x hx
  have hadd : vstrOp .add (PS.of [102]) (PS.of l) = some (.str (PS.of (102 :: l))) := str_add _ _ (by simp; omega)
  by_cases hg : g = true
  · subst hg
    refine ⟨102 :: l, ln, co, cd, [], _, ok58 _ _ _ (r := (_, leave H H5 (noteV (102 :: l) ln co cd []))) ?_, ⟨by simp, by simp; omega, hf, by omega, by omega, by omega, by omega, by omega, by omega, by simp, fun _ h => by cases h⟩, (d15.up (by omega)).leave hH (hs.lt hH) _⟩
    unfold F58
    simp only [letH_mk]
    rw [e1]
    simp only [letH_mk, bindC_mk, bindV_mk, bindH_mk, bindJ_mk, asB_mk, asI_mk, asS_mk, asP_mk, asSl_mk, asA_mk, asTu_mk, asSome_mk, unc_mk, endL_mk, selC_eq, condT_eq, letN_mk, letB_mk, case_nn, case_nr, case_ne, case_rn, case_rr, case_re, case_en, case_er, case_ee, decide_eq_true_eq, Bool.not_true, Bool.not_false, Bool.false_eq_true, if_false, if_true, Bool.not_eq_true', decide_eq_false_iff_not, ilt_eq, ile_eq, reduceCtorEq, not_false_eq_true, not_true_eq_false]
    rw [hadd]
    simp only [letH_mk, bindC_mk, bindV_mk, bindH_mk, bindJ_mk, asB_mk, asI_mk, asS_mk, asP_mk, asSl_mk, asA_mk, asTu_mk, asSome_mk, unc_mk, endL_mk, selC_eq, condT_eq, letN_mk, letB_mk, case_nn, case_nr, case_ne, case_rn, case_rr, case_re, case_en, case_er, case_ee, decide_eq_true_eq, Bool.not_true, Bool.not_false, Bool.false_eq_true, if_false, if_true, Bool.not_eq_true', decide_eq_false_iff_not, ilt_eq, ile_eq, reduceCtorEq, not_false_eq_true, not_true_eq_false]
    rw [e2]
    simp only [letH_mk, bindC_mk, bindV_mk, bindH_mk, bindJ_mk, asB_mk, asI_mk, asS_mk, asP_mk, asSl_mk, asA_mk, asTu_mk, asSome_mk, unc_mk, endL_mk, selC_eq, condT_eq, letN_mk, letB_mk, case_nn, case_nr, case_ne, case_rn, case_rr, case_re, case_en, case_er, case_ee, decide_eq_true_eq, Bool.not_true, Bool.not_false, Bool.false_eq_true, if_false, if_true, Bool.not_eq_true', decide_eq_false_iff_not, ilt_eq, ile_eq, reduceCtorEq, not_false_eq_true, not_true_eq_false]
    rw [e3]
    simp only [letH_mk, bindC_mk, bindV_mk, bindH_mk, bindJ_mk, asB_mk, asI_mk, asS_mk, asP_mk, asSl_mk, asA_mk, asTu_mk, asSome_mk, unc_mk, endL_mk, selC_eq, condT_eq, letN_mk, letB_mk, case_nn, case_nr, case_ne, case_rn, case_rr, case_re, case_en, case_er, case_ee, decide_eq_true_eq, Bool.not_true, Bool.not_false, Bool.false_eq_true, if_false, if_true, Bool.not_eq_true', decide_eq_false_iff_not, ilt_eq, ile_eq, reduceCtorEq, not_false_eq_true, not_true_eq_false]
    rw [e4]
    simp only [letH_mk, bindC_mk, bindV_mk, bindH_mk, bindJ_mk, asB_mk, asI_mk, asS_mk, asP_mk, asSl_mk, asA_mk, asTu_mk, asSome_mk, unc_mk, endL_mk, selC_eq, condT_eq, letN_mk, letB_mk, case_nn, case_nr, case_ne, case_rn, case_rr, case_re, case_en, case_er, case_ee, decide_eq_true_eq, Bool.not_true, Bool.not_false, Bool.false_eq_true, if_false, if_true, Bool.not_eq_true', decide_eq_false_iff_not, ilt_eq, ile_eq, reduceCtorEq, not_false_eq_true, not_true_eq_false]
    rw [e5]
    simp only [letH_mk, bindC_mk, bindV_mk, bindH_mk, bindJ_mk, asB_mk, asI_mk, asS_mk, asP_mk, asSl_mk, asA_mk, asTu_mk, asSome_mk, unc_mk, endL_mk, selC_eq, condT_eq, letN_mk, letB_mk, case_nn, case_nr, case_ne, case_rn, case_rr, case_re, case_en, case_er, case_ee, decide_eq_true_eq, Bool.not_true, Bool.not_false, Bool.false_eq_true, if_false, if_true, Bool.not_eq_true', decide_eq_false_iff_not, ilt_eq, ile_eq, reduceCtorEq, not_false_eq_true, not_true_eq_false]
  · have hg' : g = false := by simpa using hg
    subst hg'
    obtain ⟨t, H6, e6, t1, t2, t3, d6⟩ := nWord_ok n (by omega) d5.ok d5.st (by omega)
    refine ⟨102 :: l, ln, co, cd, t, _, ok58 _ _ _ (r := (_, leave H H6 (noteV (102 :: l) ln co cd t))) ?_, ⟨by simp, by simp; omega, hf, by omega, by omega, by omega, by omega, by omega, by omega, t2, t3⟩, ((d15.trans d6).up (by omega)).leave hH (hs.lt hH) _⟩
    unfold F58
    simp only [letH_mk]
    rw [e1]
    simp only [letH_mk, bindC_mk, bindV_mk, bindH_mk, bindJ_mk, asB_mk, asI_mk, asS_mk, asP_mk, asSl_mk, asA_mk, asTu_mk, asSome_mk, unc_mk, endL_mk, selC_eq, condT_eq, letN_mk, letB_mk, case_nn, case_nr, case_ne, case_rn, case_rr, case_re, case_en, case_er, case_ee, decide_eq_true_eq, Bool.not_true, Bool.not_false, Bool.false_eq_true, if_false, if_true, Bool.not_eq_true', decide_eq_false_iff_not, ilt_eq, ile_eq, reduceCtorEq, not_false_eq_true, not_true_eq_false]
    rw [hadd]
    simp only [letH_mk, bindC_mk, bindV_mk, bindH_mk, bindJ_mk, asB_mk, asI_mk, asS_mk, asP_mk, asSl_mk, asA_mk, asTu_mk, asSome_mk, unc_mk, endL_mk, selC_eq, condT_eq, letN_mk, letB_mk, case_nn, case_nr, case_ne, case_rn, case_rr, case_re, case_en, case_er, case_ee, decide_eq_true_eq, Bool.not_true, Bool.not_false, Bool.false_eq_true, if_false, if_true, Bool.not_eq_true', decide_eq_false_iff_not, ilt_eq, ile_eq, reduceCtorEq, not_false_eq_true, not_true_eq_false]
    rw [e2]
    simp only [letH_mk, bindC_mk, bindV_mk, bindH_mk, bindJ_mk, asB_mk, asI_mk, asS_mk, asP_mk, asSl_mk, asA_mk, asTu_mk, asSome_mk, unc_mk, endL_mk, selC_eq, condT_eq, letN_mk, letB_mk, case_nn, case_nr, case_ne, case_rn, case_rr, case_re, case_en, case_er, case_ee, decide_eq_true_eq, Bool.not_true, Bool.not_false, Bool.false_eq_true, if_false, if_true, Bool.not_eq_true', decide_eq_false_iff_not, ilt_eq, ile_eq, reduceCtorEq, not_false_eq_true, not_true_eq_false]
    rw [e3]
    simp only [letH_mk, bindC_mk, bindV_mk, bindH_mk, bindJ_mk, asB_mk, asI_mk, asS_mk, asP_mk, asSl_mk, asA_mk, asTu_mk, asSome_mk, unc_mk, endL_mk, selC_eq, condT_eq, letN_mk, letB_mk, case_nn, case_nr, case_ne, case_rn, case_rr, case_re, case_en, case_er, case_ee, decide_eq_true_eq, Bool.not_true, Bool.not_false, Bool.false_eq_true, if_false, if_true, Bool.not_eq_true', decide_eq_false_iff_not, ilt_eq, ile_eq, reduceCtorEq, not_false_eq_true, not_true_eq_false]
    rw [e4]
    simp only [letH_mk, bindC_mk, bindV_mk, bindH_mk, bindJ_mk, asB_mk, asI_mk, asS_mk, asP_mk, asSl_mk, asA_mk, asTu_mk, asSome_mk, unc_mk, endL_mk, selC_eq, condT_eq, letN_mk, letB_mk, case_nn, case_nr, case_ne, case_rn, case_rr, case_re, case_en, case_er, case_ee, decide_eq_true_eq, Bool.not_true, Bool.not_false, Bool.false_eq_true, if_false, if_true, Bool.not_eq_true', decide_eq_false_iff_not, ilt_eq, ile_eq, reduceCtorEq, not_false_eq_true, not_true_eq_false]
    rw [e5]
    simp only [letH_mk, bindC_mk, bindV_mk, bindH_mk, bindJ_mk, asB_mk, asI_mk, asS_mk, asP_mk, asSl_mk, asA_mk, asTu_mk, asSome_mk, unc_mk, endL_mk, selC_eq, condT_eq, letN_mk, letB_mk, case_nn, case_nr, case_ne, case_rn, case_rr, case_re, case_en, case_er, case_ee, decide_eq_true_eq, Bool.not_true, Bool.not_false, Bool.false_eq_true, if_false, if_true, Bool.not_eq_true', decide_eq_false_iff_not, ilt_eq, ile_eq, reduceCtorEq, not_false_eq_true, not_true_eq_false]
    rw [e6]
    simp only [letH_mk, bindC_mk, bindV_mk, bindH_mk, bindJ_mk, asB_mk, asI_mk, asS_mk, asP_mk, asSl_mk, asA_mk, asTu_mk, asSome_mk, unc_mk, endL_mk, selC_eq, condT_eq, letN_mk, letB_mk, case_nn, case_nr, case_ne, case_rn, case_rr, case_re, case_en, case_er, case_ee, decide_eq_true_eq, Bool.not_true, Bool.not_false, Bool.false_eq_true, if_false, if_true, Bool.not_eq_true', decide_eq_false_iff_not, ilt_eq, ile_eq, reduceCtorEq, not_false_eq_true, not_true_eq_false]
theorem Plain.putsL {b : Nat} : ∀ (vs : List AV) {H : VH} {cs : List AV} (o : Nat), Plain H b cs → H.Ok → o + vs.length ≤ cs.length → allOne vs = true → b < H.next →
    ∃ H', H.puts b o vs = some H' ∧ Plain H' b (cs.take o ++ vs ++ cs.drop (o + vs.length)) ∧ Keep (· = b) H H' ∧ H'.Ok ∧ H'.low ≤ H.low ∧ min H.low b ≤ H'.low ∧ H'.next = H.next
  | [], H, cs, o, hp, hH, _, _, _ => ⟨H, rfl, by simpa using hp, .refl _ _, hH, Nat.le_refl _, Nat.min_le_left _ _, rfl⟩
  | v :: vs, H, cs, o, hp, hH, ho, h1, hb => by
    simp only [allOne, Bool.and_eq_true] at h1
    simp only [List.length_cons] at ho
    obtain ⟨H1, e1, p1, k1, o1, l1, n1⟩ := hp.puts1 hH o (by omega) v h1.1
    obtain ⟨H2, e2, p2, k2, o2, l2, m2, n2⟩ := Plain.putsL vs (o + 1) p1 o1 (by simp; omega) h1.2 (by omega)
    refine ⟨H2, ?_, ?_, k1.trans k2, o2, by omega, by omega, by omega⟩
    · simp only [VH.puts] at e1 ⊢
      split at e1
      · rename_i H1' hq
        obtain rfl := Option.some.inj e1
        exact e2
      · cases e1
    · have e : cs.take o ++ v :: vs ++ cs.drop (o + (vs.length + 1)) = (cs.set o v).take (o + 1) ++ vs ++ (cs.set o v).drop (o + 1 + vs.length) := by
        rw [List.drop_set_of_lt (by omega), show o + (vs.length + 1) = o + 1 + vs.length by omega]
        congr 1
        rw [List.take_add_one, List.take_set_of_le (Nat.le_refl _), List.getElem?_set_self (by omega)]
        simp
      rw [List.length_cons, e]
      exact p2
/-- The words of the error codes. -/
def names : List (List UInt8) := [[], [97, 114, 103, 117, 109, 101, 110, 116], [114, 97, 110, 103, 101], [108, 97, 114, 103, 101], [102, 111, 114, 109], [111, 114, 100, 101, 114], [116, 119, 105, 99, 101], [117, 110, 107, 110, 111, 119, 110], [116, 121, 112, 101], [110, 97, 109, 101], [115, 121, 110, 116, 97, 120], [115, 104, 111, 114, 116], [115, 117, 109], [115, 116, 97, 116, 101], [102, 117, 108, 108], [99, 108, 97, 115, 104], [108, 111, 115, 116], [108, 111, 111, 112], [111, 112, 101, 110], [99, 111, 110, 115, 116, 97, 110, 116], [119, 105, 100, 116, 104], [116, 105, 109, 101], [114, 117, 108, 101]]
def nameOf (e : Nat) : List UInt8 := names.getD e []
theorem name_ok (n : Nat) (hn : 2 ≤ n) (e : Nat) (he : e < 23) {H : VH} (hH : H.Ok) : vcall T ext promo n 115 [.int .i64 (e : Int)] H = some (.str (PS.of (nameOf e)), H) := by
  obtain ⟨n, rfl⟩ : ∃ m, n = m + 1 := ⟨n - 1, by omega⟩
  have o1 := lo_ok hH
  generalize hz : (List.replicate 23 (AV.str (PS.of []))) = zs
  have hzl : zs.length = 23 := by rw [← hz]; rfl
  have p1 := fresh_plain o1 zs
  have o2 := fresh_ok o1 zs
  obtain ⟨H2, e2, p2, k2, o3, l2, m2, n2⟩ := Plain.putsL (strCells names) 0 p1 o2 (by rw [hzl]; decide) (by decide) (Nat.lt_succ_self _)
  have hp : zs.take 0 ++ strCells names ++ zs.drop (0 + (strCells names).length) = strCells names := by
    rw [List.take_zero, List.drop_of_length_le (by rw [hzl]; decide)]
    simp
  rw [hp] at p2
  have hlow : H2.low = H.next := by
    simp only [fresh_low, lo_low, lo_next] at l2 m2
    omega
  have hc : H2.cell H.lo.next (0 + ((e : Int)).toNat * 1) = some (.str (PS.of (nameOf e))) := by
    rw [p2.cell, Int.toNat_natCast, Nat.zero_add, Nat.mul_one, strCells, List.getElem?_map]
    have hl : names.length = 23 := rfl
    rw [List.getElem?_eq_getElem (by omega)]
    simp only [Option.map_some, nameOf]
    rw [List.getD_eq_getElem?_getD, List.getElem?_eq_getElem (by omega)]
    rfl
  apply ok115
  unfold F115
  have hz2 : ([.str (PS.of []), .str (PS.of []), .str (PS.of []), .str (PS.of []), .str (PS.of []), .str (PS.of []), .str (PS.of []), .str (PS.of []), .str (PS.of []), .str (PS.of []), .str (PS.of []), .str (PS.of []), .str (PS.of []), .str (PS.of []), .str (PS.of []), .str (PS.of []), .str (PS.of []), .str (PS.of []), .str (PS.of []), .str (PS.of []), .str (PS.of []), .str (PS.of []), .str (PS.of [])] : List AV) = zs := by rw [← hz]; rfl
  rw [hz2]
  simp only [letH_mk]
  have e2' := e2
  unfold strCells names at e2'
  simp only [List.map_cons, List.map_nil] at e2'
  rw [e2']
  simp only [letH_mk, bindC_mk, bindV_mk, bindH_mk, bindJ_mk, asB_mk, asI_mk, asS_mk, asP_mk, asSl_mk, asA_mk, asTu_mk, asSome_mk, unc_mk, endL_mk, selC_eq, condT_eq, letN_mk, letB_mk, case_nn, case_nr, case_ne, case_rn, case_rr, case_re, case_en, case_er, case_ee, decide_eq_true_eq, Bool.not_true, Bool.not_false, Bool.false_eq_true, if_false, if_true, Bool.not_eq_true', decide_eq_false_iff_not, ilt_eq, ile_eq, reduceCtorEq, not_false_eq_true, not_true_eq_false]
  rw [if_neg (by omega)]
  simp only [letH_mk, bindC_mk, bindV_mk, bindH_mk, bindJ_mk, asB_mk, asI_mk, asS_mk, asP_mk, asSl_mk, asA_mk, asTu_mk, asSome_mk, unc_mk, endL_mk, selC_eq, condT_eq, letN_mk, letB_mk, case_nn, case_nr, case_ne, case_rn, case_rr, case_re, case_en, case_er, case_ee, decide_eq_true_eq, Bool.not_true, Bool.not_false, Bool.false_eq_true, if_false, if_true, Bool.not_eq_true', decide_eq_false_iff_not, ilt_eq, ile_eq, reduceCtorEq, not_false_eq_true, not_true_eq_false]
  rw [if_neg (by omega)]
  simp only [Bool.and_eq_true, letH_mk, bindC_mk, bindV_mk, bindH_mk, bindJ_mk, asB_mk, asI_mk, asS_mk, asP_mk, asSl_mk, asA_mk, asTu_mk, asSome_mk, unc_mk, endL_mk, selC_eq, condT_eq, letN_mk, letB_mk, case_nn, case_nr, case_ne, case_rn, case_rr, case_re, case_en, case_er, case_ee, decide_eq_true_eq, Bool.not_true, Bool.not_false, Bool.false_eq_true, if_false, if_true, Bool.not_eq_true', decide_eq_false_iff_not, ilt_eq, ile_eq, reduceCtorEq, not_false_eq_true, not_true_eq_false]
  rw [if_pos (by omega), hc]
  simp only [letH_mk, bindC_mk, bindV_mk, bindH_mk, bindJ_mk, asB_mk, asI_mk, asS_mk, asP_mk, asSl_mk, asA_mk, asTu_mk, asSome_mk, unc_mk, endL_mk, selC_eq, condT_eq, letN_mk, letB_mk, case_nn, case_nr, case_ne, case_rn, case_rr, case_re, case_en, case_er, case_ee, decide_eq_true_eq, Bool.not_true, Bool.not_false, Bool.false_eq_true, if_false, if_true, Bool.not_eq_true', decide_eq_false_iff_not, ilt_eq, ile_eq, reduceCtorEq, not_false_eq_true, not_true_eq_false]
  rw [leave_flat hlow rfl]
theorem names_word : ∀ e : Fin 23, (∀ x ∈ nameOf e.val, 97 ≤ x.toNat ∧ x.toNat ≤ 122) ∧ (nameOf e.val).length ≤ 8 ∧ (1 ≤ e.val → nameOf e.val ≠ []) := by decide +kernel
theorem names_apart : ∀ e g : Fin 23, nameOf e.val = nameOf g.val → e = g := by decide +kernel
theorem okc_ok {c : UInt8} (h : okc c) : ¬ (c.toNat : Int) < 33 ∧ ¬ 126 < (c.toNat : Int) ∧ ¬ (c.toNat : Int) = 58 ∧ ¬ (c.toNat : Int) = 34 := by
  obtain ⟨h1, h2, h3, h4⟩ := h
  refine ⟨by omega, by omega, fun e => h3 (UInt8.toNat_inj.1 (by show c.toNat = 58; omega)), fun e => h4 (UInt8.toNat_inj.1 (by show c.toNat = 34; omega))⟩
theorem file_loop (n : Nat) (l : List UInt8) (hl : ∀ x ∈ l, okc x) (hn : l.length < 1000) (H : VH) : ∀ (m i : Nat), i ≤ l.length → l.length - i < m →
    loopN (L120_0 (vcall T ext promo n) n (PS.of l)) m [.int .i64 (i : Int)] H = some (.exit 0, [], H) := by
  intro m
  induction m with
  | zero => intro i _ h; omega
  | succ m ih =>
    intro i hi hm
    rw [loopN_succ]
    generalize loopN (L120_0 (vcall T ext promo n) n (PS.of l)) m = lp at ih ⊢
    unfold L120_0
    simp only [letH_mk, bindC_mk, bindV_mk, bindH_mk, bindJ_mk, asB_mk, asI_mk, asS_mk, asP_mk, asSl_mk, asA_mk, asTu_mk, asSome_mk, unc_mk, endL_mk, selC_eq, condT_eq, letN_mk, letB_mk, case_nn, case_nr, case_ne, case_rn, case_rr, case_re, case_en, case_er, case_ee, decide_eq_true_eq, Bool.not_true, Bool.not_false, Bool.false_eq_true, if_false, if_true, Bool.not_eq_true', decide_eq_false_iff_not, ilt_eq, ile_eq, reduceCtorEq, not_false_eq_true, not_true_eq_false, of_len]
    by_cases h : i < l.length
    · obtain ⟨h1, h2, h3, h4⟩ := okc_ok (hl l[i] (List.getElem_mem h))
      rw [if_pos (by omega)]
      simp only [Bool.and_eq_true, letH_mk, bindC_mk, bindV_mk, bindH_mk, bindJ_mk, asB_mk, asI_mk, asS_mk, asP_mk, asSl_mk, asA_mk, asTu_mk, asSome_mk, unc_mk, endL_mk, selC_eq, condT_eq, letN_mk, letB_mk, case_nn, case_nr, case_ne, case_rn, case_rr, case_re, case_en, case_er, case_ee, decide_eq_true_eq, Bool.not_true, Bool.not_false, Bool.false_eq_true, if_false, if_true, Bool.not_eq_true', decide_eq_false_iff_not, ilt_eq, ile_eq, reduceCtorEq, not_false_eq_true, not_true_eq_false]
      rw [if_pos (by omega), byte_int l i h, if_neg h1]
      try simp only [letH_mk, bindC_mk, bindV_mk, bindH_mk, bindJ_mk, asB_mk, asI_mk, asS_mk, asP_mk, asSl_mk, asA_mk, asTu_mk, asSome_mk, unc_mk, endL_mk, selC_eq, condT_eq, letN_mk, letB_mk, case_nn, case_nr, case_ne, case_rn, case_rr, case_re, case_en, case_er, case_ee, decide_eq_true_eq, Bool.not_true, Bool.not_false, Bool.false_eq_true, if_false, if_true, Bool.not_eq_true', decide_eq_false_iff_not, ilt_eq, ile_eq, reduceCtorEq, not_false_eq_true, not_true_eq_false]
      rw [if_pos (by omega), if_neg h2]
      try simp only [letH_mk, bindC_mk, bindV_mk, bindH_mk, bindJ_mk, asB_mk, asI_mk, asS_mk, asP_mk, asSl_mk, asA_mk, asTu_mk, asSome_mk, unc_mk, endL_mk, selC_eq, condT_eq, letN_mk, letB_mk, case_nn, case_nr, case_ne, case_rn, case_rr, case_re, case_en, case_er, case_ee, decide_eq_true_eq, Bool.not_true, Bool.not_false, Bool.false_eq_true, if_false, if_true, Bool.not_eq_true', decide_eq_false_iff_not, ilt_eq, ile_eq, reduceCtorEq, not_false_eq_true, not_true_eq_false]
      rw [if_pos (by omega)]
      try simp only [letH_mk, bindC_mk, bindV_mk, bindH_mk, bindJ_mk, asB_mk, asI_mk, asS_mk, asP_mk, asSl_mk, asA_mk, asTu_mk, asSome_mk, unc_mk, endL_mk, selC_eq, condT_eq, letN_mk, letB_mk, case_nn, case_nr, case_ne, case_rn, case_rr, case_re, case_en, case_er, case_ee, decide_eq_true_eq, Bool.not_true, Bool.not_false, Bool.false_eq_true, if_false, if_true, Bool.not_eq_true', decide_eq_false_iff_not, ilt_eq, ile_eq, reduceCtorEq, not_false_eq_true, not_true_eq_false, ieq_dec]
      rw [if_neg h3]
      try simp only [letH_mk, bindC_mk, bindV_mk, bindH_mk, bindJ_mk, asB_mk, asI_mk, asS_mk, asP_mk, asSl_mk, asA_mk, asTu_mk, asSome_mk, unc_mk, endL_mk, selC_eq, condT_eq, letN_mk, letB_mk, case_nn, case_nr, case_ne, case_rn, case_rr, case_re, case_en, case_er, case_ee, decide_eq_true_eq, Bool.not_true, Bool.not_false, Bool.false_eq_true, if_false, if_true, Bool.not_eq_true', decide_eq_false_iff_not, ilt_eq, ile_eq, reduceCtorEq, not_false_eq_true, not_true_eq_false]
      rw [if_pos (by omega)]
      simp only [letH_mk, bindC_mk, bindV_mk, bindH_mk, bindJ_mk, asB_mk, asI_mk, asS_mk, asP_mk, asSl_mk, asA_mk, asTu_mk, asSome_mk, unc_mk, endL_mk, selC_eq, condT_eq, letN_mk, letB_mk, case_nn, case_nr, case_ne, case_rn, case_rr, case_re, case_en, case_er, case_ee, decide_eq_true_eq, Bool.not_true, Bool.not_false, Bool.false_eq_true, if_false, if_true, Bool.not_eq_true', decide_eq_false_iff_not, ilt_eq, ile_eq, reduceCtorEq, not_false_eq_true, not_true_eq_false, decide_eq_false h4]
      rw [fw_i64 (by omega) (by omega)]
      exact ih (i + 1) (by omega) (by omega)
    · rw [if_neg (by omega)]
theorem file_ok (n : Nat) (l : List UInt8) (hn : l.length + 10 ≤ n) (h1 : 1 ≤ l.length) (h2 : l.length ≤ 60) (hl : ∀ x ∈ l, okc x) (H : VH) : vcall T ext promo n 120 [.str (PS.of l)] H = some (.bool true, H) := by
  obtain ⟨n, rfl⟩ : ∃ m, n = m + 1 := ⟨n - 1, by omega⟩
  have lp := file_loop n l hl (by omega) H.lo n 0 (by omega) (by omega)
  apply ok120
  unfold F120
  simp only [letH_mk, bindC_mk, bindV_mk, bindH_mk, bindJ_mk, asB_mk, asI_mk, asS_mk, asP_mk, asSl_mk, asA_mk, asTu_mk, asSome_mk, unc_mk, endL_mk, selC_eq, condT_eq, letN_mk, letB_mk, case_nn, case_nr, case_ne, case_rn, case_rr, case_re, case_en, case_er, case_ee, decide_eq_true_eq, Bool.not_true, Bool.not_false, Bool.false_eq_true, if_false, if_true, Bool.not_eq_true', decide_eq_false_iff_not, ilt_eq, ile_eq, reduceCtorEq, not_false_eq_true, not_true_eq_false, of_len]
  rw [if_neg (by omega)]
  simp only [letH_mk, bindC_mk, bindV_mk, bindH_mk, bindJ_mk, asB_mk, asI_mk, asS_mk, asP_mk, asSl_mk, asA_mk, asTu_mk, asSome_mk, unc_mk, endL_mk, selC_eq, condT_eq, letN_mk, letB_mk, case_nn, case_nr, case_ne, case_rn, case_rr, case_re, case_en, case_er, case_ee, decide_eq_true_eq, Bool.not_true, Bool.not_false, Bool.false_eq_true, if_false, if_true, Bool.not_eq_true', decide_eq_false_iff_not, ilt_eq, ile_eq, reduceCtorEq, not_false_eq_true, not_true_eq_false]
  rw [if_neg (by omega), show (.int .i64 0 : AV) = .int .i64 ((0 : Nat) : Int) from rfl, lp]
  simp only [letH_mk, bindC_mk, bindV_mk, bindH_mk, bindJ_mk, asB_mk, asI_mk, asS_mk, asP_mk, asSl_mk, asA_mk, asTu_mk, asSome_mk, unc_mk, endL_mk, selC_eq, condT_eq, letN_mk, letB_mk, case_nn, case_nr, case_ne, case_rn, case_rr, case_re, case_en, case_er, case_ee, decide_eq_true_eq, Bool.not_true, Bool.not_false, Bool.false_eq_true, if_false, if_true, Bool.not_eq_true', decide_eq_false_iff_not, ilt_eq, ile_eq, reduceCtorEq, not_false_eq_true, not_true_eq_false]
  rw [leave_flat rfl rfl]
theorem nword_loop (n : Nat) (l : List UInt8) (hl : ∀ x ∈ l, okc x) (hn : l.length < 1000) (H : VH) : ∀ (m i : Nat), i ≤ l.length → l.length - i < m →
    loopN (L121_0 (vcall T ext promo n) n (PS.of l)) m [.int .i64 (i : Int)] H = some (.exit 0, [], H) := by
  intro m
  induction m with
  | zero => intro i _ h; omega
  | succ m ih =>
    intro i hi hm
    rw [loopN_succ]
    generalize loopN (L121_0 (vcall T ext promo n) n (PS.of l)) m = lp at ih ⊢
    unfold L121_0
    simp only [letH_mk, bindC_mk, bindV_mk, bindH_mk, bindJ_mk, asB_mk, asI_mk, asS_mk, asP_mk, asSl_mk, asA_mk, asTu_mk, asSome_mk, unc_mk, endL_mk, selC_eq, condT_eq, letN_mk, letB_mk, case_nn, case_nr, case_ne, case_rn, case_rr, case_re, case_en, case_er, case_ee, decide_eq_true_eq, Bool.not_true, Bool.not_false, Bool.false_eq_true, if_false, if_true, Bool.not_eq_true', decide_eq_false_iff_not, ilt_eq, ile_eq, reduceCtorEq, not_false_eq_true, not_true_eq_false, of_len]
    by_cases h : i < l.length
    · obtain ⟨h1, h2, h3, h4⟩ := okc_ok (hl l[i] (List.getElem_mem h))
      have h1' : ¬ (l[i].toNat : Int) < 32 := by omega
      rw [if_pos (by omega)]
      simp only [Bool.and_eq_true, letH_mk, bindC_mk, bindV_mk, bindH_mk, bindJ_mk, asB_mk, asI_mk, asS_mk, asP_mk, asSl_mk, asA_mk, asTu_mk, asSome_mk, unc_mk, endL_mk, selC_eq, condT_eq, letN_mk, letB_mk, case_nn, case_nr, case_ne, case_rn, case_rr, case_re, case_en, case_er, case_ee, decide_eq_true_eq, Bool.not_true, Bool.not_false, Bool.false_eq_true, if_false, if_true, Bool.not_eq_true', decide_eq_false_iff_not, ilt_eq, ile_eq, reduceCtorEq, not_false_eq_true, not_true_eq_false]
      rw [if_pos (by omega), byte_int l i h, if_neg h1']
      try simp only [letH_mk, bindC_mk, bindV_mk, bindH_mk, bindJ_mk, asB_mk, asI_mk, asS_mk, asP_mk, asSl_mk, asA_mk, asTu_mk, asSome_mk, unc_mk, endL_mk, selC_eq, condT_eq, letN_mk, letB_mk, case_nn, case_nr, case_ne, case_rn, case_rr, case_re, case_en, case_er, case_ee, decide_eq_true_eq, Bool.not_true, Bool.not_false, Bool.false_eq_true, if_false, if_true, Bool.not_eq_true', decide_eq_false_iff_not, ilt_eq, ile_eq, reduceCtorEq, not_false_eq_true, not_true_eq_false]
      rw [if_pos (by omega)]
      simp only [letH_mk, bindC_mk, bindV_mk, bindH_mk, bindJ_mk, asB_mk, asI_mk, asS_mk, asP_mk, asSl_mk, asA_mk, asTu_mk, asSome_mk, unc_mk, endL_mk, selC_eq, condT_eq, letN_mk, letB_mk, case_nn, case_nr, case_ne, case_rn, case_rr, case_re, case_en, case_er, case_ee, decide_eq_true_eq, Bool.not_true, Bool.not_false, Bool.false_eq_true, if_false, if_true, Bool.not_eq_true', decide_eq_false_iff_not, ilt_eq, ile_eq, reduceCtorEq, not_false_eq_true, not_true_eq_false, decide_eq_false h2]
      rw [fw_i64 (by omega) (by omega)]
      exact ih (i + 1) (by omega) (by omega)
    · rw [if_neg (by omega)]
theorem nword_ok (n : Nat) (l : List UInt8) (hn : l.length + 10 ≤ n) (h2 : l.length ≤ 200) (hl : ∀ x ∈ l, okc x) (H : VH) : vcall T ext promo n 121 [.str (PS.of l)] H = some (.bool true, H) := by
  obtain ⟨n, rfl⟩ : ∃ m, n = m + 1 := ⟨n - 1, by omega⟩
  have lp := nword_loop n l hl (by omega) H.lo n 0 (by omega) (by omega)
  apply ok121
  unfold F121
  simp only [letH_mk, bindC_mk, bindV_mk, bindH_mk, bindJ_mk, asB_mk, asI_mk, asS_mk, asP_mk, asSl_mk, asA_mk, asTu_mk, asSome_mk, unc_mk, endL_mk, selC_eq, condT_eq, letN_mk, letB_mk, case_nn, case_nr, case_ne, case_rn, case_rr, case_re, case_en, case_er, case_ee, decide_eq_true_eq, Bool.not_true, Bool.not_false, Bool.false_eq_true, if_false, if_true, Bool.not_eq_true', decide_eq_false_iff_not, ilt_eq, ile_eq, reduceCtorEq, not_false_eq_true, not_true_eq_false, of_len]
  rw [if_neg (by omega), show (.int .i64 0 : AV) = .int .i64 ((0 : Nat) : Int) from rfl, lp]
  simp only [letH_mk, bindC_mk, bindV_mk, bindH_mk, bindJ_mk, asB_mk, asI_mk, asS_mk, asP_mk, asSl_mk, asA_mk, asTu_mk, asSome_mk, unc_mk, endL_mk, selC_eq, condT_eq, letN_mk, letB_mk, case_nn, case_nr, case_ne, case_rn, case_rr, case_re, case_en, case_er, case_ee, decide_eq_true_eq, Bool.not_true, Bool.not_false, Bool.false_eq_true, if_false, if_true, Bool.not_eq_true', decide_eq_false_iff_not, ilt_eq, ile_eq, reduceCtorEq, not_false_eq_true, not_true_eq_false]
  rw [leave_flat rfl rfl]
theorem check_note (n : Nat) (hn : 60 ≤ n) {f : List UInt8} {ln co cd : Nat} {t : List UInt8} (h : Msg f ln co cd t) {H : VH} (hH : H.Ok) : vcall T ext promo n 65 [noteV f ln co cd t] H = some (.int .i64 0, H) := by
  obtain ⟨n, rfl⟩ : ∃ m, n = m + 1 := ⟨n - 1, by omega⟩
  obtain ⟨f1, f2, f3, a1, a2, b1, b2, c1, c2, t1, t2⟩ := h
  have hw := (names_word ⟨cd, by omega⟩).2.2 c1
  apply ok65
  unfold F65
  simp only [letH_mk]
  rw [file_ok n f (by omega) f1 (by omega) f3]
  simp only [letH_mk, bindC_mk, bindV_mk, bindH_mk, bindJ_mk, asB_mk, asI_mk, asS_mk, asP_mk, asSl_mk, asA_mk, asTu_mk, asSome_mk, unc_mk, endL_mk, selC_eq, condT_eq, letN_mk, letB_mk, case_nn, case_nr, case_ne, case_rn, case_rr, case_re, case_en, case_er, case_ee, decide_eq_true_eq, Bool.not_true, Bool.not_false, Bool.false_eq_true, if_false, if_true, Bool.not_eq_true', decide_eq_false_iff_not, ilt_eq, ile_eq, reduceCtorEq, not_false_eq_true, not_true_eq_false]
  rw [if_neg (by omega), if_neg (by omega), if_neg (by omega), if_neg (by omega), name_ok n (by omega) cd (by omega) (lo_ok hH)]
  simp only [letH_mk, bindC_mk, bindV_mk, bindH_mk, bindJ_mk, asB_mk, asI_mk, asS_mk, asP_mk, asSl_mk, asA_mk, asTu_mk, asSome_mk, unc_mk, endL_mk, selC_eq, condT_eq, letN_mk, letB_mk, case_nn, case_nr, case_ne, case_rn, case_rr, case_re, case_en, case_er, case_ee, decide_eq_true_eq, Bool.not_true, Bool.not_false, Bool.false_eq_true, if_false, if_true, Bool.not_eq_true', decide_eq_false_iff_not, ilt_eq, ile_eq, reduceCtorEq, not_false_eq_true, not_true_eq_false, str_eq, decide_eq_false hw]
  rw [nword_ok n t (by omega) (by omega) t2]
  simp only [letH_mk, bindC_mk, bindV_mk, bindH_mk, bindJ_mk, asB_mk, asI_mk, asS_mk, asP_mk, asSl_mk, asA_mk, asTu_mk, asSome_mk, unc_mk, endL_mk, selC_eq, condT_eq, letN_mk, letB_mk, case_nn, case_nr, case_ne, case_rn, case_rr, case_re, case_en, case_er, case_ee, decide_eq_true_eq, Bool.not_true, Bool.not_false, Bool.false_eq_true, if_false, if_true, Bool.not_eq_true', decide_eq_false_iff_not, ilt_eq, ile_eq, reduceCtorEq, not_false_eq_true, not_true_eq_false]
  rw [leave_flat rfl rfl]
/-- Decimal digits of a number below 1000. -/
def dec (w : Nat) : List UInt8 := if w < 100 then digs w else digs3 w
theorem itoa1000_ok (n : Nat) (hn : 30 ≤ n) (w : Nat) (h : w < 1000) {H : VH} (hH : H.Ok) (hp : Pows H) : vcall T ext promo n 76 [.int .i64 (w : Int)] H = some (.str (PS.of (dec w)), H) := by
  unfold dec
  by_cases h1 : w < 100
  · rw [if_pos h1]
    exact itoa_ok n (by omega) w h1 H
  · rw [if_neg h1]
    exact itoa3_ok n (by omega) w (by omega) h hH hp
theorem dec_len (w : Nat) : (dec w).length ≤ 3 := by
  unfold dec
  split
  · have := digs_len w; omega
  · simp [digs3]
/-- The text of a message. -/
def noteT (f : List UInt8) (ln co cd : Nat) (t : List UInt8) : List UInt8 := f ++ [58] ++ dec ln ++ [58] ++ dec co ++ [58, 32] ++ nameOf cd ++ (if t = [] then [] else [32] ++ t)
theorem noteText_ok (n : Nat) (hn : 80 ≤ n) {f : List UInt8} {ln co cd : Nat} {t : List UInt8} (h : Msg f ln co cd t) {H : VH} (hH : H.Ok) (hp : Pows H) : vcall T ext promo n 63 [noteV f ln co cd t] H = some (.tuple [.str (PS.of (noteT f ln co cd t)), .int .i64 0], H) := by
  obtain ⟨n, rfl⟩ : ∃ m, n = m + 1 := ⟨n - 1, by omega⟩
  have hm := h
  obtain ⟨f1, f2, f3, a1, a2, b1, b2, c1, c2, t1, t2⟩ := h
  have hl1 := dec_len ln
  have hl2 := dec_len co
  have hl3 := (names_word ⟨cd, by omega⟩).2.1
  simp only at hl3
  apply ok63
  unfold F63
  simp only [letH_mk]
  rw [check_note n (by omega) hm (lo_ok hH)]
  simp only [letH_mk, bindC_mk, bindV_mk, bindH_mk, bindJ_mk, asB_mk, asI_mk, asS_mk, asP_mk, asSl_mk, asA_mk, asTu_mk, asSome_mk, unc_mk, endL_mk, selC_eq, condT_eq, letN_mk, letB_mk, case_nn, case_nr, case_ne, case_rn, case_rr, case_re, case_en, case_er, case_ee, decide_eq_true_eq, Bool.not_true, Bool.not_false, Bool.false_eq_true, if_false, if_true, Bool.not_eq_true', decide_eq_false_iff_not, ilt_eq, ile_eq, reduceCtorEq, not_false_eq_true, not_true_eq_false, ieq_dec]
  rw [str_add _ _ (by simp; omega)]
  simp only [letH_mk, bindC_mk, bindV_mk, bindH_mk, bindJ_mk, asB_mk, asI_mk, asS_mk, asP_mk, asSl_mk, asA_mk, asTu_mk, asSome_mk, unc_mk, endL_mk, selC_eq, condT_eq, letN_mk, letB_mk, case_nn, case_nr, case_ne, case_rn, case_rr, case_re, case_en, case_er, case_ee, decide_eq_true_eq, Bool.not_true, Bool.not_false, Bool.false_eq_true, if_false, if_true, Bool.not_eq_true', decide_eq_false_iff_not, ilt_eq, ile_eq, reduceCtorEq, not_false_eq_true, not_true_eq_false]
  rw [itoa1000_ok n (by omega) ln (by omega) (lo_ok hH) hp.lo]
  simp only [letH_mk, bindC_mk, bindV_mk, bindH_mk, bindJ_mk, asB_mk, asI_mk, asS_mk, asP_mk, asSl_mk, asA_mk, asTu_mk, asSome_mk, unc_mk, endL_mk, selC_eq, condT_eq, letN_mk, letB_mk, case_nn, case_nr, case_ne, case_rn, case_rr, case_re, case_en, case_er, case_ee, decide_eq_true_eq, Bool.not_true, Bool.not_false, Bool.false_eq_true, if_false, if_true, Bool.not_eq_true', decide_eq_false_iff_not, ilt_eq, ile_eq, reduceCtorEq, not_false_eq_true, not_true_eq_false]
  rw [str_add _ _ (by simp; omega)]
  simp only [letH_mk, bindC_mk, bindV_mk, bindH_mk, bindJ_mk, asB_mk, asI_mk, asS_mk, asP_mk, asSl_mk, asA_mk, asTu_mk, asSome_mk, unc_mk, endL_mk, selC_eq, condT_eq, letN_mk, letB_mk, case_nn, case_nr, case_ne, case_rn, case_rr, case_re, case_en, case_er, case_ee, decide_eq_true_eq, Bool.not_true, Bool.not_false, Bool.false_eq_true, if_false, if_true, Bool.not_eq_true', decide_eq_false_iff_not, ilt_eq, ile_eq, reduceCtorEq, not_false_eq_true, not_true_eq_false]
  rw [str_add _ _ (by simp; omega)]
  simp only [letH_mk, bindC_mk, bindV_mk, bindH_mk, bindJ_mk, asB_mk, asI_mk, asS_mk, asP_mk, asSl_mk, asA_mk, asTu_mk, asSome_mk, unc_mk, endL_mk, selC_eq, condT_eq, letN_mk, letB_mk, case_nn, case_nr, case_ne, case_rn, case_rr, case_re, case_en, case_er, case_ee, decide_eq_true_eq, Bool.not_true, Bool.not_false, Bool.false_eq_true, if_false, if_true, Bool.not_eq_true', decide_eq_false_iff_not, ilt_eq, ile_eq, reduceCtorEq, not_false_eq_true, not_true_eq_false]
  rw [itoa1000_ok n (by omega) co (by omega) (lo_ok hH) hp.lo]
  simp only [letH_mk, bindC_mk, bindV_mk, bindH_mk, bindJ_mk, asB_mk, asI_mk, asS_mk, asP_mk, asSl_mk, asA_mk, asTu_mk, asSome_mk, unc_mk, endL_mk, selC_eq, condT_eq, letN_mk, letB_mk, case_nn, case_nr, case_ne, case_rn, case_rr, case_re, case_en, case_er, case_ee, decide_eq_true_eq, Bool.not_true, Bool.not_false, Bool.false_eq_true, if_false, if_true, Bool.not_eq_true', decide_eq_false_iff_not, ilt_eq, ile_eq, reduceCtorEq, not_false_eq_true, not_true_eq_false]
  rw [str_add _ _ (by simp; omega)]
  simp only [letH_mk, bindC_mk, bindV_mk, bindH_mk, bindJ_mk, asB_mk, asI_mk, asS_mk, asP_mk, asSl_mk, asA_mk, asTu_mk, asSome_mk, unc_mk, endL_mk, selC_eq, condT_eq, letN_mk, letB_mk, case_nn, case_nr, case_ne, case_rn, case_rr, case_re, case_en, case_er, case_ee, decide_eq_true_eq, Bool.not_true, Bool.not_false, Bool.false_eq_true, if_false, if_true, Bool.not_eq_true', decide_eq_false_iff_not, ilt_eq, ile_eq, reduceCtorEq, not_false_eq_true, not_true_eq_false]
  rw [str_add _ _ (by simp; omega)]
  simp only [letH_mk, bindC_mk, bindV_mk, bindH_mk, bindJ_mk, asB_mk, asI_mk, asS_mk, asP_mk, asSl_mk, asA_mk, asTu_mk, asSome_mk, unc_mk, endL_mk, selC_eq, condT_eq, letN_mk, letB_mk, case_nn, case_nr, case_ne, case_rn, case_rr, case_re, case_en, case_er, case_ee, decide_eq_true_eq, Bool.not_true, Bool.not_false, Bool.false_eq_true, if_false, if_true, Bool.not_eq_true', decide_eq_false_iff_not, ilt_eq, ile_eq, reduceCtorEq, not_false_eq_true, not_true_eq_false]
  rw [name_ok n (by omega) cd (by omega) (lo_ok hH)]
  simp only [letH_mk, bindC_mk, bindV_mk, bindH_mk, bindJ_mk, asB_mk, asI_mk, asS_mk, asP_mk, asSl_mk, asA_mk, asTu_mk, asSome_mk, unc_mk, endL_mk, selC_eq, condT_eq, letN_mk, letB_mk, case_nn, case_nr, case_ne, case_rn, case_rr, case_re, case_en, case_er, case_ee, decide_eq_true_eq, Bool.not_true, Bool.not_false, Bool.false_eq_true, if_false, if_true, Bool.not_eq_true', decide_eq_false_iff_not, ilt_eq, ile_eq, reduceCtorEq, not_false_eq_true, not_true_eq_false]
  rw [str_add _ _ (by simp; omega)]
  simp only [letH_mk, bindC_mk, bindV_mk, bindH_mk, bindJ_mk, asB_mk, asI_mk, asS_mk, asP_mk, asSl_mk, asA_mk, asTu_mk, asSome_mk, unc_mk, endL_mk, selC_eq, condT_eq, letN_mk, letB_mk, case_nn, case_nr, case_ne, case_rn, case_rr, case_re, case_en, case_er, case_ee, decide_eq_true_eq, Bool.not_true, Bool.not_false, Bool.false_eq_true, if_false, if_true, Bool.not_eq_true', decide_eq_false_iff_not, ilt_eq, ile_eq, reduceCtorEq, not_false_eq_true, not_true_eq_false, str_eq]
  by_cases ht : t = []
  · subst ht
    simp only [letH_mk, bindC_mk, bindV_mk, bindH_mk, bindJ_mk, asB_mk, asI_mk, asS_mk, asP_mk, asSl_mk, asA_mk, asTu_mk, asSome_mk, unc_mk, endL_mk, selC_eq, condT_eq, letN_mk, letB_mk, case_nn, case_nr, case_ne, case_rn, case_rr, case_re, case_en, case_er, case_ee, decide_eq_true_eq, Bool.not_true, Bool.not_false, Bool.false_eq_true, if_false, if_true, Bool.not_eq_true', decide_eq_false_iff_not, ilt_eq, ile_eq, reduceCtorEq, not_false_eq_true, not_true_eq_false, decide_true, noteT]
    rw [leave_flat rfl rfl, List.append_nil]
  · simp only [letH_mk, bindC_mk, bindV_mk, bindH_mk, bindJ_mk, asB_mk, asI_mk, asS_mk, asP_mk, asSl_mk, asA_mk, asTu_mk, asSome_mk, unc_mk, endL_mk, selC_eq, condT_eq, letN_mk, letB_mk, case_nn, case_nr, case_ne, case_rn, case_rr, case_re, case_en, case_er, case_ee, decide_eq_true_eq, Bool.not_true, Bool.not_false, Bool.false_eq_true, if_false, if_true, Bool.not_eq_true', decide_eq_false_iff_not, ilt_eq, ile_eq, reduceCtorEq, not_false_eq_true, not_true_eq_false, decide_eq_false ht, noteT, ht]
    rw [str_add _ _ (by simp; omega)]
    simp only [letH_mk, bindC_mk, bindV_mk, bindH_mk, bindJ_mk, asB_mk, asI_mk, asS_mk, asP_mk, asSl_mk, asA_mk, asTu_mk, asSome_mk, unc_mk, endL_mk, selC_eq, condT_eq, letN_mk, letB_mk, case_nn, case_nr, case_ne, case_rn, case_rr, case_re, case_en, case_er, case_ee, decide_eq_true_eq, Bool.not_true, Bool.not_false, Bool.false_eq_true, if_false, if_true, Bool.not_eq_true', decide_eq_false_iff_not, ilt_eq, ile_eq, reduceCtorEq, not_false_eq_true, not_true_eq_false]
    rw [str_add _ _ (by simp; omega)]
    simp only [letH_mk, bindC_mk, bindV_mk, bindH_mk, bindJ_mk, asB_mk, asI_mk, asS_mk, asP_mk, asSl_mk, asA_mk, asTu_mk, asSome_mk, unc_mk, endL_mk, selC_eq, condT_eq, letN_mk, letB_mk, case_nn, case_nr, case_ne, case_rn, case_rr, case_re, case_en, case_er, case_ee, decide_eq_true_eq, Bool.not_true, Bool.not_false, Bool.false_eq_true, if_false, if_true, Bool.not_eq_true', decide_eq_false_iff_not, ilt_eq, ile_eq, reduceCtorEq, not_false_eq_true, not_true_eq_false]
    rw [leave_flat rfl rfl]
end Go.Vm.Tryd
