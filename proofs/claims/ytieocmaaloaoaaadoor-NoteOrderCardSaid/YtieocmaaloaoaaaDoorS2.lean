/- Comparing messages; insertion; the heap; the pivot; turning around; breaking patterns. -/
import Derived.Test.YtieocmaaloaoaaaDoorSa
namespace Go.Vm.Tryd
set_option linter.unusedSectionVars false
set_option linter.unusedSimpArgs false
set_option linter.unusedVariables false
set_option maxRecDepth 10000
/-! Comparing two messages; sorting by insertion; the heap. -/
section
open Go.Sort (swp)
theorem isNaNs_ok (n : Nat) (hn : 1 ≤ n) (l : List UInt8) (H : VH) : vcall T ext promo n 147 [.str (PS.of l)] H = some (.bool false, H) := by
  obtain ⟨n, rfl⟩ : ∃ m, n = m + 1 := ⟨n - 1, by omega⟩
  apply ok147
  unfold F147
  simp only [letH_mk, bindC_mk, bindV_mk, bindH_mk, bindJ_mk, asB_mk, asI_mk, asS_mk, asP_mk, asSl_mk, asA_mk, asTu_mk, asSome_mk, unc_mk, endL_mk, selC_eq, condT_eq, letN_mk, letB_mk, case_nn, case_nr, case_ne, case_rn, case_rr, case_re, case_en, case_er, case_ee, decide_eq_true_eq, Bool.not_true, Bool.not_false, Bool.false_eq_true, if_false, if_true, Bool.not_eq_true', decide_eq_false_iff_not, ilt_eq, ile_eq, reduceCtorEq, not_false_eq_true, not_true_eq_false, str_eq, decide_true]
  rw [leave_flat rfl rfl]
theorem isNaNi_ok (n : Nat) (hn : 1 ≤ n) (l : Int) (H : VH) : vcall T ext promo n 148 [.int .i64 l] H = some (.bool false, H) := by
  obtain ⟨n, rfl⟩ : ∃ m, n = m + 1 := ⟨n - 1, by omega⟩
  apply ok148
  unfold F148
  simp only [letH_mk, bindC_mk, bindV_mk, bindH_mk, bindJ_mk, asB_mk, asI_mk, asS_mk, asP_mk, asSl_mk, asA_mk, asTu_mk, asSome_mk, unc_mk, endL_mk, selC_eq, condT_eq, letN_mk, letB_mk, case_nn, case_nr, case_ne, case_rn, case_rr, case_re, case_en, case_er, case_ee, decide_eq_true_eq, Bool.not_true, Bool.not_false, Bool.false_eq_true, if_false, if_true, Bool.not_eq_true', decide_eq_false_iff_not, ilt_eq, ile_eq, reduceCtorEq, not_false_eq_true, not_true_eq_false, ieq_dec, decide_true]
  rw [leave_flat rfl rfl]
theorem isNaNe_ok (n : Nat) (hn : 1 ≤ n) (l : Int) (H : VH) : vcall T ext promo n 149 [.int .i64 l] H = some (.bool false, H) := by
  obtain ⟨n, rfl⟩ : ∃ m, n = m + 1 := ⟨n - 1, by omega⟩
  apply ok149
  unfold F149
  simp only [letH_mk, bindC_mk, bindV_mk, bindH_mk, bindJ_mk, asB_mk, asI_mk, asS_mk, asP_mk, asSl_mk, asA_mk, asTu_mk, asSome_mk, unc_mk, endL_mk, selC_eq, condT_eq, letN_mk, letB_mk, case_nn, case_nr, case_ne, case_rn, case_rr, case_re, case_en, case_er, case_ee, decide_eq_true_eq, Bool.not_true, Bool.not_false, Bool.false_eq_true, if_false, if_true, Bool.not_eq_true', decide_eq_false_iff_not, ilt_eq, ile_eq, reduceCtorEq, not_false_eq_true, not_true_eq_false, ieq_dec, decide_true]
  rw [leave_flat rfl rfl]
theorem cmpS_ok (n : Nat) (hn : 2 ≤ n) (x y : List UInt8) (H : VH) : vcall T ext promo n 111 [.str (PS.of x), .str (PS.of y)] H = some (.int .i64 (cmpS x y), H) := by
  obtain ⟨n, rfl⟩ : ∃ m, n = m + 1 := ⟨n - 1, by omega⟩
  apply ok111
  unfold F111 cmpS
  simp only [letH_mk]
  rw [isNaNs_ok n (by omega)]
  simp only [letH_mk, bindC_mk, bindV_mk, bindH_mk, bindJ_mk, asB_mk, asI_mk, asS_mk, asP_mk, asSl_mk, asA_mk, asTu_mk, asSome_mk, unc_mk, endL_mk, selC_eq, condT_eq, letN_mk, letB_mk, case_nn, case_nr, case_ne, case_rn, case_rr, case_re, case_en, case_er, case_ee, decide_eq_true_eq, Bool.not_true, Bool.not_false, Bool.false_eq_true, if_false, if_true, Bool.not_eq_true', decide_eq_false_iff_not, ilt_eq, ile_eq, reduceCtorEq, not_false_eq_true, not_true_eq_false]
  rw [isNaNs_ok n (by omega)]
  simp only [letH_mk, bindC_mk, bindV_mk, bindH_mk, bindJ_mk, asB_mk, asI_mk, asS_mk, asP_mk, asSl_mk, asA_mk, asTu_mk, asSome_mk, unc_mk, endL_mk, selC_eq, condT_eq, letN_mk, letB_mk, case_nn, case_nr, case_ne, case_rn, case_rr, case_re, case_en, case_er, case_ee, decide_eq_true_eq, Bool.not_true, Bool.not_false, Bool.false_eq_true, if_false, if_true, Bool.not_eq_true', decide_eq_false_iff_not, ilt_eq, ile_eq, reduceCtorEq, not_false_eq_true, not_true_eq_false, str_eq]
  cases h : (PS.of x).less (PS.of y) with
  | true =>
    simp only [letH_mk, bindC_mk, bindV_mk, bindH_mk, bindJ_mk, asB_mk, asI_mk, asS_mk, asP_mk, asSl_mk, asA_mk, asTu_mk, asSome_mk, unc_mk, endL_mk, selC_eq, condT_eq, letN_mk, letB_mk, case_nn, case_nr, case_ne, case_rn, case_rr, case_re, case_en, case_er, case_ee, decide_eq_true_eq, Bool.not_true, Bool.not_false, Bool.false_eq_true, if_false, if_true, Bool.not_eq_true', decide_eq_false_iff_not, ilt_eq, ile_eq, reduceCtorEq, not_false_eq_true, not_true_eq_false]
    rw [leave_flat rfl rfl]
  | false =>
    by_cases e : x = y
    · simp only [letH_mk, bindC_mk, bindV_mk, bindH_mk, bindJ_mk, asB_mk, asI_mk, asS_mk, asP_mk, asSl_mk, asA_mk, asTu_mk, asSome_mk, unc_mk, endL_mk, selC_eq, condT_eq, letN_mk, letB_mk, case_nn, case_nr, case_ne, case_rn, case_rr, case_re, case_en, case_er, case_ee, decide_eq_true_eq, Bool.not_true, Bool.not_false, Bool.false_eq_true, if_false, if_true, Bool.not_eq_true', decide_eq_false_iff_not, ilt_eq, ile_eq, reduceCtorEq, not_false_eq_true, not_true_eq_false, e, decide_true, Bool.or_true]
      rw [leave_flat rfl rfl]
    · simp only [letH_mk, bindC_mk, bindV_mk, bindH_mk, bindJ_mk, asB_mk, asI_mk, asS_mk, asP_mk, asSl_mk, asA_mk, asTu_mk, asSome_mk, unc_mk, endL_mk, selC_eq, condT_eq, letN_mk, letB_mk, case_nn, case_nr, case_ne, case_rn, case_rr, case_re, case_en, case_er, case_ee, decide_eq_true_eq, Bool.not_true, Bool.not_false, Bool.false_eq_true, if_false, if_true, Bool.not_eq_true', decide_eq_false_iff_not, ilt_eq, ile_eq, reduceCtorEq, not_false_eq_true, not_true_eq_false, e, decide_false, Bool.or_false]
      rw [leave_flat rfl rfl]
theorem cmpI_ok (n : Nat) (hn : 2 ≤ n) (x y : Int) (H : VH) : vcall T ext promo n 112 [.int .i64 x, .int .i64 y] H = some (.int .i64 (cmpI x y), H) := by
  obtain ⟨n, rfl⟩ : ∃ m, n = m + 1 := ⟨n - 1, by omega⟩
  apply ok112
  unfold F112 cmpI
  simp only [letH_mk]
  rw [isNaNi_ok n (by omega)]
  simp only [letH_mk, bindC_mk, bindV_mk, bindH_mk, bindJ_mk, asB_mk, asI_mk, asS_mk, asP_mk, asSl_mk, asA_mk, asTu_mk, asSome_mk, unc_mk, endL_mk, selC_eq, condT_eq, letN_mk, letB_mk, case_nn, case_nr, case_ne, case_rn, case_rr, case_re, case_en, case_er, case_ee, decide_eq_true_eq, Bool.not_true, Bool.not_false, Bool.false_eq_true, if_false, if_true, Bool.not_eq_true', decide_eq_false_iff_not, ilt_eq, ile_eq, reduceCtorEq, not_false_eq_true, not_true_eq_false]
  rw [isNaNi_ok n (by omega)]
  simp only [letH_mk, bindC_mk, bindV_mk, bindH_mk, bindJ_mk, asB_mk, asI_mk, asS_mk, asP_mk, asSl_mk, asA_mk, asTu_mk, asSome_mk, unc_mk, endL_mk, selC_eq, condT_eq, letN_mk, letB_mk, case_nn, case_nr, case_ne, case_rn, case_rr, case_re, case_en, case_er, case_ee, decide_eq_true_eq, Bool.not_true, Bool.not_false, Bool.false_eq_true, if_false, if_true, Bool.not_eq_true', decide_eq_false_iff_not, ilt_eq, ile_eq, reduceCtorEq, not_false_eq_true, not_true_eq_false]
  by_cases h : x < y
  · rw [if_pos h, if_pos h, leave_flat rfl rfl]
  · rw [if_neg h, if_neg h]
    by_cases h2 : y < x
    · rw [if_pos h2, if_pos h2, leave_flat rfl rfl]
    · rw [if_neg h2, if_neg h2, leave_flat rfl rfl]
theorem cmpE_ok (n : Nat) (hn : 2 ≤ n) (x y : Int) (H : VH) : vcall T ext promo n 113 [.int .i64 x, .int .i64 y] H = some (.int .i64 (cmpI x y), H) := by
  obtain ⟨n, rfl⟩ : ∃ m, n = m + 1 := ⟨n - 1, by omega⟩
  apply ok113
  unfold F113 cmpI
  simp only [letH_mk]
  rw [isNaNe_ok n (by omega)]
  simp only [letH_mk, bindC_mk, bindV_mk, bindH_mk, bindJ_mk, asB_mk, asI_mk, asS_mk, asP_mk, asSl_mk, asA_mk, asTu_mk, asSome_mk, unc_mk, endL_mk, selC_eq, condT_eq, letN_mk, letB_mk, case_nn, case_nr, case_ne, case_rn, case_rr, case_re, case_en, case_er, case_ee, decide_eq_true_eq, Bool.not_true, Bool.not_false, Bool.false_eq_true, if_false, if_true, Bool.not_eq_true', decide_eq_false_iff_not, ilt_eq, ile_eq, reduceCtorEq, not_false_eq_true, not_true_eq_false]
  rw [isNaNe_ok n (by omega)]
  simp only [letH_mk, bindC_mk, bindV_mk, bindH_mk, bindJ_mk, asB_mk, asI_mk, asS_mk, asP_mk, asSl_mk, asA_mk, asTu_mk, asSome_mk, unc_mk, endL_mk, selC_eq, condT_eq, letN_mk, letB_mk, case_nn, case_nr, case_ne, case_rn, case_rr, case_re, case_en, case_er, case_ee, decide_eq_true_eq, Bool.not_true, Bool.not_false, Bool.false_eq_true, if_false, if_true, Bool.not_eq_true', decide_eq_false_iff_not, ilt_eq, ile_eq, reduceCtorEq, not_false_eq_true, not_true_eq_false]
  by_cases h : x < y
  · rw [if_pos h, if_pos h, leave_flat rfl rfl]
  · rw [if_neg h, if_neg h]
    by_cases h2 : y < x
    · rw [if_pos h2, if_pos h2, leave_flat rfl rfl]
    · rw [if_neg h2, if_neg h2, leave_flat rfl rfl]
/-- The first of some numbers that is not 0. -/
def orL : List Int → Int
  | [] => 0
  | a :: l => orI a (orL l)
theorem or_loop (n : Nat) {H : VH} {b : Nat} (l : List Int) (hl : l.length < 1000) (hp : Plain H b (l.map fun z => .int .i64 z)) :
    ∀ m i, i ≤ l.length → l.length - i < m → loopN (L110_0 (vcall T ext promo n) n (some (b, 0)) l.length) m [.int .i64 (i : Int)] H =
      if orL (l.drop i) = 0 then some (.exit 0, [], H) else some (.ret, [.int .i64 (orL (l.drop i))], H) := by
  intro m
  induction m with
  | zero => intro i _ h; omega
  | succ m ih =>
    intro i hi hm
    rw [loopN_succ]
    generalize loopN (L110_0 (vcall T ext promo n) n (some (b, 0)) l.length) m = lp at ih ⊢
    unfold L110_0
    by_cases h : i < l.length
    · have hc : H.cell b (0 + i * 1) = some (.int .i64 l[i]) := by
        rw [hp.cell, Nat.zero_add, Nat.mul_one]
        simp [h]
      have h' : (i : Int) < (l.length : Int) := by omega
      simp only [letH_mk, bindC_mk, bindV_mk, bindH_mk, bindJ_mk, asB_mk, asI_mk, asS_mk, asP_mk, asSl_mk, asA_mk, asTu_mk, asSome_mk, unc_mk, endL_mk, selC_eq, condT_eq, letN_mk, letB_mk, case_nn, case_nr, case_ne, case_rn, case_rr, case_re, case_en, case_er, case_ee, decide_eq_true_eq, Bool.not_true, Bool.not_false, Bool.false_eq_true, if_false, if_true, Bool.not_eq_true', decide_eq_false_iff_not, ilt_eq, ile_eq, reduceCtorEq, not_false_eq_true, not_true_eq_false, h', Int.toNat_natCast, Bool.and_eq_true]
      rw [if_pos ⟨by omega, trivial⟩, hc]
      simp only [letH_mk, bindC_mk, bindV_mk, bindH_mk, bindJ_mk, asB_mk, asI_mk, asS_mk, asP_mk, asSl_mk, asA_mk, asTu_mk, asSome_mk, unc_mk, endL_mk, selC_eq, condT_eq, letN_mk, letB_mk, case_nn, case_nr, case_ne, case_rn, case_rr, case_re, case_en, case_er, case_ee, decide_eq_true_eq, Bool.not_true, Bool.not_false, Bool.false_eq_true, if_false, if_true, Bool.not_eq_true', decide_eq_false_iff_not, ilt_eq, ile_eq, reduceCtorEq, not_false_eq_true, not_true_eq_false, ieq_dec, fw_add1 i (by omega)]
      have hd : orL (l.drop i) = orI l[i] (orL (l.drop (i + 1))) := by
        rw [List.drop_eq_getElem_cons h]
        rfl
      rw [hd]
      unfold orI
      by_cases e : l[i] = 0
      · rw [if_pos e, if_neg (by simp [e])]
        exact ih (i + 1) (by omega) (by omega)
      · rw [if_neg e, if_pos (by simp [e]), if_neg e]
    · have h' : ¬ (i : Int) < (l.length : Int) := by omega
      simp only [letH_mk, bindC_mk, bindV_mk, bindH_mk, bindJ_mk, asB_mk, asI_mk, asS_mk, asP_mk, asSl_mk, asA_mk, asTu_mk, asSome_mk, unc_mk, endL_mk, selC_eq, condT_eq, letN_mk, letB_mk, case_nn, case_nr, case_ne, case_rn, case_rr, case_re, case_en, case_er, case_ee, decide_eq_true_eq, Bool.not_true, Bool.not_false, Bool.false_eq_true, if_false, if_true, Bool.not_eq_true', decide_eq_false_iff_not, ilt_eq, ile_eq, reduceCtorEq, not_false_eq_true, not_true_eq_false, h']
      rw [List.drop_eq_nil_of_le (by omega)]
      rfl
theorem cmpOr_ok (n : Nat) (hn : 10 ≤ n) {H : VH} {b : Nat} (hH : H.Ok) (l : List Int) (hl : l.length < n - 1) (hl2 : l.length < 1000) (hp : Plain H b (l.map fun z => .int .i64 z)) (c : Option Nat) (e : Nat) :
    vcall T ext promo n 110 [.slice (some (b, 0)) l.length c e] H = some (.int .i64 (orL l), H) := by
  obtain ⟨n, rfl⟩ : ∃ m, n = m + 1 := ⟨n - 1, by omega⟩
  apply ok110
  unfold F110
  simp only [letH_mk]
  rw [show (.int .i64 0 : AV) = .int .i64 ((0 : Nat) : Int) from rfl, or_loop n l hl2 hp.lo n 0 (by omega) (by omega), List.drop_zero]
  by_cases h : orL l = 0
  · rw [if_pos h]
    simp only [letH_mk, bindC_mk, bindV_mk, bindH_mk, bindJ_mk, asB_mk, asI_mk, asS_mk, asP_mk, asSl_mk, asA_mk, asTu_mk, asSome_mk, unc_mk, endL_mk, selC_eq, condT_eq, letN_mk, letB_mk, case_nn, case_nr, case_ne, case_rn, case_rr, case_re, case_en, case_er, case_ee, decide_eq_true_eq, Bool.not_true, Bool.not_false, Bool.false_eq_true, if_false, if_true, Bool.not_eq_true', decide_eq_false_iff_not, ilt_eq, ile_eq, reduceCtorEq, not_false_eq_true, not_true_eq_false, h]
    rw [leave_flat rfl rfl]
    rfl
  · rw [if_neg h]
    simp only [letH_mk, bindC_mk, bindV_mk, bindH_mk, bindJ_mk, asB_mk, asI_mk, asS_mk, asP_mk, asSl_mk, asA_mk, asTu_mk, asSome_mk, unc_mk, endL_mk, selC_eq, condT_eq, letN_mk, letB_mk, case_nn, case_nr, case_ne, case_rn, case_rr, case_re, case_en, case_er, case_ee, decide_eq_true_eq, Bool.not_true, Bool.not_false, Bool.false_eq_true, if_false, if_true, Bool.not_eq_true', decide_eq_false_iff_not, ilt_eq, ile_eq, reduceCtorEq, not_false_eq_true, not_true_eq_false]
    rw [leave_flat rfl rfl]
theorem cmp_ok (n : Nat) (hn : 20 ≤ n) (x y : N) {H : VH} (hH : H.Ok) : vcall T ext promo n 60 [.agg [.str (PS.of x.f), .int .i64 x.ln, .int .i64 x.co, .int .i64 x.cd, .str (PS.of x.t)], .agg [.str (PS.of y.f), .int .i64 y.ln, .int .i64 y.co, .int .i64 y.cd, .str (PS.of y.t)]] H = some (.int .i64 (cmpN x y), H) := by
  obtain ⟨n, rfl⟩ : ∃ m, n = m + 1 := ⟨n - 1, by omega⟩
  apply ok60
  unfold F60
  simp only [letH_mk]
  rw [cmpS_ok n (by omega)]
  simp only [letH_mk, bindC_mk, bindV_mk, bindH_mk, bindJ_mk, asB_mk, asI_mk, asS_mk, asP_mk, asSl_mk, asA_mk, asTu_mk, asSome_mk, unc_mk, endL_mk, selC_eq, condT_eq, letN_mk, letB_mk, case_nn, case_nr, case_ne, case_rn, case_rr, case_re, case_en, case_er, case_ee, decide_eq_true_eq, Bool.not_true, Bool.not_false, Bool.false_eq_true, if_false, if_true, Bool.not_eq_true', decide_eq_false_iff_not, ilt_eq, ile_eq, reduceCtorEq, not_false_eq_true, not_true_eq_false]
  rw [cmpI_ok n (by omega)]
  simp only [letH_mk, bindC_mk, bindV_mk, bindH_mk, bindJ_mk, asB_mk, asI_mk, asS_mk, asP_mk, asSl_mk, asA_mk, asTu_mk, asSome_mk, unc_mk, endL_mk, selC_eq, condT_eq, letN_mk, letB_mk, case_nn, case_nr, case_ne, case_rn, case_rr, case_re, case_en, case_er, case_ee, decide_eq_true_eq, Bool.not_true, Bool.not_false, Bool.false_eq_true, if_false, if_true, Bool.not_eq_true', decide_eq_false_iff_not, ilt_eq, ile_eq, reduceCtorEq, not_false_eq_true, not_true_eq_false]
  rw [cmpI_ok n (by omega)]
  simp only [letH_mk, bindC_mk, bindV_mk, bindH_mk, bindJ_mk, asB_mk, asI_mk, asS_mk, asP_mk, asSl_mk, asA_mk, asTu_mk, asSome_mk, unc_mk, endL_mk, selC_eq, condT_eq, letN_mk, letB_mk, case_nn, case_nr, case_ne, case_rn, case_rr, case_re, case_en, case_er, case_ee, decide_eq_true_eq, Bool.not_true, Bool.not_false, Bool.false_eq_true, if_false, if_true, Bool.not_eq_true', decide_eq_false_iff_not, ilt_eq, ile_eq, reduceCtorEq, not_false_eq_true, not_true_eq_false]
  rw [cmpE_ok n (by omega)]
  simp only [letH_mk, bindC_mk, bindV_mk, bindH_mk, bindJ_mk, asB_mk, asI_mk, asS_mk, asP_mk, asSl_mk, asA_mk, asTu_mk, asSome_mk, unc_mk, endL_mk, selC_eq, condT_eq, letN_mk, letB_mk, case_nn, case_nr, case_ne, case_rn, case_rr, case_re, case_en, case_er, case_ee, decide_eq_true_eq, Bool.not_true, Bool.not_false, Bool.false_eq_true, if_false, if_true, Bool.not_eq_true', decide_eq_false_iff_not, ilt_eq, ile_eq, reduceCtorEq, not_false_eq_true, not_true_eq_false]
  rw [cmpS_ok n (by omega)]
  simp only [letH_mk, bindC_mk, bindV_mk, bindH_mk, bindJ_mk, asB_mk, asI_mk, asS_mk, asP_mk, asSl_mk, asA_mk, asTu_mk, asSome_mk, unc_mk, endL_mk, selC_eq, condT_eq, letN_mk, letB_mk, case_nn, case_nr, case_ne, case_rn, case_rr, case_re, case_en, case_er, case_ee, decide_eq_true_eq, Bool.not_true, Bool.not_false, Bool.false_eq_true, if_false, if_true, Bool.not_eq_true', decide_eq_false_iff_not, ilt_eq, ile_eq, reduceCtorEq, not_false_eq_true, not_true_eq_false, lo_next]
  have hp := fresh_plain (lo_ok hH) ([cmpS x.f y.f, cmpI x.ln y.ln, cmpI x.co y.co, cmpI x.cd y.cd, cmpS x.t y.t].map fun z => AV.int .i64 z)
  have ho := cmpOr_ok n (by omega) (fresh_ok (lo_ok hH) _) [cmpS x.f y.f, cmpI x.ln y.ln, cmpI x.co y.co, cmpI x.cd y.cd, cmpS x.t y.t] (by simp; omega) (by simp) hp (some 5) 1
  simp only [List.map_cons, List.map_nil, List.length_cons, List.length_nil, Nat.zero_add, Nat.reduceAdd, lo_next] at ho
  rw [ho]
  simp only [letH_mk, bindC_mk, bindV_mk, bindH_mk, bindJ_mk, asB_mk, asI_mk, asS_mk, asP_mk, asSl_mk, asA_mk, asTu_mk, asSome_mk, unc_mk, endL_mk, selC_eq, condT_eq, letN_mk, letB_mk, case_nn, case_nr, case_ne, case_rn, case_rr, case_re, case_en, case_er, case_ee, decide_eq_true_eq, Bool.not_true, Bool.not_false, Bool.false_eq_true, if_false, if_true, Bool.not_eq_true', decide_eq_false_iff_not, ilt_eq, ile_eq, reduceCtorEq, not_false_eq_true, not_true_eq_false]
  rw [leave_flat rfl rfl]
  have e : orL [cmpS x.f y.f, cmpI x.ln y.ln, cmpI x.co y.co, cmpI x.cd y.cd, cmpS x.t y.t] = cmpN x y := by
    rw [cmpN_def]
    have z : ∀ a, orI a 0 = a := fun a => by unfold orI; split <;> simp_all
    simp only [orL, z]
  rw [e]
end
/-! Sorting by insertion; the heap. -/
section
open Go.Sort
/-- The comparison that is handed on. -/
abbrev cmpF : AV := .func 60 [] []
theorem cmp_lt (x y : N) : (cmpN x y < 0) = (ltN x y = true) := propext ⟨fun h => decide_eq_true h, fun h => of_decide_eq_true h⟩
theorem fw_mul2 (i : Nat) (h : i < 1000000) : fwrap .i64 (2 * (i : Int)) = ((2 * i : Nat) : Int) := by
  rw [fw_i64 (by omega) (by omega)]
  omega
/-- What a part of a sort does to the array. -/
abbrev Does (H : VH) (b : Nat) (x : Option R) (e : Ex) (l : List AV) (d' : Array N) : Prop := ∃ H', x = some (e, l, H') ∧ Arr H' b d' ∧ Did b H H'
theorem insInner_size (a : Nat) : ∀ (j : Nat) (d : Array N), (insInner ltN a j d).size = d.size
  | 0, _ => rfl
  | j + 1, d => by
    unfold insInner
    split
    · rw [insInner_size a j, swp_size]
    · rfl
theorem ins_inner (n : Nat) (hn : 30 ≤ n) (b L a : Nat) (hL : L < 1000000) :
    ∀ (m j : Nat) (d : Array N) (H : VH), d.size = L → j < m → (a < j → j < L) → Arr H b d →
      Does H b (loopN (L163_1 (vcall T ext promo n) n (some (b, 0)) L (a : Int) cmpF) m [.int .i64 (j : Int)] H) (.exit 2) [] (insInner ltN a j d) := by
  intro m
  induction m with
  | zero => intro j d H _ h; omega
  | succ m ih =>
    intro j d H hd hm hj hA
    rw [loopN_succ]
    generalize loopN (L163_1 (vcall T ext promo n) n (some (b, 0)) L (a : Int) cmpF) m = lp at ih ⊢
    unfold L163_1
    cases j with
    | zero =>
      have h' : ¬ (a : Int) < ((0 : Nat) : Int) := by omega
      simp only [letH_mk, bindC_mk, bindV_mk, bindH_mk, bindJ_mk, asB_mk, asI_mk, asS_mk, asP_mk, asSl_mk, asA_mk, asTu_mk, asSome_mk, unc_mk, endL_mk, selC_eq, condT_eq, letN_mk, letB_mk, case_nn, case_nr, case_ne, case_rn, case_rr, case_re, case_en, case_er, case_ee, decide_eq_true_eq, Bool.not_true, Bool.not_false, Bool.false_eq_true, if_false, if_true, Bool.not_eq_true', decide_eq_false_iff_not, ilt_eq, ile_eq, reduceCtorEq, not_false_eq_true, not_true_eq_false, h']
      exact ⟨H, rfl, hA, .refl hA.ok⟩
    | succ j =>
      unfold insInner
      by_cases h : a < j + 1
      · have h' : (a : Int) < ((j + 1 : Nat) : Int) := by omega
        have hj := hj h
        have gt : (decide (j + 1 > a)) = true := decide_eq_true h
        have f1 := fw_sub1 (j + 1) (by omega) (by omega)
        simp only [letH_mk, bindC_mk, bindV_mk, bindH_mk, bindJ_mk, asB_mk, asI_mk, asS_mk, asP_mk, asSl_mk, asA_mk, asTu_mk, asSome_mk, unc_mk, endL_mk, selC_eq, condT_eq, letN_mk, letB_mk, case_nn, case_nr, case_ne, case_rn, case_rr, case_re, case_en, case_er, case_ee, decide_eq_true_eq, Bool.not_true, Bool.not_false, Bool.false_eq_true, if_false, if_true, Bool.not_eq_true', decide_eq_false_iff_not, ilt_eq, ile_eq, reduceCtorEq, not_false_eq_true, not_true_eq_false, h', gt, Bool.true_and, asFn_mk, List.nil_append, List.append_nil, Int.toNat_natCast, Bool.and_eq_true, f1, Nat.add_sub_cancel, hA.rd (j + 1) L (by omega) hd, hA.rd j L (by omega) hd, N.cells, cmp_ok n (by omega) _ _ hA.ok, cmp_lt]
        by_cases c : ltN d[j + 1]! d[j]! = true
        · obtain ⟨H2, e, hA2, k2⟩ := hA.swap (j + 1) j L (by omega) (by omega) hd
          simp only [N.cells] at e
          rw [if_pos c, e, if_pos c]
          obtain ⟨H3, e3, hA3, k3⟩ := ih j _ H2 (by rw [swp_size]; exact hd) (by omega) (fun _ => by omega) hA2
          exact ⟨H3, e3, hA3, k2.trans k3⟩
        · rw [if_neg c, if_neg c]
          exact ⟨H, rfl, hA, .refl hA.ok⟩
      · have h' : ¬ (a : Int) < ((j + 1 : Nat) : Int) := by omega
        have gt : (decide (j + 1 > a)) = false := decide_eq_false h
        simp only [letH_mk, bindC_mk, bindV_mk, bindH_mk, bindJ_mk, asB_mk, asI_mk, asS_mk, asP_mk, asSl_mk, asA_mk, asTu_mk, asSome_mk, unc_mk, endL_mk, selC_eq, condT_eq, letN_mk, letB_mk, case_nn, case_nr, case_ne, case_rn, case_rr, case_re, case_en, case_er, case_ee, decide_eq_true_eq, Bool.not_true, Bool.not_false, Bool.false_eq_true, if_false, if_true, Bool.not_eq_true', decide_eq_false_iff_not, ilt_eq, ile_eq, reduceCtorEq, not_false_eq_true, not_true_eq_false, h', gt, Bool.false_and]
        exact ⟨H, rfl, hA, .refl hA.ok⟩
theorem ins_outer (n : Nat) (hn : 2000 ≤ n) (b L a e : Nat) (hL : L < 1000) (he : e ≤ L) :
    ∀ (m i : Nat) (d : Array N) (H : VH), d.size = L → e - i < m → Arr H b d →
      Does H b (loopN (L163_0 (vcall T ext promo n) n (some (b, 0)) L (a : Int) (e : Int) cmpF) m [.int .i64 (i : Int)] H) (.exit 0) [] (insOuter ltN a e i d) := by
  intro m
  induction m with
  | zero => intro i d H _ h; omega
  | succ m ih =>
    intro i d H hd hm hA
    rw [loopN_succ]
    generalize loopN (L163_0 (vcall T ext promo n) n (some (b, 0)) L (a : Int) (e : Int) cmpF) m = lp at ih ⊢
    unfold L163_0
    rw [insOuter]
    by_cases h : i < e
    · have h' : (i : Int) < (e : Int) := by omega
      obtain ⟨H1, e1, hA1, k1⟩ := ins_inner n (by omega) b L a (by omega) n i d H hd (by omega) (fun _ => by omega) hA
      obtain ⟨H2, e2, hA2, k2⟩ := ih (i + 1) _ H1 (by rw [insInner_size]; exact hd) (by omega) hA1
      refine ⟨H2, ?_, by rw [if_pos h]; exact hA2, k1.trans k2⟩
      simp only [letH_mk, bindC_mk, bindV_mk, bindH_mk, bindJ_mk, asB_mk, asI_mk, asS_mk, asP_mk, asSl_mk, asA_mk, asTu_mk, asSome_mk, unc_mk, endL_mk, selC_eq, condT_eq, letN_mk, letB_mk, case_nn, case_nr, case_ne, case_rn, case_rr, case_re, case_en, case_er, case_ee, decide_eq_true_eq, Bool.not_true, Bool.not_false, Bool.false_eq_true, if_false, if_true, Bool.not_eq_true', decide_eq_false_iff_not, ilt_eq, ile_eq, reduceCtorEq, not_false_eq_true, not_true_eq_false, h', e1, fw_add1 i (by omega)]
      exact e2
    · have h' : ¬ (i : Int) < (e : Int) := by omega
      rw [if_neg h]
      simp only [letH_mk, bindC_mk, bindV_mk, bindH_mk, bindJ_mk, asB_mk, asI_mk, asS_mk, asP_mk, asSl_mk, asA_mk, asTu_mk, asSome_mk, unc_mk, endL_mk, selC_eq, condT_eq, letN_mk, letB_mk, case_nn, case_nr, case_ne, case_rn, case_rr, case_re, case_en, case_er, case_ee, decide_eq_true_eq, Bool.not_true, Bool.not_false, Bool.false_eq_true, if_false, if_true, Bool.not_eq_true', decide_eq_false_iff_not, ilt_eq, ile_eq, reduceCtorEq, not_false_eq_true, not_true_eq_false, h']
      exact ⟨H, rfl, hA, .refl hA.ok⟩
theorem insertion_ok (n : Nat) (hn : 2001 ≤ n) {H : VH} {b : Nat} {d : Array N} (hA : Arr H b d) (L : Nat) (hd : d.size = L) (hL : L < 1000) (a e : Nat) (he : e ≤ L) (ha : a ≤ L) (c : Option Nat) (z : Nat) :
    ∃ H', vcall T ext promo n 163 [.slice (some (b, 0)) L c z, .int .i64 (a : Int), .int .i64 (e : Int), cmpF] H = some (.tuple [], H') ∧ Arr H' b (insertionSort ltN d a e) ∧ Did b H H' := by
  obtain ⟨n, rfl⟩ : ∃ m, n = m + 1 := ⟨n - 1, by omega⟩
  obtain ⟨H1, e1, hA1, k1⟩ := ins_outer n (by omega) b L a e hL he n (a + 1) d H.lo hd (by omega) hA.lo
  refine ⟨_, ok163 _ _ _ _ _ _ _ _ _ (r := (.tuple [], leave H H1 (.tuple []))) ?_, hA1.leave hA.ok hA.lt k1 _, k1.leave hA.ok hA.lt _⟩
  unfold F163
  simp only [letH_mk, bindC_mk, bindV_mk, bindH_mk, bindJ_mk, asB_mk, asI_mk, asS_mk, asP_mk, asSl_mk, asA_mk, asTu_mk, asSome_mk, unc_mk, endL_mk, selC_eq, condT_eq, letN_mk, letB_mk, case_nn, case_nr, case_ne, case_rn, case_rr, case_re, case_en, case_er, case_ee, decide_eq_true_eq, Bool.not_true, Bool.not_false, Bool.false_eq_true, if_false, if_true, Bool.not_eq_true', decide_eq_false_iff_not, ilt_eq, ile_eq, reduceCtorEq, not_false_eq_true, not_true_eq_false, fw_add1 a (by omega), e1]
theorem siftDown_size (hi first root : Nat) (d : Array N) : (siftDown ltN hi first root d).size = d.size := by
  fun_induction siftDown ltN hi first root d <;> simp_all [swp_size]
theorem sift_loop (n : Nat) (hn : 2000 ≤ n) (b L hi first : Nat) (hL : L < 1000) (he : first + hi ≤ L) :
    ∀ (m root : Nat) (d : Array N) (H : VH), d.size = L → root < L → hi - root < m → Arr H b d →
      ∃ x H', loopN (L187_0 (vcall T ext promo n) n (some (b, 0)) L (hi : Int) (first : Int) cmpF) m [.int .i64 (root : Int)] H = some (x, [], H') ∧ (x = .exit 0 ∨ x = .ret) ∧ Arr H' b (siftDown ltN hi first root d) ∧ Did b H H' := by
  intro m
  induction m with
  | zero => intro i d H _ _ h; omega
  | succ m ih =>
    intro root d H hd hr hm hA
    rw [loopN_succ]
    generalize loopN (L187_0 (vcall T ext promo n) n (some (b, 0)) L (hi : Int) (first : Int) cmpF) m = lp at ih ⊢
    unfold L187_0
    rw [siftDown]
    have f1 := fw_mul2 root (by omega)
    have f2 := fw_add1 (2 * root) (by omega)
    have f3 := fw_add1 (2 * root + 1) (by omega)
    have f4 := fw_addn first (2 * root + 1) (by omega)
    have f5 := fw_add1 (first + (2 * root + 1)) (by omega)
    have f6 := fw_addn first root (by omega)
    have f7 := fw_addn first (2 * root + 1 + 1) (by omega)
    by_cases h : 2 * root + 1 ≥ hi
    · have h' : (hi : Int) ≤ ((2 * root + 1 : Nat) : Int) := by omega
      rw [dif_pos h]
      simp only [letH_mk, bindC_mk, bindV_mk, bindH_mk, bindJ_mk, asB_mk, asI_mk, asS_mk, asP_mk, asSl_mk, asA_mk, asTu_mk, asSome_mk, unc_mk, endL_mk, selC_eq, condT_eq, letN_mk, letB_mk, case_nn, case_nr, case_ne, case_rn, case_rr, case_re, case_en, case_er, case_ee, decide_eq_true_eq, Bool.not_true, Bool.not_false, Bool.false_eq_true, if_false, if_true, Bool.not_eq_true', decide_eq_false_iff_not, ilt_eq, ile_eq, reduceCtorEq, not_false_eq_true, not_true_eq_false, f1, f2, h']
      exact ⟨_, H, rfl, .inl rfl, hA, .refl hA.ok⟩
    · have h' : ¬ (hi : Int) ≤ ((2 * root + 1 : Nat) : Int) := by omega
      rw [dif_neg h]
      have fin : ∀ (ch : Nat) (f8 : fwrap .i64 ((first : Int) + (ch : Int)) = ((first + ch : Nat) : Int)), root < ch → ch < hi →
          ∃ x H', (if ¬ ltN d[first + root]! d[first + ch]! = true then some (.ret, [], H) else (if (0 : Int) ≤ ((first + root : Nat) : Int) ∧ ((first + root : Nat) : Int) < (L : Int) then bindH (H.puts b (0 + (first + root) * 5) d[first + ch]!.cells) fun H1 => if (0 : Int) ≤ ((first + ch : Nat) : Int) ∧ ((first + ch : Nat) : Int) < (L : Int) then bindH (H1.puts b (0 + (first + ch) * 5) d[first + root]!.cells) fun H2 => lp [.int .i64 (ch : Int)] H2 else none else none)) = some (x, [], H') ∧ (x = .exit 0 ∨ x = .ret) ∧ Arr H' b (if ltN d[first + root]! d[first + ch]! = false then d else siftDown ltN hi first ch (swp d (first + root) (first + ch))) ∧ Did b H H' := by
        intro ch f8 h1 h2
        obtain ⟨H2, e, hA2, k2⟩ := hA.swap (first + root) (first + ch) L (by omega) (by omega) hd
        obtain ⟨x, H3, e3, hx, hA3, k3⟩ := ih ch _ H2 (by rw [swp_size]; exact hd) (by omega) (by omega) hA2
        cases c : ltN d[first + root]! d[first + ch]! with
        | true =>
          rw [if_neg (by simp), e, if_neg (by simp)]
          exact ⟨x, H3, e3, hx, hA3, k2.trans k3⟩
        | false =>
          rw [if_pos (by simp), if_pos rfl]
          exact ⟨_, H, rfl, .inr rfl, hA, .refl hA.ok⟩
      by_cases h2 : 2 * root + 1 + 1 < hi
      · have h2' : ((2 * root + 1 + 1 : Nat) : Int) < (hi : Int) := by omega
        have gt : decide (2 * root + 1 + 1 < hi) = true := decide_eq_true h2
        simp only [letH_mk, bindC_mk, bindV_mk, bindH_mk, bindJ_mk, asB_mk, asI_mk, asS_mk, asP_mk, asSl_mk, asA_mk, asTu_mk, asSome_mk, unc_mk, endL_mk, selC_eq, condT_eq, letN_mk, letB_mk, case_nn, case_nr, case_ne, case_rn, case_rr, case_re, case_en, case_er, case_ee, decide_eq_true_eq, Bool.not_true, Bool.not_false, Bool.false_eq_true, if_false, if_true, Bool.not_eq_true', decide_eq_false_iff_not, ilt_eq, ile_eq, reduceCtorEq, not_false_eq_true, not_true_eq_false, f1, f2, f3, f4, f5, h', h2', gt, Bool.true_and, asFn_mk, List.nil_append, List.append_nil, Int.toNat_natCast, Bool.and_eq_true, hA.rd (first + (2 * root + 1)) L (by omega) hd, hA.rd (first + (2 * root + 1) + 1) L (by omega) hd, N.cells, cmp_ok n (by omega) _ _ hA.ok, cmp_lt]
        cases c : ltN d[first + (2 * root + 1)]! d[first + (2 * root + 1) + 1]! with
        | true =>
          have := fin (2 * root + 1 + 1) f7 (by omega) h2
          simp only [N.cells] at this
          simp only [letH_mk, bindC_mk, bindV_mk, bindH_mk, bindJ_mk, asB_mk, asI_mk, asS_mk, asP_mk, asSl_mk, asA_mk, asTu_mk, asSome_mk, unc_mk, endL_mk, selC_eq, condT_eq, letN_mk, letB_mk, case_nn, case_nr, case_ne, case_rn, case_rr, case_re, case_en, case_er, case_ee, decide_eq_true_eq, Bool.not_true, Bool.not_false, Bool.false_eq_true, if_false, if_true, Bool.not_eq_true', decide_eq_false_iff_not, ilt_eq, ile_eq, reduceCtorEq, not_false_eq_true, not_true_eq_false, f6, f7, asFn_mk, List.nil_append, List.append_nil, Int.toNat_natCast, Bool.and_eq_true, hA.rd (first + root) L (by omega) hd, hA.rd (first + (2 * root + 1 + 1)) L (by omega) hd, N.cells, cmp_ok n (by omega) _ _ hA.ok, cmp_lt, Bool.not_eq_true', dif_pos h2]
          exact this
        | false =>
          have := fin (2 * root + 1) f4 (by omega) (by omega)
          simp only [N.cells] at this
          simp only [letH_mk, bindC_mk, bindV_mk, bindH_mk, bindJ_mk, asB_mk, asI_mk, asS_mk, asP_mk, asSl_mk, asA_mk, asTu_mk, asSome_mk, unc_mk, endL_mk, selC_eq, condT_eq, letN_mk, letB_mk, case_nn, case_nr, case_ne, case_rn, case_rr, case_re, case_en, case_er, case_ee, decide_eq_true_eq, Bool.not_true, Bool.not_false, Bool.false_eq_true, if_false, if_true, Bool.not_eq_true', decide_eq_false_iff_not, ilt_eq, ile_eq, reduceCtorEq, not_false_eq_true, not_true_eq_false, f4, f6, asFn_mk, List.nil_append, List.append_nil, Int.toNat_natCast, Bool.and_eq_true, hA.rd (first + root) L (by omega) hd, hA.rd (first + (2 * root + 1)) L (by omega) hd, N.cells, cmp_ok n (by omega) _ _ hA.ok, cmp_lt]
          exact this
      · have h2' : ¬ ((2 * root + 1 + 1 : Nat) : Int) < (hi : Int) := by omega
        have gt : decide (2 * root + 1 + 1 < hi) = false := decide_eq_false h2
        have := fin (2 * root + 1) f4 (by omega) (by omega)
        simp only [N.cells] at this
        simp only [letH_mk, bindC_mk, bindV_mk, bindH_mk, bindJ_mk, asB_mk, asI_mk, asS_mk, asP_mk, asSl_mk, asA_mk, asTu_mk, asSome_mk, unc_mk, endL_mk, selC_eq, condT_eq, letN_mk, letB_mk, case_nn, case_nr, case_ne, case_rn, case_rr, case_re, case_en, case_er, case_ee, decide_eq_true_eq, Bool.not_true, Bool.not_false, Bool.false_eq_true, if_false, if_true, Bool.not_eq_true', decide_eq_false_iff_not, ilt_eq, ile_eq, reduceCtorEq, not_false_eq_true, not_true_eq_false, f1, f2, f3, f4, f6, h', h2', gt, Bool.false_and, asFn_mk, List.nil_append, List.append_nil, Int.toNat_natCast, Bool.and_eq_true, hA.rd (first + root) L (by omega) hd, hA.rd (first + (2 * root + 1)) L (by omega) hd, N.cells, cmp_ok n (by omega) _ _ hA.ok, cmp_lt]
        exact this
theorem sift_ok (n : Nat) (hn : 2001 ≤ n) {H : VH} {b : Nat} {d : Array N} (hA : Arr H b d) (L : Nat) (hd : d.size = L) (hL : L < 1000) (root hi first : Nat) (he : first + hi ≤ L) (hr : root < L) (c : Option Nat) (z : Nat) :
    ∃ H', vcall T ext promo n 187 [.slice (some (b, 0)) L c z, .int .i64 (root : Int), .int .i64 (hi : Int), .int .i64 (first : Int), cmpF] H = some (.tuple [], H') ∧ Arr H' b (siftDown ltN hi first root d) ∧ Did b H H' := by
  obtain ⟨n, rfl⟩ : ∃ m, n = m + 1 := ⟨n - 1, by omega⟩
  obtain ⟨x, H1, e1, hx, hA1, k1⟩ := sift_loop n (by omega) b L hi first hL he n root d H.lo hd hr (by omega) hA.lo
  refine ⟨_, ok187 _ _ _ _ _ _ _ _ _ _ (r := (.tuple [], leave H H1 (.tuple []))) ?_, hA1.leave hA.ok hA.lt k1 _, k1.leave hA.ok hA.lt _⟩
  unfold F187
  simp only [letH_mk, bindC_mk, bindV_mk, bindH_mk, bindJ_mk, asB_mk, asI_mk, asS_mk, asP_mk, asSl_mk, asA_mk, asTu_mk, asSome_mk, unc_mk, endL_mk, selC_eq, condT_eq, letN_mk, letB_mk, case_nn, case_nr, case_ne, case_rn, case_rr, case_re, case_en, case_er, case_ee, decide_eq_true_eq, Bool.not_true, Bool.not_false, Bool.false_eq_true, if_false, if_true, Bool.not_eq_true', decide_eq_false_iff_not, ilt_eq, ile_eq, reduceCtorEq, not_false_eq_true, not_true_eq_false, e1]
  rcases hx with rfl | rfl
  · simp only [letH_mk, bindC_mk, bindV_mk, bindH_mk, bindJ_mk, asB_mk, asI_mk, asS_mk, asP_mk, asSl_mk, asA_mk, asTu_mk, asSome_mk, unc_mk, endL_mk, selC_eq, condT_eq, letN_mk, letB_mk, case_nn, case_nr, case_ne, case_rn, case_rr, case_re, case_en, case_er, case_ee, decide_eq_true_eq, Bool.not_true, Bool.not_false, Bool.false_eq_true, if_false, if_true, Bool.not_eq_true', decide_eq_false_iff_not, ilt_eq, ile_eq, reduceCtorEq, not_false_eq_true, not_true_eq_false]
  · simp only [letH_mk, bindC_mk, bindV_mk, bindH_mk, bindJ_mk, asB_mk, asI_mk, asS_mk, asP_mk, asSl_mk, asA_mk, asTu_mk, asSome_mk, unc_mk, endL_mk, selC_eq, condT_eq, letN_mk, letB_mk, case_nn, case_nr, case_ne, case_rn, case_rr, case_re, case_en, case_er, case_ee, decide_eq_true_eq, Bool.not_true, Bool.not_false, Bool.false_eq_true, if_false, if_true, Bool.not_eq_true', decide_eq_false_iff_not, ilt_eq, ile_eq, reduceCtorEq, not_false_eq_true, not_true_eq_false]
theorem heap_build (n : Nat) (hn : 2001 ≤ n) (b L hi first : Nat) (hL : L < 1000) (he : first + hi ≤ L) (c : Option Nat) (z : Nat) :
    ∀ (m k : Nat) (d : Array N) (H : VH), d.size = L → k ≤ L → k < m → Arr H b d →
      Does H b (loopN (L164_0 (vcall T ext promo n) n (some (b, 0)) c z L (first : Int) (hi : Int) cmpF) m [.int .i64 ((k : Int) - 1)] H) (.exit 0) [] (heapBuild ltN hi first k d) := by
  intro m
  induction m with
  | zero => intro i d H _ _ h; omega
  | succ m ih =>
    intro k d H hd hk hm hA
    rw [loopN_succ]
    generalize loopN (L164_0 (vcall T ext promo n) n (some (b, 0)) c z L (first : Int) (hi : Int) cmpF) m = lp at ih ⊢
    unfold L164_0
    cases k with
    | zero =>
      simp only [letH_mk, bindC_mk, bindV_mk, bindH_mk, bindJ_mk, asB_mk, asI_mk, asS_mk, asP_mk, asSl_mk, asA_mk, asTu_mk, asSome_mk, unc_mk, endL_mk, selC_eq, condT_eq, letN_mk, letB_mk, case_nn, case_nr, case_ne, case_rn, case_rr, case_re, case_en, case_er, case_ee, decide_eq_true_eq, Bool.not_true, Bool.not_false, Bool.false_eq_true, if_false, if_true, Bool.not_eq_true', decide_eq_false_iff_not, ilt_eq, ile_eq, reduceCtorEq, not_false_eq_true, not_true_eq_false]
      rw [if_neg (by omega)]
      exact ⟨H, rfl, hA, .refl hA.ok⟩
    | succ k =>
      have e0 : ((k + 1 : Nat) : Int) - 1 = (k : Int) := by omega
      obtain ⟨H1, e1, hA1, k1⟩ := sift_ok n hn hA L hd hL k hi first he (by omega) c z
      obtain ⟨H2, e2, hA2, k2⟩ := ih k _ H1 (by rw [siftDown_size]; exact hd) (by omega) (by omega) hA1
      refine ⟨H2, ?_, hA2, k1.trans k2⟩
      have h0 : (0 : Int) ≤ (k : Int) := by omega
      have f1 : fwrap .i64 ((k : Int) - 1) = (k : Int) - 1 := fw_i64 (by omega) (by omega)
      simp only [letH_mk, bindC_mk, bindV_mk, bindH_mk, bindJ_mk, asB_mk, asI_mk, asS_mk, asP_mk, asSl_mk, asA_mk, asTu_mk, asSome_mk, unc_mk, endL_mk, selC_eq, condT_eq, letN_mk, letB_mk, case_nn, case_nr, case_ne, case_rn, case_rr, case_re, case_en, case_er, case_ee, decide_eq_true_eq, Bool.not_true, Bool.not_false, Bool.false_eq_true, if_false, if_true, Bool.not_eq_true', decide_eq_false_iff_not, ilt_eq, ile_eq, reduceCtorEq, not_false_eq_true, not_true_eq_false, e0, h0, e1, f1]
      exact e2
theorem heap_pop (n : Nat) (hn : 2001 ≤ n) (b L first : Nat) (hL : L < 1000) (c : Option Nat) (z : Nat) :
    ∀ (m k : Nat) (d : Array N) (H : VH), d.size = L → first + k ≤ L → k < m → Arr H b d →
      Does H b (loopN (L164_1 (vcall T ext promo n) n (some (b, 0)) c z L (first : Int) cmpF) m [.int .i64 ((k : Int) - 1)] H) (.exit 2) [] (heapPop ltN first k d) := by
  intro m
  induction m with
  | zero => intro i d H _ _ h; omega
  | succ m ih =>
    intro k d H hd hk hm hA
    rw [loopN_succ]
    generalize loopN (L164_1 (vcall T ext promo n) n (some (b, 0)) c z L (first : Int) cmpF) m = lp at ih ⊢
    unfold L164_1
    cases k with
    | zero =>
      simp only [letH_mk, bindC_mk, bindV_mk, bindH_mk, bindJ_mk, asB_mk, asI_mk, asS_mk, asP_mk, asSl_mk, asA_mk, asTu_mk, asSome_mk, unc_mk, endL_mk, selC_eq, condT_eq, letN_mk, letB_mk, case_nn, case_nr, case_ne, case_rn, case_rr, case_re, case_en, case_er, case_ee, decide_eq_true_eq, Bool.not_true, Bool.not_false, Bool.false_eq_true, if_false, if_true, Bool.not_eq_true', decide_eq_false_iff_not, ilt_eq, ile_eq, reduceCtorEq, not_false_eq_true, not_true_eq_false]
      rw [if_neg (by omega)]
      exact ⟨H, rfl, hA, .refl hA.ok⟩
    | succ k =>
      have e0 : ((k + 1 : Nat) : Int) - 1 = (k : Int) := by omega
      have h0 : (0 : Int) ≤ (k : Int) := by omega
      have f1 : fwrap .i64 ((k : Int) - 1) = (k : Int) - 1 := fw_i64 (by omega) (by omega)
      have f2 := fw_addn first k (by omega)
      obtain ⟨H1, e1, hA1, k1⟩ := hA.swap first (first + k) L (by omega) (by omega) hd
      simp only [N.cells] at e1
      obtain ⟨H2, e2, hA2, k2⟩ := sift_ok n hn hA1 L (by rw [swp_size]; exact hd) hL 0 k first (by omega) (by omega) c z
      obtain ⟨H3, e3, hA3, k3⟩ := ih k _ H2 (by rw [siftDown_size, swp_size]; exact hd) (by omega) (by omega) hA2
      refine ⟨H3, ?_, hA3, (k1.trans k2).trans k3⟩
      simp only [letH_mk, bindC_mk, bindV_mk, bindH_mk, bindJ_mk, asB_mk, asI_mk, asS_mk, asP_mk, asSl_mk, asA_mk, asTu_mk, asSome_mk, unc_mk, endL_mk, selC_eq, condT_eq, letN_mk, letB_mk, case_nn, case_nr, case_ne, case_rn, case_rr, case_re, case_en, case_er, case_ee, decide_eq_true_eq, Bool.not_true, Bool.not_false, Bool.false_eq_true, if_false, if_true, Bool.not_eq_true', decide_eq_false_iff_not, ilt_eq, ile_eq, reduceCtorEq, not_false_eq_true, not_true_eq_false, e0, h0, f1, f2, Int.toNat_natCast, Bool.and_eq_true, hA.rd first L (by omega) hd, hA.rd (first + k) L (by omega) hd, N.cells, e1]
      rw [show (.int .i64 0 : AV) = .int .i64 ((0 : Nat) : Int) from rfl, e2]
      simp only [letH_mk, bindC_mk, bindV_mk, bindH_mk, bindJ_mk, asB_mk, asI_mk, asS_mk, asP_mk, asSl_mk, asA_mk, asTu_mk, asSome_mk, unc_mk, endL_mk, selC_eq, condT_eq, letN_mk, letB_mk, case_nn, case_nr, case_ne, case_rn, case_rr, case_re, case_en, case_er, case_ee, decide_eq_true_eq, Bool.not_true, Bool.not_false, Bool.false_eq_true, if_false, if_true, Bool.not_eq_true', decide_eq_false_iff_not, ilt_eq, ile_eq, reduceCtorEq, not_false_eq_true, not_true_eq_false]
      exact e3
theorem heapBuild_size (hi first : Nat) : ∀ (k : Nat) (d : Array N), (heapBuild ltN hi first k d).size = d.size
  | 0, _ => rfl
  | k + 1, d => by unfold heapBuild; rw [heapBuild_size hi first k, siftDown_size]
theorem heap_ok (n : Nat) (hn : 2002 ≤ n) {H : VH} {b : Nat} {d : Array N} (hA : Arr H b d) (L : Nat) (hd : d.size = L) (hL : L < 1000) (a e : Nat) (he : e ≤ L) (ha : a ≤ e) (hL0 : 0 < L) (c : Option Nat) (z : Nat) :
    ∃ H', vcall T ext promo n 164 [.slice (some (b, 0)) L c z, .int .i64 (a : Int), .int .i64 (e : Int), cmpF] H = some (.tuple [], H') ∧ Arr H' b (heapSort ltN d a e) ∧ Did b H H' := by
  obtain ⟨n, rfl⟩ : ∃ m, n = m + 1 := ⟨n - 1, by omega⟩
  obtain ⟨H1, e1, hA1, k1⟩ := heap_build n (by omega) b L (e - a) a hL (by omega) c z n ((e - a - 1) / 2 + 1) d H.lo hd (by omega) (by omega) hA.lo
  obtain ⟨H2, e2, hA2, k2⟩ := heap_pop n (by omega) b L a hL c z n (e - a) _ H1 (by rw [heapBuild_size]; exact hd) (by omega) (by omega) hA1
  refine ⟨_, ok164 _ _ _ _ _ _ _ _ _ (r := (.tuple [], leave H H2 (.tuple []))) ?_, hA2.leave hA.ok hA.lt (k1.trans k2) _, (k1.trans k2).leave hA.ok hA.lt _⟩
  unfold F164
  have f1 := fw_subn e a ha (by omega)
  have f2 : fwrap .i64 (((e - a : Nat) : Int) - 1) = ((e - a : Nat) : Int) - 1 := fw_i64 (by omega) (by omega)
  have f3 : fwrap .i64 ((((e - a : Nat) : Int) - 1).tdiv 2) = (((e - a - 1) / 2 + 1 : Nat) : Int) - 1 := by
    rcases Nat.eq_zero_or_pos (e - a) with h | h
    · rw [h]; decide
    · rw [show ((e - a : Nat) : Int) - 1 = ((e - a - 1 : Nat) : Int) by omega, Int.tdiv_eq_ediv_of_nonneg (by omega), fw_i64 (by omega) (by omega)]
      omega
  simp only [letH_mk, bindC_mk, bindV_mk, bindH_mk, bindJ_mk, asB_mk, asI_mk, asS_mk, asP_mk, asSl_mk, asA_mk, asTu_mk, asSome_mk, unc_mk, endL_mk, selC_eq, condT_eq, letN_mk, letB_mk, case_nn, case_nr, case_ne, case_rn, case_rr, case_re, case_en, case_er, case_ee, decide_eq_true_eq, Bool.not_true, Bool.not_false, Bool.false_eq_true, if_false, if_true, Bool.not_eq_true', decide_eq_false_iff_not, ilt_eq, ile_eq, reduceCtorEq, not_false_eq_true, not_true_eq_false, f1, f2, f3, e1, e2]
end
/-! The pivot, the patterns, turning a part around. -/
section
open Go.Sort
theorem plain_leave {H H' : VH} {b q : Nat} {cs : List AV} (hH : H.Ok) (hb : b < H.next) (h : Plain H' b cs) (k : Did q H.lo H') (v : AV) : Plain (leave H H' v) b cs := by
  rcases leave_cases H H' v with ⟨e, hl⟩ | e
  · rw [e]
    refine plain_ofRow h hH k.eff.keep.from_lo ?_
    by_cases e2 : b = q
    · subst e2
      exact k.same (by rw [hl]; exact hb)
    · exact keep_row k.eff.keep.from_lo hb e2
  · rw [e]
    exact plain_low h _
theorem arr_leaveAt {H H' : VH} {b q : Nat} {d : Array N} (hH : H.Ok) (hb : b < H.next) (h : Arr H' b d) (k : Did q H.lo H') (v : AV) : Arr (leave H H' v) b d :=
  ⟨by
    rcases leave_cases H H' v with ⟨e, _⟩ | e
    · rw [e]; exact hH
    · rw [e]; exact ok_low h.ok _, plain_leave hH hb h.plain k v⟩
theorem plain_put1 {H : VH} {q : Nat} {z v : AV} (h : Plain H q [z]) (hH : H.Ok) (hv : v.one = true) : ∃ H', H.puts q 0 [v] = some H' ∧ Plain H' q [v] ∧ Did q H H' := by
  obtain ⟨H', e, p, k, o, l, _⟩ := h.puts1 hH 0 (by simp) v hv
  exact ⟨H', e, p, ⟨.of_low k o l (h.lt hH), fun hx => by omega⟩⟩
theorem Arr.keepAt {H H' : VH} {b q : Nat} {d : Array N} (h : Arr H b d) (k : Did q H H') (hq : b ≠ q) : Arr H' b d := ⟨k.eff.ok, h.plain.keep h.ok k.eff.keep hq⟩
theorem order2_ok (n : Nat) (hn : 31 ≤ n) {H : VH} {b q : Nat} {d : Array N} (hA : Arr H b d) {s : Int} (hq : Plain H q [.int .i64 s]) (hbq : b ≠ q) (L : Nat) (hd : d.size = L) (x y : Nat) (hx : x < L) (hy : y < L) (c : Option Nat) (z : Nat) :
    ∃ (u v : Nat) (s' : Int) (H' : VH), vcall T ext promo n 204 [.slice (some (b, 0)) L c z, .int .i64 (x : Int), .int .i64 (y : Int), .ptr (some (q, 0)), cmpF] H = some (.tuple [.int .i64 (u : Int), .int .i64 (v : Int)], H') ∧ (u = x ∧ v = y ∨ u = y ∧ v = x) ∧ Plain H' q [.int .i64 s'] ∧ Arr H' b d ∧ Did q H H' := by
  obtain ⟨n, rfl⟩ : ∃ m, n = m + 1 := ⟨n - 1, by omega⟩
  have hql := hq.lt hA.ok
  by_cases h : ltN d[y]! d[x]! = true
  · obtain ⟨H1, e1, p1, k1⟩ := plain_put1 (v := .int .i64 (fwrap .i64 (s + 1))) hq.lo (lo_ok hA.ok) rfl
    refine ⟨y, x, fwrap .i64 (s + 1), _, ok204 _ _ _ _ _ _ _ _ _ _ (r := (.tuple [.int .i64 (y : Int), .int .i64 (x : Int)], leave H H1 (.tuple [.int .i64 (y : Int), .int .i64 (x : Int)]))) ?_, .inr ⟨rfl, rfl⟩, plain_leave hA.ok hql p1 k1 _, arr_leaveAt hA.ok hA.lt (hA.lo.keepAt k1 hbq) k1 _, k1.leave hA.ok hql _⟩
    unfold F204
    have hc : H.lo.cell q 0 = some (.int .i64 s) := hq.lo.cell 0
    simp only [letH_mk, bindC_mk, bindV_mk, bindH_mk, bindJ_mk, asB_mk, asI_mk, asS_mk, asP_mk, asSl_mk, asA_mk, asTu_mk, asSome_mk, unc_mk, endL_mk, selC_eq, condT_eq, letN_mk, letB_mk, case_nn, case_nr, case_ne, case_rn, case_rr, case_re, case_en, case_er, case_ee, decide_eq_true_eq, Bool.not_true, Bool.not_false, Bool.false_eq_true, if_false, if_true, Bool.not_eq_true', decide_eq_false_iff_not, ilt_eq, ile_eq, reduceCtorEq, not_false_eq_true, not_true_eq_false, asFn_mk, List.nil_append, List.append_nil, Int.toNat_natCast, Bool.and_eq_true, hA.lo.rd x L (by omega) hd, hA.lo.rd y L (by omega) hd, N.cells, cmp_ok n (by omega) _ _ (lo_ok hA.ok), cmp_lt, h, hc, e1]
  · refine ⟨x, y, s, H, ok204 _ _ _ _ _ _ _ _ _ _ (r := (.tuple [.int .i64 (x : Int), .int .i64 (y : Int)], H)) ?_, .inl ⟨rfl, rfl⟩, hq, hA, .refl hA.ok⟩
    unfold F204
    simp only [letH_mk, bindC_mk, bindV_mk, bindH_mk, bindJ_mk, asB_mk, asI_mk, asS_mk, asP_mk, asSl_mk, asA_mk, asTu_mk, asSome_mk, unc_mk, endL_mk, selC_eq, condT_eq, letN_mk, letB_mk, case_nn, case_nr, case_ne, case_rn, case_rr, case_re, case_en, case_er, case_ee, decide_eq_true_eq, Bool.not_true, Bool.not_false, Bool.false_eq_true, if_false, if_true, Bool.not_eq_true', decide_eq_false_iff_not, ilt_eq, ile_eq, reduceCtorEq, not_false_eq_true, not_true_eq_false, asFn_mk, List.nil_append, List.append_nil, Int.toNat_natCast, Bool.and_eq_true, hA.lo.rd x L (by omega) hd, hA.lo.rd y L (by omega) hd, N.cells, cmp_ok n (by omega) _ _ (lo_ok hA.ok), cmp_lt, h]
    rw [leave_flat rfl rfl]
theorem median_ok (n : Nat) (hn : 32 ≤ n) {H : VH} {b q : Nat} {d : Array N} (hA : Arr H b d) {s : Int} (hq : Plain H q [.int .i64 s]) (hbq : b ≠ q) (L : Nat) (hd : d.size = L) (x y w : Nat) (hx : x < L) (hy : y < L) (hw : w < L) (c : Option Nat) (z : Nat) :
    ∃ (u : Nat) (s' : Int) (H' : VH), vcall T ext promo n 191 [.slice (some (b, 0)) L c z, .int .i64 (x : Int), .int .i64 (y : Int), .int .i64 (w : Int), .ptr (some (q, 0)), cmpF] H = some (.int .i64 (u : Int), H') ∧ (u = x ∨ u = y ∨ u = w) ∧ Plain H' q [.int .i64 s'] ∧ Arr H' b d ∧ Did q H H' := by
  obtain ⟨n, rfl⟩ : ∃ m, n = m + 1 := ⟨n - 1, by omega⟩
  have hql := hq.lt hA.ok
  obtain ⟨u1, v1, s1, H1, e1, w1, p1, a1, k1⟩ := order2_ok n (by omega) hA.lo hq.lo hbq L hd x y hx hy c z
  obtain ⟨u2, v2, s2, H2, e2, w2, p2, a2, k2⟩ := order2_ok n (by omega) a1 p1 hbq L hd v1 w (by omega) hw c z
  obtain ⟨u3, v3, s3, H3, e3, w3, p3, a3, k3⟩ := order2_ok n (by omega) a2 p2 hbq L hd u1 u2 (by omega) (by omega) c z
  have k := (k1.trans k2).trans k3
  refine ⟨v3, s3, _, ok191 _ _ _ _ _ _ _ _ _ _ _ (r := (.int .i64 (v3 : Int), leave H H3 (.int .i64 (v3 : Int)))) ?_, by omega, plain_leave hA.ok hql p3 k _, arr_leaveAt hA.ok hA.lt a3 k _, k.leave hA.ok hql _⟩
  unfold F191
  simp only [letH_mk, bindC_mk, bindV_mk, bindH_mk, bindJ_mk, asB_mk, asI_mk, asS_mk, asP_mk, asSl_mk, asA_mk, asTu_mk, asSome_mk, unc_mk, endL_mk, selC_eq, condT_eq, letN_mk, letB_mk, case_nn, case_nr, case_ne, case_rn, case_rr, case_re, case_en, case_er, case_ee, decide_eq_true_eq, Bool.not_true, Bool.not_false, Bool.false_eq_true, if_false, if_true, Bool.not_eq_true', decide_eq_false_iff_not, ilt_eq, ile_eq, reduceCtorEq, not_false_eq_true, not_true_eq_false, e1, e2, e3]
theorem medianA_ok (n : Nat) (hn : 33 ≤ n) {H : VH} {b q : Nat} {d : Array N} (hA : Arr H b d) {s : Int} (hq : Plain H q [.int .i64 s]) (hbq : b ≠ q) (L : Nat) (hL : L < 1000) (hd : d.size = L) (x : Nat) (hx : 1 ≤ x) (hy : x + 1 < L) (c : Option Nat) (z : Nat) :
    ∃ (u : Nat) (s' : Int) (H' : VH), vcall T ext promo n 190 [.slice (some (b, 0)) L c z, .int .i64 (x : Int), .ptr (some (q, 0)), cmpF] H = some (.int .i64 (u : Int), H') ∧ (x - 1 ≤ u ∧ u ≤ x + 1) ∧ Plain H' q [.int .i64 s'] ∧ Arr H' b d ∧ Did q H H' := by
  obtain ⟨n, rfl⟩ : ∃ m, n = m + 1 := ⟨n - 1, by omega⟩
  have hql := hq.lt hA.ok
  obtain ⟨u, s1, H1, e1, w1, p1, a1, k1⟩ := median_ok n (by omega) hA.lo hq.lo hbq L hd (x - 1) x (x + 1) (by omega) (by omega) hy c z
  refine ⟨u, s1, _, ok190 _ _ _ _ _ _ _ _ _ (r := (.int .i64 (u : Int), leave H H1 (.int .i64 (u : Int)))) ?_, by omega, plain_leave hA.ok hql p1 k1 _, arr_leaveAt hA.ok hA.lt a1 k1 _, k1.leave hA.ok hql _⟩
  unfold F190
  simp only [letH_mk, bindC_mk, bindV_mk, bindH_mk, bindJ_mk, asB_mk, asI_mk, asS_mk, asP_mk, asSl_mk, asA_mk, asTu_mk, asSome_mk, unc_mk, endL_mk, selC_eq, condT_eq, letN_mk, letB_mk, case_nn, case_nr, case_ne, case_rn, case_rr, case_re, case_en, case_er, case_ee, decide_eq_true_eq, Bool.not_true, Bool.not_false, Bool.false_eq_true, if_false, if_true, Bool.not_eq_true', decide_eq_false_iff_not, ilt_eq, ile_eq, reduceCtorEq, not_false_eq_true, not_true_eq_false, fw_sub1 x hx (by omega), fw_add1 x (by omega), e1]
theorem did_flat {H H' : VH} {q : Nat} (k : Did q H.lo H') (hq : H.next ≤ q) : H'.low = H.next := k.eff.flat fun x hx e => by omega
theorem tdiv4 (l : Nat) (h : l < 1000000) : fwrap .i64 ((l : Int).tdiv 4) = ((l / 4 : Nat) : Int) := by
  rw [Int.tdiv_eq_ediv_of_nonneg (by omega), fw_i64 (by omega) (by omega)]
  omega
theorem pivot_ok (n : Nat) (hn : 40 ≤ n) {H : VH} {b : Nat} {d : Array N} (hA : Arr H b d) (L : Nat) (hL : L < 1000) (hd : d.size = L) (a e : Nat) (ha : a < e) (he : e ≤ L) (c : Option Nat) (z : Nat) :
    ∃ (p : Nat) (h : Int), vcall T ext promo n 166 [.slice (some (b, 0)) L c z, .int .i64 (a : Int), .int .i64 (e : Int), cmpF] H = some (.tuple [.int .i64 (p : Int), .int .i64 h], H) ∧ a ≤ p ∧ p < e := by
  obtain ⟨n, rfl⟩ : ∃ m, n = m + 1 := ⟨n - 1, by omega⟩
  have hb := hA.lt
  have a0 := hA.lo.fresh [.int .i64 0]
  have p0 := fresh_plain (lo_ok hA.ok) [.int .i64 0]
  have k0 : Did H.next H.lo (H.lo.fresh [.int .i64 0]) := ⟨.fresh _ (lo_ok hA.ok) _, fun h => absurd h (Nat.lt_irrefl _)⟩
  simp only [lo_next] at p0
  have hbq : b ≠ H.next := by omega
  have f1 := fw_subn e a (by omega) (by omega)
  have f2 := tdiv4 (e - a) (by omega)
  have f3 : fwrap .i64 (((((e - a) / 4 : Nat)) : Int) * 1) = (((e - a) / 4 : Nat) : Int) := by rw [Int.mul_one, fw_i64 (by omega) (by omega)]
  have f4 : fwrap .i64 (((((e - a) / 4 : Nat)) : Int) * 2) = (((e - a) / 4 * 2 : Nat) : Int) := by rw [fw_i64 (by omega) (by omega)]; omega
  have f5 : fwrap .i64 (((((e - a) / 4 : Nat)) : Int) * 3) = (((e - a) / 4 * 3 : Nat) : Int) := by rw [fw_i64 (by omega) (by omega)]; omega
  have f6 := fw_addn a ((e - a) / 4) (by omega)
  have f7 := fw_addn a ((e - a) / 4 * 2) (by omega)
  have f8 := fw_addn a ((e - a) / 4 * 3) (by omega)
  have fin : ∀ (p : Nat) (s : Int) (H3 : VH), Plain H3 H.next [.int .i64 s] → Did H.next H.lo H3 → ∃ h : Int, (bindV (H3.cell H.next 0) fun v43 => asI .i64 v43 fun n44 => if n44 = 0 then some (AV.tuple [.int .i64 (p : Int), .int .i64 1], leave H H3 (.tuple [.int .i64 (p : Int), .int .i64 1])) else if n44 = 12 then some (.tuple [.int .i64 (p : Int), .int .i64 2], leave H H3 (.tuple [.int .i64 (p : Int), .int .i64 2])) else some (.tuple [.int .i64 (p : Int), .int .i64 0], leave H H3 (.tuple [.int .i64 (p : Int), .int .i64 0]))) = some (.tuple [.int .i64 (p : Int), .int .i64 h], H) := by
    intro p s H3 hp k
    have hl := did_flat k (Nat.le_refl _)
    rw [show H3.cell H.next 0 = some (.int .i64 s) from hp.cell 0]
    simp only [bindV_mk, asI_mk]
    by_cases h0 : s = 0
    · rw [if_pos h0, leave_flat hl rfl]
      exact ⟨1, rfl⟩
    · rw [if_neg h0]
      by_cases h1 : s = 12
      · rw [if_pos h1, leave_flat hl rfl]
        exact ⟨2, rfl⟩
      · rw [if_neg h1, leave_flat hl rfl]
        exact ⟨0, rfl⟩
  by_cases h8 : 8 ≤ e - a
  · have h8' : (8 : Int) ≤ ((e - a : Nat) : Int) := by omega
    by_cases h50 : 50 ≤ e - a
    · have h50' : (50 : Int) ≤ ((e - a : Nat) : Int) := by omega
      obtain ⟨u1, s1, H1, e1, w1, p1, a1, k1⟩ := medianA_ok n (by omega) a0 p0 hbq L hL hd (a + (e - a) / 4) (by omega) (by omega) c z
      obtain ⟨u2, s2, H2, e2, w2, p2, a2, k2⟩ := medianA_ok n (by omega) a1 p1 hbq L hL hd (a + (e - a) / 4 * 2) (by omega) (by omega) c z
      obtain ⟨u3, s3, H3, e3, w3, p3, a3, k3⟩ := medianA_ok n (by omega) a2 p2 hbq L hL hd (a + (e - a) / 4 * 3) (by omega) (by omega) c z
      obtain ⟨u4, s4, H4, e4, w4, p4, a4, k4⟩ := median_ok n (by omega) a3 p3 hbq L hd u1 u2 u3 (by omega) (by omega) (by omega) c z
      obtain ⟨h, hf⟩ := fin u4 s4 H4 p4 ((((k0.trans k1).trans k2).trans k3).trans k4)
      refine ⟨u4, h, ok166 _ _ _ _ _ _ _ _ _ (r := (_, H)) ?_, by omega, by omega⟩
      unfold F166
      simp only [letH_mk, bindC_mk, bindV_mk, bindH_mk, bindJ_mk, asB_mk, asI_mk, asS_mk, asP_mk, asSl_mk, asA_mk, asTu_mk, asSome_mk, unc_mk, endL_mk, selC_eq, condT_eq, letN_mk, letB_mk, case_nn, case_nr, case_ne, case_rn, case_rr, case_re, case_en, case_er, case_ee, decide_eq_true_eq, Bool.not_true, Bool.not_false, Bool.false_eq_true, if_false, if_true, Bool.not_eq_true', decide_eq_false_iff_not, ilt_eq, ile_eq, reduceCtorEq, not_false_eq_true, not_true_eq_false, f1, f2, f3, f4, f5, f6, f7, f8, h8', h50', lo_next, e1, e2, e3, e4, ieq_dec]
      exact hf
    · have h50' : ¬ (50 : Int) ≤ ((e - a : Nat) : Int) := by omega
      obtain ⟨u4, s4, H4, e4, w4, p4, a4, k4⟩ := median_ok n (by omega) a0 p0 hbq L hd (a + (e - a) / 4) (a + (e - a) / 4 * 2) (a + (e - a) / 4 * 3) (by omega) (by omega) (by omega) c z
      obtain ⟨h, hf⟩ := fin u4 s4 H4 p4 (k0.trans k4)
      refine ⟨u4, h, ok166 _ _ _ _ _ _ _ _ _ (r := (_, H)) ?_, by omega, by omega⟩
      unfold F166
      simp only [letH_mk, bindC_mk, bindV_mk, bindH_mk, bindJ_mk, asB_mk, asI_mk, asS_mk, asP_mk, asSl_mk, asA_mk, asTu_mk, asSome_mk, unc_mk, endL_mk, selC_eq, condT_eq, letN_mk, letB_mk, case_nn, case_nr, case_ne, case_rn, case_rr, case_re, case_en, case_er, case_ee, decide_eq_true_eq, Bool.not_true, Bool.not_false, Bool.false_eq_true, if_false, if_true, Bool.not_eq_true', decide_eq_false_iff_not, ilt_eq, ile_eq, reduceCtorEq, not_false_eq_true, not_true_eq_false, f1, f2, f3, f4, f5, f6, f7, f8, h8', h50', lo_next, e4, ieq_dec]
      exact hf
  · have h8' : ¬ (8 : Int) ≤ ((e - a : Nat) : Int) := by omega
    obtain ⟨h, hf⟩ := fin (a + (e - a) / 4 * 2) 0 _ p0 k0
    refine ⟨a + (e - a) / 4 * 2, h, ok166 _ _ _ _ _ _ _ _ _ (r := (_, H)) ?_, by omega, by omega⟩
    unfold F166
    simp only [letH_mk, bindC_mk, bindV_mk, bindH_mk, bindJ_mk, asB_mk, asI_mk, asS_mk, asP_mk, asSl_mk, asA_mk, asTu_mk, asSome_mk, unc_mk, endL_mk, selC_eq, condT_eq, letN_mk, letB_mk, case_nn, case_nr, case_ne, case_rn, case_rr, case_re, case_en, case_er, case_ee, decide_eq_true_eq, Bool.not_true, Bool.not_false, Bool.false_eq_true, if_false, if_true, Bool.not_eq_true', decide_eq_false_iff_not, ilt_eq, ile_eq, reduceCtorEq, not_false_eq_true, not_true_eq_false, f1, f2, f3, f4, f5, f6, f7, f8, h8', lo_next, ieq_dec]
    exact hf
theorem rev_loop (n : Nat) (b L : Nat) (hL : L < 1000) :
    ∀ (m i j : Nat) (d : Array N) (H : VH), d.size = L → j < L → j - i < m → Arr H b d →
      Does H b (loopN (L167_0 (vcall T ext promo n) n (some (b, 0)) L) m [.int .i64 (i : Int), .int .i64 (j : Int)] H) (.exit 0) [] (reverseLoop i j d) := by
  intro m
  induction m with
  | zero => intro i j d H _ _ h; omega
  | succ m ih =>
    intro i j d H hd hj hm hA
    rw [loopN_succ]
    generalize loopN (L167_0 (vcall T ext promo n) n (some (b, 0)) L) m = lp at ih ⊢
    unfold L167_0
    rw [reverseLoop]
    by_cases h : i < j
    · have h' : (i : Int) < (j : Int) := by omega
      obtain ⟨H1, e1, hA1, k1⟩ := hA.swap i j L (by omega) (by omega) hd
      simp only [N.cells] at e1
      obtain ⟨H2, e2, hA2, k2⟩ := ih (i + 1) (j - 1) _ H1 (by rw [swp_size]; exact hd) (by omega) (by omega) hA1
      rw [if_pos h]
      refine ⟨H2, ?_, hA2, k1.trans k2⟩
      simp only [letH_mk, bindC_mk, bindV_mk, bindH_mk, bindJ_mk, asB_mk, asI_mk, asS_mk, asP_mk, asSl_mk, asA_mk, asTu_mk, asSome_mk, unc_mk, endL_mk, selC_eq, condT_eq, letN_mk, letB_mk, case_nn, case_nr, case_ne, case_rn, case_rr, case_re, case_en, case_er, case_ee, decide_eq_true_eq, Bool.not_true, Bool.not_false, Bool.false_eq_true, if_false, if_true, Bool.not_eq_true', decide_eq_false_iff_not, ilt_eq, ile_eq, reduceCtorEq, not_false_eq_true, not_true_eq_false, h', Int.toNat_natCast, Bool.and_eq_true, hA.rd i L (by omega) hd, hA.rd j L (by omega) hd, N.cells, e1, fw_add1 i (by omega), fw_sub1 j (by omega) (by omega)]
      exact e2
    · have h' : ¬ (i : Int) < (j : Int) := by omega
      rw [if_neg h]
      simp only [letH_mk, bindC_mk, bindV_mk, bindH_mk, bindJ_mk, asB_mk, asI_mk, asS_mk, asP_mk, asSl_mk, asA_mk, asTu_mk, asSome_mk, unc_mk, endL_mk, selC_eq, condT_eq, letN_mk, letB_mk, case_nn, case_nr, case_ne, case_rn, case_rr, case_re, case_en, case_er, case_ee, decide_eq_true_eq, Bool.not_true, Bool.not_false, Bool.false_eq_true, if_false, if_true, Bool.not_eq_true', decide_eq_false_iff_not, ilt_eq, ile_eq, reduceCtorEq, not_false_eq_true, not_true_eq_false, h']
      exact ⟨H, rfl, hA, .refl hA.ok⟩
theorem reverse_ok (n : Nat) (hn : 2001 ≤ n) {H : VH} {b : Nat} {d : Array N} (hA : Arr H b d) (L : Nat) (hd : d.size = L) (hL : L < 1000) (a e : Nat) (he : e ≤ L) (ha : a < e) (c : Option Nat) (z : Nat) :
    ∃ H', vcall T ext promo n 167 [.slice (some (b, 0)) L c z, .int .i64 (a : Int), .int .i64 (e : Int), cmpF] H = some (.tuple [], H') ∧ Arr H' b (reverseRange d a e) ∧ Did b H H' := by
  obtain ⟨n, rfl⟩ : ∃ m, n = m + 1 := ⟨n - 1, by omega⟩
  obtain ⟨H1, e1, hA1, k1⟩ := rev_loop n b L hL n a (e - 1) d H.lo hd (by omega) (by omega) hA.lo
  refine ⟨_, ok167 _ _ _ _ _ _ _ _ _ (r := (.tuple [], leave H H1 (.tuple []))) ?_, hA1.leave hA.ok hA.lt k1 _, k1.leave hA.ok hA.lt _⟩
  unfold F167
  simp only [letH_mk, bindC_mk, bindV_mk, bindH_mk, bindJ_mk, asB_mk, asI_mk, asS_mk, asP_mk, asSl_mk, asA_mk, asTu_mk, asSome_mk, unc_mk, endL_mk, selC_eq, condT_eq, letN_mk, letB_mk, case_nn, case_nr, case_ne, case_rn, case_rr, case_re, case_en, case_er, case_ee, decide_eq_true_eq, Bool.not_true, Bool.not_false, Bool.false_eq_true, if_false, if_true, Bool.not_eq_true', decide_eq_false_iff_not, ilt_eq, ile_eq, reduceCtorEq, not_false_eq_true, not_true_eq_false, fw_sub1 e (by omega) (by omega), e1]
end
/-! Breaking patterns: three exchanges at places that a generator draws. -/
section
open Go.Sort
def lenB (w : Nat) : Nat := ((len8[w]?).getD 0).toNat
theorem lenB_le : ∀ w : Fin 256, 1 ≤ w.val → 2 ^ lenB w.val ≤ 2 * w.val ∧ lenB w.val ≤ 8 := by decide +kernel
theorem lenB_le8 : ∀ w : Fin 256, lenB w.val ≤ 8 := by decide +kernel
theorem len64s_ok (n : Nat) (hn : 1 ≤ n) (w : Nat) (h : w < 256) (H : VH) : vcall T ext promo n 172 [.int .u64 (w : Int)] H = some (.int .i64 (lenB w : Int), H) := by
  obtain ⟨n, rfl⟩ : ∃ m, n = m + 1 := ⟨n - 1, by omega⟩
  have hl : (PS.of len8).len = 256 := len8_len
  have h8 := lenB_le8 ⟨w, h⟩
  simp only at h8
  have e := len8_byte w h ((len8[w]?).getD 0) (by rw [List.getElem?_eq_getElem (by rw [len8_len]; exact h)]; rfl)
  have e2 : (((len8[w]?).getD 0).toNat : Int) = (lenB w : Int) := rfl
  rw [e2] at e
  generalize lenB w = v at e h8
  unfold len8 at e hl
  dsimp only at e hl
  apply ok172
  unfold F172
  simp only [letH_mk, bindC_mk, bindV_mk, bindH_mk, bindJ_mk, asB_mk, asI_mk, asS_mk, asP_mk, asSl_mk, asA_mk, asTu_mk, asSome_mk, unc_mk, endL_mk, selC_eq, condT_eq, letN_mk, letB_mk, case_nn, case_nr, case_ne, case_rn, case_rr, case_re, case_en, case_er, case_ee, decide_eq_true_eq, Bool.not_true, Bool.not_false, Bool.false_eq_true, if_false, if_true, Bool.not_eq_true', decide_eq_false_iff_not, ilt_eq, ile_eq, reduceCtorEq, not_false_eq_true, not_true_eq_false]
  rw [if_neg (by omega)]
  simp only [letH_mk, bindC_mk, bindV_mk, bindH_mk, bindJ_mk, asB_mk, asI_mk, asS_mk, asP_mk, asSl_mk, asA_mk, asTu_mk, asSome_mk, unc_mk, endL_mk, selC_eq, condT_eq, letN_mk, letB_mk, case_nn, case_nr, case_ne, case_rn, case_rr, case_re, case_en, case_er, case_ee, decide_eq_true_eq, Bool.not_true, Bool.not_false, Bool.false_eq_true, if_false, if_true, Bool.not_eq_true', decide_eq_false_iff_not, ilt_eq, ile_eq, reduceCtorEq, not_false_eq_true, not_true_eq_false]
  rw [if_neg (by omega)]
  simp only [letH_mk, bindC_mk, bindV_mk, bindH_mk, bindJ_mk, asB_mk, asI_mk, asS_mk, asP_mk, asSl_mk, asA_mk, asTu_mk, asSome_mk, unc_mk, endL_mk, selC_eq, condT_eq, letN_mk, letB_mk, case_nn, case_nr, case_ne, case_rn, case_rr, case_re, case_en, case_er, case_ee, decide_eq_true_eq, Bool.not_true, Bool.not_false, Bool.false_eq_true, if_false, if_true, Bool.not_eq_true', decide_eq_false_iff_not, ilt_eq, ile_eq, reduceCtorEq, not_false_eq_true, not_true_eq_false]
  rw [if_neg (by omega)]
  simp only [letH_mk, bindC_mk, bindV_mk, bindH_mk, bindJ_mk, asB_mk, asI_mk, asS_mk, asP_mk, asSl_mk, asA_mk, asTu_mk, asSome_mk, unc_mk, endL_mk, selC_eq, condT_eq, letN_mk, letB_mk, case_nn, case_nr, case_ne, case_rn, case_rr, case_re, case_en, case_er, case_ee, decide_eq_true_eq, Bool.not_true, Bool.not_false, Bool.false_eq_true, if_false, if_true, Bool.not_eq_true', decide_eq_false_iff_not, ilt_eq, ile_eq, reduceCtorEq, not_false_eq_true, not_true_eq_false, Bool.and_eq_true, fw_u8i w h]
  rw [hl, if_pos (by omega), e]
  rw [show fwrap .i64 (v : Int) = (v : Int) from fw_i64 (by omega) (by omega), Int.zero_add, fw_i64 (by omega) (by omega), leave_flat rfl rfl]
theorem len_ok (n : Nat) (hn : 2 ≤ n) (w : Nat) (h : w < 256) (H : VH) : vcall T ext promo n 146 [.int .u64 (w : Int)] H = some (.int .i64 (lenB w : Int), H) := by
  obtain ⟨n, rfl⟩ : ∃ m, n = m + 1 := ⟨n - 1, by omega⟩
  apply ok146
  unfold F146
  simp only [letH_mk, bindC_mk, bindV_mk, bindH_mk, bindJ_mk, asB_mk, asI_mk, asS_mk, asP_mk, asSl_mk, asA_mk, asTu_mk, asSome_mk, unc_mk, endL_mk, selC_eq, condT_eq, letN_mk, letB_mk, case_nn, case_nr, case_ne, case_rn, case_rr, case_re, case_en, case_er, case_ee, decide_eq_true_eq, Bool.not_true, Bool.not_false, Bool.false_eq_true, if_false, if_true, Bool.not_eq_true', decide_eq_false_iff_not, ilt_eq, ile_eq, reduceCtorEq, not_false_eq_true, not_true_eq_false]
  rw [len64s_ok n (by omega) w h]
  simp only [letH_mk, bindC_mk, bindV_mk, bindH_mk, bindJ_mk, asB_mk, asI_mk, asS_mk, asP_mk, asSl_mk, asA_mk, asTu_mk, asSome_mk, unc_mk, endL_mk, selC_eq, condT_eq, letN_mk, letB_mk, case_nn, case_nr, case_ne, case_rn, case_rr, case_re, case_en, case_er, case_ee, decide_eq_true_eq, Bool.not_true, Bool.not_false, Bool.false_eq_true, if_false, if_true, Bool.not_eq_true', decide_eq_false_iff_not, ilt_eq, ile_eq, reduceCtorEq, not_false_eq_true, not_true_eq_false]
  rw [leave_flat rfl rfl]
theorem fw_u64s (w : Nat) (h : w < 1000000) : fwrap .u64 (w : Int) = (w : Int) := by rw [fw_u64]; omega
theorem pow2_ok (n : Nat) (hn : 3 ≤ n) (w : Nat) (h : w < 256) (H : VH) : vcall T ext promo n 188 [.int .i64 (w : Int)] H = some (.int .u64 ((2 ^ lenB w : Nat) : Int), H) := by
  obtain ⟨n, rfl⟩ : ∃ m, n = m + 1 := ⟨n - 1, by omega⟩
  have h8 := lenB_le8 ⟨w, h⟩
  simp only at h8
  have hp : (2 : Nat) ^ lenB w < 2 ^ 64 := Nat.pow_lt_pow_right (by decide) (by omega)
  have e : u64 (1#64 <<< lenB w) = ((2 ^ lenB w : Nat) : Int) := by
    unfold u64
    rw [BitVec.toNat_shiftLeft, Nat.shiftLeft_eq]
    simp only [BitVec.toNat_ofNat, Nat.one_mod_two_pow_eq_one.2 (by decide : 0 < 64), Nat.one_mul]
    rw [Nat.mod_eq_of_lt hp]
  apply ok188
  unfold F188
  simp only [letH_mk, bindC_mk, bindV_mk, bindH_mk, bindJ_mk, asB_mk, asI_mk, asS_mk, asP_mk, asSl_mk, asA_mk, asTu_mk, asSome_mk, unc_mk, endL_mk, selC_eq, condT_eq, letN_mk, letB_mk, case_nn, case_nr, case_ne, case_rn, case_rr, case_re, case_en, case_er, case_ee, decide_eq_true_eq, Bool.not_true, Bool.not_false, Bool.false_eq_true, if_false, if_true, Bool.not_eq_true', decide_eq_false_iff_not, ilt_eq, ile_eq, reduceCtorEq, not_false_eq_true, not_true_eq_false, fw_u64s w (by omega)]
  rw [len_ok n (by omega) w h]
  simp only [letH_mk, bindC_mk, bindV_mk, bindH_mk, bindJ_mk, asB_mk, asI_mk, asS_mk, asP_mk, asSl_mk, asA_mk, asTu_mk, asSome_mk, unc_mk, endL_mk, selC_eq, condT_eq, letN_mk, letB_mk, case_nn, case_nr, case_ne, case_rn, case_rr, case_re, case_en, case_er, case_ee, decide_eq_true_eq, Bool.not_true, Bool.not_false, Bool.false_eq_true, if_false, if_true, Bool.not_eq_true', decide_eq_false_iff_not, ilt_eq, ile_eq, reduceCtorEq, not_false_eq_true, not_true_eq_false]
  rw [shl_one, e]
  simp only [letH_mk, bindC_mk, bindV_mk, bindH_mk, bindJ_mk, asB_mk, asI_mk, asS_mk, asP_mk, asSl_mk, asA_mk, asTu_mk, asSome_mk, unc_mk, endL_mk, selC_eq, condT_eq, letN_mk, letB_mk, case_nn, case_nr, case_ne, case_rn, case_rr, case_re, case_en, case_er, case_ee, decide_eq_true_eq, Bool.not_true, Bool.not_false, Bool.false_eq_true, if_false, if_true, Bool.not_eq_true', decide_eq_false_iff_not, ilt_eq, ile_eq, reduceCtorEq, not_false_eq_true, not_true_eq_false]
  rw [leave_flat rfl rfl]
theorem ishr_bv (x : BitVec 64) (k : Nat) : ishr (u64 x) k = u64 (x >>> k) := by
  simp only [ishr, u64, BitVec.toNat_ushiftRight, Nat.shiftRight_eq_div_pow]
  rfl
theorem xorNext_ok (n : Nat) (hn : 1 ≤ n) {H : VH} (hH : H.Ok) {q : Nat} {r : BitVec 64} (hq : Plain H q [.int .u64 (u64 r)]) :
    ∃ (r' : BitVec 64) (H' : VH), vcall T ext promo n 189 [.ptr (some (q, 0))] H = some (.int .u64 (u64 r'), H') ∧ Plain H' q [.int .u64 (u64 r')] ∧ Did q H H' := by
  obtain ⟨n, rfl⟩ : ∃ m, n = m + 1 := ⟨n - 1, by omega⟩
  have hql := hq.lt hH
  have c0 : H.lo.cell q 0 = some (.int .u64 (u64 r)) := hq.lo.cell 0
  obtain ⟨H1, e1, p1, k1⟩ := plain_put1 (v := .int .u64 (u64 (r ^^^ (r <<< 13)))) hq.lo (lo_ok hH) rfl
  generalize hr1 : r ^^^ (r <<< 13) = r1 at e1 p1
  have c1 : H1.cell q 0 = some (.int .u64 (u64 r1)) := p1.cell 0
  obtain ⟨H2, e2, p2, k2⟩ := plain_put1 (v := .int .u64 (u64 (r1 ^^^ (r1 >>> 7)))) p1 k1.eff.ok rfl
  generalize hr2 : r1 ^^^ (r1 >>> 7) = r2 at e2 p2
  have c2 : H2.cell q 0 = some (.int .u64 (u64 r2)) := p2.cell 0
  obtain ⟨H3, e3, p3, k3⟩ := plain_put1 (v := .int .u64 (u64 (r2 ^^^ (r2 <<< 17)))) p2 k2.eff.ok rfl
  generalize hr3 : r2 ^^^ (r2 <<< 17) = r3 at e3 p3
  have c3 : H3.cell q 0 = some (.int .u64 (u64 r3)) := p3.cell 0
  have k := (k1.trans k2).trans k3
  refine ⟨r3, _, ok189 _ _ _ (r := (.int .u64 (u64 r3), leave H H3 (.int .u64 (u64 r3)))) ?_, plain_leave hH hql p3 k _, k.leave hH hql _⟩
  unfold F189
  simp only [letH_mk, bindC_mk, bindV_mk, bindL_mk, bindH_mk, bindJ_mk, asB_mk, asI_mk, asS_mk, asP_mk, asSl_mk, asA_mk, asTu_mk, asSome_mk, unc_mk, endL_mk, selC_eq, condT_eq, sel_eq, letN_mk, letB_mk, case_nn, case_nr, case_ne, case_rn, case_rr, case_re, case_en, case_er, case_ee, iand_u64, ior_u64, ixor_u64, iandn_u64, inot_u64, ieq_u64_0, ieq_u64, decide_eq_true_eq, Bool.not_true, Bool.not_false, Bool.false_eq_true, if_false, if_true, Bool.not_eq_true', decide_eq_false_iff_not, ilt_eq, ile_eq, reduceCtorEq, not_false_eq_true, not_true_eq_false, c0, shl_u64n, hr1, e1, c1, ishr_bv, hr2, e2, c2, hr3, e3, c3]
/-- Beside block b, blocks that are not older than N may have been written. -/
structure DidN (N b : Nat) (H H' : VH) : Prop where
  eff : Eff (fun x => x = b ∨ N ≤ x) H H'
  same : b < H'.low → H'.row? b = H.row? b
theorem Did.toN {N b : Nat} {H H' : VH} (h : Did b H H') : DidN N b H H' := ⟨h.eff.mono fun x _ e => .inl e, h.same⟩
theorem Did.atN {N b q : Nat} {H H' : VH} (h : Did q H H') (hb : b < H.next) (hq : N ≤ q) (hbq : b ≠ q) : DidN N b H H' :=
  ⟨h.eff.mono fun x _ e => .inr (by omega), fun _ => keep_row h.eff.keep hb hbq⟩
theorem DidN.trans {N b : Nat} {H H1 H2 : VH} (h : DidN N b H H1) (k : DidN N b H1 H2) : DidN N b H H2 :=
  ⟨h.eff.trans k.eff fun x hx => .inl hx, fun hb => (k.same hb).trans (h.same (Nat.lt_of_lt_of_le hb k.eff.low))⟩
theorem DidN.at {b : Nat} {H H' : VH} (h : DidN H.next b H H') : Did b H H' := ⟨h.eff.mono fun x hx e => by omega, h.same⟩
theorem iand_le (x : BitVec 64) (m : Nat) (hm : m < 1000000) : ∃ v : Nat, iand .u64 (u64 x) (m : Int) = (v : Int) ∧ v ≤ m := by
  have e : (m : Int) = u64 (BitVec.ofNat 64 m) := u64_lit m (by omega)
  refine ⟨(x &&& BitVec.ofNat 64 m).toNat, by rw [e, iand_u64], ?_⟩
  rw [BitVec.toNat_and]
  refine Nat.le_trans Nat.and_le_right ?_
  rw [BitVec.toNat_ofNat]
  exact Nat.mod_le _ _
theorem break_loop (n : Nat) (hn : 50 ≤ n) (b L a e : Nat) (hL : L < 256) (ha : a ≤ e) (he : e ≤ L) (h8 : 8 ≤ e - a) (M : Nat) (hM1 : 1 ≤ M) (hM : M ≤ 2 * (e - a)) (H0 : VH) (hbq : b < H0.next) :
    ∀ (m i : Nat) (d : Array N) (r : BitVec 64) (H : VH), d.size = L → a ≤ i → (a + (e - a) / 4 * 2 + 2) - i < m → Arr H b d → Plain H H0.next [.int .u64 (u64 r)] →
      ∃ (d' : Array N) (H' : VH), loopN (L165_0 (vcall T ext promo n) n (some (b, 0)) L H0 (a : Int) ((e - a : Nat) : Int) (M : Int)) m [.int .i64 (i : Int)] H = some (.exit 0, [], H') ∧ Arr H' b d' ∧ PermIn a e d d' ∧ DidN H0.next b H H' := by
  intro m
  induction m with
  | zero => intro i d r H _ _ h; omega
  | succ m ih =>
    intro i d r H hd hi hm hA hq
    rw [loopN_succ]
    generalize loopN (L165_0 (vcall T ext promo n) n (some (b, 0)) L H0 (a : Int) ((e - a : Nat) : Int) (M : Int)) m = lp at ih ⊢
    unfold L165_0
    have f2 := tdiv4 (e - a) (by omega)
    have f4 : fwrap .i64 (((((e - a) / 4 : Nat)) : Int) * 2) = (((e - a) / 4 * 2 : Nat) : Int) := by rw [fw_i64 (by omega) (by omega)]; omega
    have f7 := fw_addn a ((e - a) / 4 * 2) (by omega)
    have f8 := fw_add1 (a + (e - a) / 4 * 2) (by omega)
    by_cases h : i ≤ a + (e - a) / 4 * 2 + 1
    · have h' : (i : Int) ≤ ((a + (e - a) / 4 * 2 + 1 : Nat) : Int) := by omega
      obtain ⟨r', H1, e1, p1, k1⟩ := xorNext_ok n (by omega) hA.ok hq
      have a1 := hA.keepAt k1 (by omega)
      obtain ⟨v, hv1, hv2⟩ := iand_le r' (M - 1) (by omega)
      have f9 : fwrap .u64 ((M : Int) - 1) = ((M - 1 : Nat) : Int) := by rw [fw_u64]; omega
      have f10 : fwrap .i64 (v : Int) = (v : Int) := fw_i64 (by omega) (by omega)
      have fin : ∀ o : Nat, o < e - a → ∃ (d' : Array N) (H' : VH), (if (0 : Int) ≤ ((a + o : Nat) : Int) ∧ ((a + o : Nat) : Int) < (L : Int) then bindL (H1.cells b (0 + (a + o) * 5) 5) fun l39 => unc l39 fun a41 l42 => asS a41 fun s43 => unc l42 fun a44 l45 => asI .i64 a44 fun n46 => unc l45 fun a47 l48 => asI .i64 a47 fun n49 => unc l48 fun a50 l51 => asI .i64 a50 fun n52 => unc l51 fun a53 l54 => asS a53 fun s55 => endL l54 (if (0 : Int) ≤ (i : Int) ∧ (i : Int) < (L : Int) then bindL (H1.cells b (0 + i * 5) 5) fun l59 => unc l59 fun a61 l62 => asS a61 fun s63 => unc l62 fun a64 l65 => asI .i64 a64 fun n66 => unc l65 fun a67 l68 => asI .i64 a67 fun n69 => unc l68 fun a70 l71 => asI .i64 a70 fun n72 => unc l71 fun a73 l74 => asS a73 fun s75 => endL l74 (if (0 : Int) ≤ (i : Int) ∧ (i : Int) < (L : Int) then bindH (H1.puts b (0 + i * 5) [.str s43, .int .i64 n46, .int .i64 n49, .int .i64 n52, .str s55]) fun H78 => if (0 : Int) ≤ ((a + o : Nat) : Int) ∧ ((a + o : Nat) : Int) < (L : Int) then bindH (H78.puts b (0 + (a + o) * 5) [.str s63, .int .i64 n66, .int .i64 n69, .int .i64 n72, .str s75]) fun H81 => lp [.int .i64 ((i + 1 : Nat) : Int)] H81 else none else none) else none) else none) = some (.exit 0, [], H') ∧ Arr H' b d' ∧ PermIn a e d d' ∧ DidN H0.next b H H' := by
        intro o ho
        obtain ⟨H2, e2, a2, k2⟩ := a1.swap i (a + o) L (by omega) (by omega) hd
        simp only [N.cells] at e2
        have p2 := p1.keep k1.eff.ok k2.eff.keep (show ¬ H0.next = b by omega)
        obtain ⟨d', H3, e3, a3, pm, k3⟩ := ih (i + 1) _ r' H2 (by rw [swp_size]; exact hd) (by omega) (by omega) a2 p2
        refine ⟨d', H3, ?_, a3, permIn_trans _ _ _ _ _ (swp_permIn d a e i (a + o) (by omega) (by omega) (by omega) (by omega) (by omega)) pm, (k1.atN hA.lt (Nat.le_refl _) (by omega)).trans (k2.toN.trans k3)⟩
        rw [a1.rd (a + o) L (by omega) hd]
        simp only [N.cells, letH_mk, bindC_mk, bindV_mk, bindH_mk, bindJ_mk, asB_mk, asI_mk, asS_mk, asP_mk, asSl_mk, asA_mk, asTu_mk, asSome_mk, unc_mk, endL_mk, selC_eq, condT_eq, letN_mk, letB_mk, case_nn, case_nr, case_ne, case_rn, case_rr, case_re, case_en, case_er, case_ee, decide_eq_true_eq, Bool.not_true, Bool.not_false, Bool.false_eq_true, if_false, if_true, Bool.not_eq_true', decide_eq_false_iff_not, ilt_eq, ile_eq, reduceCtorEq, not_false_eq_true, not_true_eq_false]
        rw [a1.rd i L (by omega) hd]
        simp only [N.cells, letH_mk, bindC_mk, bindV_mk, bindH_mk, bindJ_mk, asB_mk, asI_mk, asS_mk, asP_mk, asSl_mk, asA_mk, asTu_mk, asSome_mk, unc_mk, endL_mk, selC_eq, condT_eq, letN_mk, letB_mk, case_nn, case_nr, case_ne, case_rn, case_rr, case_re, case_en, case_er, case_ee, decide_eq_true_eq, Bool.not_true, Bool.not_false, Bool.false_eq_true, if_false, if_true, Bool.not_eq_true', decide_eq_false_iff_not, ilt_eq, ile_eq, reduceCtorEq, not_false_eq_true, not_true_eq_false, e2]
        exact e3
      simp only [letH_mk, bindC_mk, bindV_mk, bindH_mk, bindJ_mk, asB_mk, asI_mk, asS_mk, asP_mk, asSl_mk, asA_mk, asTu_mk, asSome_mk, unc_mk, endL_mk, selC_eq, condT_eq, letN_mk, letB_mk, case_nn, case_nr, case_ne, case_rn, case_rr, case_re, case_en, case_er, case_ee, decide_eq_true_eq, Bool.not_true, Bool.not_false, Bool.false_eq_true, if_false, if_true, Bool.not_eq_true', decide_eq_false_iff_not, ilt_eq, ile_eq, reduceCtorEq, not_false_eq_true, not_true_eq_false, f2, f4, f7, f8, h', e1, f9, hv1, f10, fw_add1 i (by omega)]
      by_cases h3 : e - a ≤ v
      · have h3' : ((e - a : Nat) : Int) ≤ (v : Int) := by omega
        have f11 := fw_subn v (e - a) h3 (by omega)
        have f12 := fw_addn a (v - (e - a)) (by omega)
        obtain ⟨d', H', q1, q2, q3, q4⟩ := fin (v - (e - a)) (by omega)
        refine ⟨d', H', ?_, q2, q3, q4⟩
        simp only [letH_mk, bindC_mk, bindV_mk, bindH_mk, bindJ_mk, asB_mk, asI_mk, asS_mk, asP_mk, asSl_mk, asA_mk, asTu_mk, asSome_mk, unc_mk, endL_mk, selC_eq, condT_eq, letN_mk, letB_mk, case_nn, case_nr, case_ne, case_rn, case_rr, case_re, case_en, case_er, case_ee, decide_eq_true_eq, Bool.not_true, Bool.not_false, Bool.false_eq_true, if_false, if_true, Bool.not_eq_true', decide_eq_false_iff_not, ilt_eq, ile_eq, reduceCtorEq, not_false_eq_true, not_true_eq_false, h3', f11, f12, Int.toNat_natCast, Bool.and_eq_true]
        exact q1
      · have h3' : ¬ ((e - a : Nat) : Int) ≤ (v : Int) := by omega
        have f12 := fw_addn a v (by omega)
        obtain ⟨d', H', q1, q2, q3, q4⟩ := fin v (by omega)
        refine ⟨d', H', ?_, q2, q3, q4⟩
        simp only [letH_mk, bindC_mk, bindV_mk, bindH_mk, bindJ_mk, asB_mk, asI_mk, asS_mk, asP_mk, asSl_mk, asA_mk, asTu_mk, asSome_mk, unc_mk, endL_mk, selC_eq, condT_eq, letN_mk, letB_mk, case_nn, case_nr, case_ne, case_rn, case_rr, case_re, case_en, case_er, case_ee, decide_eq_true_eq, Bool.not_true, Bool.not_false, Bool.false_eq_true, if_false, if_true, Bool.not_eq_true', decide_eq_false_iff_not, ilt_eq, ile_eq, reduceCtorEq, not_false_eq_true, not_true_eq_false, h3', f12, Int.toNat_natCast, Bool.and_eq_true]
        exact q1
    · have h' : ¬ (i : Int) ≤ ((a + (e - a) / 4 * 2 + 1 : Nat) : Int) := by omega
      refine ⟨d, H, ?_, hA, permIn_refl _ _ _, .refl hA.ok, fun _ => rfl⟩
      simp only [letH_mk, bindC_mk, bindV_mk, bindH_mk, bindJ_mk, asB_mk, asI_mk, asS_mk, asP_mk, asSl_mk, asA_mk, asTu_mk, asSome_mk, unc_mk, endL_mk, selC_eq, condT_eq, letN_mk, letB_mk, case_nn, case_nr, case_ne, case_rn, case_rr, case_re, case_en, case_er, case_ee, decide_eq_true_eq, Bool.not_true, Bool.not_false, Bool.false_eq_true, if_false, if_true, Bool.not_eq_true', decide_eq_false_iff_not, ilt_eq, ile_eq, reduceCtorEq, not_false_eq_true, not_true_eq_false, f2, f4, f7, f8, h']
theorem break_ok (n : Nat) (hn : 2001 ≤ n) {H : VH} {b : Nat} {d : Array N} (hA : Arr H b d) (L : Nat) (hd : d.size = L) (hL : L < 256) (a e : Nat) (he : e ≤ L) (ha : a ≤ e) (c : Option Nat) (z : Nat) :
    ∃ (d' : Array N) (H' : VH), vcall T ext promo n 165 [.slice (some (b, 0)) L c z, .int .i64 (a : Int), .int .i64 (e : Int), cmpF] H = some (.tuple [], H') ∧ Arr H' b d' ∧ PermIn a e d d' ∧ Did b H H' := by
  obtain ⟨n, rfl⟩ : ∃ m, n = m + 1 := ⟨n - 1, by omega⟩
  have hb := hA.lt
  have f1 := fw_subn e a ha (by omega)
  by_cases h8 : 8 ≤ e - a
  · have h8' : (8 : Int) ≤ ((e - a : Nat) : Int) := by omega
    have a0 := hA.lo.fresh [.int .u64 0]
    have p0 := fresh_plain (lo_ok hA.ok) [.int .u64 0]
    simp only [lo_next] at p0
    have k0 : Did H.next H.lo (H.lo.fresh [.int .u64 0]) := ⟨.fresh _ (lo_ok hA.ok) _, fun h => absurd h (Nat.lt_irrefl _)⟩
    obtain ⟨H1, e1, p1, k1⟩ := plain_put1 (v := .int .u64 (u64 (BitVec.ofNat 64 (e - a)))) p0 a0.ok rfl
    have a1 := a0.keepAt k1 (by omega)
    have hM := lenB_le ⟨e - a, by omega⟩ (by simp only; omega)
    simp only at hM
    have h2 : 2 ≤ (e - a) / 4 * 2 := by omega
    obtain ⟨d', H2, e2, a2, pm, k2⟩ := break_loop n (by omega) b L a e hL ha he h8 (2 ^ lenB (e - a)) (Nat.one_le_two_pow) hM.1 H.lo hb n (a + (e - a) / 4 * 2 - 1) d _ H1 hd (by omega) (by omega) a1 p1
    have k : Did b H.lo H2 := DidN.at ((k0.atN (b := b) (N := H.next) hb (Nat.le_refl _) (by omega)).trans ((k1.atN a0.lt (Nat.le_refl _) (by omega)).trans k2))
    refine ⟨d', _, ok165 _ _ _ _ _ _ _ _ _ (r := (.tuple [], leave H H2 (.tuple []))) ?_, a2.leave hA.ok hb k _, pm, k.leave hA.ok hb _⟩
    unfold F165
    have f2 := tdiv4 (e - a) (by omega)
    have f4 : fwrap .i64 (((((e - a) / 4 : Nat)) : Int) * 2) = (((e - a) / 4 * 2 : Nat) : Int) := by rw [fw_i64 (by omega) (by omega)]; omega
    have f7 := fw_addn a ((e - a) / 4 * 2) (by omega)
    have f9 : fwrap .u64 ((e - a : Nat) : Int) = u64 (BitVec.ofNat 64 (e - a)) := by rw [fw_u64s _ (by omega)]; exact u64_lit _ (by omega)
    simp only [letH_mk, bindC_mk, bindV_mk, bindH_mk, bindJ_mk, asB_mk, asI_mk, asS_mk, asP_mk, asSl_mk, asA_mk, asTu_mk, asSome_mk, unc_mk, endL_mk, selC_eq, condT_eq, letN_mk, letB_mk, case_nn, case_nr, case_ne, case_rn, case_rr, case_re, case_en, case_er, case_ee, decide_eq_true_eq, Bool.not_true, Bool.not_false, Bool.false_eq_true, if_false, if_true, Bool.not_eq_true', decide_eq_false_iff_not, ilt_eq, ile_eq, reduceCtorEq, not_false_eq_true, not_true_eq_false, f1, h8', lo_next, f9, e1]
    rw [pow2_ok n (by omega) (e - a) (by omega)]
    simp only [letH_mk, bindC_mk, bindV_mk, bindH_mk, bindJ_mk, asB_mk, asI_mk, asS_mk, asP_mk, asSl_mk, asA_mk, asTu_mk, asSome_mk, unc_mk, endL_mk, selC_eq, condT_eq, letN_mk, letB_mk, case_nn, case_nr, case_ne, case_rn, case_rr, case_re, case_en, case_er, case_ee, decide_eq_true_eq, Bool.not_true, Bool.not_false, Bool.false_eq_true, if_false, if_true, Bool.not_eq_true', decide_eq_false_iff_not, ilt_eq, ile_eq, reduceCtorEq, not_false_eq_true, not_true_eq_false, f2, f4, f7, fw_sub1 (a + (e - a) / 4 * 2) (by omega) (by omega), e2]
  · have h8' : ¬ (8 : Int) ≤ ((e - a : Nat) : Int) := by omega
    refine ⟨d, H, ok165 _ _ _ _ _ _ _ _ _ (r := (.tuple [], H)) ?_, hA, permIn_refl _ _ _, .refl hA.ok⟩
    unfold F165
    simp only [letH_mk, bindC_mk, bindV_mk, bindH_mk, bindJ_mk, asB_mk, asI_mk, asS_mk, asP_mk, asSl_mk, asA_mk, asTu_mk, asSome_mk, unc_mk, endL_mk, selC_eq, condT_eq, letN_mk, letB_mk, case_nn, case_nr, case_ne, case_rn, case_rr, case_re, case_en, case_er, case_ee, decide_eq_true_eq, Bool.not_true, Bool.not_false, Bool.false_eq_true, if_false, if_true, Bool.not_eq_true', decide_eq_false_iff_not, ilt_eq, ile_eq, reduceCtorEq, not_false_eq_true, not_true_eq_false, f1, h8']
    rw [leave_flat rfl rfl]
end
end Go.Vm.Tryd
