/- The partitions; the partial sort; the sort. -/
import Derived.Test.YtieocmaaloaoaaaDoorS2
namespace Go.Vm.Tryd
set_option linter.unusedSectionVars false
set_option linter.unusedSimpArgs false
set_option linter.unusedVariables false
set_option maxRecDepth 10000
/-! The partitions. -/
section
open Go.Sort
theorem not_lt (x y : N) : (!decide (cmpN x y < 0)) = !ltN x y := rfl
theorem scanUp_step (p : N → Bool) (d : Array N) (j i : Nat) : scanUp p d j i = if i ≤ j ∧ p d[i]! = true then scanUp p d j (i + 1) else i := by
  rw [scanUp]
  by_cases h : i ≤ j <;> simp [h]
theorem scanUp_le (p : N → Bool) (d : Array N) (j : Nat) : ∀ (m i : Nat), j + 1 - i < m → i ≤ scanUp p d j i ∧ scanUp p d j i ≤ max i (j + 1) := by
  intro m
  induction m with
  | zero => intro i h; omega
  | succ m ih =>
    intro i h
    rw [scanUp_step]
    split
    · rename_i hc
      have := ih (i + 1) (by omega)
      omega
    · omega
theorem scanDown_le (p : N → Bool) (d : Array N) (i : Nat) : ∀ j, scanDown p d i j ≤ j ∧ (1 ≤ i → i ≤ j + 1 → i - 1 ≤ scanDown p d i j)
  | 0 => ⟨Nat.le_refl _, fun _ _ => by simp only [scanDown]; omega⟩
  | j + 1 => by
    have ih := scanDown_le p d i j
    unfold scanDown
    split
    · rename_i h
      simp only [Bool.and_eq_true, decide_eq_true_eq] at h
      exact ⟨by omega, fun h1 h2 => ih.2 h1 (by omega)⟩
    · rename_i h
      refine ⟨Nat.le_refl _, fun h1 h2 => by omega⟩
section
variable (n : Nat) (hn : 50 ≤ n) (b L a : Nat) (hL : L < 1000) (haL : a < L)
include hn hL haL
/-! Upward scans. -/
theorem up170_0 (j : Nat) (d : Array N) (H : VH) (hd : d.size = L) (hj : j < L) (hA : Arr H b d) : ∀ (m i : Nat), j + 1 - i < m →
    loopN (L170_0 (vcall T ext promo n) n (some (b, 0)) L (a : Int) cmpF (j : Int)) m [.int .i64 (i : Int)] H = some (.exit 0, [.int .i64 ((scanUp (fun x => ltN x d[a]!) d j i : Nat) : Int)], H) := by
  intro m
  induction m with
  | zero => intro i h; omega
  | succ m ih =>
    intro i hm
    rw [loopN_succ]
    generalize loopN (L170_0 (vcall T ext promo n) n (some (b, 0)) L (a : Int) cmpF (j : Int)) m = lp at ih ⊢
    unfold L170_0
    rw [scanUp_step]
    by_cases h : i ≤ j
    · have h' : (i : Int) ≤ (j : Int) := by omega
      simp only [letH_mk, bindC_mk, bindV_mk, bindH_mk, bindJ_mk, asB_mk, asI_mk, asS_mk, asP_mk, asSl_mk, asA_mk, asTu_mk, asSome_mk, unc_mk, endL_mk, selC_eq, condT_eq, letN_mk, letB_mk, case_nn, case_nr, case_ne, case_rn, case_rr, case_re, case_en, case_er, case_ee, decide_eq_true_eq, Bool.not_true, Bool.not_false, Bool.false_eq_true, if_false, if_true, Bool.not_eq_true', decide_eq_false_iff_not, ilt_eq, ile_eq, reduceCtorEq, not_false_eq_true, not_true_eq_false, h', h, true_and, asFn_mk, List.nil_append, List.append_nil, Int.toNat_natCast, Bool.and_eq_true, hA.rd i L (by omega) hd, hA.rd a L (by omega) hd, N.cells, cmp_ok n (by omega) _ _ hA.ok, cmp_lt, fw_add1 i (by omega)]
      by_cases c : ltN d[i]! d[a]! = true
      · rw [if_pos c, if_pos c]
        exact ih (i + 1) (by omega)
      · rw [if_neg c, if_neg c]
    · have h' : ¬ (i : Int) ≤ (j : Int) := by omega
      simp only [letH_mk, bindC_mk, bindV_mk, bindH_mk, bindJ_mk, asB_mk, asI_mk, asS_mk, asP_mk, asSl_mk, asA_mk, asTu_mk, asSome_mk, unc_mk, endL_mk, selC_eq, condT_eq, letN_mk, letB_mk, case_nn, case_nr, case_ne, case_rn, case_rr, case_re, case_en, case_er, case_ee, decide_eq_true_eq, Bool.not_true, Bool.not_false, Bool.false_eq_true, if_false, if_true, Bool.not_eq_true', decide_eq_false_iff_not, ilt_eq, ile_eq, reduceCtorEq, not_false_eq_true, not_true_eq_false, h', h, false_and]
theorem dn170_1 (i : Nat) (hi : 1 ≤ i) (d : Array N) (H : VH) (hd : d.size = L) (hA : Arr H b d) : ∀ (m j : Nat), j < m → j < L → 
    loopN (L170_1 (vcall T ext promo n) n (some (b, 0)) L (a : Int) cmpF (i : Int)) m [.int .i64 (j : Int)] H = some (.exit 2, [.int .i64 ((scanDown (fun x => !ltN x d[a]!) d i j : Nat) : Int)], H) := by
  intro m
  induction m with
  | zero => intro i h; omega
  | succ m ih =>
    intro j hm hj
    rw [loopN_succ]
    generalize loopN (L170_1 (vcall T ext promo n) n (some (b, 0)) L (a : Int) cmpF (i : Int)) m = lp at ih ⊢
    unfold L170_1
    by_cases h : i ≤ j
    · have h' : (i : Int) ≤ (j : Int) := by omega
      obtain ⟨j, rfl⟩ : ∃ j', j = j' + 1 := ⟨j - 1, by omega⟩
      have gt : decide (i ≤ j + 1) = true := decide_eq_true h
      unfold scanDown
      simp only [letH_mk, bindC_mk, bindV_mk, bindH_mk, bindJ_mk, asB_mk, asI_mk, asS_mk, asP_mk, asSl_mk, asA_mk, asTu_mk, asSome_mk, unc_mk, endL_mk, selC_eq, condT_eq, letN_mk, letB_mk, case_nn, case_nr, case_ne, case_rn, case_rr, case_re, case_en, case_er, case_ee, decide_eq_true_eq, Bool.not_true, Bool.not_false, Bool.false_eq_true, if_false, if_true, Bool.not_eq_true', decide_eq_false_iff_not, ilt_eq, ile_eq, reduceCtorEq, not_false_eq_true, not_true_eq_false, h', gt, Bool.true_and, asFn_mk, List.nil_append, List.append_nil, Int.toNat_natCast, Bool.and_eq_true, hA.rd (j + 1) L (by omega) hd, hA.rd a L (by omega) hd, N.cells, cmp_ok n (by omega) _ _ hA.ok, cmp_lt, fw_sub1 (j + 1) (by omega) (by omega), Nat.add_sub_cancel]
      by_cases c : ltN d[j + 1]! d[a]! = true
      · simp only [c, letH_mk, bindC_mk, bindV_mk, bindH_mk, bindJ_mk, asB_mk, asI_mk, asS_mk, asP_mk, asSl_mk, asA_mk, asTu_mk, asSome_mk, unc_mk, endL_mk, selC_eq, condT_eq, letN_mk, letB_mk, case_nn, case_nr, case_ne, case_rn, case_rr, case_re, case_en, case_er, case_ee, decide_eq_true_eq, Bool.not_true, Bool.not_false, Bool.false_eq_true, if_false, if_true, Bool.not_eq_true', decide_eq_false_iff_not, ilt_eq, ile_eq, reduceCtorEq, not_false_eq_true, not_true_eq_false]
      · have c' : ltN d[j + 1]! d[a]! = false := by simpa using c
        simp only [c', letH_mk, bindC_mk, bindV_mk, bindH_mk, bindJ_mk, asB_mk, asI_mk, asS_mk, asP_mk, asSl_mk, asA_mk, asTu_mk, asSome_mk, unc_mk, endL_mk, selC_eq, condT_eq, letN_mk, letB_mk, case_nn, case_nr, case_ne, case_rn, case_rr, case_re, case_en, case_er, case_ee, decide_eq_true_eq, Bool.not_true, Bool.not_false, Bool.false_eq_true, if_false, if_true, Bool.not_eq_true', decide_eq_false_iff_not, ilt_eq, ile_eq, reduceCtorEq, not_false_eq_true, not_true_eq_false]
        exact ih j (by omega) (by omega)
    · have h' : ¬ (i : Int) ≤ (j : Int) := by omega
      simp only [letH_mk, bindC_mk, bindV_mk, bindH_mk, bindJ_mk, asB_mk, asI_mk, asS_mk, asP_mk, asSl_mk, asA_mk, asTu_mk, asSome_mk, unc_mk, endL_mk, selC_eq, condT_eq, letN_mk, letB_mk, case_nn, case_nr, case_ne, case_rn, case_rr, case_re, case_en, case_er, case_ee, decide_eq_true_eq, Bool.not_true, Bool.not_false, Bool.false_eq_true, if_false, if_true, Bool.not_eq_true', decide_eq_false_iff_not, ilt_eq, ile_eq, reduceCtorEq, not_false_eq_true, not_true_eq_false, h']
      cases j with
      | zero => rfl
      | succ j =>
        have gt : decide (i ≤ j + 1) = false := decide_eq_false h
        unfold scanDown
        simp only [gt, Bool.false_and, Bool.false_eq_true, if_false]
theorem up170_3 (j : Nat) (d : Array N) (H : VH) (hd : d.size = L) (hj : j < L) (hA : Arr H b d) : ∀ (m i : Nat), j + 1 - i < m →
    loopN (L170_3 (vcall T ext promo n) n (some (b, 0)) L (a : Int) cmpF (j : Int)) m [.int .i64 (i : Int)] H = some (.exit 6, [.int .i64 ((scanUp (fun x => ltN x d[a]!) d j i : Nat) : Int)], H) := by
  intro m
  induction m with
  | zero => intro i h; omega
  | succ m ih =>
    intro i hm
    rw [loopN_succ]
    generalize loopN (L170_3 (vcall T ext promo n) n (some (b, 0)) L (a : Int) cmpF (j : Int)) m = lp at ih ⊢
    unfold L170_3
    rw [scanUp_step]
    by_cases h : i ≤ j
    · have h' : (i : Int) ≤ (j : Int) := by omega
      simp only [letH_mk, bindC_mk, bindV_mk, bindH_mk, bindJ_mk, asB_mk, asI_mk, asS_mk, asP_mk, asSl_mk, asA_mk, asTu_mk, asSome_mk, unc_mk, endL_mk, selC_eq, condT_eq, letN_mk, letB_mk, case_nn, case_nr, case_ne, case_rn, case_rr, case_re, case_en, case_er, case_ee, decide_eq_true_eq, Bool.not_true, Bool.not_false, Bool.false_eq_true, if_false, if_true, Bool.not_eq_true', decide_eq_false_iff_not, ilt_eq, ile_eq, reduceCtorEq, not_false_eq_true, not_true_eq_false, h', h, true_and, asFn_mk, List.nil_append, List.append_nil, Int.toNat_natCast, Bool.and_eq_true, hA.rd i L (by omega) hd, hA.rd a L (by omega) hd, N.cells, cmp_ok n (by omega) _ _ hA.ok, cmp_lt, fw_add1 i (by omega)]
      by_cases c : ltN d[i]! d[a]! = true
      · rw [if_pos c, if_pos c]
        exact ih (i + 1) (by omega)
      · rw [if_neg c, if_neg c]
    · have h' : ¬ (i : Int) ≤ (j : Int) := by omega
      simp only [letH_mk, bindC_mk, bindV_mk, bindH_mk, bindJ_mk, asB_mk, asI_mk, asS_mk, asP_mk, asSl_mk, asA_mk, asTu_mk, asSome_mk, unc_mk, endL_mk, selC_eq, condT_eq, letN_mk, letB_mk, case_nn, case_nr, case_ne, case_rn, case_rr, case_re, case_en, case_er, case_ee, decide_eq_true_eq, Bool.not_true, Bool.not_false, Bool.false_eq_true, if_false, if_true, Bool.not_eq_true', decide_eq_false_iff_not, ilt_eq, ile_eq, reduceCtorEq, not_false_eq_true, not_true_eq_false, h', h, false_and]
theorem dn170_4 (i : Nat) (hi : 1 ≤ i) (d : Array N) (H : VH) (hd : d.size = L) (hA : Arr H b d) : ∀ (m j : Nat), j < m → j < L → 
    loopN (L170_4 (vcall T ext promo n) n (some (b, 0)) L (a : Int) cmpF (i : Int)) m [.int .i64 (j : Int)] H = some (.exit 8, [.int .i64 ((scanDown (fun x => !ltN x d[a]!) d i j : Nat) : Int)], H) := by
  intro m
  induction m with
  | zero => intro i h; omega
  | succ m ih =>
    intro j hm hj
    rw [loopN_succ]
    generalize loopN (L170_4 (vcall T ext promo n) n (some (b, 0)) L (a : Int) cmpF (i : Int)) m = lp at ih ⊢
    unfold L170_4
    by_cases h : i ≤ j
    · have h' : (i : Int) ≤ (j : Int) := by omega
      obtain ⟨j, rfl⟩ : ∃ j', j = j' + 1 := ⟨j - 1, by omega⟩
      have gt : decide (i ≤ j + 1) = true := decide_eq_true h
      unfold scanDown
      simp only [letH_mk, bindC_mk, bindV_mk, bindH_mk, bindJ_mk, asB_mk, asI_mk, asS_mk, asP_mk, asSl_mk, asA_mk, asTu_mk, asSome_mk, unc_mk, endL_mk, selC_eq, condT_eq, letN_mk, letB_mk, case_nn, case_nr, case_ne, case_rn, case_rr, case_re, case_en, case_er, case_ee, decide_eq_true_eq, Bool.not_true, Bool.not_false, Bool.false_eq_true, if_false, if_true, Bool.not_eq_true', decide_eq_false_iff_not, ilt_eq, ile_eq, reduceCtorEq, not_false_eq_true, not_true_eq_false, h', gt, Bool.true_and, asFn_mk, List.nil_append, List.append_nil, Int.toNat_natCast, Bool.and_eq_true, hA.rd (j + 1) L (by omega) hd, hA.rd a L (by omega) hd, N.cells, cmp_ok n (by omega) _ _ hA.ok, cmp_lt, fw_sub1 (j + 1) (by omega) (by omega), Nat.add_sub_cancel]
      by_cases c : ltN d[j + 1]! d[a]! = true
      · simp only [c, letH_mk, bindC_mk, bindV_mk, bindH_mk, bindJ_mk, asB_mk, asI_mk, asS_mk, asP_mk, asSl_mk, asA_mk, asTu_mk, asSome_mk, unc_mk, endL_mk, selC_eq, condT_eq, letN_mk, letB_mk, case_nn, case_nr, case_ne, case_rn, case_rr, case_re, case_en, case_er, case_ee, decide_eq_true_eq, Bool.not_true, Bool.not_false, Bool.false_eq_true, if_false, if_true, Bool.not_eq_true', decide_eq_false_iff_not, ilt_eq, ile_eq, reduceCtorEq, not_false_eq_true, not_true_eq_false]
      · have c' : ltN d[j + 1]! d[a]! = false := by simpa using c
        simp only [c', letH_mk, bindC_mk, bindV_mk, bindH_mk, bindJ_mk, asB_mk, asI_mk, asS_mk, asP_mk, asSl_mk, asA_mk, asTu_mk, asSome_mk, unc_mk, endL_mk, selC_eq, condT_eq, letN_mk, letB_mk, case_nn, case_nr, case_ne, case_rn, case_rr, case_re, case_en, case_er, case_ee, decide_eq_true_eq, Bool.not_true, Bool.not_false, Bool.false_eq_true, if_false, if_true, Bool.not_eq_true', decide_eq_false_iff_not, ilt_eq, ile_eq, reduceCtorEq, not_false_eq_true, not_true_eq_false]
        exact ih j (by omega) (by omega)
    · have h' : ¬ (i : Int) ≤ (j : Int) := by omega
      simp only [letH_mk, bindC_mk, bindV_mk, bindH_mk, bindJ_mk, asB_mk, asI_mk, asS_mk, asP_mk, asSl_mk, asA_mk, asTu_mk, asSome_mk, unc_mk, endL_mk, selC_eq, condT_eq, letN_mk, letB_mk, case_nn, case_nr, case_ne, case_rn, case_rr, case_re, case_en, case_er, case_ee, decide_eq_true_eq, Bool.not_true, Bool.not_false, Bool.false_eq_true, if_false, if_true, Bool.not_eq_true', decide_eq_false_iff_not, ilt_eq, ile_eq, reduceCtorEq, not_false_eq_true, not_true_eq_false, h']
      cases j with
      | zero => rfl
      | succ j =>
        have gt : decide (i ≤ j + 1) = false := decide_eq_false h
        unfold scanDown
        simp only [gt, Bool.false_and, Bool.false_eq_true, if_false]
theorem up169_1 (j : Nat) (d : Array N) (H : VH) (hd : d.size = L) (hj : j < L) (hA : Arr H b d) : ∀ (m i : Nat), j + 1 - i < m →
    loopN (L169_1 (vcall T ext promo n) n (some (b, 0)) L (a : Int) cmpF (j : Int)) m [.int .i64 (i : Int)] H = some (.exit 2, [.int .i64 ((scanUp (fun x => !ltN d[a]! x) d j i : Nat) : Int)], H) := by
  intro m
  induction m with
  | zero => intro i h; omega
  | succ m ih =>
    intro i hm
    rw [loopN_succ]
    generalize loopN (L169_1 (vcall T ext promo n) n (some (b, 0)) L (a : Int) cmpF (j : Int)) m = lp at ih ⊢
    unfold L169_1
    rw [scanUp_step]
    by_cases h : i ≤ j
    · have h' : (i : Int) ≤ (j : Int) := by omega
      simp only [letH_mk, bindC_mk, bindV_mk, bindH_mk, bindJ_mk, asB_mk, asI_mk, asS_mk, asP_mk, asSl_mk, asA_mk, asTu_mk, asSome_mk, unc_mk, endL_mk, selC_eq, condT_eq, letN_mk, letB_mk, case_nn, case_nr, case_ne, case_rn, case_rr, case_re, case_en, case_er, case_ee, decide_eq_true_eq, Bool.not_true, Bool.not_false, Bool.false_eq_true, if_false, if_true, Bool.not_eq_true', decide_eq_false_iff_not, ilt_eq, ile_eq, reduceCtorEq, not_false_eq_true, not_true_eq_false, h', h, true_and, asFn_mk, List.nil_append, List.append_nil, Int.toNat_natCast, Bool.and_eq_true, hA.rd i L (by omega) hd, hA.rd a L (by omega) hd, N.cells, cmp_ok n (by omega) _ _ hA.ok, cmp_lt, fw_add1 i (by omega)]
      by_cases c : ltN d[a]! d[i]! = true
      · simp only [c, letH_mk, bindC_mk, bindV_mk, bindH_mk, bindJ_mk, asB_mk, asI_mk, asS_mk, asP_mk, asSl_mk, asA_mk, asTu_mk, asSome_mk, unc_mk, endL_mk, selC_eq, condT_eq, letN_mk, letB_mk, case_nn, case_nr, case_ne, case_rn, case_rr, case_re, case_en, case_er, case_ee, decide_eq_true_eq, Bool.not_true, Bool.not_false, Bool.false_eq_true, if_false, if_true, Bool.not_eq_true', decide_eq_false_iff_not, ilt_eq, ile_eq, reduceCtorEq, not_false_eq_true, not_true_eq_false]
      · have c' : ltN d[a]! d[i]! = false := by simpa using c
        simp only [c', letH_mk, bindC_mk, bindV_mk, bindH_mk, bindJ_mk, asB_mk, asI_mk, asS_mk, asP_mk, asSl_mk, asA_mk, asTu_mk, asSome_mk, unc_mk, endL_mk, selC_eq, condT_eq, letN_mk, letB_mk, case_nn, case_nr, case_ne, case_rn, case_rr, case_re, case_en, case_er, case_ee, decide_eq_true_eq, Bool.not_true, Bool.not_false, Bool.false_eq_true, if_false, if_true, Bool.not_eq_true', decide_eq_false_iff_not, ilt_eq, ile_eq, reduceCtorEq, not_false_eq_true, not_true_eq_false]
        exact ih (i + 1) (by omega)
    · have h' : ¬ (i : Int) ≤ (j : Int) := by omega
      simp only [letH_mk, bindC_mk, bindV_mk, bindH_mk, bindJ_mk, asB_mk, asI_mk, asS_mk, asP_mk, asSl_mk, asA_mk, asTu_mk, asSome_mk, unc_mk, endL_mk, selC_eq, condT_eq, letN_mk, letB_mk, case_nn, case_nr, case_ne, case_rn, case_rr, case_re, case_en, case_er, case_ee, decide_eq_true_eq, Bool.not_true, Bool.not_false, Bool.false_eq_true, if_false, if_true, Bool.not_eq_true', decide_eq_false_iff_not, ilt_eq, ile_eq, reduceCtorEq, not_false_eq_true, not_true_eq_false, h', h, false_and]
theorem dn169_2 (i : Nat) (hi : 1 ≤ i) (d : Array N) (H : VH) (hd : d.size = L) (hA : Arr H b d) : ∀ (m j : Nat), j < m → j < L → 
    loopN (L169_2 (vcall T ext promo n) n (some (b, 0)) L (a : Int) cmpF (i : Int)) m [.int .i64 (j : Int)] H = some (.exit 4, [.int .i64 ((scanDown (fun x => ltN d[a]! x) d i j : Nat) : Int)], H) := by
  intro m
  induction m with
  | zero => intro i h; omega
  | succ m ih =>
    intro j hm hj
    rw [loopN_succ]
    generalize loopN (L169_2 (vcall T ext promo n) n (some (b, 0)) L (a : Int) cmpF (i : Int)) m = lp at ih ⊢
    unfold L169_2
    by_cases h : i ≤ j
    · have h' : (i : Int) ≤ (j : Int) := by omega
      obtain ⟨j, rfl⟩ : ∃ j', j = j' + 1 := ⟨j - 1, by omega⟩
      have gt : decide (i ≤ j + 1) = true := decide_eq_true h
      unfold scanDown
      simp only [letH_mk, bindC_mk, bindV_mk, bindH_mk, bindJ_mk, asB_mk, asI_mk, asS_mk, asP_mk, asSl_mk, asA_mk, asTu_mk, asSome_mk, unc_mk, endL_mk, selC_eq, condT_eq, letN_mk, letB_mk, case_nn, case_nr, case_ne, case_rn, case_rr, case_re, case_en, case_er, case_ee, decide_eq_true_eq, Bool.not_true, Bool.not_false, Bool.false_eq_true, if_false, if_true, Bool.not_eq_true', decide_eq_false_iff_not, ilt_eq, ile_eq, reduceCtorEq, not_false_eq_true, not_true_eq_false, h', gt, Bool.true_and, asFn_mk, List.nil_append, List.append_nil, Int.toNat_natCast, Bool.and_eq_true, hA.rd (j + 1) L (by omega) hd, hA.rd a L (by omega) hd, N.cells, cmp_ok n (by omega) _ _ hA.ok, cmp_lt, fw_sub1 (j + 1) (by omega) (by omega), Nat.add_sub_cancel]
      by_cases c : ltN d[a]! d[j + 1]! = true
      · simp only [c, letH_mk, bindC_mk, bindV_mk, bindH_mk, bindJ_mk, asB_mk, asI_mk, asS_mk, asP_mk, asSl_mk, asA_mk, asTu_mk, asSome_mk, unc_mk, endL_mk, selC_eq, condT_eq, letN_mk, letB_mk, case_nn, case_nr, case_ne, case_rn, case_rr, case_re, case_en, case_er, case_ee, decide_eq_true_eq, Bool.not_true, Bool.not_false, Bool.false_eq_true, if_false, if_true, Bool.not_eq_true', decide_eq_false_iff_not, ilt_eq, ile_eq, reduceCtorEq, not_false_eq_true, not_true_eq_false]
        exact ih j (by omega) (by omega)
      · have c' : ltN d[a]! d[j + 1]! = false := by simpa using c
        simp only [c', letH_mk, bindC_mk, bindV_mk, bindH_mk, bindJ_mk, asB_mk, asI_mk, asS_mk, asP_mk, asSl_mk, asA_mk, asTu_mk, asSome_mk, unc_mk, endL_mk, selC_eq, condT_eq, letN_mk, letB_mk, case_nn, case_nr, case_ne, case_rn, case_rr, case_re, case_en, case_er, case_ee, decide_eq_true_eq, Bool.not_true, Bool.not_false, Bool.false_eq_true, if_false, if_true, Bool.not_eq_true', decide_eq_false_iff_not, ilt_eq, ile_eq, reduceCtorEq, not_false_eq_true, not_true_eq_false]
    · have h' : ¬ (i : Int) ≤ (j : Int) := by omega
      simp only [letH_mk, bindC_mk, bindV_mk, bindH_mk, bindJ_mk, asB_mk, asI_mk, asS_mk, asP_mk, asSl_mk, asA_mk, asTu_mk, asSome_mk, unc_mk, endL_mk, selC_eq, condT_eq, letN_mk, letB_mk, case_nn, case_nr, case_ne, case_rn, case_rr, case_re, case_en, case_er, case_ee, decide_eq_true_eq, Bool.not_true, Bool.not_false, Bool.false_eq_true, if_false, if_true, Bool.not_eq_true', decide_eq_false_iff_not, ilt_eq, ile_eq, reduceCtorEq, not_false_eq_true, not_true_eq_false, h']
      cases j with
      | zero => rfl
      | succ j =>
        have gt : decide (i ≤ j + 1) = false := decide_eq_false h
        unfold scanDown
        simp only [gt, Bool.false_and, Bool.false_eq_true, if_false]
end
theorem partLoop_step (a i j : Nat) (d : Array N) (hi : 1 ≤ i) : partLoop ltN a i j d =
    (if scanUp (fun x => ltN x d[a]!) d j i > scanDown (fun x => !ltN x d[a]!) d (scanUp (fun x => ltN x d[a]!) d j i) j then (scanDown (fun x => !ltN x d[a]!) d (scanUp (fun x => ltN x d[a]!) d j i) j, d)
      else partLoop ltN a (scanUp (fun x => ltN x d[a]!) d j i + 1) (scanDown (fun x => !ltN x d[a]!) d (scanUp (fun x => ltN x d[a]!) d j i) j - 1) (swp d (scanUp (fun x => ltN x d[a]!) d j i) (scanDown (fun x => !ltN x d[a]!) d (scanUp (fun x => ltN x d[a]!) d j i) j))) := by
  conv => lhs; rw [partLoop]
  have h1 := scanUp_le (fun x => ltN x d[a]!) d j (j + 2 - i) i
  have h2 := scanDown_le (fun x => !ltN x d[a]!) d (scanUp (fun x => ltN x d[a]!) d j i) j
  try simp only
  split
  · rfl
  · rename_i h
    rw [dif_pos]
    rcases Nat.lt_or_ge (j + 1) i with g | g
    · rw [scanUp_step, if_neg (by omega)] at h h2
      omega
    · have := h1 (by omega)
      omega
theorem partEqLoop_step (a i j : Nat) (d : Array N) (hi : 1 ≤ i) : partEqLoop ltN a i j d =
    (if scanUp (fun x => !ltN d[a]! x) d j i > scanDown (fun x => ltN d[a]! x) d (scanUp (fun x => !ltN d[a]! x) d j i) j then (scanUp (fun x => !ltN d[a]! x) d j i, d)
      else partEqLoop ltN a (scanUp (fun x => !ltN d[a]! x) d j i + 1) (scanDown (fun x => ltN d[a]! x) d (scanUp (fun x => !ltN d[a]! x) d j i) j - 1) (swp d (scanUp (fun x => !ltN d[a]! x) d j i) (scanDown (fun x => ltN d[a]! x) d (scanUp (fun x => !ltN d[a]! x) d j i) j))) := by
  conv => lhs; rw [partEqLoop]
  have h1 := scanUp_le (fun x => !ltN d[a]! x) d j (j + 2 - i) i
  have h2 := scanDown_le (fun x => ltN d[a]! x) d (scanUp (fun x => !ltN d[a]! x) d j i) j
  try simp only
  split
  · rfl
  · rename_i h
    rw [dif_pos]
    rcases Nat.lt_or_ge (j + 1) i with g | g
    · rw [scanUp_step, if_neg (by omega)] at h h2
      omega
    · have := h1 (by omega)
      omega
theorem part_loop (n : Nat) (hn : 2000 ≤ n) (b L a : Nat) (hL : L < 1000) (haL : a < L) :
    ∀ (m i j : Nat) (d : Array N) (H : VH), d.size = L → 1 ≤ i → j < L → j + 1 - i < m → Arr H b d →
      ∃ H', loopN (L170_2 (vcall T ext promo n) n (some (b, 0)) L (a : Int) cmpF) m [.int .i64 (i : Int), .int .i64 (j : Int)] H = some (.exit 4, [.int .i64 (((partLoop ltN a i j d).1 : Nat) : Int)], H') ∧ Arr H' b (partLoop ltN a i j d).2 ∧ Did b H H' ∧ (partLoop ltN a i j d).1 < L ∧ (partLoop ltN a i j d).2.size = L := by
  intro m
  induction m with
  | zero => intro i j d H _ _ _ h; omega
  | succ m ih =>
    intro i j d H hd hi hj hm hA
    rw [loopN_succ]
    generalize loopN (L170_2 (vcall T ext promo n) n (some (b, 0)) L (a : Int) cmpF) m = lp at ih ⊢
    unfold L170_2
    have s1 := scanUp_le (fun x => ltN x d[a]!) d j (j + 2 - i) i
    have s2 := scanDown_le (fun x => !ltN x d[a]!) d (scanUp (fun x => ltN x d[a]!) d j i) j
    have s3 : i ≤ scanUp (fun x => ltN x d[a]!) d j i := by
      rcases Nat.lt_or_ge (j + 1) i with g | g
      · rw [scanUp_step, if_neg (by omega)]; exact Nat.le_refl _
      · exact (s1 (by omega)).1
    have u := up170_3 n (by omega) b L a hL haL j d H hd hj hA n i (by omega)
    have w := dn170_4 n (by omega) b L a hL haL (scanUp (fun x => ltN x d[a]!) d j i) (by omega) d H hd hA n j (by omega) hj
    rw [partLoop_step a i j d hi]
    generalize scanUp (fun x => ltN x d[a]!) d j i = i2 at *
    generalize scanDown (fun x => !ltN x d[a]!) d i2 j = j2 at *
    by_cases h : i2 > j2
    · have h' : (j2 : Int) < (i2 : Int) := by omega
      rw [if_pos h]
      simp only [letH_mk, bindC_mk, bindV_mk, bindH_mk, bindJ_mk, asB_mk, asI_mk, asS_mk, asP_mk, asSl_mk, asA_mk, asTu_mk, asSome_mk, unc_mk, endL_mk, selC_eq, condT_eq, letN_mk, letB_mk, case_nn, case_nr, case_ne, case_rn, case_rr, case_re, case_en, case_er, case_ee, decide_eq_true_eq, Bool.not_true, Bool.not_false, Bool.false_eq_true, if_false, if_true, Bool.not_eq_true', decide_eq_false_iff_not, ilt_eq, ile_eq, reduceCtorEq, not_false_eq_true, not_true_eq_false, u, w, h']
      exact ⟨H, rfl, hA, .refl hA.ok, by omega, hd⟩
    · have h' : ¬ (j2 : Int) < (i2 : Int) := by omega
      rw [if_neg h]
      obtain ⟨H1, e1, hA1, k1⟩ := hA.swap i2 j2 L (by omega) (by omega) hd
      simp only [N.cells] at e1
      obtain ⟨H2, e2, hA2, k2, q1, q2⟩ := ih (i2 + 1) (j2 - 1) _ H1 (by rw [swp_size]; exact hd) (by omega) (by omega) (by
        rcases Nat.lt_or_ge (j + 1) i with g | g
        · omega
        · have := s1 (by omega); omega) hA1
      refine ⟨H2, ?_, hA2, k1.trans k2, q1, q2⟩
      simp only [letH_mk, bindC_mk, bindV_mk, bindH_mk, bindJ_mk, asB_mk, asI_mk, asS_mk, asP_mk, asSl_mk, asA_mk, asTu_mk, asSome_mk, unc_mk, endL_mk, selC_eq, condT_eq, letN_mk, letB_mk, case_nn, case_nr, case_ne, case_rn, case_rr, case_re, case_en, case_er, case_ee, decide_eq_true_eq, Bool.not_true, Bool.not_false, Bool.false_eq_true, if_false, if_true, Bool.not_eq_true', decide_eq_false_iff_not, ilt_eq, ile_eq, reduceCtorEq, not_false_eq_true, not_true_eq_false, u, w, h', Int.toNat_natCast, Bool.and_eq_true, hA.rd i2 L (by omega) hd, hA.rd j2 L (by omega) hd, N.cells, e1, fw_add1 i2 (by omega), fw_sub1 j2 (by omega) (by omega)]
      exact e2
theorem partEq_loop (n : Nat) (hn : 2000 ≤ n) (b L a : Nat) (hL : L < 1000) (haL : a < L) :
    ∀ (m i j : Nat) (d : Array N) (H : VH), d.size = L → 1 ≤ i → j < L → j + 1 - i < m → Arr H b d →
      ∃ H', loopN (L169_0 (vcall T ext promo n) n (some (b, 0)) L (a : Int) cmpF) m [.int .i64 (i : Int), .int .i64 (j : Int)] H = some (.exit 0, [.int .i64 (((partEqLoop ltN a i j d).1 : Nat) : Int)], H') ∧ Arr H' b (partEqLoop ltN a i j d).2 ∧ Did b H H' := by
  intro m
  induction m with
  | zero => intro i j d H _ _ _ h; omega
  | succ m ih =>
    intro i j d H hd hi hj hm hA
    rw [loopN_succ]
    generalize loopN (L169_0 (vcall T ext promo n) n (some (b, 0)) L (a : Int) cmpF) m = lp at ih ⊢
    unfold L169_0
    have s1 := scanUp_le (fun x => !ltN d[a]! x) d j (j + 2 - i) i
    have s2 := scanDown_le (fun x => ltN d[a]! x) d (scanUp (fun x => !ltN d[a]! x) d j i) j
    have s3 : i ≤ scanUp (fun x => !ltN d[a]! x) d j i := by
      rcases Nat.lt_or_ge (j + 1) i with g | g
      · rw [scanUp_step, if_neg (by omega)]; exact Nat.le_refl _
      · exact (s1 (by omega)).1
    have u := up169_1 n (by omega) b L a hL haL j d H hd hj hA n i (by omega)
    have w := dn169_2 n (by omega) b L a hL haL (scanUp (fun x => !ltN d[a]! x) d j i) (by omega) d H hd hA n j (by omega) hj
    rw [partEqLoop_step a i j d hi]
    generalize scanUp (fun x => !ltN d[a]! x) d j i = i2 at *
    generalize scanDown (fun x => ltN d[a]! x) d i2 j = j2 at *
    by_cases h : i2 > j2
    · have h' : (j2 : Int) < (i2 : Int) := by omega
      rw [if_pos h]
      simp only [letH_mk, bindC_mk, bindV_mk, bindH_mk, bindJ_mk, asB_mk, asI_mk, asS_mk, asP_mk, asSl_mk, asA_mk, asTu_mk, asSome_mk, unc_mk, endL_mk, selC_eq, condT_eq, letN_mk, letB_mk, case_nn, case_nr, case_ne, case_rn, case_rr, case_re, case_en, case_er, case_ee, decide_eq_true_eq, Bool.not_true, Bool.not_false, Bool.false_eq_true, if_false, if_true, Bool.not_eq_true', decide_eq_false_iff_not, ilt_eq, ile_eq, reduceCtorEq, not_false_eq_true, not_true_eq_false, u, w, h']
      exact ⟨H, rfl, hA, .refl hA.ok⟩
    · have h' : ¬ (j2 : Int) < (i2 : Int) := by omega
      rw [if_neg h]
      obtain ⟨H1, e1, hA1, k1⟩ := hA.swap i2 j2 L (by omega) (by omega) hd
      simp only [N.cells] at e1
      obtain ⟨H2, e2, hA2, k2⟩ := ih (i2 + 1) (j2 - 1) _ H1 (by rw [swp_size]; exact hd) (by omega) (by omega) (by
        rcases Nat.lt_or_ge (j + 1) i with g | g
        · omega
        · have := s1 (by omega); omega) hA1
      refine ⟨H2, ?_, hA2, k1.trans k2⟩
      simp only [letH_mk, bindC_mk, bindV_mk, bindH_mk, bindJ_mk, asB_mk, asI_mk, asS_mk, asP_mk, asSl_mk, asA_mk, asTu_mk, asSome_mk, unc_mk, endL_mk, selC_eq, condT_eq, letN_mk, letB_mk, case_nn, case_nr, case_ne, case_rn, case_rr, case_re, case_en, case_er, case_ee, decide_eq_true_eq, Bool.not_true, Bool.not_false, Bool.false_eq_true, if_false, if_true, Bool.not_eq_true', decide_eq_false_iff_not, ilt_eq, ile_eq, reduceCtorEq, not_false_eq_true, not_true_eq_false, u, w, h', Int.toNat_natCast, Bool.and_eq_true, hA.rd i2 L (by omega) hd, hA.rd j2 L (by omega) hd, N.cells, e1, fw_add1 i2 (by omega), fw_sub1 j2 (by omega) (by omega)]
      exact e2
theorem partEq_ok (n : Nat) (hn : 2001 ≤ n) {H : VH} {b : Nat} {d : Array N} (hA : Arr H b d) (L : Nat) (hd : d.size = L) (hL : L < 1000) (a e p : Nat) (he : e ≤ L) (hp1 : a ≤ p) (hp2 : p < e) (c : Option Nat) (z : Nat) :
    ∃ H', vcall T ext promo n 169 [.slice (some (b, 0)) L c z, .int .i64 (a : Int), .int .i64 (e : Int), .int .i64 (p : Int), cmpF] H = some (.int .i64 (((partitionEqual ltN d a e p).1 : Nat) : Int), H') ∧ Arr H' b (partitionEqual ltN d a e p).2 ∧ Did b H H' := by
  obtain ⟨n, rfl⟩ : ∃ m, n = m + 1 := ⟨n - 1, by omega⟩
  obtain ⟨H1, e1, a1, k1⟩ := hA.lo.swap a p L (by omega) (by omega) hd
  simp only [N.cells] at e1
  obtain ⟨H2, e2, a2, k2⟩ := partEq_loop n (by omega) b L a hL (by omega) n (a + 1) (e - 1) _ H1 (by rw [swp_size]; exact hd) (by omega) (by omega) (by omega) a1
  refine ⟨_, ok169 _ _ _ _ _ _ _ _ _ _ (r := (.int .i64 (((partitionEqual ltN d a e p).1 : Nat) : Int), leave H H2 (.int .i64 (((partitionEqual ltN d a e p).1 : Nat) : Int)))) ?_, a2.leave hA.ok hA.lt (k1.trans k2) _, (k1.trans k2).leave hA.ok hA.lt _⟩
  unfold F169 partitionEqual
  simp only [letH_mk, bindC_mk, bindV_mk, bindH_mk, bindJ_mk, asB_mk, asI_mk, asS_mk, asP_mk, asSl_mk, asA_mk, asTu_mk, asSome_mk, unc_mk, endL_mk, selC_eq, condT_eq, letN_mk, letB_mk, case_nn, case_nr, case_ne, case_rn, case_rr, case_re, case_en, case_er, case_ee, decide_eq_true_eq, Bool.not_true, Bool.not_false, Bool.false_eq_true, if_false, if_true, Bool.not_eq_true', decide_eq_false_iff_not, ilt_eq, ile_eq, reduceCtorEq, not_false_eq_true, not_true_eq_false, Int.toNat_natCast, Bool.and_eq_true, hA.lo.rd p L (by omega) hd, hA.lo.rd a L (by omega) hd, N.cells, e1, fw_add1 a (by omega), fw_sub1 e (by omega) (by omega), e2]
theorem partN_ok (n : Nat) (hn : 2001 ≤ n) {H : VH} {b : Nat} {d : Array N} (hA : Arr H b d) (L : Nat) (hd : d.size = L) (hL : L < 1000) (a e p : Nat) (he : e ≤ L) (hp1 : a ≤ p) (hp2 : p < e) (c : Option Nat) (z : Nat) :
    ∃ H', vcall T ext promo n 170 [.slice (some (b, 0)) L c z, .int .i64 (a : Int), .int .i64 (e : Int), .int .i64 (p : Int), cmpF] H = some (.tuple [.int .i64 (((partition ltN d a e p).1 : Nat) : Int), .bool (partition ltN d a e p).2.1], H') ∧ Arr H' b (partition ltN d a e p).2.2 ∧ Did b H H' := by
  obtain ⟨n, rfl⟩ : ∃ m, n = m + 1 := ⟨n - 1, by omega⟩
  obtain ⟨H1, e1, a1, k1⟩ := hA.lo.swap a p L (by omega) (by omega) hd
  simp only [N.cells] at e1
  have hd1 : (swp d a p).size = L := by rw [swp_size]; exact hd
  have s1 := scanUp_le (fun x => ltN x (swp d a p)[a]!) (swp d a p) (e - 1) (e + 2) (a + 1) (by omega)
  have s2 := scanDown_le (fun x => !ltN x (swp d a p)[a]!) (swp d a p) (scanUp (fun x => ltN x (swp d a p)[a]!) (swp d a p) (e - 1) (a + 1)) (e - 1)
  have u := up170_0 n (by omega) b L a hL (by omega) (e - 1) (swp d a p) H1 hd1 (by omega) a1 n (a + 1) (by omega)
  have w := dn170_1 n (by omega) b L a hL (by omega) (scanUp (fun x => ltN x (swp d a p)[a]!) (swp d a p) (e - 1) (a + 1)) (by omega) (swp d a p) H1 hd1 a1 n (e - 1) (by omega) (by omega)
  have key : ∃ (v : AV) (H3 : VH), F170 (vcall T ext promo n) n (some (b, 0)) L c z (a : Int) (e : Int) (p : Int) cmpF H = some (v, leave H H3 v) ∧ v = .tuple [.int .i64 (((partition ltN d a e p).1 : Nat) : Int), .bool (partition ltN d a e p).2.1] ∧ Arr H3 b (partition ltN d a e p).2.2 ∧ Did b H.lo H3 := by
    unfold F170 partition
    simp only [letH_mk, bindC_mk, bindV_mk, bindH_mk, bindJ_mk, asB_mk, asI_mk, asS_mk, asP_mk, asSl_mk, asA_mk, asTu_mk, asSome_mk, unc_mk, endL_mk, selC_eq, condT_eq, letN_mk, letB_mk, case_nn, case_nr, case_ne, case_rn, case_rr, case_re, case_en, case_er, case_ee, decide_eq_true_eq, Bool.not_true, Bool.not_false, Bool.false_eq_true, if_false, if_true, Bool.not_eq_true', decide_eq_false_iff_not, ilt_eq, ile_eq, reduceCtorEq, not_false_eq_true, not_true_eq_false, Int.toNat_natCast, Bool.and_eq_true, hA.lo.rd p L (by omega) hd, hA.lo.rd a L (by omega) hd, N.cells, e1, fw_add1 a (by omega), fw_sub1 e (by omega) (by omega), u, w]
    generalize swp d a p = d1 at *
    generalize scanUp (fun x => ltN x d1[a]!) d1 (e - 1) (a + 1) = i2 at *
    generalize scanDown (fun x => !ltN x d1[a]!) d1 i2 (e - 1) = j2 at *
    by_cases h : i2 > j2
    · have h' : (j2 : Int) < (i2 : Int) := by omega
      have h2 := s2.2 (by omega) (by omega)
      obtain ⟨H2, e2, a2, k2⟩ := a1.swap j2 a L (by omega) (by omega) hd1
      simp only [N.cells] at e2
      simp only [letH_mk, bindC_mk, bindV_mk, bindH_mk, bindJ_mk, asB_mk, asI_mk, asS_mk, asP_mk, asSl_mk, asA_mk, asTu_mk, asSome_mk, unc_mk, endL_mk, selC_eq, condT_eq, letN_mk, letB_mk, case_nn, case_nr, case_ne, case_rn, case_rr, case_re, case_en, case_er, case_ee, decide_eq_true_eq, Bool.not_true, Bool.not_false, Bool.false_eq_true, if_false, if_true, Bool.not_eq_true', decide_eq_false_iff_not, ilt_eq, ile_eq, reduceCtorEq, not_false_eq_true, not_true_eq_false, h, h', Int.toNat_natCast, Bool.and_eq_true, a1.rd a L (by omega) hd1, a1.rd j2 L (by omega) hd1, N.cells, e2]
      exact ⟨_, H2, rfl, rfl, a2, k1.trans k2⟩
    · have h' : ¬ (j2 : Int) < (i2 : Int) := by omega
      obtain ⟨H2, e2, a2, k2⟩ := a1.swap i2 j2 L (by omega) (by omega) hd1
      simp only [N.cells] at e2
      obtain ⟨H3, e3, a3, k3, q1, q2⟩ := part_loop n (by omega) b L a hL (by omega) n (i2 + 1) (j2 - 1) _ H2 (by rw [swp_size]; exact hd1) (by omega) (by omega) (by omega) a2
      obtain ⟨H4, e4, a4, k4⟩ := a3.swap (partLoop ltN a (i2 + 1) (j2 - 1) (swp d1 i2 j2)).1 a L (by rw [q2]; exact q1) (by omega) q2
      simp only [N.cells] at e4
      simp only [letH_mk, bindC_mk, bindV_mk, bindH_mk, bindJ_mk, asB_mk, asI_mk, asS_mk, asP_mk, asSl_mk, asA_mk, asTu_mk, asSome_mk, unc_mk, endL_mk, selC_eq, condT_eq, letN_mk, letB_mk, case_nn, case_nr, case_ne, case_rn, case_rr, case_re, case_en, case_er, case_ee, decide_eq_true_eq, Bool.not_true, Bool.not_false, Bool.false_eq_true, if_false, if_true, Bool.not_eq_true', decide_eq_false_iff_not, ilt_eq, ile_eq, reduceCtorEq, not_false_eq_true, not_true_eq_false, h, h', Int.toNat_natCast, Bool.and_eq_true, a1.rd i2 L (by omega) hd1, a1.rd j2 L (by omega) hd1, N.cells, e2, fw_add1 i2 (by omega), fw_sub1 j2 (by omega) (by omega), e3, a3.rd a L (by omega) q2, a3.rd _ L (by rw [q2]; exact q1) q2, e4]
      exact ⟨_, H4, rfl, rfl, a4, ((k1.trans k2).trans k3).trans k4⟩
  obtain ⟨v, H3, e3, rfl, a3, k3⟩ := key
  exact ⟨_, ok170 _ _ _ _ _ _ _ _ _ _ e3, a3.leave hA.ok hA.lt k3 _, k3.leave hA.ok hA.lt _⟩
end
/-! The insertion sort that may give up; the sort. -/
section
open Go.Sort
theorem scanSorted_step (d : Array N) (e i : Nat) : scanSorted ltN d e i = if i < e ∧ (!ltN d[i]! d[i - 1]!) = true then scanSorted ltN d e (i + 1) else i := by
  rw [scanSorted]
  by_cases h : i < e <;> simp [h]
theorem scanSorted_le (d : Array N) (e : Nat) : ∀ (m i : Nat), e - i < m → i ≤ scanSorted ltN d e i ∧ scanSorted ltN d e i ≤ max i e := by
  intro m
  induction m with
  | zero => intro i h; omega
  | succ m ih =>
    intro i h
    rw [scanSorted_step]
    split
    · rename_i hc
      have := ih (i + 1) (by omega)
      omega
    · omega
theorem shiftDown_size : ∀ (j : Nat) (d : Array N), (shiftDown ltN j d).size = d.size
  | 0, _ => rfl
  | j + 1, d => by
    unfold shiftDown
    split
    · rfl
    · rw [shiftDown_size j, swp_size]
theorem shiftUp_size (e : Nat) : ∀ (m j : Nat) (d : Array N), e - j < m → (shiftUp ltN e j d).size = d.size := by
  intro m
  induction m with
  | zero => intro j d h; omega
  | succ m ih =>
    intro j d h
    rw [shiftUp]
    split
    · split
      · rfl
      · rw [ih (j + 1) _ (by omega), swp_size]
    · rfl
section
variable (n : Nat) (hn : 2000 ≤ n) (b L : Nat) (hL : L < 1000)
include hn hL
theorem ss_loop (e : Nat) (he : e ≤ L) (d : Array N) (H : VH) (hd : d.size = L) (hA : Arr H b d) : ∀ (m i : Nat), 1 ≤ i → e - i < m →
    loopN (L168_1 (vcall T ext promo n) n (some (b, 0)) L (e : Int) cmpF) m [.int .i64 (i : Int)] H = some (.exit 2, [.int .i64 ((scanSorted ltN d e i : Nat) : Int)], H) := by
  intro m
  induction m with
  | zero => intro i _ h; omega
  | succ m ih =>
    intro i hi hm
    rw [loopN_succ]
    generalize loopN (L168_1 (vcall T ext promo n) n (some (b, 0)) L (e : Int) cmpF) m = lp at ih ⊢
    unfold L168_1
    rw [scanSorted_step]
    by_cases h : i < e
    · have h' : (i : Int) < (e : Int) := by omega
      simp only [letH_mk, bindC_mk, bindV_mk, bindH_mk, bindJ_mk, asB_mk, asI_mk, asS_mk, asP_mk, asSl_mk, asA_mk, asTu_mk, asSome_mk, unc_mk, endL_mk, selC_eq, condT_eq, letN_mk, letB_mk, case_nn, case_nr, case_ne, case_rn, case_rr, case_re, case_en, case_er, case_ee, decide_eq_true_eq, Bool.not_true, Bool.not_false, Bool.false_eq_true, if_false, if_true, Bool.not_eq_true', decide_eq_false_iff_not, ilt_eq, ile_eq, reduceCtorEq, not_false_eq_true, not_true_eq_false, h', h, true_and, asFn_mk, List.nil_append, List.append_nil, Int.toNat_natCast, Bool.and_eq_true, hA.rd i L (by omega) hd, fw_sub1 i hi (by omega), hA.rd (i - 1) L (by omega) hd, N.cells, cmp_ok n (by omega) _ _ hA.ok, cmp_lt, fw_add1 i (by omega)]
      by_cases c : ltN d[i]! d[i - 1]! = true
      · simp only [c, letH_mk, bindC_mk, bindV_mk, bindH_mk, bindJ_mk, asB_mk, asI_mk, asS_mk, asP_mk, asSl_mk, asA_mk, asTu_mk, asSome_mk, unc_mk, endL_mk, selC_eq, condT_eq, letN_mk, letB_mk, case_nn, case_nr, case_ne, case_rn, case_rr, case_re, case_en, case_er, case_ee, decide_eq_true_eq, Bool.not_true, Bool.not_false, Bool.false_eq_true, if_false, if_true, Bool.not_eq_true', decide_eq_false_iff_not, ilt_eq, ile_eq, reduceCtorEq, not_false_eq_true, not_true_eq_false]
      · have c' : ltN d[i]! d[i - 1]! = false := by simpa using c
        simp only [c', letH_mk, bindC_mk, bindV_mk, bindH_mk, bindJ_mk, asB_mk, asI_mk, asS_mk, asP_mk, asSl_mk, asA_mk, asTu_mk, asSome_mk, unc_mk, endL_mk, selC_eq, condT_eq, letN_mk, letB_mk, case_nn, case_nr, case_ne, case_rn, case_rr, case_re, case_en, case_er, case_ee, decide_eq_true_eq, Bool.not_true, Bool.not_false, Bool.false_eq_true, if_false, if_true, Bool.not_eq_true', decide_eq_false_iff_not, ilt_eq, ile_eq, reduceCtorEq, not_false_eq_true, not_true_eq_false]
        exact ih (i + 1) (by omega) (by omega)
    · have h' : ¬ (i : Int) < (e : Int) := by omega
      simp only [letH_mk, bindC_mk, bindV_mk, bindH_mk, bindJ_mk, asB_mk, asI_mk, asS_mk, asP_mk, asSl_mk, asA_mk, asTu_mk, asSome_mk, unc_mk, endL_mk, selC_eq, condT_eq, letN_mk, letB_mk, case_nn, case_nr, case_ne, case_rn, case_rr, case_re, case_en, case_er, case_ee, decide_eq_true_eq, Bool.not_true, Bool.not_false, Bool.false_eq_true, if_false, if_true, Bool.not_eq_true', decide_eq_false_iff_not, ilt_eq, ile_eq, reduceCtorEq, not_false_eq_true, not_true_eq_false, h', h, false_and]
theorem sd_loop : ∀ (m j : Nat) (d : Array N) (H : VH), d.size = L → j < L → j < m → Arr H b d →
    Does H b (loopN (L168_2 (vcall T ext promo n) n (some (b, 0)) L cmpF) m [.int .i64 (j : Int)] H) (.exit 4) [] (shiftDown ltN j d) := by
  intro m
  induction m with
  | zero => intro i d H _ _ h; omega
  | succ m ih =>
    intro j d H hd hj hm hA
    rw [loopN_succ]
    generalize loopN (L168_2 (vcall T ext promo n) n (some (b, 0)) L cmpF) m = lp at ih ⊢
    unfold L168_2
    cases j with
    | zero =>
      have h' : ¬ (1 : Int) ≤ ((0 : Nat) : Int) := by omega
      simp only [letH_mk, bindC_mk, bindV_mk, bindH_mk, bindJ_mk, asB_mk, asI_mk, asS_mk, asP_mk, asSl_mk, asA_mk, asTu_mk, asSome_mk, unc_mk, endL_mk, selC_eq, condT_eq, letN_mk, letB_mk, case_nn, case_nr, case_ne, case_rn, case_rr, case_re, case_en, case_er, case_ee, decide_eq_true_eq, Bool.not_true, Bool.not_false, Bool.false_eq_true, if_false, if_true, Bool.not_eq_true', decide_eq_false_iff_not, ilt_eq, ile_eq, reduceCtorEq, not_false_eq_true, not_true_eq_false, h']
      exact ⟨H, rfl, hA, .refl hA.ok⟩
    | succ j =>
      have h' : (1 : Int) ≤ ((j + 1 : Nat) : Int) := by omega
      unfold shiftDown
      simp only [letH_mk, bindC_mk, bindV_mk, bindH_mk, bindJ_mk, asB_mk, asI_mk, asS_mk, asP_mk, asSl_mk, asA_mk, asTu_mk, asSome_mk, unc_mk, endL_mk, selC_eq, condT_eq, letN_mk, letB_mk, case_nn, case_nr, case_ne, case_rn, case_rr, case_re, case_en, case_er, case_ee, decide_eq_true_eq, Bool.not_true, Bool.not_false, Bool.false_eq_true, if_false, if_true, Bool.not_eq_true', decide_eq_false_iff_not, ilt_eq, ile_eq, reduceCtorEq, not_false_eq_true, not_true_eq_false, h', asFn_mk, List.nil_append, List.append_nil, Int.toNat_natCast, Bool.and_eq_true, fw_sub1 (j + 1) (by omega) (by omega), Nat.add_sub_cancel, hA.rd (j + 1) L (by omega) hd, hA.rd j L (by omega) hd, N.cells, cmp_ok n (by omega) _ _ hA.ok, cmp_lt]
      by_cases c : ltN d[j + 1]! d[j]! = true
      · obtain ⟨H1, e1, a1, k1⟩ := hA.swap (j + 1) j L (by omega) (by omega) hd
        simp only [N.cells] at e1
        obtain ⟨H2, e2, a2, k2⟩ := ih j _ H1 (by rw [swp_size]; exact hd) (by omega) (by omega) a1
        simp only [c, letH_mk, bindC_mk, bindV_mk, bindH_mk, bindJ_mk, asB_mk, asI_mk, asS_mk, asP_mk, asSl_mk, asA_mk, asTu_mk, asSome_mk, unc_mk, endL_mk, selC_eq, condT_eq, letN_mk, letB_mk, case_nn, case_nr, case_ne, case_rn, case_rr, case_re, case_en, case_er, case_ee, decide_eq_true_eq, Bool.not_true, Bool.not_false, Bool.false_eq_true, if_false, if_true, Bool.not_eq_true', decide_eq_false_iff_not, ilt_eq, ile_eq, reduceCtorEq, not_false_eq_true, not_true_eq_false]
        rw [e1]
        exact ⟨H2, e2, a2, k1.trans k2⟩
      · have c' : ltN d[j + 1]! d[j]! = false := by simpa using c
        simp only [c', letH_mk, bindC_mk, bindV_mk, bindH_mk, bindJ_mk, asB_mk, asI_mk, asS_mk, asP_mk, asSl_mk, asA_mk, asTu_mk, asSome_mk, unc_mk, endL_mk, selC_eq, condT_eq, letN_mk, letB_mk, case_nn, case_nr, case_ne, case_rn, case_rr, case_re, case_en, case_er, case_ee, decide_eq_true_eq, Bool.not_true, Bool.not_false, Bool.false_eq_true, if_false, if_true, Bool.not_eq_true', decide_eq_false_iff_not, ilt_eq, ile_eq, reduceCtorEq, not_false_eq_true, not_true_eq_false]
        exact ⟨H, rfl, hA, .refl hA.ok⟩
theorem su_loop (e : Nat) (he : e ≤ L) : ∀ (m j : Nat) (d : Array N) (H : VH), d.size = L → 1 ≤ j → e - j < m → Arr H b d →
    Does H b (loopN (L168_3 (vcall T ext promo n) n (some (b, 0)) L (e : Int) cmpF) m [.int .i64 (j : Int)] H) (.exit 6) [] (shiftUp ltN e j d) := by
  intro m
  induction m with
  | zero => intro i d H _ _ h; omega
  | succ m ih =>
    intro j d H hd hj hm hA
    rw [loopN_succ]
    generalize loopN (L168_3 (vcall T ext promo n) n (some (b, 0)) L (e : Int) cmpF) m = lp at ih ⊢
    unfold L168_3
    rw [shiftUp]
    by_cases h : j < e
    · have h' : (j : Int) < (e : Int) := by omega
      rw [if_pos h]
      simp only [letH_mk, bindC_mk, bindV_mk, bindH_mk, bindJ_mk, asB_mk, asI_mk, asS_mk, asP_mk, asSl_mk, asA_mk, asTu_mk, asSome_mk, unc_mk, endL_mk, selC_eq, condT_eq, letN_mk, letB_mk, case_nn, case_nr, case_ne, case_rn, case_rr, case_re, case_en, case_er, case_ee, decide_eq_true_eq, Bool.not_true, Bool.not_false, Bool.false_eq_true, if_false, if_true, Bool.not_eq_true', decide_eq_false_iff_not, ilt_eq, ile_eq, reduceCtorEq, not_false_eq_true, not_true_eq_false, h', asFn_mk, List.nil_append, List.append_nil, Int.toNat_natCast, Bool.and_eq_true, fw_sub1 j (by omega) (by omega), fw_add1 j (by omega), hA.rd j L (by omega) hd, hA.rd (j - 1) L (by omega) hd, N.cells, cmp_ok n (by omega) _ _ hA.ok, cmp_lt]
      by_cases c : ltN d[j]! d[j - 1]! = true
      · obtain ⟨H1, e1, a1, k1⟩ := hA.swap j (j - 1) L (by omega) (by omega) hd
        simp only [N.cells] at e1
        obtain ⟨H2, e2, a2, k2⟩ := ih (j + 1) _ H1 (by rw [swp_size]; exact hd) (by omega) (by omega) a1
        simp only [c, letH_mk, bindC_mk, bindV_mk, bindH_mk, bindJ_mk, asB_mk, asI_mk, asS_mk, asP_mk, asSl_mk, asA_mk, asTu_mk, asSome_mk, unc_mk, endL_mk, selC_eq, condT_eq, letN_mk, letB_mk, case_nn, case_nr, case_ne, case_rn, case_rr, case_re, case_en, case_er, case_ee, decide_eq_true_eq, Bool.not_true, Bool.not_false, Bool.false_eq_true, if_false, if_true, Bool.not_eq_true', decide_eq_false_iff_not, ilt_eq, ile_eq, reduceCtorEq, not_false_eq_true, not_true_eq_false]
        rw [e1]
        exact ⟨H2, e2, a2, k1.trans k2⟩
      · have c' : ltN d[j]! d[j - 1]! = false := by simpa using c
        simp only [c', letH_mk, bindC_mk, bindV_mk, bindH_mk, bindJ_mk, asB_mk, asI_mk, asS_mk, asP_mk, asSl_mk, asA_mk, asTu_mk, asSome_mk, unc_mk, endL_mk, selC_eq, condT_eq, letN_mk, letB_mk, case_nn, case_nr, case_ne, case_rn, case_rr, case_re, case_en, case_er, case_ee, decide_eq_true_eq, Bool.not_true, Bool.not_false, Bool.false_eq_true, if_false, if_true, Bool.not_eq_true', decide_eq_false_iff_not, ilt_eq, ile_eq, reduceCtorEq, not_false_eq_true, not_true_eq_false]
        exact ⟨H, rfl, hA, .refl hA.ok⟩
    · have h' : ¬ (j : Int) < (e : Int) := by omega
      rw [if_neg h]
      simp only [letH_mk, bindC_mk, bindV_mk, bindH_mk, bindJ_mk, asB_mk, asI_mk, asS_mk, asP_mk, asSl_mk, asA_mk, asTu_mk, asSome_mk, unc_mk, endL_mk, selC_eq, condT_eq, letN_mk, letB_mk, case_nn, case_nr, case_ne, case_rn, case_rr, case_re, case_en, case_er, case_ee, decide_eq_true_eq, Bool.not_true, Bool.not_false, Bool.false_eq_true, if_false, if_true, Bool.not_eq_true', decide_eq_false_iff_not, ilt_eq, ile_eq, reduceCtorEq, not_false_eq_true, not_true_eq_false, h']
      exact ⟨H, rfl, hA, .refl hA.ok⟩
/-- The steps of the partial sort: how the loop ends. -/
theorem pi_loop (a e : Nat) (he : e ≤ L) (hae : a < e) : ∀ (s m i : Nat) (d : Array N) (H : VH), d.size = L → a + 1 ≤ i → i ≤ e → s ≤ 5 → s < m → Arr H b d →
    ∃ H', ((loopN (L168_0 (vcall T ext promo n) n (some (b, 0)) L (a : Int) (e : Int) cmpF) m [.int .i64 (i : Int), .int .i64 ((5 - s : Nat) : Int)] H = some (.ret, [.bool (partialIns ltN a e s i d).2], H')) ∨ (loopN (L168_0 (vcall T ext promo n) n (some (b, 0)) L (a : Int) (e : Int) cmpF) m [.int .i64 (i : Int), .int .i64 ((5 - s : Nat) : Int)] H = some (.exit 0, [], H') ∧ (partialIns ltN a e s i d).2 = false)) ∧ Arr H' b (partialIns ltN a e s i d).1 ∧ Did b H H' := by
  intro s
  induction s with
  | zero =>
    intro m i d H hd hi hie hs hm hA
    obtain ⟨m, rfl⟩ : ∃ m', m = m' + 1 := ⟨m - 1, by omega⟩
    rw [loopN_succ]
    generalize loopN (L168_0 (vcall T ext promo n) n (some (b, 0)) L (a : Int) (e : Int) cmpF) m = lp
    unfold L168_0 partialIns
    have h' : ¬ ((5 - 0 : Nat) : Int) < 5 := by omega
    simp only [letH_mk, bindC_mk, bindV_mk, bindH_mk, bindJ_mk, asB_mk, asI_mk, asS_mk, asP_mk, asSl_mk, asA_mk, asTu_mk, asSome_mk, unc_mk, endL_mk, selC_eq, condT_eq, letN_mk, letB_mk, case_nn, case_nr, case_ne, case_rn, case_rr, case_re, case_en, case_er, case_ee, decide_eq_true_eq, Bool.not_true, Bool.not_false, Bool.false_eq_true, if_false, if_true, Bool.not_eq_true', decide_eq_false_iff_not, ilt_eq, ile_eq, reduceCtorEq, not_false_eq_true, not_true_eq_false, h']
    exact ⟨H, .inr ⟨rfl, by trivial⟩, hA, .refl hA.ok⟩
  | succ s ih =>
    intro m i d H hd hi hie hs hm hA
    obtain ⟨m, rfl⟩ : ∃ m', m = m' + 1 := ⟨m - 1, by omega⟩
    have ih := fun i d H h1 h2 h3 h5 => ih m i d H h1 h2 h3 (by omega) (by omega) h5
    rw [loopN_succ]
    generalize loopN (L168_0 (vcall T ext promo n) n (some (b, 0)) L (a : Int) (e : Int) cmpF) m = lp at ih ⊢
    unfold L168_0 partialIns
    have h' : ((5 - (s + 1) : Nat) : Int) < 5 := by omega
    have hs5 : 5 - (s + 1) + 1 = 5 - s := by omega
    have w := ss_loop n hn b L hL e he d H hd hA n i (by omega) (by omega)
    have w2 := scanSorted_le d e (e + 1) i (by omega)
    generalize scanSorted ltN d e i = i2 at *
    simp only [letH_mk, bindC_mk, bindV_mk, bindH_mk, bindJ_mk, asB_mk, asI_mk, asS_mk, asP_mk, asSl_mk, asA_mk, asTu_mk, asSome_mk, unc_mk, endL_mk, selC_eq, condT_eq, letN_mk, letB_mk, case_nn, case_nr, case_ne, case_rn, case_rr, case_re, case_en, case_er, case_ee, decide_eq_true_eq, Bool.not_true, Bool.not_false, Bool.false_eq_true, if_false, if_true, Bool.not_eq_true', decide_eq_false_iff_not, ilt_eq, ile_eq, reduceCtorEq, not_false_eq_true, not_true_eq_false, h', w, ieq_dec]
    by_cases h : i2 = e
    · have h1 : (i2 : Int) = (e : Int) := by omega
      simp only [letH_mk, bindC_mk, bindV_mk, bindH_mk, bindJ_mk, asB_mk, asI_mk, asS_mk, asP_mk, asSl_mk, asA_mk, asTu_mk, asSome_mk, unc_mk, endL_mk, selC_eq, condT_eq, letN_mk, letB_mk, case_nn, case_nr, case_ne, case_rn, case_rr, case_re, case_en, case_er, case_ee, decide_eq_true_eq, Bool.not_true, Bool.not_false, Bool.false_eq_true, if_false, if_true, Bool.not_eq_true', decide_eq_false_iff_not, ilt_eq, ile_eq, reduceCtorEq, not_false_eq_true, not_true_eq_false, h1, h]
      exact ⟨H, .inl rfl, hA, .refl hA.ok⟩
    · have h1 : ¬ (i2 : Int) = (e : Int) := by omega
      simp only [letH_mk, bindC_mk, bindV_mk, bindH_mk, bindJ_mk, asB_mk, asI_mk, asS_mk, asP_mk, asSl_mk, asA_mk, asTu_mk, asSome_mk, unc_mk, endL_mk, selC_eq, condT_eq, letN_mk, letB_mk, case_nn, case_nr, case_ne, case_rn, case_rr, case_re, case_en, case_er, case_ee, decide_eq_true_eq, Bool.not_true, Bool.not_false, Bool.false_eq_true, if_false, if_true, Bool.not_eq_true', decide_eq_false_iff_not, ilt_eq, ile_eq, reduceCtorEq, not_false_eq_true, not_true_eq_false, h1, h]
      have f1 := fw_subn e a (by omega) (by omega)
      by_cases h50 : e - a < 50
      · have h50' : ((e - a : Nat) : Int) < 50 := by omega
        simp only [letH_mk, bindC_mk, bindV_mk, bindH_mk, bindJ_mk, asB_mk, asI_mk, asS_mk, asP_mk, asSl_mk, asA_mk, asTu_mk, asSome_mk, unc_mk, endL_mk, selC_eq, condT_eq, letN_mk, letB_mk, case_nn, case_nr, case_ne, case_rn, case_rr, case_re, case_en, case_er, case_ee, decide_eq_true_eq, Bool.not_true, Bool.not_false, Bool.false_eq_true, if_false, if_true, Bool.not_eq_true', decide_eq_false_iff_not, ilt_eq, ile_eq, reduceCtorEq, not_false_eq_true, not_true_eq_false, f1, h50, h50']
        exact ⟨H, .inl rfl, hA, .refl hA.ok⟩
      · have h50' : ¬ ((e - a : Nat) : Int) < 50 := by omega
        obtain ⟨H1, e1, a1, k1⟩ := hA.swap i2 (i2 - 1) L (by omega) (by omega) hd
        simp only [N.cells] at e1
        have f2 := fw_sub1 i2 (by omega) (by omega)
        have f3 := fw_subn i2 a (by omega) (by omega)
        have f4 := fw_subn e i2 (by omega) (by omega)
        have f5 := fw_add1 i2 (by omega)
        have f6 := fw_add1 (5 - (s + 1)) (by omega)
        simp only [letH_mk, bindC_mk, bindV_mk, bindH_mk, bindJ_mk, asB_mk, asI_mk, asS_mk, asP_mk, asSl_mk, asA_mk, asTu_mk, asSome_mk, unc_mk, endL_mk, selC_eq, condT_eq, letN_mk, letB_mk, case_nn, case_nr, case_ne, case_rn, case_rr, case_re, case_en, case_er, case_ee, decide_eq_true_eq, Bool.not_true, Bool.not_false, Bool.false_eq_true, if_false, if_true, Bool.not_eq_true', decide_eq_false_iff_not, ilt_eq, ile_eq, reduceCtorEq, not_false_eq_true, not_true_eq_false, f1, h50, h50', f2, Int.toNat_natCast, Bool.and_eq_true, hA.rd i2 L (by omega) hd, hA.rd (i2 - 1) L (by omega) hd, N.cells, e1, f3]
        have hd1 : (swp d i2 (i2 - 1)).size = L := by rw [swp_size]; exact hd
        generalize swp d i2 (i2 - 1) = d1 at *
        -- the second shift, and the next step
        have step : ∀ (d2 : Array N) (H2 : VH), d2.size = L → Arr H2 b d2 → ∃ (d3 : Array N) (H3 : VH), (∀ (K : Ex → List AV → VH → Option R), bindJ (if 2 ≤ ((e - i2 : Nat) : Int) then bindJ (loopN (L168_3 (vcall T ext promo n) n (some (b, 0)) L (e : Int) cmpF) n [.int .i64 ((i2 + 1 : Nat) : Int)] H2) (fun x341 l342 H343 => caseEx (.exit 6) x341 (endL l342 (some (.normal, [.int .i64 (i2 : Int)], H343))) none) else some (.normal, [.int .i64 (i2 : Int)], H2)) K = K .normal [.int .i64 (i2 : Int)] H3) ∧ d3 = (if e - i2 ≥ 2 then shiftUp ltN e (i2 + 1) d2 else d2) ∧ d3.size = L ∧ Arr H3 b d3 ∧ Did b H2 H3 := by
          intro d2 H2 hd2 ha2
          by_cases h2 : 2 ≤ e - i2
          · have h2' : (2 : Int) ≤ ((e - i2 : Nat) : Int) := by omega
            obtain ⟨H3, e3, a3, k3⟩ := su_loop n hn b L hL e he n (i2 + 1) d2 H2 hd2 (by omega) (by omega) ha2
            refine ⟨_, H3, fun K => ?_, by rw [if_pos h2], by rw [shiftUp_size e (e + 1) _ _ (by omega)]; exact hd2, a3, k3⟩
            rw [if_pos h2', e3]
            simp only [letH_mk, bindC_mk, bindV_mk, bindH_mk, bindJ_mk, asB_mk, asI_mk, asS_mk, asP_mk, asSl_mk, asA_mk, asTu_mk, asSome_mk, unc_mk, endL_mk, selC_eq, condT_eq, letN_mk, letB_mk, case_nn, case_nr, case_ne, case_rn, case_rr, case_re, case_en, case_er, case_ee, decide_eq_true_eq, Bool.not_true, Bool.not_false, Bool.false_eq_true, if_false, if_true, Bool.not_eq_true', decide_eq_false_iff_not, ilt_eq, ile_eq, reduceCtorEq, not_false_eq_true, not_true_eq_false]
          · have h2' : ¬ (2 : Int) ≤ ((e - i2 : Nat) : Int) := by omega
            refine ⟨d2, H2, fun K => ?_, by rw [if_neg h2], hd2, ha2, .refl ha2.ok⟩
            rw [if_neg h2']
            simp only [letH_mk, bindC_mk, bindV_mk, bindH_mk, bindJ_mk, asB_mk, asI_mk, asS_mk, asP_mk, asSl_mk, asA_mk, asTu_mk, asSome_mk, unc_mk, endL_mk, selC_eq, condT_eq, letN_mk, letB_mk, case_nn, case_nr, case_ne, case_rn, case_rr, case_re, case_en, case_er, case_ee, decide_eq_true_eq, Bool.not_true, Bool.not_false, Bool.false_eq_true, if_false, if_true, Bool.not_eq_true', decide_eq_false_iff_not, ilt_eq, ile_eq, reduceCtorEq, not_false_eq_true, not_true_eq_false]
        by_cases h2 : 2 ≤ i2 - a
        · have h2' : (2 : Int) ≤ ((i2 - a : Nat) : Int) := by omega
          obtain ⟨H2, e2, a2, k2⟩ := sd_loop n hn b L hL n (i2 - 1) d1 H1 hd1 (by omega) (by omega) a1
          have hd2 : (shiftDown ltN (i2 - 1) d1).size = L := by rw [shiftDown_size]; exact hd1
          obtain ⟨d3, H3, e3, q3, hd3, a3, k3⟩ := step _ H2 hd2 a2
          obtain ⟨H4, e4, a4, k4⟩ := ih i2 d3 H3 hd3 (by omega) (by omega) a3
          simp only [letH_mk, bindC_mk, bindV_mk, bindH_mk, bindJ_mk, asB_mk, asI_mk, asS_mk, asP_mk, asSl_mk, asA_mk, asTu_mk, asSome_mk, unc_mk, endL_mk, selC_eq, condT_eq, letN_mk, letB_mk, case_nn, case_nr, case_ne, case_rn, case_rr, case_re, case_en, case_er, case_ee, decide_eq_true_eq, Bool.not_true, Bool.not_false, Bool.false_eq_true, if_false, if_true, Bool.not_eq_true', decide_eq_false_iff_not, ilt_eq, ile_eq, reduceCtorEq, not_false_eq_true, not_true_eq_false, h2', f2, e2, f4, f5, e3, f6, hs5]
          rw [if_pos (show i2 - a ≥ 2 from h2), ← q3]
          exact ⟨H4, e4, a4, ((k1.trans k2).trans k3).trans k4⟩
        · have h2' : ¬ (2 : Int) ≤ ((i2 - a : Nat) : Int) := by omega
          obtain ⟨d3, H3, e3, q3, hd3, a3, k3⟩ := step _ H1 hd1 a1
          obtain ⟨H4, e4, a4, k4⟩ := ih i2 d3 H3 hd3 (by omega) (by omega) a3
          simp only [letH_mk, bindC_mk, bindV_mk, bindH_mk, bindJ_mk, asB_mk, asI_mk, asS_mk, asP_mk, asSl_mk, asA_mk, asTu_mk, asSome_mk, unc_mk, endL_mk, selC_eq, condT_eq, letN_mk, letB_mk, case_nn, case_nr, case_ne, case_rn, case_rr, case_re, case_en, case_er, case_ee, decide_eq_true_eq, Bool.not_true, Bool.not_false, Bool.false_eq_true, if_false, if_true, Bool.not_eq_true', decide_eq_false_iff_not, ilt_eq, ile_eq, reduceCtorEq, not_false_eq_true, not_true_eq_false, h2', f4, f5, e3, f6, hs5]
          rw [if_neg (show ¬ i2 - a ≥ 2 from h2), ← q3]
          exact ⟨H4, e4, a4, (k1.trans k3).trans k4⟩
end
theorem partial_ok (n : Nat) (hn : 2001 ≤ n) {H : VH} {b : Nat} {d : Array N} (hA : Arr H b d) (L : Nat) (hd : d.size = L) (hL : L < 1000) (a e : Nat) (he : e ≤ L) (hae : a < e) (c : Option Nat) (z : Nat) :
    ∃ H', vcall T ext promo n 168 [.slice (some (b, 0)) L c z, .int .i64 (a : Int), .int .i64 (e : Int), cmpF] H = some (.bool (partialInsertionSort ltN d a e).2, H') ∧ Arr H' b (partialInsertionSort ltN d a e).1 ∧ Did b H H' := by
  obtain ⟨n, rfl⟩ : ∃ m, n = m + 1 := ⟨n - 1, by omega⟩
  obtain ⟨H1, e1, a1, k1⟩ := pi_loop n (by omega) b L hL a e he hae 5 n (a + 1) d H.lo hd (by omega) (by omega) (by omega) (by omega) hA.lo
  refine ⟨_, ok168 _ _ _ _ _ _ _ _ _ (r := (.bool (partialInsertionSort ltN d a e).2, leave H H1 (.bool (partialInsertionSort ltN d a e).2))) ?_, a1.leave hA.ok hA.lt k1 _, k1.leave hA.ok hA.lt _⟩
  unfold F168 partialInsertionSort
  have e0 : (.int .i64 0 : AV) = .int .i64 ((5 - 5 : Nat) : Int) := rfl
  simp only [letH_mk, bindC_mk, bindV_mk, bindH_mk, bindJ_mk, asB_mk, asI_mk, asS_mk, asP_mk, asSl_mk, asA_mk, asTu_mk, asSome_mk, unc_mk, endL_mk, selC_eq, condT_eq, letN_mk, letB_mk, case_nn, case_nr, case_ne, case_rn, case_rr, case_re, case_en, case_er, case_ee, decide_eq_true_eq, Bool.not_true, Bool.not_false, Bool.false_eq_true, if_false, if_true, Bool.not_eq_true', decide_eq_false_iff_not, ilt_eq, ile_eq, reduceCtorEq, not_false_eq_true, not_true_eq_false, fw_add1 a (by omega), e0]
  rcases e1 with e1 | ⟨e1, q⟩
  · rw [e1]
    simp only [letH_mk, bindC_mk, bindV_mk, bindH_mk, bindJ_mk, asB_mk, asI_mk, asS_mk, asP_mk, asSl_mk, asA_mk, asTu_mk, asSome_mk, unc_mk, endL_mk, selC_eq, condT_eq, letN_mk, letB_mk, case_nn, case_nr, case_ne, case_rn, case_rr, case_re, case_en, case_er, case_ee, decide_eq_true_eq, Bool.not_true, Bool.not_false, Bool.false_eq_true, if_false, if_true, Bool.not_eq_true', decide_eq_false_iff_not, ilt_eq, ile_eq, reduceCtorEq, not_false_eq_true, not_true_eq_false]
  · rw [e1]
    simp only [letH_mk, bindC_mk, bindV_mk, bindH_mk, bindJ_mk, asB_mk, asI_mk, asS_mk, asP_mk, asSl_mk, asA_mk, asTu_mk, asSome_mk, unc_mk, endL_mk, selC_eq, condT_eq, letN_mk, letB_mk, case_nn, case_nr, case_ne, case_rn, case_rr, case_re, case_en, case_er, case_ee, decide_eq_true_eq, Bool.not_true, Bool.not_false, Bool.false_eq_true, if_false, if_true, Bool.not_eq_true', decide_eq_false_iff_not, ilt_eq, ile_eq, reduceCtorEq, not_false_eq_true, not_true_eq_false, q]
end
/-! The sort. -/
section
open Go.Sort
theorem pdq_loop (n : Nat) (hn : 2050 ≤ n) (b L : Nat) (hL : L < 256) (c : Option Nat) (z : Nat) (t : Nat)
    (rec : ∀ (a e : Nat) (d : Array N) (H : VH) (lim : Int), e - a < t → a ≤ e → e ≤ L → d.size = L → Below ltN a e d → Arr H b d →
      ∃ (d' : Array N) (H' : VH), vcall T ext promo n 145 [.slice (some (b, 0)) L c z, .int .i64 (a : Int), .int .i64 (e : Int), .int .i64 lim, cmpF] H = some (.tuple [], H') ∧ PermIn a e d d' ∧ SortedIn ltN a e d' ∧ Arr H' b d' ∧ Did b H H') :
    ∀ (m a e : Nat) (d : Array N) (H : VH) (lim : Int) (wb wp : Bool), e - a ≤ t → e - a < m → a ≤ e → e ≤ L → d.size = L → Below ltN a e d → Arr H b d →
      ∃ (d' : Array N) (H' : VH), loopN (L145_0 (vcall T ext promo n) n (some (b, 0)) c z L cmpF) m [.int .i64 (a : Int), .int .i64 (e : Int), .int .i64 lim, .bool wb, .bool wp] H = some (.ret, [], H') ∧ PermIn a e d d' ∧ SortedIn ltN a e d' ∧ Arr H' b d' ∧ Did b H H' := by
  intro m
  induction m with
  | zero => intro a e d H lim wb wp _ h; omega
  | succ m ih =>
    intro a e d H lim wb wp ht hm hae he hd hB hA
    rw [loopN_succ]
    generalize loopN (L145_0 (vcall T ext promo n) n (some (b, 0)) c z L cmpF) m = lp at ih ⊢
    unfold L145_0
    have f1 := fw_subn e a hae (by omega)
    simp only [letH_mk, bindC_mk, bindV_mk, bindH_mk, bindJ_mk, asB_mk, asI_mk, asS_mk, asP_mk, asSl_mk, asA_mk, asTu_mk, asSome_mk, unc_mk, endL_mk, selC_eq, condT_eq, letN_mk, letB_mk, case_nn, case_nr, case_ne, case_rn, case_rr, case_re, case_en, case_er, case_ee, decide_eq_true_eq, Bool.not_true, Bool.not_false, Bool.false_eq_true, if_false, if_true, Bool.not_eq_true', decide_eq_false_iff_not, ilt_eq, ile_eq, reduceCtorEq, not_false_eq_true, not_true_eq_false, f1, ieq_dec]
    by_cases h12 : e - a ≤ 12
    · have h12' : ((e - a : Nat) : Int) ≤ 12 := by omega
      obtain ⟨H1, e1, a1, k1⟩ := insertion_ok n (by omega) hA L hd (by omega) a e he (by omega) c z
      obtain ⟨q1, q2⟩ := insertionSort_holds swoN d a e hae (by omega)
      refine ⟨_, H1, ?_, q1, q2, a1, k1⟩
      simp only [letH_mk, bindC_mk, bindV_mk, bindH_mk, bindJ_mk, asB_mk, asI_mk, asS_mk, asP_mk, asSl_mk, asA_mk, asTu_mk, asSome_mk, unc_mk, endL_mk, selC_eq, condT_eq, letN_mk, letB_mk, case_nn, case_nr, case_ne, case_rn, case_rr, case_re, case_en, case_er, case_ee, decide_eq_true_eq, Bool.not_true, Bool.not_false, Bool.false_eq_true, if_false, if_true, Bool.not_eq_true', decide_eq_false_iff_not, ilt_eq, ile_eq, reduceCtorEq, not_false_eq_true, not_true_eq_false, h12', e1]
    · have h12' : ¬ ((e - a : Nat) : Int) ≤ 12 := by omega
      by_cases hl : lim = 0
      · obtain ⟨H1, e1, a1, k1⟩ := heap_ok n (by omega) hA L hd (by omega) a e he hae (by omega) c z
        obtain ⟨q1, q2⟩ := heapSort_holds swoN d a e hae (by omega)
        refine ⟨_, H1, ?_, q1, q2, a1, k1⟩
        simp only [letH_mk, bindC_mk, bindV_mk, bindH_mk, bindJ_mk, asB_mk, asI_mk, asS_mk, asP_mk, asSl_mk, asA_mk, asTu_mk, asSome_mk, unc_mk, endL_mk, selC_eq, condT_eq, letN_mk, letB_mk, case_nn, case_nr, case_ne, case_rn, case_rr, case_re, case_en, case_er, case_ee, decide_eq_true_eq, Bool.not_true, Bool.not_false, Bool.false_eq_true, if_false, if_true, Bool.not_eq_true', decide_eq_false_iff_not, ilt_eq, ile_eq, reduceCtorEq, not_false_eq_true, not_true_eq_false, h12', hl, e1]
      · simp only [letH_mk, bindC_mk, bindV_mk, bindH_mk, bindJ_mk, asB_mk, asI_mk, asS_mk, asP_mk, asSl_mk, asA_mk, asTu_mk, asSome_mk, unc_mk, endL_mk, selC_eq, condT_eq, letN_mk, letB_mk, case_nn, case_nr, case_ne, case_rn, case_rr, case_re, case_en, case_er, case_ee, decide_eq_true_eq, Bool.not_true, Bool.not_false, Bool.false_eq_true, if_false, if_true, Bool.not_eq_true', decide_eq_false_iff_not, ilt_eq, ile_eq, reduceCtorEq, not_false_eq_true, not_true_eq_false, h12', hl, Bool.and_eq_true]
        -- the patterns
        have st1 : ∃ (d1 : Array N) (H1 : VH) (l1 : Int), (if wb = false then bindC (vcall T ext promo n 165 [.slice (some (b, 0)) L c z, .int .i64 (a : Int), .int .i64 (e : Int), cmpF] H) fun v25 H26 => some (Ex.normal, [AV.int .i64 (fwrap .i64 (lim - 1))], H26) else some (Ex.normal, [.int .i64 lim], H)) = some (.normal, [.int .i64 l1], H1) ∧ PermIn a e d d1 ∧ Arr H1 b d1 ∧ Did b H H1 := by
          cases wb with
          | false =>
            obtain ⟨d1, H1, e1, a1, p1, k1⟩ := break_ok n (by omega) hA L hd hL a e he hae c z
            refine ⟨d1, H1, fwrap .i64 (lim - 1), ?_, p1, a1, k1⟩
            rw [if_pos rfl, e1]
            rfl
          | true => exact ⟨d, H, lim, by rw [if_neg (by decide)], permIn_refl _ _ _, hA, .refl hA.ok⟩
        obtain ⟨d1, H1, l1, e1, p1, a1, k1⟩ := st1
        have hd1 : d1.size = L := p1.1.trans hd
        have B1 : Below ltN a e d1 := hB.perm (by omega) p1
        rw [e1]
        simp only [letH_mk, bindC_mk, bindV_mk, bindH_mk, bindJ_mk, asB_mk, asI_mk, asS_mk, asP_mk, asSl_mk, asA_mk, asTu_mk, asSome_mk, unc_mk, endL_mk, selC_eq, condT_eq, letN_mk, letB_mk, case_nn, case_nr, case_ne, case_rn, case_rr, case_re, case_en, case_er, case_ee, decide_eq_true_eq, Bool.not_true, Bool.not_false, Bool.false_eq_true, if_false, if_true, Bool.not_eq_true', decide_eq_false_iff_not, ilt_eq, ile_eq, reduceCtorEq, not_false_eq_true, not_true_eq_false]
        -- the pivot
        obtain ⟨p, h, e2, hp1, hp2⟩ := pivot_ok n (by omega) a1 L (by omega) hd1 a e (by omega) he c z
        rw [e2]
        simp only [letH_mk, bindC_mk, bindV_mk, bindH_mk, bindJ_mk, asB_mk, asI_mk, asS_mk, asP_mk, asSl_mk, asA_mk, asTu_mk, asSome_mk, unc_mk, endL_mk, selC_eq, condT_eq, letN_mk, letB_mk, case_nn, case_nr, case_ne, case_rn, case_rr, case_re, case_en, case_er, case_ee, decide_eq_true_eq, Bool.not_true, Bool.not_false, Bool.false_eq_true, if_false, if_true, Bool.not_eq_true', decide_eq_false_iff_not, ilt_eq, ile_eq, reduceCtorEq, not_false_eq_true, not_true_eq_false]
        have st2 : ∃ (d2 : Array N) (H2 : VH) (p' : Nat) (h' : Int), (if h = 2 then bindC (vcall T ext promo n 167 [.slice (some (b, 0)) L c z, .int .i64 (a : Int), .int .i64 (e : Int), cmpF] H1) fun v43 H44 => some (Ex.normal, [AV.int .i64 (fwrap .i64 (fwrap .i64 ((e : Int) - 1) - fwrap .i64 ((p : Int) - (a : Int)))), .int .i64 1], H44) else some (Ex.normal, [.int .i64 (p : Int), .int .i64 h], H1)) = some (.normal, [.int .i64 (p' : Int), .int .i64 h'], H2) ∧ a ≤ p' ∧ p' < e ∧ PermIn a e d1 d2 ∧ Arr H2 b d2 ∧ Did b H1 H2 := by
          by_cases h2 : h = 2
          · obtain ⟨H2, e3, a2, k2⟩ := reverse_ok n (by omega) a1 L hd1 (by omega) a e he (by omega) c z
            refine ⟨_, H2, (e - 1) - (p - a), 1, ?_, by omega, by omega, reverseRange_holds d1 a e hae (by omega), a2, k2⟩
            rw [if_pos h2, e3]
            simp only [letH_mk, bindC_mk, bindV_mk, bindH_mk, bindJ_mk, asB_mk, asI_mk, asS_mk, asP_mk, asSl_mk, asA_mk, asTu_mk, asSome_mk, unc_mk, endL_mk, selC_eq, condT_eq, letN_mk, letB_mk, case_nn, case_nr, case_ne, case_rn, case_rr, case_re, case_en, case_er, case_ee, decide_eq_true_eq, Bool.not_true, Bool.not_false, Bool.false_eq_true, if_false, if_true, Bool.not_eq_true', decide_eq_false_iff_not, ilt_eq, ile_eq, reduceCtorEq, not_false_eq_true, not_true_eq_false]
            rw [fw_sub1 e (by omega) (by omega), fw_subn p a hp1 (by omega), fw_subn (e - 1) (p - a) (by omega) (by omega)]
          · exact ⟨d1, H1, p, h, by rw [if_neg h2], hp1, hp2, permIn_refl _ _ _, a1, .refl a1.ok⟩
        obtain ⟨d2, H2, p', h', e3, hp1', hp2', p2, a2, k2⟩ := st2
        have hd2 : d2.size = L := p2.1.trans hd1
        have B2 : Below ltN a e d2 := B1.perm (by omega) p2
        rw [e3]
        simp only [letH_mk, bindC_mk, bindV_mk, bindH_mk, bindJ_mk, asB_mk, asI_mk, asS_mk, asP_mk, asSl_mk, asA_mk, asTu_mk, asSome_mk, unc_mk, endL_mk, selC_eq, condT_eq, letN_mk, letB_mk, case_nn, case_nr, case_ne, case_rn, case_rr, case_re, case_en, case_er, case_ee, decide_eq_true_eq, Bool.not_true, Bool.not_false, Bool.false_eq_true, if_false, if_true, Bool.not_eq_true', decide_eq_false_iff_not, ilt_eq, ile_eq, reduceCtorEq, not_false_eq_true, not_true_eq_false]
        have st3 : ∃ v : Bool, (if wb = true then if wp = true then some (Ex.normal, [AV.bool (decide (h' = 1))], H2) else some (Ex.normal, [AV.bool false], H2) else some (Ex.normal, [AV.bool false], H2)) = some (.normal, [.bool v], H2) := by
          cases wb <;> cases wp <;> exact ⟨_, rfl⟩
        obtain ⟨v, e4⟩ := st3
        rw [e4]
        simp only [letH_mk, bindC_mk, bindV_mk, bindH_mk, bindJ_mk, asB_mk, asI_mk, asS_mk, asP_mk, asSl_mk, asA_mk, asTu_mk, asSome_mk, unc_mk, endL_mk, selC_eq, condT_eq, letN_mk, letB_mk, case_nn, case_nr, case_ne, case_rn, case_rr, case_re, case_en, case_er, case_ee, decide_eq_true_eq, Bool.not_true, Bool.not_false, Bool.false_eq_true, if_false, if_true, Bool.not_eq_true', decide_eq_false_iff_not, ilt_eq, ile_eq, reduceCtorEq, not_false_eq_true, not_true_eq_false]
        have P2 : PermIn a e d d2 := permIn_trans _ _ _ _ _ p1 p2
        have st4 : ∃ (d3 : Array N) (H3 : VH) (x : Ex), (if v = true then bindC (vcall T ext promo n 168 [.slice (some (b, 0)) L c z, .int .i64 (a : Int), .int .i64 (e : Int), cmpF] H2) fun v63 H64 => asB v63 fun b65 => if b65 = true then some (Ex.ret, ([] : List AV), H64) else some (.normal, [], H64) else some (.normal, [], H2)) = some (x, [], H3) ∧ (x = .ret ∧ SortedIn ltN a e d3 ∨ x = .normal) ∧ PermIn a e d2 d3 ∧ Arr H3 b d3 ∧ Did b H2 H3 := by
          cases v with
          | true =>
            obtain ⟨H3, e5, a3, k3⟩ := partial_ok n (by omega) a2 L hd2 (by omega) a e he (by omega) c z
            obtain ⟨q1, q2⟩ := partialInsertionSort_holds swoN d2 a e (by omega) (by omega) B2
            cases hx : (partialInsertionSort ltN d2 a e).2 with
            | true =>
              refine ⟨_, H3, .ret, ?_, .inl ⟨rfl, q2 hx⟩, q1, a3, k3⟩
              rw [if_pos rfl, e5, hx]
              rfl
            | false =>
              refine ⟨_, H3, .normal, ?_, .inr rfl, q1, a3, k3⟩
              rw [if_pos rfl, e5, hx]
              rfl
          | false => exact ⟨d2, H2, .normal, by rw [if_neg (by decide)], .inr rfl, permIn_refl _ _ _, a2, .refl a2.ok⟩
        obtain ⟨d3, H3, x, e5, hx, p3, a3, k3⟩ := st4
        rw [e5]
        have P3 : PermIn a e d d3 := permIn_trans _ _ _ _ _ P2 p3
        have k03 := (k1.trans k2).trans k3
        have hd3 : d3.size = L := p3.1.trans hd2
        have B3 : Below ltN a e d3 := B2.perm (by omega) p3
        rcases hx with ⟨rfl, hs⟩ | rfl
        · simp only [letH_mk, bindC_mk, bindV_mk, bindH_mk, bindJ_mk, asB_mk, asI_mk, asS_mk, asP_mk, asSl_mk, asA_mk, asTu_mk, asSome_mk, unc_mk, endL_mk, selC_eq, condT_eq, letN_mk, letB_mk, case_nn, case_nr, case_ne, case_rn, case_rr, case_re, case_en, case_er, case_ee, decide_eq_true_eq, Bool.not_true, Bool.not_false, Bool.false_eq_true, if_false, if_true, Bool.not_eq_true', decide_eq_false_iff_not, ilt_eq, ile_eq, reduceCtorEq, not_false_eq_true, not_true_eq_false]
          exact ⟨d3, H3, rfl, P3, hs, a3, k03⟩
        · simp only [letH_mk, bindC_mk, bindV_mk, bindH_mk, bindJ_mk, asB_mk, asI_mk, asS_mk, asP_mk, asSl_mk, asA_mk, asTu_mk, asSome_mk, unc_mk, endL_mk, selC_eq, condT_eq, letN_mk, letB_mk, case_nn, case_nr, case_ne, case_rn, case_rr, case_re, case_en, case_er, case_ee, decide_eq_true_eq, Bool.not_true, Bool.not_false, Bool.false_eq_true, if_false, if_true, Bool.not_eq_true', decide_eq_false_iff_not, ilt_eq, ile_eq, reduceCtorEq, not_false_eq_true, not_true_eq_false]
          have tailP : ∃ (d' : Array N) (H' : VH), (bindC (vcall T ext promo n 170 [.slice (some (b, 0)) L c z, .int .i64 (a : Int), .int .i64 (e : Int), .int .i64 (p' : Int), cmpF] H3) fun v125 H126 => asTu v125 fun l127 => unc l127 fun a128 l129 => asI .i64 a128 fun n130 => unc l129 fun a131 l132 => asB a131 fun b133 => endL l132 (if fwrap .i64 (n130 - (a : Int)) < fwrap .i64 ((e : Int) - n130) then bindC (vcall T ext promo n 145 [.slice (some (b, 0)) L c z, .int .i64 (a : Int), .int .i64 n130, .int .i64 l1, cmpF] H126) fun v137 H138 => lp [.int .i64 (fwrap .i64 (n130 + 1)), .int .i64 (e : Int), .int .i64 l1, .bool (decide (fwrap .i64 (((e - a : Nat) : Int).tdiv 8) ≤ fwrap .i64 (n130 - (a : Int)))), .bool b133] H138 else bindC (vcall T ext promo n 145 [.slice (some (b, 0)) L c z, .int .i64 (fwrap .i64 (n130 + 1)), .int .i64 (e : Int), .int .i64 l1, cmpF] H126) fun v141 H142 => lp [.int .i64 (a : Int), .int .i64 n130, .int .i64 l1, .bool (decide (fwrap .i64 (((e - a : Nat) : Int).tdiv 8) ≤ fwrap .i64 ((e : Int) - n130))), .bool b133] H142)) = some (.ret, [], H') ∧ PermIn a e d d' ∧ SortedIn ltN a e d' ∧ Arr H' b d' ∧ Did b H H' := by
            obtain ⟨H4, e6, a4, k4⟩ := partN_ok n (by omega) a3 L hd3 (by omega) a e p' he hp1' hp2' c z
            obtain ⟨g1, g2, g3, g4, g5, g6, g7⟩ := round_part swoN (partition_holds ltN) hp1' hp2' (by omega) B3 (mid := (partition ltN d3 a e p').1) (ap := (partition ltN d3 a e p').2.1) (d4 := (partition ltN d3 a e p').2.2) rfl
            rw [e6]
            generalize (partition ltN d3 a e p').1 = mid at *
            generalize (partition ltN d3 a e p').2.1 = ap at *
            generalize (partition ltN d3 a e p').2.2 = d4 at *
            have f2 := fw_subn mid a g1 (by omega)
            have f3 := fw_subn e mid (by omega) (by omega)
            have f4 := fw_add1 mid (by omega)
            simp only [letH_mk, bindC_mk, bindV_mk, bindH_mk, bindJ_mk, asB_mk, asI_mk, asS_mk, asP_mk, asSl_mk, asA_mk, asTu_mk, asSome_mk, unc_mk, endL_mk, selC_eq, condT_eq, letN_mk, letB_mk, case_nn, case_nr, case_ne, case_rn, case_rr, case_re, case_en, case_er, case_ee, decide_eq_true_eq, Bool.not_true, Bool.not_false, Bool.false_eq_true, if_false, if_true, Bool.not_eq_true', decide_eq_false_iff_not, ilt_eq, ile_eq, reduceCtorEq, not_false_eq_true, not_true_eq_false, f2, f3, f4]
            by_cases hm2 : mid - a < e - mid
            · obtain ⟨d5, H5, e7, r1, r2, a5, k5⟩ := rec a mid d4 H4 l1 (by omega) g1 (by omega) (by omega) g4 a4
              obtain ⟨B5, g8⟩ := g6 d5 r1 r2
              obtain ⟨d6, H6, e8, r3, r4, a6, k6⟩ := ih (mid + 1) e d5 H5 l1 (decide (fwrap .i64 (((e - a : Nat) : Int).tdiv 8) ≤ ((mid - a : Nat) : Int))) ap (by omega) (by omega) (by omega) he (by rw [r1.1]; omega) B5 a5
              obtain ⟨r5, r6⟩ := g8 d6 r3 r4
              refine ⟨d6, H6, ?_, permIn_trans _ _ _ _ _ P3 r5, r6, a6, (k03.trans k4).trans (k5.trans k6)⟩
              rw [if_pos (by omega), e7]
              exact e8
            · obtain ⟨d5, H5, e7, r1, r2, a5, k5⟩ := rec (mid + 1) e d4 H4 l1 (by omega) (by omega) he (by omega) g5 a4
              obtain ⟨B5, g8⟩ := g7 d5 r1 r2
              obtain ⟨d6, H6, e8, r3, r4, a6, k6⟩ := ih a mid d5 H5 l1 (decide (fwrap .i64 (((e - a : Nat) : Int).tdiv 8) ≤ ((e - mid : Nat) : Int))) ap (by omega) (by omega) g1 (by omega) (by rw [r1.1]; omega) B5 a5
              obtain ⟨r5, r6⟩ := g8 d6 r3 r4
              refine ⟨d6, H6, ?_, permIn_trans _ _ _ _ _ P3 r5, r6, a6, (k03.trans k4).trans (k5.trans k6)⟩
              rw [if_neg (by omega), e7]
              exact e8
          by_cases ha0 : 0 < a
          · have ha0' : (0 : Int) < (a : Int) := by omega
            simp only [letH_mk, bindC_mk, bindV_mk, bindH_mk, bindJ_mk, asB_mk, asI_mk, asS_mk, asP_mk, asSl_mk, asA_mk, asTu_mk, asSome_mk, unc_mk, endL_mk, selC_eq, condT_eq, letN_mk, letB_mk, case_nn, case_nr, case_ne, case_rn, case_rr, case_re, case_en, case_er, case_ee, decide_eq_true_eq, Bool.not_true, Bool.not_false, Bool.false_eq_true, if_false, if_true, Bool.not_eq_true', decide_eq_false_iff_not, ilt_eq, ile_eq, reduceCtorEq, not_false_eq_true, not_true_eq_false, ha0', asFn_mk, List.nil_append, List.append_nil, Int.toNat_natCast, Bool.and_eq_true, fw_sub1 a ha0 (by omega), a3.rd (a - 1) L (by omega) hd3, a3.rd p' L (by omega) hd3, N.cells, cmp_ok n (by omega) _ _ a3.ok, cmp_lt]
            by_cases hc : ltN d3[a - 1]! d3[p']! = true
            · simp only [hc, letH_mk, bindC_mk, bindV_mk, bindH_mk, bindJ_mk, asB_mk, asI_mk, asS_mk, asP_mk, asSl_mk, asA_mk, asTu_mk, asSome_mk, unc_mk, endL_mk, selC_eq, condT_eq, letN_mk, letB_mk, case_nn, case_nr, case_ne, case_rn, case_rr, case_re, case_en, case_er, case_ee, decide_eq_true_eq, Bool.not_true, Bool.not_false, Bool.false_eq_true, if_false, if_true, Bool.not_eq_true', decide_eq_false_iff_not, ilt_eq, ile_eq, reduceCtorEq, not_false_eq_true, not_true_eq_false]
              exact tailP
            · have hc' : ltN d3[a - 1]! d3[p']! = false := by simpa using hc
              obtain ⟨H4, e6, a4, k4⟩ := partEq_ok n (by omega) a3 L hd3 (by omega) a e p' he hp1' hp2' c z
              obtain ⟨g1, g2, g3, g4, g5⟩ := round_eq swoN (partitionEqual_holds ltN) ha0 hp1' hp2' (by omega) B3 hc' (mid := (partitionEqual ltN d3 a e p').1) (d4 := (partitionEqual ltN d3 a e p').2) rfl
              simp only [hc', letH_mk, bindC_mk, bindV_mk, bindH_mk, bindJ_mk, asB_mk, asI_mk, asS_mk, asP_mk, asSl_mk, asA_mk, asTu_mk, asSome_mk, unc_mk, endL_mk, selC_eq, condT_eq, letN_mk, letB_mk, case_nn, case_nr, case_ne, case_rn, case_rr, case_re, case_en, case_er, case_ee, decide_eq_true_eq, Bool.not_true, Bool.not_false, Bool.false_eq_true, if_false, if_true, Bool.not_eq_true', decide_eq_false_iff_not, ilt_eq, ile_eq, reduceCtorEq, not_false_eq_true, not_true_eq_false, e6]
              generalize (partitionEqual ltN d3 a e p').1 = mid at *
              generalize (partitionEqual ltN d3 a e p').2 = d4 at *
              obtain ⟨d6, H6, e8, r3, r4, a6, k6⟩ := ih mid e d4 H4 l1 wb wp (by omega) (by omega) g2 he (by omega) g4 a4
              obtain ⟨r5, r6⟩ := g5 d6 r3 r4
              exact ⟨d6, H6, e8, permIn_trans _ _ _ _ _ P3 r5, r6, a6, (k03.trans k4).trans k6⟩
          · have ha0' : ¬ (0 : Int) < (a : Int) := by omega
            simp only [letH_mk, bindC_mk, bindV_mk, bindH_mk, bindJ_mk, asB_mk, asI_mk, asS_mk, asP_mk, asSl_mk, asA_mk, asTu_mk, asSome_mk, unc_mk, endL_mk, selC_eq, condT_eq, letN_mk, letB_mk, case_nn, case_nr, case_ne, case_rn, case_rr, case_re, case_en, case_er, case_ee, decide_eq_true_eq, Bool.not_true, Bool.not_false, Bool.false_eq_true, if_false, if_true, Bool.not_eq_true', decide_eq_false_iff_not, ilt_eq, ile_eq, reduceCtorEq, not_false_eq_true, not_true_eq_false, ha0']
            exact tailP
theorem pdq_ok (b L : Nat) (hL : L < 256) (c : Option Nat) (z : Nat) : ∀ (t n : Nat) (a e : Nat) (d : Array N) (H : VH) (lim : Int), 2100 + t ≤ n → e - a ≤ t → a ≤ e → e ≤ L → d.size = L → Below ltN a e d → Arr H b d →
      ∃ (d' : Array N) (H' : VH), vcall T ext promo n 145 [.slice (some (b, 0)) L c z, .int .i64 (a : Int), .int .i64 (e : Int), .int .i64 lim, cmpF] H = some (.tuple [], H') ∧ PermIn a e d d' ∧ SortedIn ltN a e d' ∧ Arr H' b d' ∧ Did b H H' := by
  intro t
  induction t using Nat.strongRecOn with
  | _ t IH =>
    intro n a e d H lim hn ht hae he hd hB hA
    obtain ⟨n, rfl⟩ : ∃ m, n = m + 1 := ⟨n - 1, by omega⟩
    obtain ⟨d', H1, e1, p1, s1, a1, k1⟩ := pdq_loop n (by omega) b L hL c z t (fun a e d H lim h1 h2 h3 h4 h5 h6 => by
      exact IH (e - a) h1 n a e d H lim (by omega) (Nat.le_refl _) h2 h3 h4 h5 h6) n a e d H.lo lim true true ht (by omega) hae he hd hB hA.lo
    refine ⟨d', _, ok145 _ _ _ _ _ _ _ _ _ _ (r := (.tuple [], leave H H1 (.tuple []))) ?_, p1, s1, a1.leave hA.ok hA.lt k1 _, k1.leave hA.ok hA.lt _⟩
    unfold F145
    simp only [letH_mk, bindC_mk, bindV_mk, bindH_mk, bindJ_mk, asB_mk, asI_mk, asS_mk, asP_mk, asSl_mk, asA_mk, asTu_mk, asSome_mk, unc_mk, endL_mk, selC_eq, condT_eq, letN_mk, letB_mk, case_nn, case_nr, case_ne, case_rn, case_rr, case_re, case_en, case_er, case_ee, decide_eq_true_eq, Bool.not_true, Bool.not_false, Bool.false_eq_true, if_false, if_true, Bool.not_eq_true', decide_eq_false_iff_not, ilt_eq, ile_eq, reduceCtorEq, not_false_eq_true, not_true_eq_false, e1]
theorem sortFunc_ok (n : Nat) (hn : 3000 ≤ n) {H : VH} {b : Nat} {d : Array N} (hA : Arr H b d) (L : Nat) (hd : d.size = L) (hL : L < 256) (c : Option Nat) (z : Nat) :
    ∃ (d' : Array N) (H' : VH), vcall T ext promo n 108 [.slice (some (b, 0)) L c z, cmpF] H = some (.tuple [], H') ∧ PermIn 0 L d d' ∧ SortedIn ltN 0 L d' ∧ Arr H' b d' ∧ Did b H H' := by
  obtain ⟨n, rfl⟩ : ∃ m, n = m + 1 := ⟨n - 1, by omega⟩
  obtain ⟨d', H1, e1, p1, s1, a1, k1⟩ := pdq_ok b L hL c z L n 0 L d H.lo (lenB L : Int) (by omega) (by omega) (by omega) (Nat.le_refl _) hd (.inl rfl) hA.lo
  refine ⟨d', _, ok108 _ _ _ _ _ _ _ (r := (.tuple [], leave H H1 (.tuple []))) ?_, p1, s1, a1.leave hA.ok hA.lt k1 _, k1.leave hA.ok hA.lt _⟩
  unfold F108
  simp only [letH_mk, bindC_mk, bindV_mk, bindH_mk, bindJ_mk, asB_mk, asI_mk, asS_mk, asP_mk, asSl_mk, asA_mk, asTu_mk, asSome_mk, unc_mk, endL_mk, selC_eq, condT_eq, letN_mk, letB_mk, case_nn, case_nr, case_ne, case_rn, case_rr, case_re, case_en, case_er, case_ee, decide_eq_true_eq, Bool.not_true, Bool.not_false, Bool.false_eq_true, if_false, if_true, Bool.not_eq_true', decide_eq_false_iff_not, ilt_eq, ile_eq, reduceCtorEq, not_false_eq_true, not_true_eq_false, fw_u64s L (by omega)]
  rw [len_ok n (by omega) L hL]
  have e0 : (.int .i64 0 : AV) = .int .i64 ((0 : Nat) : Int) := rfl
  simp only [letH_mk, bindC_mk, bindV_mk, bindH_mk, bindJ_mk, asB_mk, asI_mk, asS_mk, asP_mk, asSl_mk, asA_mk, asTu_mk, asSome_mk, unc_mk, endL_mk, selC_eq, condT_eq, letN_mk, letB_mk, case_nn, case_nr, case_ne, case_rn, case_rr, case_re, case_en, case_er, case_ee, decide_eq_true_eq, Bool.not_true, Bool.not_false, Bool.false_eq_true, if_false, if_true, Bool.not_eq_true', decide_eq_false_iff_not, ilt_eq, ile_eq, reduceCtorEq, not_false_eq_true, not_true_eq_false, e0, e1]
end
end Go.Vm.Tryd
