/- The reductions of a vector: what is answered. -/
import Derived.Test.YtieocmaaloaoaaaDoorBu
namespace Go.Vm.Tryd
set_option linter.unusedSectionVars false
set_option linter.unusedSimpArgs false
set_option linter.unusedVariables false
set_option maxRecDepth 10000
theorem ishr_u64 (x : BitVec 64) (k : Nat) : ishr (u64 x) k = u64 (x >>> k) := by
  simp only [ishr, u64, BitVec.toNat_ushiftRight, Nat.shiftRight_eq_div_pow]
  rfl
theorem modOf_i64 : modOf .i64 = 18446744073709551616 := rfl
theorem nmod_i64 (x : BitVec 64) : nmod (fwrap .i64 (u64 x)) (modOf .i64) = x.toNat := by
  have h := nmod_eq (fwrap .i64 (u64 x)) (modOf .i64) (by decide)
  have h2 := fw_fw (u64 x)
  have h3 := u64_ofInt (z := u64 x) (by unfold u64; omega) (by have := x.isLt; unfold u64; omega)
  rw [h3, fw_u64] at h2
  rw [modOf_i64] at h ⊢
  have h4 := h.trans h2
  unfold u64 at h4 ⊢
  exact Int.ofNat.inj h4
theorem iand_127 (x : BitVec 64) : iand .i64 (fwrap .i64 (u64 x)) 127 = ((x.toNat % 128 : Nat) : Int) := by
  unfold iand
  rw [nmod_i64]
  have e : Nat.land x.toNat (nmod 127 (modOf .i64)) = x.toNat % 128 := by
    show x.toNat &&& 127 = _
    exact Nat.and_two_pow_sub_one_eq_mod x.toNat 7
  rw [e]
  exact fw_i64 (by have := Int.natCast_nonneg (x.toNat % 128); show _ ≤ ((x.toNat % 128 : Nat) : Int); omega) (by show ((x.toNat % 128 : Nat) : Int) < _; omega)
theorem iand_1 (k : Nat) (hk : k ≤ 64) : iand .i64 (k : Int) 1 = ((k % 2 : Nat) : Int) := by
  unfold iand
  have e : Nat.land (nmod (k : Int) (modOf .i64)) (nmod 1 (modOf .i64)) = k % 2 := by
    rw [nmod_nat, modOf_i64, Nat.mod_eq_of_lt (by omega)]
    show k &&& 1 = _
    exact Nat.and_two_pow_sub_one_eq_mod k 1
  rw [e]
  exact fw_i64 (by show _ ≤ ((k % 2 : Nat) : Int); omega) (by show ((k % 2 : Nat) : Int) < _; omega)
theorem pop_ok (n : Nat) (hn : 2 ≤ n) (v : BitVec 64) (H : VH) : vcall T ext promo n 84 [.int .u64 (u64 v)] H = some (.int .i64 (((pop v).toNat % 128 : Nat) : Int), H) := by
  obtain ⟨n, rfl⟩ : ∃ m, n = m + 1 := ⟨n - 1, by omega⟩
  apply ok84
  unfold F84
  simp only [letH_mk, bindC_mk, bindV_mk, bindL_mk, bindH_mk, bindJ_mk, asB_mk, asI_mk, asS_mk, asP_mk, asSl_mk, asA_mk, asTu_mk, asSome_mk, unc_mk, endL_mk, selC_eq, condT_eq, sel_eq, letN_mk, letB_mk, case_nn, case_nr, case_ne, case_rn, case_rr, case_re, case_en, case_er, case_ee, iand_u64, ior_u64, ixor_u64, iandn_u64, inot_u64, ieq_u64_0, ieq_u64, decide_eq_true_eq, Bool.not_true, Bool.not_false, Bool.false_eq_true, if_false, if_true, Bool.not_eq_true', decide_eq_false_iff_not, ilt_eq, ile_eq, reduceCtorEq, not_false_eq_true, not_true_eq_false, m1_int, m2_int, m3_int, ishr_u64, add_u64]
  rw [iand_127, leave_flat rfl rfl]
  simp only [pop, popS, popC, popA]
theorem redand_ok (n : Nat) (hn : 30 ≤ n) {w : Nat} {v x : BitVec 64} (h : Vec w v x) {H : VH} (hH : H.Ok) :
    vcall T ext promo n 37 [bv w v x] H = some (bv 1 (tv (fold3 kand 1 v x w)) (tx (fold3 kand 1 v x w)), H) := by
  obtain ⟨n, rfl⟩ : ∃ m, n = m + 1 := ⟨n - 1, by omega⟩
  rw [fold_and v x w h.le, and_mask h.x]
  apply ok37
  unfold F37
  simp only [letH_mk]
  rw [valid1 n (by omega) (lo_ok hH) h]
  simp only [letH_mk, bindC_mk, bindV_mk, bindL_mk, bindH_mk, bindJ_mk, asB_mk, asI_mk, asS_mk, asP_mk, asSl_mk, asA_mk, asTu_mk, asSome_mk, unc_mk, endL_mk, selC_eq, condT_eq, sel_eq, letN_mk, letB_mk, case_nn, case_nr, case_ne, case_rn, case_rr, case_re, case_en, case_er, case_ee, iand_u64, ior_u64, ixor_u64, iandn_u64, inot_u64, ieq_u64_0, ieq_u64, decide_eq_true_eq, Bool.not_true, Bool.not_false, Bool.false_eq_true, if_false, if_true, Bool.not_eq_true', decide_eq_false_iff_not, ilt_eq, ile_eq, reduceCtorEq, not_false_eq_true, not_true_eq_false]
  rw [mask_ok n (by omega)]
  simp only [letH_mk, bindC_mk, bindV_mk, bindL_mk, bindH_mk, bindJ_mk, asB_mk, asI_mk, asS_mk, asP_mk, asSl_mk, asA_mk, asTu_mk, asSome_mk, unc_mk, endL_mk, selC_eq, condT_eq, sel_eq, letN_mk, letB_mk, case_nn, case_nr, case_ne, case_rn, case_rr, case_re, case_en, case_er, case_ee, iand_u64, ior_u64, ixor_u64, iandn_u64, inot_u64, ieq_u64_0, ieq_u64, decide_eq_true_eq, Bool.not_true, Bool.not_false, Bool.false_eq_true, if_false, if_true, Bool.not_eq_true', decide_eq_false_iff_not, ilt_eq, ile_eq, reduceCtorEq, not_false_eq_true, not_true_eq_false]
  by_cases a1 : (~~~v &&& ~~~x) &&& bmask w = 0#64
  · rw [if_neg (fun e => e a1), if_pos a1]
    by_cases a2 : x = 0#64
    · rw [if_neg (fun e => e a2), if_pos a2, truth_ok n (by omega)]
      simp only [letH_mk, bindC_mk, bindV_mk, bindL_mk, bindH_mk, bindJ_mk, asB_mk, asI_mk, asS_mk, asP_mk, asSl_mk, asA_mk, asTu_mk, asSome_mk, unc_mk, endL_mk, selC_eq, condT_eq, sel_eq, letN_mk, letB_mk, case_nn, case_nr, case_ne, case_rn, case_rr, case_re, case_en, case_er, case_ee, iand_u64, ior_u64, ixor_u64, iandn_u64, inot_u64, ieq_u64_0, ieq_u64, decide_eq_true_eq, Bool.not_true, Bool.not_false, Bool.false_eq_true, if_false, if_true, Bool.not_eq_true', decide_eq_false_iff_not, ilt_eq, ile_eq, reduceCtorEq, not_false_eq_true, not_true_eq_false]
      rw [leave_flat rfl rfl]
    · rw [if_pos a2, if_neg a2, truth_ok n (by omega)]
      simp only [letH_mk, bindC_mk, bindV_mk, bindL_mk, bindH_mk, bindJ_mk, asB_mk, asI_mk, asS_mk, asP_mk, asSl_mk, asA_mk, asTu_mk, asSome_mk, unc_mk, endL_mk, selC_eq, condT_eq, sel_eq, letN_mk, letB_mk, case_nn, case_nr, case_ne, case_rn, case_rr, case_re, case_en, case_er, case_ee, iand_u64, ior_u64, ixor_u64, iandn_u64, inot_u64, ieq_u64_0, ieq_u64, decide_eq_true_eq, Bool.not_true, Bool.not_false, Bool.false_eq_true, if_false, if_true, Bool.not_eq_true', decide_eq_false_iff_not, ilt_eq, ile_eq, reduceCtorEq, not_false_eq_true, not_true_eq_false]
      rw [leave_flat rfl rfl]
  · rw [if_pos a1, if_neg a1, truth_ok n (by omega)]
    simp only [letH_mk, bindC_mk, bindV_mk, bindL_mk, bindH_mk, bindJ_mk, asB_mk, asI_mk, asS_mk, asP_mk, asSl_mk, asA_mk, asTu_mk, asSome_mk, unc_mk, endL_mk, selC_eq, condT_eq, sel_eq, letN_mk, letB_mk, case_nn, case_nr, case_ne, case_rn, case_rr, case_re, case_en, case_er, case_ee, iand_u64, ior_u64, ixor_u64, iandn_u64, inot_u64, ieq_u64_0, ieq_u64, decide_eq_true_eq, Bool.not_true, Bool.not_false, Bool.false_eq_true, if_false, if_true, Bool.not_eq_true', decide_eq_false_iff_not, ilt_eq, ile_eq, reduceCtorEq, not_false_eq_true, not_true_eq_false]
    rw [leave_flat rfl rfl]
theorem redor_ok (n : Nat) (hn : 40 ≤ n) {w : Nat} {v x : BitVec 64} (h : Vec w v x) {H : VH} (hH : H.Ok) :
    vcall T ext promo n 38 [bv w v x] H = some (bv 1 (tv (fold3 kor 0 v x w)) (tx (fold3 kor 0 v x w)), H) := by
  obtain ⟨n, rfl⟩ : ∃ m, n = m + 1 := ⟨n - 1, by omega⟩
  have e : fold3 kor 0 v x w = trueOf v x := by
    rw [fold_or v x w h.le, and_mask h.x, and_mask (fun i hi => by rw [BitVec.getLsbD_and, h.v i hi, Bool.false_and])]
    rfl
  rw [e]
  apply ok38
  unfold F38
  simp only [letH_mk]
  rw [valid1 n (by omega) (lo_ok hH) h]
  simp only [letH_mk, bindC_mk, bindV_mk, bindL_mk, bindH_mk, bindJ_mk, asB_mk, asI_mk, asS_mk, asP_mk, asSl_mk, asA_mk, asTu_mk, asSome_mk, unc_mk, endL_mk, selC_eq, condT_eq, sel_eq, letN_mk, letB_mk, case_nn, case_nr, case_ne, case_rn, case_rr, case_re, case_en, case_er, case_ee, iand_u64, ior_u64, ixor_u64, iandn_u64, inot_u64, ieq_u64_0, ieq_u64, decide_eq_true_eq, Bool.not_true, Bool.not_false, Bool.false_eq_true, if_false, if_true, Bool.not_eq_true', decide_eq_false_iff_not, ilt_eq, ile_eq, reduceCtorEq, not_false_eq_true, not_true_eq_false]
  rw [true_ok n (by omega) h (fresh_ok (lo_ok hH) _)]
  simp only [letH_mk, bindC_mk, bindV_mk, bindL_mk, bindH_mk, bindJ_mk, asB_mk, asI_mk, asS_mk, asP_mk, asSl_mk, asA_mk, asTu_mk, asSome_mk, unc_mk, endL_mk, selC_eq, condT_eq, sel_eq, letN_mk, letB_mk, case_nn, case_nr, case_ne, case_rn, case_rr, case_re, case_en, case_er, case_ee, iand_u64, ior_u64, ixor_u64, iandn_u64, inot_u64, ieq_u64_0, ieq_u64, decide_eq_true_eq, Bool.not_true, Bool.not_false, Bool.false_eq_true, if_false, if_true, Bool.not_eq_true', decide_eq_false_iff_not, ilt_eq, ile_eq, reduceCtorEq, not_false_eq_true, not_true_eq_false]
  rw [truth_ok n (by omega)]
  simp only [letH_mk, bindC_mk, bindV_mk, bindL_mk, bindH_mk, bindJ_mk, asB_mk, asI_mk, asS_mk, asP_mk, asSl_mk, asA_mk, asTu_mk, asSome_mk, unc_mk, endL_mk, selC_eq, condT_eq, sel_eq, letN_mk, letB_mk, case_nn, case_nr, case_ne, case_rn, case_rr, case_re, case_en, case_er, case_ee, iand_u64, ior_u64, ixor_u64, iandn_u64, inot_u64, ieq_u64_0, ieq_u64, decide_eq_true_eq, Bool.not_true, Bool.not_false, Bool.false_eq_true, if_false, if_true, Bool.not_eq_true', decide_eq_false_iff_not, ilt_eq, ile_eq, reduceCtorEq, not_false_eq_true, not_true_eq_false]
  rw [leave_flat rfl rfl]
theorem odd_more {w : Nat} {v : BitVec 64} (h : ∀ i, w ≤ i → v.getLsbD i = false) : ∀ j, odd v (w + j) = odd v w
  | 0 => rfl
  | j + 1 => by
    show (odd v (w + j) ^^ v.getLsbD (w + j)) = odd v w
    rw [odd_more h j, h (w + j) (by omega), Bool.xor_false]
theorem redxor_ok (n : Nat) (hn : 30 ≤ n) {w : Nat} {v x : BitVec 64} (h : Vec w v x) {H : VH} (hH : H.Ok) :
    vcall T ext promo n 39 [bv w v x] H = some (bv 1 (tv (fold3 kxor 0 v x w)) (tx (fold3 kxor 0 v x w)), H) := by
  obtain ⟨n, rfl⟩ : ∃ m, n = m + 1 := ⟨n - 1, by omega⟩
  have h2 := h.le
  rw [fold_xor v x w h2, and_mask h.x]
  apply ok39
  unfold F39
  simp only [letH_mk]
  rw [valid1 n (by omega) (lo_ok hH) h]
  simp only [letH_mk, bindC_mk, bindV_mk, bindL_mk, bindH_mk, bindJ_mk, asB_mk, asI_mk, asS_mk, asP_mk, asSl_mk, asA_mk, asTu_mk, asSome_mk, unc_mk, endL_mk, selC_eq, condT_eq, sel_eq, letN_mk, letB_mk, case_nn, case_nr, case_ne, case_rn, case_rr, case_re, case_en, case_er, case_ee, iand_u64, ior_u64, ixor_u64, iandn_u64, inot_u64, ieq_u64_0, ieq_u64, decide_eq_true_eq, Bool.not_true, Bool.not_false, Bool.false_eq_true, if_false, if_true, Bool.not_eq_true', decide_eq_false_iff_not, ilt_eq, ile_eq, reduceCtorEq, not_false_eq_true, not_true_eq_false]
  by_cases a2 : x = 0#64
  · obtain ⟨p1, p2⟩ := pop_odd v
    have p3 := odd_more h.v (64 - w)
    rw [show w + (64 - w) = 64 by omega] at p3
    rw [p3] at p2
    rw [if_neg (fun e => e a2), if_pos a2, pop_ok n (by omega)]
    simp only [letH_mk, bindC_mk, bindV_mk, bindL_mk, bindH_mk, bindJ_mk, asB_mk, asI_mk, asS_mk, asP_mk, asSl_mk, asA_mk, asTu_mk, asSome_mk, unc_mk, endL_mk, selC_eq, condT_eq, sel_eq, letN_mk, letB_mk, case_nn, case_nr, case_ne, case_rn, case_rr, case_re, case_en, case_er, case_ee, iand_u64, ior_u64, ixor_u64, iandn_u64, inot_u64, ieq_u64_0, ieq_u64, decide_eq_true_eq, Bool.not_true, Bool.not_false, Bool.false_eq_true, if_false, if_true, Bool.not_eq_true', decide_eq_false_iff_not, ilt_eq, ile_eq, reduceCtorEq, not_false_eq_true, not_true_eq_false]
    rw [iand_1 _ p1, truth_ok n (by omega)]
    simp only [letH_mk, bindC_mk, bindV_mk, bindL_mk, bindH_mk, bindJ_mk, asB_mk, asI_mk, asS_mk, asP_mk, asSl_mk, asA_mk, asTu_mk, asSome_mk, unc_mk, endL_mk, selC_eq, condT_eq, sel_eq, letN_mk, letB_mk, case_nn, case_nr, case_ne, case_rn, case_rr, case_re, case_en, case_er, case_ee, iand_u64, ior_u64, ixor_u64, iandn_u64, inot_u64, ieq_u64_0, ieq_u64, decide_eq_true_eq, Bool.not_true, Bool.not_false, Bool.false_eq_true, if_false, if_true, Bool.not_eq_true', decide_eq_false_iff_not, ilt_eq, ile_eq, reduceCtorEq, not_false_eq_true, not_true_eq_false]
    rw [leave_flat rfl rfl]
    have e : (((pop v).toNat % 128 % 2 : Nat) : Int) = if odd v w = true then 1 else 0 := by
      rw [← p2]
      generalize (pop v).toNat % 128 = q
      rcases Nat.mod_two_eq_zero_or_one q with h | h <;> simp [h]
    rw [e]
  · rw [if_pos a2, if_neg a2, truth_ok n (by omega)]
    simp only [letH_mk, bindC_mk, bindV_mk, bindL_mk, bindH_mk, bindJ_mk, asB_mk, asI_mk, asS_mk, asP_mk, asSl_mk, asA_mk, asTu_mk, asSome_mk, unc_mk, endL_mk, selC_eq, condT_eq, sel_eq, letN_mk, letB_mk, case_nn, case_nr, case_ne, case_rn, case_rr, case_re, case_en, case_er, case_ee, iand_u64, ior_u64, ixor_u64, iandn_u64, inot_u64, ieq_u64_0, ieq_u64, decide_eq_true_eq, Bool.not_true, Bool.not_false, Bool.false_eq_true, if_false, if_true, Bool.not_eq_true', decide_eq_false_iff_not, ilt_eq, ile_eq, reduceCtorEq, not_false_eq_true, not_true_eq_false]
    rw [leave_flat rfl rfl]
end Go.Vm.Tryd
