/- The fact on a bit that is 0. -/
import Derived.Test.YtieocmaaloaoaaaDoorBg
namespace Go.Vm.Tryd
set_option linter.unusedSectionVars false
set_option linter.unusedSimpArgs false
set_option linter.unusedVariables false
set_option maxRecDepth 10000
theorem vec_dec {w : Nat} {v x : BitVec 64} (hw : 1 ≤ w ∧ w ≤ 64) (h1 : v &&& ~~~bmask w = 0#64) (h2 : x &&& ~~~bmask w = 0#64) : Vec w v x := ⟨hw.1, hw.2, out_zero.1 h1, out_zero.1 h2⟩
theorem j1 : txt 3 3#64 2#64 = [51, 39, 98, 48, 120, 49] := by decide +kernel
theorem j2 : txt 3 6#64 5#64 = [51, 39, 98, 120, 49, 122] := by decide +kernel
theorem jv1 : Vec 3 3#64 2#64 := vec_dec (by decide) (by decide +kernel) (by decide +kernel)
theorem jv2 : Vec 3 6#64 5#64 := vec_dec (by decide) (by decide +kernel) (by decide +kernel)
theorem jt1 : txt 3 ((3#64 &&& 6#64 &&& ~~~2#64 &&& ~~~5#64 ||| (2#64 ||| 5#64) &&& ~~~(~~~3#64 &&& ~~~2#64 ||| ~~~6#64 &&& ~~~5#64)) &&& bmask 3) ((2#64 ||| 5#64) &&& ~~~(~~~3#64 &&& ~~~2#64 ||| ~~~6#64 &&& ~~~5#64) &&& bmask 3) = [51, 39, 98, 48, 120, 120] := by decide +kernel
theorem jt2 : txt 3 ((3#64 &&& ~~~2#64 ||| 6#64 &&& ~~~5#64 ||| (2#64 ||| 5#64) &&& ~~~(3#64 &&& ~~~2#64 ||| 6#64 &&& ~~~5#64)) &&& bmask 3) ((2#64 ||| 5#64) &&& ~~~(3#64 &&& ~~~2#64 ||| 6#64 &&& ~~~5#64) &&& bmask 3) = [51, 39, 98, 120, 49, 49] := by decide +kernel
theorem joined_gen (n : Nat) (hn : 400 ≤ n) {H : VH} (hH : H.Ok) (v x v' x' : BitVec 64) (jv1 : Vec 3 v x) (jv2 : Vec 3 v' x') (j1 : txt 3 v x = [51, 39, 98, 48, 120, 49]) (j2 : txt 3 v' x' = [51, 39, 98, 120, 49, 122])
    (jt1 : txt 3 ((v &&& v' &&& ~~~x &&& ~~~x' ||| (x ||| x') &&& ~~~(~~~v &&& ~~~x ||| ~~~v' &&& ~~~x')) &&& bmask 3) ((x ||| x') &&& ~~~(~~~v &&& ~~~x ||| ~~~v' &&& ~~~x') &&& bmask 3) = [51, 39, 98, 48, 120, 120])
    (jt2 : txt 3 ((v &&& ~~~x ||| v' &&& ~~~x' ||| (x ||| x') &&& ~~~(v &&& ~~~x ||| v' &&& ~~~x')) &&& bmask 3) ((x ||| x') &&& ~~~(v &&& ~~~x ||| v' &&& ~~~x') &&& bmask 3) = [51, 39, 98, 120, 49, 49]) :
    vcall T ext promo n 23 [] H = some (.bool true, H) := by
  obtain ⟨n, rfl⟩ : ∃ m, n = m + 1 := ⟨n - 1, by omega⟩
  apply ok23
  unfold F23
  have r1 := read_ok n (by omega) jv1 (lo_ok hH)
  have r2 := read_ok n (by omega) jv2 (lo_ok hH)
  have a1 := and_ok n (by omega) jv1 jv2 (lo_ok hH)
  have o1 := or_ok n (by omega) jv1 jv2 (lo_ok hH)
  have t1 := text_ok n (by omega) (mk3_vec (w := 3) (by decide) (v &&& v' &&& ~~~x &&& ~~~x') ((x ||| x') &&& ~~~(~~~v &&& ~~~x ||| ~~~v' &&& ~~~x'))) (lo_ok hH)
  have t2 := text_ok n (by omega) (mk3_vec (w := 3) (by decide) (v &&& ~~~x ||| v' &&& ~~~x') ((x ||| x') &&& ~~~(v &&& ~~~x ||| v' &&& ~~~x'))) (lo_ok hH)
  rw [j1] at r1
  rw [j2] at r2
  rw [jt1] at t1
  rw [jt2] at t2
  have z1 : ieq 0 0 = true := rfl
  simp only [letH_mk]
  rw [r1]
  simp only [letH_mk, bindC_mk, bindV_mk, bindL_mk, bindH_mk, bindJ_mk, asB_mk, asI_mk, asS_mk, asP_mk, asSl_mk, asA_mk, asTu_mk, asSome_mk, unc_mk, endL_mk, selC_eq, condT_eq, sel_eq, letN_mk, letB_mk, case_nn, case_nr, case_ne, case_rn, case_rr, case_re, case_en, case_er, case_ee, iand_u64, ior_u64, ixor_u64, iandn_u64, inot_u64, ieq_u64_0, ieq_u64, decide_eq_true_eq, Bool.not_true, Bool.not_false, Bool.false_eq_true, if_false, if_true, Bool.not_eq_true', decide_eq_false_iff_not, ilt_eq, ile_eq, reduceCtorEq, not_false_eq_true, not_true_eq_false]
  rw [r2]
  simp only [letH_mk, bindC_mk, bindV_mk, bindL_mk, bindH_mk, bindJ_mk, asB_mk, asI_mk, asS_mk, asP_mk, asSl_mk, asA_mk, asTu_mk, asSome_mk, unc_mk, endL_mk, selC_eq, condT_eq, sel_eq, letN_mk, letB_mk, case_nn, case_nr, case_ne, case_rn, case_rr, case_re, case_en, case_er, case_ee, iand_u64, ior_u64, ixor_u64, iandn_u64, inot_u64, ieq_u64_0, ieq_u64, decide_eq_true_eq, Bool.not_true, Bool.not_false, Bool.false_eq_true, if_false, if_true, Bool.not_eq_true', decide_eq_false_iff_not, ilt_eq, ile_eq, reduceCtorEq, not_false_eq_true, not_true_eq_false, z1]
  rw [a1]
  simp only [letH_mk, bindC_mk, bindV_mk, bindL_mk, bindH_mk, bindJ_mk, asB_mk, asI_mk, asS_mk, asP_mk, asSl_mk, asA_mk, asTu_mk, asSome_mk, unc_mk, endL_mk, selC_eq, condT_eq, sel_eq, letN_mk, letB_mk, case_nn, case_nr, case_ne, case_rn, case_rr, case_re, case_en, case_er, case_ee, iand_u64, ior_u64, ixor_u64, iandn_u64, inot_u64, ieq_u64_0, ieq_u64, decide_eq_true_eq, Bool.not_true, Bool.not_false, Bool.false_eq_true, if_false, if_true, Bool.not_eq_true', decide_eq_false_iff_not, ilt_eq, ile_eq, reduceCtorEq, not_false_eq_true, not_true_eq_false]
  rw [t1]
  simp only [letH_mk, bindC_mk, bindV_mk, bindL_mk, bindH_mk, bindJ_mk, asB_mk, asI_mk, asS_mk, asP_mk, asSl_mk, asA_mk, asTu_mk, asSome_mk, unc_mk, endL_mk, selC_eq, condT_eq, sel_eq, letN_mk, letB_mk, case_nn, case_nr, case_ne, case_rn, case_rr, case_re, case_en, case_er, case_ee, iand_u64, ior_u64, ixor_u64, iandn_u64, inot_u64, ieq_u64_0, ieq_u64, decide_eq_true_eq, Bool.not_true, Bool.not_false, Bool.false_eq_true, if_false, if_true, Bool.not_eq_true', decide_eq_false_iff_not, ilt_eq, ile_eq, reduceCtorEq, not_false_eq_true, not_true_eq_false, str_eq, decide_true]
  rw [o1]
  simp only [letH_mk, bindC_mk, bindV_mk, bindL_mk, bindH_mk, bindJ_mk, asB_mk, asI_mk, asS_mk, asP_mk, asSl_mk, asA_mk, asTu_mk, asSome_mk, unc_mk, endL_mk, selC_eq, condT_eq, sel_eq, letN_mk, letB_mk, case_nn, case_nr, case_ne, case_rn, case_rr, case_re, case_en, case_er, case_ee, iand_u64, ior_u64, ixor_u64, iandn_u64, inot_u64, ieq_u64_0, ieq_u64, decide_eq_true_eq, Bool.not_true, Bool.not_false, Bool.false_eq_true, if_false, if_true, Bool.not_eq_true', decide_eq_false_iff_not, ilt_eq, ile_eq, reduceCtorEq, not_false_eq_true, not_true_eq_false]
  rw [t2]
  simp only [letH_mk, bindC_mk, bindV_mk, bindL_mk, bindH_mk, bindJ_mk, asB_mk, asI_mk, asS_mk, asP_mk, asSl_mk, asA_mk, asTu_mk, asSome_mk, unc_mk, endL_mk, selC_eq, condT_eq, sel_eq, letN_mk, letB_mk, case_nn, case_nr, case_ne, case_rn, case_rr, case_re, case_en, case_er, case_ee, iand_u64, ior_u64, ixor_u64, iandn_u64, inot_u64, ieq_u64_0, ieq_u64, decide_eq_true_eq, Bool.not_true, Bool.not_false, Bool.false_eq_true, if_false, if_true, Bool.not_eq_true', decide_eq_false_iff_not, ilt_eq, ile_eq, reduceCtorEq, not_false_eq_true, not_true_eq_false, str_eq, decide_true]
  rw [leave_flat rfl rfl]
theorem joined_ok (n : Nat) (hn : 400 ≤ n) {H : VH} (hH : H.Ok) : vcall T ext promo n 23 [] H = some (.bool true, H) :=
  joined_gen n hn hH 3#64 2#64 6#64 5#64 jv1 jv2 j1 j2 jt1 jt2
end Go.Vm.Tryd
