/- The operations on vectors with unknown bits, and that their results agree with those of chosen bits (BitsRefined). -/
import Derived.Test.YtieocmaaloaoaaaDoorBe
import Derived.Test.YtieocmaaloaoaaaDoorFc
/-! The operations on vectors with unknown bits: what they answer. -/
namespace Go.Vm.Tryd
set_option linter.unusedSectionVars false
set_option linter.unusedSimpArgs false
set_option linter.unusedVariables false
set_option maxRecDepth 10000
theorem number_unk (n : Nat) (hn : 40 ≤ n) {w : Nat} {v x v' x' : BitVec 64} (h : Vec w v x) (h' : Vec w v' x') (hx : x ||| x' ≠ 0#64) (f : Nat) {H : VH} (hH : H.Ok) :
    vcall T ext promo n 85 [bv w v x, bv w v' x', .func f [] []] H = some (bv w (bmask w) (bmask w), H) := by
  obtain ⟨n, rfl⟩ : ∃ m, n = m + 1 := ⟨n - 1, by omega⟩
  apply ok85
  unfold F85
  simp only [letH_mk]
  rw [alike_ok n (by omega) h h' (lo_ok hH)]
  simp only [letH_mk, bindC_mk, bindV_mk, bindL_mk, bindH_mk, bindJ_mk, asB_mk, asI_mk, asS_mk, asP_mk, asSl_mk, asA_mk, asTu_mk, asSome_mk, unc_mk, endL_mk, selC_eq, condT_eq, sel_eq, letN_mk, letB_mk, case_nn, case_nr, case_ne, case_rn, case_rr, case_re, case_en, case_er, case_ee, iand_u64, ior_u64, ixor_u64, iandn_u64, inot_u64, ieq_u64_0, ieq_u64, decide_eq_true_eq, Bool.not_true, Bool.not_false, Bool.false_eq_true, if_false, if_true, Bool.not_eq_true', decide_eq_false_iff_not, ilt_eq, ile_eq, reduceCtorEq, not_false_eq_true, not_true_eq_false]
  rw [if_pos hx, all_ok n (by omega) ⟨h.pos, h.le⟩ 120 H.lo (bmask w) (bmask w) (by simp)]
  simp only [letH_mk, bindC_mk, bindV_mk, bindL_mk, bindH_mk, bindJ_mk, asB_mk, asI_mk, asS_mk, asP_mk, asSl_mk, asA_mk, asTu_mk, asSome_mk, unc_mk, endL_mk, selC_eq, condT_eq, sel_eq, letN_mk, letB_mk, case_nn, case_nr, case_ne, case_rn, case_rr, case_re, case_en, case_er, case_ee, iand_u64, ior_u64, ixor_u64, iandn_u64, inot_u64, ieq_u64_0, ieq_u64, decide_eq_true_eq, Bool.not_true, Bool.not_false, Bool.false_eq_true, if_false, if_true, Bool.not_eq_true', decide_eq_false_iff_not, ilt_eq, ile_eq, reduceCtorEq, not_false_eq_true, not_true_eq_false]
  rw [leave_flat rfl rfl]
theorem add_unk (n : Nat) (hn : 50 ≤ n) {w : Nat} {v x v' x' : BitVec 64} (h : Vec w v x) (h' : Vec w v' x') (hx : x ||| x' ≠ 0#64) {H : VH} (hH : H.Ok) : vcall T ext promo n 41 [bv w v x, bv w v' x'] H = some (bv w (bmask w) (bmask w), H) := by
  obtain ⟨n, rfl⟩ : ∃ m, n = m + 1 := ⟨n - 1, by omega⟩
  apply ok41
  unfold F41
  simp only [letH_mk]
  rw [number_unk n (by omega) h h' hx 86 (lo_ok hH)]
  simp only [letH_mk, bindC_mk, bindV_mk, bindL_mk, bindH_mk, bindJ_mk, asB_mk, asI_mk, asS_mk, asP_mk, asSl_mk, asA_mk, asTu_mk, asSome_mk, unc_mk, endL_mk, selC_eq, condT_eq, sel_eq, letN_mk, letB_mk, case_nn, case_nr, case_ne, case_rn, case_rr, case_re, case_en, case_er, case_ee, iand_u64, ior_u64, ixor_u64, iandn_u64, inot_u64, ieq_u64_0, ieq_u64, decide_eq_true_eq, Bool.not_true, Bool.not_false, Bool.false_eq_true, if_false, if_true, Bool.not_eq_true', decide_eq_false_iff_not, ilt_eq, ile_eq, reduceCtorEq, not_false_eq_true, not_true_eq_false]
  rw [leave_flat rfl rfl]
theorem lt_unk (n : Nat) (hn : 40 ≤ n) {w : Nat} {v x v' x' : BitVec 64} (h : Vec w v x) (h' : Vec w v' x') (hx : x ||| x' ≠ 0#64) (signed : Bool) {H : VH} (hH : H.Ok) :
    vcall T ext promo n 49 [bv w v x, bv w v' x', .bool signed] H = some (bv 1 (tv (-1)) (tx (-1)), H) := by
  obtain ⟨n, rfl⟩ : ∃ m, n = m + 1 := ⟨n - 1, by omega⟩
  apply ok49
  unfold F49
  simp only [letH_mk]
  rw [alike_ok n (by omega) h h' (lo_ok hH)]
  simp only [letH_mk, bindC_mk, bindV_mk, bindL_mk, bindH_mk, bindJ_mk, asB_mk, asI_mk, asS_mk, asP_mk, asSl_mk, asA_mk, asTu_mk, asSome_mk, unc_mk, endL_mk, selC_eq, condT_eq, sel_eq, letN_mk, letB_mk, case_nn, case_nr, case_ne, case_rn, case_rr, case_re, case_en, case_er, case_ee, iand_u64, ior_u64, ixor_u64, iandn_u64, inot_u64, ieq_u64_0, ieq_u64, decide_eq_true_eq, Bool.not_true, Bool.not_false, Bool.false_eq_true, if_false, if_true, Bool.not_eq_true', decide_eq_false_iff_not, ilt_eq, ile_eq, reduceCtorEq, not_false_eq_true, not_true_eq_false]
  rw [if_pos hx, truth_ok n (by omega)]
  simp only [letH_mk, bindC_mk, bindV_mk, bindL_mk, bindH_mk, bindJ_mk, asB_mk, asI_mk, asS_mk, asP_mk, asSl_mk, asA_mk, asTu_mk, asSome_mk, unc_mk, endL_mk, selC_eq, condT_eq, sel_eq, letN_mk, letB_mk, case_nn, case_nr, case_ne, case_rn, case_rr, case_re, case_en, case_er, case_ee, iand_u64, ior_u64, ixor_u64, iandn_u64, inot_u64, ieq_u64_0, ieq_u64, decide_eq_true_eq, Bool.not_true, Bool.not_false, Bool.false_eq_true, if_false, if_true, Bool.not_eq_true', decide_eq_false_iff_not, ilt_eq, ile_eq, reduceCtorEq, not_false_eq_true, not_true_eq_false]
  rw [leave_flat rfl rfl]
theorem land_ok (n : Nat) (hn : 40 ≤ n) {w w' : Nat} {v x v' x' : BitVec 64} (h : Vec w v x) (h' : Vec w' v' x') {H : VH} (hH : H.Ok) :
    vcall T ext promo n 100 [bv w v x, bv w' v' x'] H = some (bv 1 (tv (kand (trueOf v x) (trueOf v' x'))) (tx (kand (trueOf v x) (trueOf v' x'))), H) := by
  obtain ⟨n, rfl⟩ : ∃ m, n = m + 1 := ⟨n - 1, by omega⟩
  apply ok100
  unfold F100
  simp only [letH_mk]
  rw [valid2 n (by omega) (lo_ok hH) h h']
  simp only [letH_mk, bindC_mk, bindV_mk, bindL_mk, bindH_mk, bindJ_mk, asB_mk, asI_mk, asS_mk, asP_mk, asSl_mk, asA_mk, asTu_mk, asSome_mk, unc_mk, endL_mk, selC_eq, condT_eq, sel_eq, letN_mk, letB_mk, case_nn, case_nr, case_ne, case_rn, case_rr, case_re, case_en, case_er, case_ee, iand_u64, ior_u64, ixor_u64, iandn_u64, inot_u64, ieq_u64_0, ieq_u64, decide_eq_true_eq, Bool.not_true, Bool.not_false, Bool.false_eq_true, if_false, if_true, Bool.not_eq_true', decide_eq_false_iff_not, ilt_eq, ile_eq, reduceCtorEq, not_false_eq_true, not_true_eq_false]
  rw [true_ok n (by omega) h (fresh_ok (lo_ok hH) _)]
  simp only [letH_mk, bindC_mk, bindV_mk, bindL_mk, bindH_mk, bindJ_mk, asB_mk, asI_mk, asS_mk, asP_mk, asSl_mk, asA_mk, asTu_mk, asSome_mk, unc_mk, endL_mk, selC_eq, condT_eq, sel_eq, letN_mk, letB_mk, case_nn, case_nr, case_ne, case_rn, case_rr, case_re, case_en, case_er, case_ee, iand_u64, ior_u64, ixor_u64, iandn_u64, inot_u64, ieq_u64_0, ieq_u64, decide_eq_true_eq, Bool.not_true, Bool.not_false, Bool.false_eq_true, if_false, if_true, Bool.not_eq_true', decide_eq_false_iff_not, ilt_eq, ile_eq, reduceCtorEq, not_false_eq_true, not_true_eq_false]
  rw [true_ok n (by omega) h' (fresh_ok (lo_ok hH) _)]
  simp only [letH_mk, bindC_mk, bindV_mk, bindL_mk, bindH_mk, bindJ_mk, asB_mk, asI_mk, asS_mk, asP_mk, asSl_mk, asA_mk, asTu_mk, asSome_mk, unc_mk, endL_mk, selC_eq, condT_eq, sel_eq, letN_mk, letB_mk, case_nn, case_nr, case_ne, case_rn, case_rr, case_re, case_en, case_er, case_ee, iand_u64, ior_u64, ixor_u64, iandn_u64, inot_u64, ieq_u64_0, ieq_u64, decide_eq_true_eq, Bool.not_true, Bool.not_false, Bool.false_eq_true, if_false, if_true, Bool.not_eq_true', decide_eq_false_iff_not, ilt_eq, ile_eq, reduceCtorEq, not_false_eq_true, not_true_eq_false, ieq_dec]
  rcases trueOf_cases v x with t | t | t <;> rcases trueOf_cases v' x' with t' | t' | t' <;> rw [t, t'] <;> simp only [letH_mk, bindC_mk, bindV_mk, bindL_mk, bindH_mk, bindJ_mk, asB_mk, asI_mk, asS_mk, asP_mk, asSl_mk, asA_mk, asTu_mk, asSome_mk, unc_mk, endL_mk, selC_eq, condT_eq, sel_eq, letN_mk, letB_mk, case_nn, case_nr, case_ne, case_rn, case_rr, case_re, case_en, case_er, case_ee, iand_u64, ior_u64, ixor_u64, iandn_u64, inot_u64, ieq_u64_0, ieq_u64, decide_eq_true_eq, Bool.not_true, Bool.not_false, Bool.false_eq_true, if_false, if_true, Bool.not_eq_true', decide_eq_false_iff_not, ilt_eq, ile_eq, reduceCtorEq, not_false_eq_true, not_true_eq_false, decide_true, decide_false, show decide ((1:Int) = 0) = false from rfl, show decide ((-1:Int) = 0) = false from rfl, Int.reduceEq, Int.reduceNeg] <;> rw [truth_ok n (by omega)] <;> simp only [letH_mk, bindC_mk, bindV_mk, bindL_mk, bindH_mk, bindJ_mk, asB_mk, asI_mk, asS_mk, asP_mk, asSl_mk, asA_mk, asTu_mk, asSome_mk, unc_mk, endL_mk, selC_eq, condT_eq, sel_eq, letN_mk, letB_mk, case_nn, case_nr, case_ne, case_rn, case_rr, case_re, case_en, case_er, case_ee, iand_u64, ior_u64, ixor_u64, iandn_u64, inot_u64, ieq_u64_0, ieq_u64, decide_eq_true_eq, Bool.not_true, Bool.not_false, Bool.false_eq_true, if_false, if_true, Bool.not_eq_true', decide_eq_false_iff_not, ilt_eq, ile_eq, reduceCtorEq, not_false_eq_true, not_true_eq_false] <;> rw [leave_flat rfl rfl] <;> rfl
theorem sub_unk (n : Nat) (hn : 50 ≤ n) {w : Nat} {v x v' x' : BitVec 64} (h : Vec w v x) (h' : Vec w v' x') (hx : x ||| x' ≠ 0#64) {H : VH} (hH : H.Ok) : vcall T ext promo n 42 [bv w v x, bv w v' x'] H = some (bv w (bmask w) (bmask w), H) := by
  obtain ⟨n, rfl⟩ : ∃ m, n = m + 1 := ⟨n - 1, by omega⟩
  apply ok42
  unfold F42
  simp only [letH_mk]
  rw [number_unk n (by omega) h h' hx 87 (lo_ok hH)]
  simp only [letH_mk, bindC_mk, bindV_mk, bindL_mk, bindH_mk, bindJ_mk, asB_mk, asI_mk, asS_mk, asP_mk, asSl_mk, asA_mk, asTu_mk, asSome_mk, unc_mk, endL_mk, selC_eq, condT_eq, sel_eq, letN_mk, letB_mk, case_nn, case_nr, case_ne, case_rn, case_rr, case_re, case_en, case_er, case_ee, iand_u64, ior_u64, ixor_u64, iandn_u64, inot_u64, ieq_u64_0, ieq_u64, decide_eq_true_eq, Bool.not_true, Bool.not_false, Bool.false_eq_true, if_false, if_true, Bool.not_eq_true', decide_eq_false_iff_not, ilt_eq, ile_eq, reduceCtorEq, not_false_eq_true, not_true_eq_false]
  rw [leave_flat rfl rfl]
theorem mul_unk (n : Nat) (hn : 50 ≤ n) {w : Nat} {v x v' x' : BitVec 64} (h : Vec w v x) (h' : Vec w v' x') (hx : x ||| x' ≠ 0#64) {H : VH} (hH : H.Ok) : vcall T ext promo n 43 [bv w v x, bv w v' x'] H = some (bv w (bmask w) (bmask w), H) := by
  obtain ⟨n, rfl⟩ : ∃ m, n = m + 1 := ⟨n - 1, by omega⟩
  apply ok43
  unfold F43
  simp only [letH_mk]
  rw [number_unk n (by omega) h h' hx 88 (lo_ok hH)]
  simp only [letH_mk, bindC_mk, bindV_mk, bindL_mk, bindH_mk, bindJ_mk, asB_mk, asI_mk, asS_mk, asP_mk, asSl_mk, asA_mk, asTu_mk, asSome_mk, unc_mk, endL_mk, selC_eq, condT_eq, sel_eq, letN_mk, letB_mk, case_nn, case_nr, case_ne, case_rn, case_rr, case_re, case_en, case_er, case_ee, iand_u64, ior_u64, ixor_u64, iandn_u64, inot_u64, ieq_u64_0, ieq_u64, decide_eq_true_eq, Bool.not_true, Bool.not_false, Bool.false_eq_true, if_false, if_true, Bool.not_eq_true', decide_eq_false_iff_not, ilt_eq, ile_eq, reduceCtorEq, not_false_eq_true, not_true_eq_false]
  rw [leave_flat rfl rfl]
theorem lor_ok (n : Nat) (hn : 40 ≤ n) {w w' : Nat} {v x v' x' : BitVec 64} (h : Vec w v x) (h' : Vec w' v' x') {H : VH} (hH : H.Ok) :
    vcall T ext promo n 101 [bv w v x, bv w' v' x'] H = some (bv 1 (tv (kor (trueOf v x) (trueOf v' x'))) (tx (kor (trueOf v x) (trueOf v' x'))), H) := by
  obtain ⟨n, rfl⟩ : ∃ m, n = m + 1 := ⟨n - 1, by omega⟩
  apply ok101
  unfold F101
  simp only [letH_mk]
  rw [valid2 n (by omega) (lo_ok hH) h h']
  simp only [letH_mk, bindC_mk, bindV_mk, bindL_mk, bindH_mk, bindJ_mk, asB_mk, asI_mk, asS_mk, asP_mk, asSl_mk, asA_mk, asTu_mk, asSome_mk, unc_mk, endL_mk, selC_eq, condT_eq, sel_eq, letN_mk, letB_mk, case_nn, case_nr, case_ne, case_rn, case_rr, case_re, case_en, case_er, case_ee, iand_u64, ior_u64, ixor_u64, iandn_u64, inot_u64, ieq_u64_0, ieq_u64, decide_eq_true_eq, Bool.not_true, Bool.not_false, Bool.false_eq_true, if_false, if_true, Bool.not_eq_true', decide_eq_false_iff_not, ilt_eq, ile_eq, reduceCtorEq, not_false_eq_true, not_true_eq_false]
  rw [true_ok n (by omega) h (fresh_ok (lo_ok hH) _)]
  simp only [letH_mk, bindC_mk, bindV_mk, bindL_mk, bindH_mk, bindJ_mk, asB_mk, asI_mk, asS_mk, asP_mk, asSl_mk, asA_mk, asTu_mk, asSome_mk, unc_mk, endL_mk, selC_eq, condT_eq, sel_eq, letN_mk, letB_mk, case_nn, case_nr, case_ne, case_rn, case_rr, case_re, case_en, case_er, case_ee, iand_u64, ior_u64, ixor_u64, iandn_u64, inot_u64, ieq_u64_0, ieq_u64, decide_eq_true_eq, Bool.not_true, Bool.not_false, Bool.false_eq_true, if_false, if_true, Bool.not_eq_true', decide_eq_false_iff_not, ilt_eq, ile_eq, reduceCtorEq, not_false_eq_true, not_true_eq_false]
  rw [true_ok n (by omega) h' (fresh_ok (lo_ok hH) _)]
  simp only [letH_mk, bindC_mk, bindV_mk, bindL_mk, bindH_mk, bindJ_mk, asB_mk, asI_mk, asS_mk, asP_mk, asSl_mk, asA_mk, asTu_mk, asSome_mk, unc_mk, endL_mk, selC_eq, condT_eq, sel_eq, letN_mk, letB_mk, case_nn, case_nr, case_ne, case_rn, case_rr, case_re, case_en, case_er, case_ee, iand_u64, ior_u64, ixor_u64, iandn_u64, inot_u64, ieq_u64_0, ieq_u64, decide_eq_true_eq, Bool.not_true, Bool.not_false, Bool.false_eq_true, if_false, if_true, Bool.not_eq_true', decide_eq_false_iff_not, ilt_eq, ile_eq, reduceCtorEq, not_false_eq_true, not_true_eq_false, ieq_dec]
  rcases trueOf_cases v x with t | t | t <;> rcases trueOf_cases v' x' with t' | t' | t' <;> rw [t, t'] <;> simp only [letH_mk, bindC_mk, bindV_mk, bindL_mk, bindH_mk, bindJ_mk, asB_mk, asI_mk, asS_mk, asP_mk, asSl_mk, asA_mk, asTu_mk, asSome_mk, unc_mk, endL_mk, selC_eq, condT_eq, sel_eq, letN_mk, letB_mk, case_nn, case_nr, case_ne, case_rn, case_rr, case_re, case_en, case_er, case_ee, iand_u64, ior_u64, ixor_u64, iandn_u64, inot_u64, ieq_u64_0, ieq_u64, decide_eq_true_eq, Bool.not_true, Bool.not_false, Bool.false_eq_true, if_false, if_true, Bool.not_eq_true', decide_eq_false_iff_not, ilt_eq, ile_eq, reduceCtorEq, not_false_eq_true, not_true_eq_false, decide_true, decide_false, show decide ((0:Int) = 1) = false from rfl, show decide ((-1:Int) = 1) = false from rfl, Int.reduceEq, Int.reduceNeg] <;> rw [truth_ok n (by omega)] <;> simp only [letH_mk, bindC_mk, bindV_mk, bindL_mk, bindH_mk, bindJ_mk, asB_mk, asI_mk, asS_mk, asP_mk, asSl_mk, asA_mk, asTu_mk, asSome_mk, unc_mk, endL_mk, selC_eq, condT_eq, sel_eq, letN_mk, letB_mk, case_nn, case_nr, case_ne, case_rn, case_rr, case_re, case_en, case_er, case_ee, iand_u64, ior_u64, ixor_u64, iandn_u64, inot_u64, ieq_u64_0, ieq_u64, decide_eq_true_eq, Bool.not_true, Bool.not_false, Bool.false_eq_true, if_false, if_true, Bool.not_eq_true', decide_eq_false_iff_not, ilt_eq, ile_eq, reduceCtorEq, not_false_eq_true, not_true_eq_false] <;> rw [leave_flat rfl rfl] <;> rfl
theorem shr_ok (n : Nat) (hn : 40 ≤ n) {w w' : Nat} {v x s : BitVec 64} (h : Vec w v x) (h' : Vec w' s 0#64) {H : VH} (hH : H.Ok) :
    vcall T ext promo n 102 [bv w v x, bv w' s 0#64] H = some (bv w (v >>> (min s.toNat 64)) (x >>> (min s.toNat 64)), H) := by
  obtain ⟨n, rfl⟩ : ∃ m, n = m + 1 := ⟨n - 1, by omega⟩
  apply ok102
  unfold F102
  simp only [letH_mk]
  rw [valid2 n (by omega) (lo_ok hH) h h']
  simp only [letH_mk, bindC_mk, bindV_mk, bindL_mk, bindH_mk, bindJ_mk, asB_mk, asI_mk, asS_mk, asP_mk, asSl_mk, asA_mk, asTu_mk, asSome_mk, unc_mk, endL_mk, selC_eq, condT_eq, sel_eq, letN_mk, letB_mk, case_nn, case_nr, case_ne, case_rn, case_rr, case_re, case_en, case_er, case_ee, iand_u64, ior_u64, ixor_u64, iandn_u64, inot_u64, ieq_u64_0, ieq_u64, decide_eq_true_eq, Bool.not_true, Bool.not_false, Bool.false_eq_true, if_false, if_true, Bool.not_eq_true', decide_eq_false_iff_not, ilt_eq, ile_eq, reduceCtorEq, not_false_eq_true, not_true_eq_false]
  rw [shift_ok n (by omega) h' (fresh_ok (lo_ok hH) _)]
  simp only [letH_mk, bindC_mk, bindV_mk, bindL_mk, bindH_mk, bindJ_mk, asB_mk, asI_mk, asS_mk, asP_mk, asSl_mk, asA_mk, asTu_mk, asSome_mk, unc_mk, endL_mk, selC_eq, condT_eq, sel_eq, letN_mk, letB_mk, case_nn, case_nr, case_ne, case_rn, case_rr, case_re, case_en, case_er, case_ee, iand_u64, ior_u64, ixor_u64, iandn_u64, inot_u64, ieq_u64_0, ieq_u64, decide_eq_true_eq, Bool.not_true, Bool.not_false, Bool.false_eq_true, if_false, if_true, Bool.not_eq_true', decide_eq_false_iff_not, ilt_eq, ile_eq, reduceCtorEq, not_false_eq_true, not_true_eq_false]
  rw [shr_var]
  simp only [letH_mk, bindC_mk, bindV_mk, bindL_mk, bindH_mk, bindJ_mk, asB_mk, asI_mk, asS_mk, asP_mk, asSl_mk, asA_mk, asTu_mk, asSome_mk, unc_mk, endL_mk, selC_eq, condT_eq, sel_eq, letN_mk, letB_mk, case_nn, case_nr, case_ne, case_rn, case_rr, case_re, case_en, case_er, case_ee, iand_u64, ior_u64, ixor_u64, iandn_u64, inot_u64, ieq_u64_0, ieq_u64, decide_eq_true_eq, Bool.not_true, Bool.not_false, Bool.false_eq_true, if_false, if_true, Bool.not_eq_true', decide_eq_false_iff_not, ilt_eq, ile_eq, reduceCtorEq, not_false_eq_true, not_true_eq_false]
  rw [shr_var]
  simp only [letH_mk, bindC_mk, bindV_mk, bindL_mk, bindH_mk, bindJ_mk, asB_mk, asI_mk, asS_mk, asP_mk, asSl_mk, asA_mk, asTu_mk, asSome_mk, unc_mk, endL_mk, selC_eq, condT_eq, sel_eq, letN_mk, letB_mk, case_nn, case_nr, case_ne, case_rn, case_rr, case_re, case_en, case_er, case_ee, iand_u64, ior_u64, ixor_u64, iandn_u64, inot_u64, ieq_u64_0, ieq_u64, decide_eq_true_eq, Bool.not_true, Bool.not_false, Bool.false_eq_true, if_false, if_true, Bool.not_eq_true', decide_eq_false_iff_not, ilt_eq, ile_eq, reduceCtorEq, not_false_eq_true, not_true_eq_false]
  rw [leave_flat rfl rfl]
end Go.Vm.Tryd
/-! The operations on vectors with unknown bits, second part. -/
namespace Go.Vm.Tryd
set_option linter.unusedSectionVars false
set_option linter.unusedSimpArgs false
set_option linter.unusedVariables false
set_option maxRecDepth 10000
theorem neg_unk (n : Nat) (hn : 50 ≤ n) {w : Nat} {v x : BitVec 64} (h : Vec w v x) (hx : x ≠ 0#64) {H : VH} (hH : H.Ok) : vcall T ext promo n 44 [bv w v x] H = some (bv w (bmask w) (bmask w), H) := by
  obtain ⟨n, rfl⟩ : ∃ m, n = m + 1 := ⟨n - 1, by omega⟩
  apply ok44
  unfold F44
  simp only [letH_mk]
  rw [number_unk n (by omega) h h (by rw [BitVec.or_self]; exact hx) 89 (lo_ok hH)]
  simp only [letH_mk, bindC_mk, bindV_mk, bindL_mk, bindH_mk, bindJ_mk, asB_mk, asI_mk, asS_mk, asP_mk, asSl_mk, asA_mk, asTu_mk, asSome_mk, unc_mk, endL_mk, selC_eq, condT_eq, sel_eq, letN_mk, letB_mk, case_nn, case_nr, case_ne, case_rn, case_rr, case_re, case_en, case_er, case_ee, iand_u64, ior_u64, ixor_u64, iandn_u64, inot_u64, ieq_u64_0, ieq_u64, decide_eq_true_eq, Bool.not_true, Bool.not_false, Bool.false_eq_true, if_false, if_true, Bool.not_eq_true', decide_eq_false_iff_not, ilt_eq, ile_eq, reduceCtorEq, not_false_eq_true, not_true_eq_false]
  rw [leave_flat rfl rfl]
theorem le_unk (n : Nat) (hn : 50 ≤ n) {w : Nat} {v x v' x' : BitVec 64} (h : Vec w v x) (h' : Vec w v' x') (hx : x' ||| x ≠ 0#64) (signed : Bool) {H : VH} (hH : H.Ok) :
    vcall T ext promo n 51 [bv w v x, bv w v' x', .bool signed] H = some (bv 1 (tv (-1)) (tx (-1)), H) := by
  obtain ⟨n, rfl⟩ : ∃ m, n = m + 1 := ⟨n - 1, by omega⟩
  apply ok51
  unfold F51
  simp only [letH_mk]
  rw [lt_unk n (by omega) h' h hx signed (lo_ok hH)]
  simp only [letH_mk, bindC_mk, bindV_mk, bindL_mk, bindH_mk, bindJ_mk, asB_mk, asI_mk, asS_mk, asP_mk, asSl_mk, asA_mk, asTu_mk, asSome_mk, unc_mk, endL_mk, selC_eq, condT_eq, sel_eq, letN_mk, letB_mk, case_nn, case_nr, case_ne, case_rn, case_rr, case_re, case_en, case_er, case_ee, iand_u64, ior_u64, ixor_u64, iandn_u64, inot_u64, ieq_u64_0, ieq_u64, decide_eq_true_eq, Bool.not_true, Bool.not_false, Bool.false_eq_true, if_false, if_true, Bool.not_eq_true', decide_eq_false_iff_not, ilt_eq, ile_eq, reduceCtorEq, not_false_eq_true, not_true_eq_false]
  rw [lnot_ok n (by omega) (truth_vec (by simp)) (lo_ok hH), trueOf_truth (by simp), if_pos (by decide)]
  simp only [letH_mk, bindC_mk, bindV_mk, bindL_mk, bindH_mk, bindJ_mk, asB_mk, asI_mk, asS_mk, asP_mk, asSl_mk, asA_mk, asTu_mk, asSome_mk, unc_mk, endL_mk, selC_eq, condT_eq, sel_eq, letN_mk, letB_mk, case_nn, case_nr, case_ne, case_rn, case_rr, case_re, case_en, case_er, case_ee, iand_u64, ior_u64, ixor_u64, iandn_u64, inot_u64, ieq_u64_0, ieq_u64, decide_eq_true_eq, Bool.not_true, Bool.not_false, Bool.false_eq_true, if_false, if_true, Bool.not_eq_true', decide_eq_false_iff_not, ilt_eq, ile_eq, reduceCtorEq, not_false_eq_true, not_true_eq_false]
  rw [leave_flat rfl rfl]
theorem uint_unk (n : Nat) (hn : 30 ≤ n) {w : Nat} {v x : BitVec 64} (h : Vec w v x) (hx : x ≠ 0#64) {H : VH} (hH : H.Ok) : vcall T ext promo n 132 [bv w v x] H = some (.tuple [.int .u64 0, .bool false], H) := by
  obtain ⟨n, rfl⟩ : ∃ m, n = m + 1 := ⟨n - 1, by omega⟩
  apply ok132
  unfold F132
  simp only [letH_mk]
  rw [kno_ok n (by omega) h (lo_ok hH), decide_eq_false hx]
  simp only [letH_mk, bindC_mk, bindV_mk, bindL_mk, bindH_mk, bindJ_mk, asB_mk, asI_mk, asS_mk, asP_mk, asSl_mk, asA_mk, asTu_mk, asSome_mk, unc_mk, endL_mk, selC_eq, condT_eq, sel_eq, letN_mk, letB_mk, case_nn, case_nr, case_ne, case_rn, case_rr, case_re, case_en, case_er, case_ee, iand_u64, ior_u64, ixor_u64, iandn_u64, inot_u64, ieq_u64_0, ieq_u64, decide_eq_true_eq, Bool.not_true, Bool.not_false, Bool.false_eq_true, if_false, if_true, Bool.not_eq_true', decide_eq_false_iff_not, ilt_eq, ile_eq, reduceCtorEq, not_false_eq_true, not_true_eq_false]
  rw [leave_flat rfl rfl]
theorem shift_unk (n : Nat) (hn : 35 ≤ n) {w : Nat} {v x : BitVec 64} (h : Vec w v x) (hx : x ≠ 0#64) {H : VH} (hH : H.Ok) : vcall T ext promo n 91 [bv w v x] H = some (.tuple [.int .i64 0, .bool false], H) := by
  obtain ⟨n, rfl⟩ : ∃ m, n = m + 1 := ⟨n - 1, by omega⟩
  apply ok91
  unfold F91
  simp only [letH_mk]
  rw [uint_unk n (by omega) h hx (lo_ok hH)]
  simp only [letH_mk, bindC_mk, bindV_mk, bindL_mk, bindH_mk, bindJ_mk, asB_mk, asI_mk, asS_mk, asP_mk, asSl_mk, asA_mk, asTu_mk, asSome_mk, unc_mk, endL_mk, selC_eq, condT_eq, sel_eq, letN_mk, letB_mk, case_nn, case_nr, case_ne, case_rn, case_rr, case_re, case_en, case_er, case_ee, iand_u64, ior_u64, ixor_u64, iandn_u64, inot_u64, ieq_u64_0, ieq_u64, decide_eq_true_eq, Bool.not_true, Bool.not_false, Bool.false_eq_true, if_false, if_true, Bool.not_eq_true', decide_eq_false_iff_not, ilt_eq, ile_eq, reduceCtorEq, not_false_eq_true, not_true_eq_false]
  rw [show fwrap .i64 (imin 0 64) = 0 from rfl, leave_flat rfl rfl]
theorem shl_unk (n : Nat) (hn : 40 ≤ n) {w w' : Nat} {v x s y : BitVec 64} (h : Vec w v x) (h' : Vec w' s y) (hy : y ≠ 0#64) {H : VH} (hH : H.Ok) :
    vcall T ext promo n 48 [bv w v x, bv w' s y] H = some (bv w (bmask w) (bmask w), H) := by
  obtain ⟨n, rfl⟩ : ∃ m, n = m + 1 := ⟨n - 1, by omega⟩
  apply ok48
  unfold F48
  simp only [letH_mk]
  rw [valid2 n (by omega) (lo_ok hH) h h']
  simp only [letH_mk, bindC_mk, bindV_mk, bindL_mk, bindH_mk, bindJ_mk, asB_mk, asI_mk, asS_mk, asP_mk, asSl_mk, asA_mk, asTu_mk, asSome_mk, unc_mk, endL_mk, selC_eq, condT_eq, sel_eq, letN_mk, letB_mk, case_nn, case_nr, case_ne, case_rn, case_rr, case_re, case_en, case_er, case_ee, iand_u64, ior_u64, ixor_u64, iandn_u64, inot_u64, ieq_u64_0, ieq_u64, decide_eq_true_eq, Bool.not_true, Bool.not_false, Bool.false_eq_true, if_false, if_true, Bool.not_eq_true', decide_eq_false_iff_not, ilt_eq, ile_eq, reduceCtorEq, not_false_eq_true, not_true_eq_false]
  rw [shift_unk n (by omega) h' hy (fresh_ok (lo_ok hH) _)]
  simp only [letH_mk, bindC_mk, bindV_mk, bindL_mk, bindH_mk, bindJ_mk, asB_mk, asI_mk, asS_mk, asP_mk, asSl_mk, asA_mk, asTu_mk, asSome_mk, unc_mk, endL_mk, selC_eq, condT_eq, sel_eq, letN_mk, letB_mk, case_nn, case_nr, case_ne, case_rn, case_rr, case_re, case_en, case_er, case_ee, iand_u64, ior_u64, ixor_u64, iandn_u64, inot_u64, ieq_u64_0, ieq_u64, decide_eq_true_eq, Bool.not_true, Bool.not_false, Bool.false_eq_true, if_false, if_true, Bool.not_eq_true', decide_eq_false_iff_not, ilt_eq, ile_eq, reduceCtorEq, not_false_eq_true, not_true_eq_false]
  rw [all_ok n (by omega) ⟨h.pos, h.le⟩ 120 _ (bmask w) (bmask w) (by simp)]
  simp only [letH_mk, bindC_mk, bindV_mk, bindL_mk, bindH_mk, bindJ_mk, asB_mk, asI_mk, asS_mk, asP_mk, asSl_mk, asA_mk, asTu_mk, asSome_mk, unc_mk, endL_mk, selC_eq, condT_eq, sel_eq, letN_mk, letB_mk, case_nn, case_nr, case_ne, case_rn, case_rr, case_re, case_en, case_er, case_ee, iand_u64, ior_u64, ixor_u64, iandn_u64, inot_u64, ieq_u64_0, ieq_u64, decide_eq_true_eq, Bool.not_true, Bool.not_false, Bool.false_eq_true, if_false, if_true, Bool.not_eq_true', decide_eq_false_iff_not, ilt_eq, ile_eq, reduceCtorEq, not_false_eq_true, not_true_eq_false]
  rw [leave_flat rfl rfl]
theorem shr_unk (n : Nat) (hn : 40 ≤ n) {w w' : Nat} {v x s y : BitVec 64} (h : Vec w v x) (h' : Vec w' s y) (hy : y ≠ 0#64) {H : VH} (hH : H.Ok) :
    vcall T ext promo n 102 [bv w v x, bv w' s y] H = some (bv w (bmask w) (bmask w), H) := by
  obtain ⟨n, rfl⟩ : ∃ m, n = m + 1 := ⟨n - 1, by omega⟩
  apply ok102
  unfold F102
  simp only [letH_mk]
  rw [valid2 n (by omega) (lo_ok hH) h h']
  simp only [letH_mk, bindC_mk, bindV_mk, bindL_mk, bindH_mk, bindJ_mk, asB_mk, asI_mk, asS_mk, asP_mk, asSl_mk, asA_mk, asTu_mk, asSome_mk, unc_mk, endL_mk, selC_eq, condT_eq, sel_eq, letN_mk, letB_mk, case_nn, case_nr, case_ne, case_rn, case_rr, case_re, case_en, case_er, case_ee, iand_u64, ior_u64, ixor_u64, iandn_u64, inot_u64, ieq_u64_0, ieq_u64, decide_eq_true_eq, Bool.not_true, Bool.not_false, Bool.false_eq_true, if_false, if_true, Bool.not_eq_true', decide_eq_false_iff_not, ilt_eq, ile_eq, reduceCtorEq, not_false_eq_true, not_true_eq_false]
  rw [shift_unk n (by omega) h' hy (fresh_ok (lo_ok hH) _)]
  simp only [letH_mk, bindC_mk, bindV_mk, bindL_mk, bindH_mk, bindJ_mk, asB_mk, asI_mk, asS_mk, asP_mk, asSl_mk, asA_mk, asTu_mk, asSome_mk, unc_mk, endL_mk, selC_eq, condT_eq, sel_eq, letN_mk, letB_mk, case_nn, case_nr, case_ne, case_rn, case_rr, case_re, case_en, case_er, case_ee, iand_u64, ior_u64, ixor_u64, iandn_u64, inot_u64, ieq_u64_0, ieq_u64, decide_eq_true_eq, Bool.not_true, Bool.not_false, Bool.false_eq_true, if_false, if_true, Bool.not_eq_true', decide_eq_false_iff_not, ilt_eq, ile_eq, reduceCtorEq, not_false_eq_true, not_true_eq_false]
  rw [all_ok n (by omega) ⟨h.pos, h.le⟩ 120 _ (bmask w) (bmask w) (by simp)]
  simp only [letH_mk, bindC_mk, bindV_mk, bindL_mk, bindH_mk, bindJ_mk, asB_mk, asI_mk, asS_mk, asP_mk, asSl_mk, asA_mk, asTu_mk, asSome_mk, unc_mk, endL_mk, selC_eq, condT_eq, sel_eq, letN_mk, letB_mk, case_nn, case_nr, case_ne, case_rn, case_rr, case_re, case_en, case_er, case_ee, iand_u64, ior_u64, ixor_u64, iandn_u64, inot_u64, ieq_u64_0, ieq_u64, decide_eq_true_eq, Bool.not_true, Bool.not_false, Bool.false_eq_true, if_false, if_true, Bool.not_eq_true', decide_eq_false_iff_not, ilt_eq, ile_eq, reduceCtorEq, not_false_eq_true, not_true_eq_false]
  rw [leave_flat rfl rfl]
theorem sar_unk (n : Nat) (hn : 40 ≤ n) {w w' : Nat} {v x s y : BitVec 64} (h : Vec w v x) (h' : Vec w' s y) (hy : y ≠ 0#64) {H : VH} (hH : H.Ok) :
    vcall T ext promo n 103 [bv w v x, bv w' s y] H = some (bv w (bmask w) (bmask w), H) := by
  obtain ⟨n, rfl⟩ : ∃ m, n = m + 1 := ⟨n - 1, by omega⟩
  apply ok103
  unfold F103
  simp only [letH_mk]
  rw [valid2 n (by omega) (lo_ok hH) h h']
  simp only [letH_mk, bindC_mk, bindV_mk, bindL_mk, bindH_mk, bindJ_mk, asB_mk, asI_mk, asS_mk, asP_mk, asSl_mk, asA_mk, asTu_mk, asSome_mk, unc_mk, endL_mk, selC_eq, condT_eq, sel_eq, letN_mk, letB_mk, case_nn, case_nr, case_ne, case_rn, case_rr, case_re, case_en, case_er, case_ee, iand_u64, ior_u64, ixor_u64, iandn_u64, inot_u64, ieq_u64_0, ieq_u64, decide_eq_true_eq, Bool.not_true, Bool.not_false, Bool.false_eq_true, if_false, if_true, Bool.not_eq_true', decide_eq_false_iff_not, ilt_eq, ile_eq, reduceCtorEq, not_false_eq_true, not_true_eq_false]
  rw [shift_unk n (by omega) h' hy (fresh_ok (lo_ok hH) _)]
  simp only [letH_mk, bindC_mk, bindV_mk, bindL_mk, bindH_mk, bindJ_mk, asB_mk, asI_mk, asS_mk, asP_mk, asSl_mk, asA_mk, asTu_mk, asSome_mk, unc_mk, endL_mk, selC_eq, condT_eq, sel_eq, letN_mk, letB_mk, case_nn, case_nr, case_ne, case_rn, case_rr, case_re, case_en, case_er, case_ee, iand_u64, ior_u64, ixor_u64, iandn_u64, inot_u64, ieq_u64_0, ieq_u64, decide_eq_true_eq, Bool.not_true, Bool.not_false, Bool.false_eq_true, if_false, if_true, Bool.not_eq_true', decide_eq_false_iff_not, ilt_eq, ile_eq, reduceCtorEq, not_false_eq_true, not_true_eq_false]
  rw [all_ok n (by omega) ⟨h.pos, h.le⟩ 120 _ (bmask w) (bmask w) (by simp)]
  simp only [letH_mk, bindC_mk, bindV_mk, bindL_mk, bindH_mk, bindJ_mk, asB_mk, asI_mk, asS_mk, asP_mk, asSl_mk, asA_mk, asTu_mk, asSome_mk, unc_mk, endL_mk, selC_eq, condT_eq, sel_eq, letN_mk, letB_mk, case_nn, case_nr, case_ne, case_rn, case_rr, case_re, case_en, case_er, case_ee, iand_u64, ior_u64, ixor_u64, iandn_u64, inot_u64, ieq_u64_0, ieq_u64, decide_eq_true_eq, Bool.not_true, Bool.not_false, Bool.false_eq_true, if_false, if_true, Bool.not_eq_true', decide_eq_false_iff_not, ilt_eq, ile_eq, reduceCtorEq, not_false_eq_true, not_true_eq_false]
  rw [leave_flat rfl rfl]
end Go.Vm.Tryd
/-! The operations on vectors with unknown bits, third part. -/
namespace Go.Vm.Tryd
set_option linter.unusedSectionVars false
set_option linter.unusedSimpArgs false
set_option linter.unusedVariables false
set_option maxRecDepth 10000
/-- What a choice answers. -/
def condV (t : Int) (v x v' x' : BitVec 64) (w : Nat) : BitVec 64 := if t = 1 then v else if t = 0 then v' else ((v &&& v' &&& ~~~x &&& ~~~x') ||| (x ||| x' ||| (v ^^^ v'))) &&& bmask w
def condX (t : Int) (v x v' x' : BitVec 64) (w : Nat) : BitVec 64 := if t = 1 then x else if t = 0 then x' else (x ||| x' ||| (v ^^^ v')) &&& bmask w
theorem cond_ok (n : Nat) (hn : 50 ≤ n) {w w' : Nat} {v x v' x' s y : BitVec 64} (hs : Vec w' s y) (h : Vec w v x) (h' : Vec w v' x') {H : VH} (hH : H.Ok) :
    vcall T ext promo n 105 [bv w' s y, bv w v x, bv w v' x'] H = some (bv w (condV (trueOf s y) v x v' x' w) (condX (trueOf s y) v x v' x' w), H) := by
  obtain ⟨n, rfl⟩ : ∃ m, n = m + 1 := ⟨n - 1, by omega⟩
  apply ok105
  unfold F105 condV condX
  simp only [letH_mk]
  rw [valid1 n (by omega) (lo_ok hH) hs]
  simp only [letH_mk, bindC_mk, bindV_mk, bindL_mk, bindH_mk, bindJ_mk, asB_mk, asI_mk, asS_mk, asP_mk, asSl_mk, asA_mk, asTu_mk, asSome_mk, unc_mk, endL_mk, selC_eq, condT_eq, sel_eq, letN_mk, letB_mk, case_nn, case_nr, case_ne, case_rn, case_rr, case_re, case_en, case_er, case_ee, iand_u64, ior_u64, ixor_u64, iandn_u64, inot_u64, ieq_u64_0, ieq_u64, decide_eq_true_eq, Bool.not_true, Bool.not_false, Bool.false_eq_true, if_false, if_true, Bool.not_eq_true', decide_eq_false_iff_not, ilt_eq, ile_eq, reduceCtorEq, not_false_eq_true, not_true_eq_false]
  rw [alike_ok n (by omega) h h' (fresh_ok (lo_ok hH) _)]
  simp only [letH_mk, bindC_mk, bindV_mk, bindL_mk, bindH_mk, bindJ_mk, asB_mk, asI_mk, asS_mk, asP_mk, asSl_mk, asA_mk, asTu_mk, asSome_mk, unc_mk, endL_mk, selC_eq, condT_eq, sel_eq, letN_mk, letB_mk, case_nn, case_nr, case_ne, case_rn, case_rr, case_re, case_en, case_er, case_ee, iand_u64, ior_u64, ixor_u64, iandn_u64, inot_u64, ieq_u64_0, ieq_u64, decide_eq_true_eq, Bool.not_true, Bool.not_false, Bool.false_eq_true, if_false, if_true, Bool.not_eq_true', decide_eq_false_iff_not, ilt_eq, ile_eq, reduceCtorEq, not_false_eq_true, not_true_eq_false]
  rw [true_ok n (by omega) hs (fresh_ok (lo_ok hH) _)]
  simp only [letH_mk, bindC_mk, bindV_mk, bindL_mk, bindH_mk, bindJ_mk, asB_mk, asI_mk, asS_mk, asP_mk, asSl_mk, asA_mk, asTu_mk, asSome_mk, unc_mk, endL_mk, selC_eq, condT_eq, sel_eq, letN_mk, letB_mk, case_nn, case_nr, case_ne, case_rn, case_rr, case_re, case_en, case_er, case_ee, iand_u64, ior_u64, ixor_u64, iandn_u64, inot_u64, ieq_u64_0, ieq_u64, decide_eq_true_eq, Bool.not_true, Bool.not_false, Bool.false_eq_true, if_false, if_true, Bool.not_eq_true', decide_eq_false_iff_not, ilt_eq, ile_eq, reduceCtorEq, not_false_eq_true, not_true_eq_false, ieq_dec]
  by_cases t1 : trueOf s y = 1
  · rw [if_pos t1, if_pos t1, if_pos t1, leave_flat rfl rfl]
  · rw [if_neg t1, if_neg t1, if_neg t1]
    by_cases t0 : trueOf s y = 0
    · rw [if_pos t0, if_pos t0, if_pos t0, leave_flat rfl rfl]
    · rw [if_neg t0, if_neg t0, if_neg t0, make3_ok n (by omega)]
      simp only [letH_mk, bindC_mk, bindV_mk, bindL_mk, bindH_mk, bindJ_mk, asB_mk, asI_mk, asS_mk, asP_mk, asSl_mk, asA_mk, asTu_mk, asSome_mk, unc_mk, endL_mk, selC_eq, condT_eq, sel_eq, letN_mk, letB_mk, case_nn, case_nr, case_ne, case_rn, case_rr, case_re, case_en, case_er, case_ee, iand_u64, ior_u64, ixor_u64, iandn_u64, inot_u64, ieq_u64_0, ieq_u64, decide_eq_true_eq, Bool.not_true, Bool.not_false, Bool.false_eq_true, if_false, if_true, Bool.not_eq_true', decide_eq_false_iff_not, ilt_eq, ile_eq, reduceCtorEq, not_false_eq_true, not_true_eq_false]
      rw [leave_flat rfl rfl]
theorem eqOf_cases (v x v' x' : BitVec 64) : eqOf v x v' x' = 0 ∨ eqOf v x v' x' = 1 ∨ eqOf v x v' x' = -1 := by
  unfold eqOf
  split
  · split <;> simp
  · simp
theorem ne_ok (n : Nat) (hn : 50 ≤ n) {w : Nat} {v x v' x' : BitVec 64} (h : Vec w v x) (h' : Vec w v' x') {H : VH} (hH : H.Ok) :
    vcall T ext promo n 104 [bv w v x, bv w v' x'] H = some (bv 1 (tv (if eqOf v x v' x' < 0 then -1 else 1 - eqOf v x v' x')) (tx (if eqOf v x v' x' < 0 then -1 else 1 - eqOf v x v' x')), H) := by
  obtain ⟨n, rfl⟩ : ∃ m, n = m + 1 := ⟨n - 1, by omega⟩
  apply ok104
  unfold F104
  simp only [letH_mk]
  rw [eq_ok n (by omega) h h' (lo_ok hH)]
  simp only [letH_mk, bindC_mk, bindV_mk, bindL_mk, bindH_mk, bindJ_mk, asB_mk, asI_mk, asS_mk, asP_mk, asSl_mk, asA_mk, asTu_mk, asSome_mk, unc_mk, endL_mk, selC_eq, condT_eq, sel_eq, letN_mk, letB_mk, case_nn, case_nr, case_ne, case_rn, case_rr, case_re, case_en, case_er, case_ee, iand_u64, ior_u64, ixor_u64, iandn_u64, inot_u64, ieq_u64_0, ieq_u64, decide_eq_true_eq, Bool.not_true, Bool.not_false, Bool.false_eq_true, if_false, if_true, Bool.not_eq_true', decide_eq_false_iff_not, ilt_eq, ile_eq, reduceCtorEq, not_false_eq_true, not_true_eq_false]
  rw [lnot_ok n (by omega) (truth_vec (eqOf_cases v x v' x')) (lo_ok hH), trueOf_truth (eqOf_cases v x v' x')]
  simp only [letH_mk, bindC_mk, bindV_mk, bindL_mk, bindH_mk, bindJ_mk, asB_mk, asI_mk, asS_mk, asP_mk, asSl_mk, asA_mk, asTu_mk, asSome_mk, unc_mk, endL_mk, selC_eq, condT_eq, sel_eq, letN_mk, letB_mk, case_nn, case_nr, case_ne, case_rn, case_rr, case_re, case_en, case_er, case_ee, iand_u64, ior_u64, ixor_u64, iandn_u64, inot_u64, ieq_u64_0, ieq_u64, decide_eq_true_eq, Bool.not_true, Bool.not_false, Bool.false_eq_true, if_false, if_true, Bool.not_eq_true', decide_eq_false_iff_not, ilt_eq, ile_eq, reduceCtorEq, not_false_eq_true, not_true_eq_false]
  rw [leave_flat rfl rfl]
theorem sar_var (y : BitVec 64) (k : Nat) (hk : k ≤ 64) : varith .shr .i64 y.toInt .i64 (k : Int) = some (.int .i64 (y.toInt.fdiv (2 ^ k))) := by
  simp only [varith, ilt_eq, decide_eq_true_eq]
  rw [if_neg (by omega)]
  simp only [IntKind.bits, Int.toNat_natCast]
  rw [Nat.min_eq_left hk, ishr_eq]
/-- A shift to the right that repeats the highest bit. -/
def sarV (w : Nat) (v : BitVec 64) (k : Nat) : BitVec 64 := BitVec.ofInt 64 ((wide w v true &&& bmask 64).toInt.fdiv (2 ^ k)) &&& bmask w
theorem sar_ok (n : Nat) (hn : 50 ≤ n) {w w' : Nat} {v x s : BitVec 64} (h : Vec w v x) (h' : Vec w' s 0#64) {H : VH} (hH : H.Ok) :
    vcall T ext promo n 103 [bv w v x, bv w' s 0#64] H = some (bv w (sarV w v (min s.toNat 64)) (sarV w x (min s.toNat 64)), H) := by
  obtain ⟨n, rfl⟩ : ∃ m, n = m + 1 := ⟨n - 1, by omega⟩
  apply ok103
  unfold F103 sarV
  have o1 := fresh_ok (lo_ok hH) [.int .i64 (w : Int), .int .u64 (u64 v), .int .u64 (u64 x), .int .i64 (w' : Int), .int .u64 (u64 s), .int .u64 (u64 0#64)]
  have r := resize_ok n (by omega) h (w' := 64) (by decide) true o1
  rw [show ((64 : Nat) : Int) = 64 from rfl] at r
  simp only [letH_mk]
  rw [valid2 n (by omega) (lo_ok hH) h h']
  simp only [letH_mk, bindC_mk, bindV_mk, bindL_mk, bindH_mk, bindJ_mk, asB_mk, asI_mk, asS_mk, asP_mk, asSl_mk, asA_mk, asTu_mk, asSome_mk, unc_mk, endL_mk, selC_eq, condT_eq, sel_eq, letN_mk, letB_mk, case_nn, case_nr, case_ne, case_rn, case_rr, case_re, case_en, case_er, case_ee, iand_u64, ior_u64, ixor_u64, iandn_u64, inot_u64, ieq_u64_0, ieq_u64, decide_eq_true_eq, Bool.not_true, Bool.not_false, Bool.false_eq_true, if_false, if_true, Bool.not_eq_true', decide_eq_false_iff_not, ilt_eq, ile_eq, reduceCtorEq, not_false_eq_true, not_true_eq_false]
  rw [shift_ok n (by omega) h' o1]
  simp only [letH_mk, bindC_mk, bindV_mk, bindL_mk, bindH_mk, bindJ_mk, asB_mk, asI_mk, asS_mk, asP_mk, asSl_mk, asA_mk, asTu_mk, asSome_mk, unc_mk, endL_mk, selC_eq, condT_eq, sel_eq, letN_mk, letB_mk, case_nn, case_nr, case_ne, case_rn, case_rr, case_re, case_en, case_er, case_ee, iand_u64, ior_u64, ixor_u64, iandn_u64, inot_u64, ieq_u64_0, ieq_u64, decide_eq_true_eq, Bool.not_true, Bool.not_false, Bool.false_eq_true, if_false, if_true, Bool.not_eq_true', decide_eq_false_iff_not, ilt_eq, ile_eq, reduceCtorEq, not_false_eq_true, not_true_eq_false]
  rw [r]
  simp only [letH_mk, bindC_mk, bindV_mk, bindL_mk, bindH_mk, bindJ_mk, asB_mk, asI_mk, asS_mk, asP_mk, asSl_mk, asA_mk, asTu_mk, asSome_mk, unc_mk, endL_mk, selC_eq, condT_eq, sel_eq, letN_mk, letB_mk, case_nn, case_nr, case_ne, case_rn, case_rr, case_re, case_en, case_er, case_ee, iand_u64, ior_u64, ixor_u64, iandn_u64, inot_u64, ieq_u64_0, ieq_u64, decide_eq_true_eq, Bool.not_true, Bool.not_false, Bool.false_eq_true, if_false, if_true, Bool.not_eq_true', decide_eq_false_iff_not, ilt_eq, ile_eq, reduceCtorEq, not_false_eq_true, not_true_eq_false]
  rw [fw_i64_u64, sar_var _ _ (Nat.min_le_right _ _)]
  simp only [letH_mk, bindC_mk, bindV_mk, bindL_mk, bindH_mk, bindJ_mk, asB_mk, asI_mk, asS_mk, asP_mk, asSl_mk, asA_mk, asTu_mk, asSome_mk, unc_mk, endL_mk, selC_eq, condT_eq, sel_eq, letN_mk, letB_mk, case_nn, case_nr, case_ne, case_rn, case_rr, case_re, case_en, case_er, case_ee, iand_u64, ior_u64, ixor_u64, iandn_u64, inot_u64, ieq_u64_0, ieq_u64, decide_eq_true_eq, Bool.not_true, Bool.not_false, Bool.false_eq_true, if_false, if_true, Bool.not_eq_true', decide_eq_false_iff_not, ilt_eq, ile_eq, reduceCtorEq, not_false_eq_true, not_true_eq_false]
  rw [mask_ok n (by omega)]
  simp only [letH_mk, bindC_mk, bindV_mk, bindL_mk, bindH_mk, bindJ_mk, asB_mk, asI_mk, asS_mk, asP_mk, asSl_mk, asA_mk, asTu_mk, asSome_mk, unc_mk, endL_mk, selC_eq, condT_eq, sel_eq, letN_mk, letB_mk, case_nn, case_nr, case_ne, case_rn, case_rr, case_re, case_en, case_er, case_ee, iand_u64, ior_u64, ixor_u64, iandn_u64, inot_u64, ieq_u64_0, ieq_u64, decide_eq_true_eq, Bool.not_true, Bool.not_false, Bool.false_eq_true, if_false, if_true, Bool.not_eq_true', decide_eq_false_iff_not, ilt_eq, ile_eq, reduceCtorEq, not_false_eq_true, not_true_eq_false, fw_u64n]
  rw [fw_i64_u64, sar_var _ _ (Nat.min_le_right _ _)]
  simp only [letH_mk, bindC_mk, bindV_mk, bindL_mk, bindH_mk, bindJ_mk, asB_mk, asI_mk, asS_mk, asP_mk, asSl_mk, asA_mk, asTu_mk, asSome_mk, unc_mk, endL_mk, selC_eq, condT_eq, sel_eq, letN_mk, letB_mk, case_nn, case_nr, case_ne, case_rn, case_rr, case_re, case_en, case_er, case_ee, iand_u64, ior_u64, ixor_u64, iandn_u64, inot_u64, ieq_u64_0, ieq_u64, decide_eq_true_eq, Bool.not_true, Bool.not_false, Bool.false_eq_true, if_false, if_true, Bool.not_eq_true', decide_eq_false_iff_not, ilt_eq, ile_eq, reduceCtorEq, not_false_eq_true, not_true_eq_false]
  rw [mask_ok n (by omega)]
  simp only [letH_mk, bindC_mk, bindV_mk, bindL_mk, bindH_mk, bindJ_mk, asB_mk, asI_mk, asS_mk, asP_mk, asSl_mk, asA_mk, asTu_mk, asSome_mk, unc_mk, endL_mk, selC_eq, condT_eq, sel_eq, letN_mk, letB_mk, case_nn, case_nr, case_ne, case_rn, case_rr, case_re, case_en, case_er, case_ee, iand_u64, ior_u64, ixor_u64, iandn_u64, inot_u64, ieq_u64_0, ieq_u64, decide_eq_true_eq, Bool.not_true, Bool.not_false, Bool.false_eq_true, if_false, if_true, Bool.not_eq_true', decide_eq_false_iff_not, ilt_eq, ile_eq, reduceCtorEq, not_false_eq_true, not_true_eq_false, fw_u64n]
  rw [leave_flat rfl rfl]
end Go.Vm.Tryd
/-! The closure of BitsRefined. -/
namespace Go.Vm.Tryd
set_option linter.unusedSectionVars false
set_option linter.unusedSimpArgs false
set_option linter.unusedVariables false
set_option maxRecDepth 10000
/-- A vector whose unknown bits are chosen. -/
def fixV (v x y : BitVec 64) : BitVec 64 := v &&& ~~~x ||| y &&& x
theorem fix_vec {w : Nat} {v x y : BitVec 64} (h : Vec w v x) : Vec w (fixV v x y) 0#64 :=
  ⟨h.pos, h.le, fun i hi => by unfold fixV; rw [BitVec.getLsbD_or, BitVec.getLsbD_and, BitVec.getLsbD_and, h.v i hi, h.x i hi]; simp, fun i _ => by simp⟩
theorem fix_ok (n : Nat) (hn : 40 ≤ n) {H : VH} {b k : Nat} (hH : H.Ok) (hs : StB H b k) (hk : k < 1000000000 - 5) {q o : Nat} (hq : H.cell q o = some (.ptr (some (b, 0)))) {w : Nat} {v x : BitVec 64} (h : Vec w v x) :
    ∃ (y : BitVec 64) (H' : VH), vcall T ext promo n 56 [bv w v x, .ptr (some (q, o))] H = some (bv w (fixV v x y) 0#64, H') ∧ Drawn H H' b (k + 5) := by
  obtain ⟨n, rfl⟩ : ∃ m, n = m + 1 := ⟨n - 1, by omega⟩
  obtain ⟨y, H', e1, hy, d1⟩ := known_ok n (by omega) (lo_ok hH) hs.lo hk w ⟨h.pos, h.le⟩
  refine ⟨y, _, ok56 _ _ _ _ _ _ _ (r := (_, leave H H' (bv w (fixV v x y) 0#64))) ?_, d1.leave hH (hs.lt hH) _⟩
  unfold F56 fixV
  simp only [letH_mk]
  rw [lo_cell, hq]
  simp only [letH_mk, bindC_mk, bindV_mk, bindL_mk, bindH_mk, bindJ_mk, asB_mk, asI_mk, asS_mk, asP_mk, asSl_mk, asA_mk, asTu_mk, asSome_mk, unc_mk, endL_mk, selC_eq, condT_eq, sel_eq, letN_mk, letB_mk, case_nn, case_nr, case_ne, case_rn, case_rr, case_re, case_en, case_er, case_ee, iand_u64, ior_u64, ixor_u64, iandn_u64, inot_u64, ieq_u64_0, ieq_u64, decide_eq_true_eq, Bool.not_true, Bool.not_false, Bool.false_eq_true, if_false, if_true, Bool.not_eq_true', decide_eq_false_iff_not, ilt_eq, ile_eq, reduceCtorEq, not_false_eq_true, not_true_eq_false]
  rw [e1]
  simp only [letH_mk, bindC_mk, bindV_mk, bindL_mk, bindH_mk, bindJ_mk, asB_mk, asI_mk, asS_mk, asP_mk, asSl_mk, asA_mk, asTu_mk, asSome_mk, unc_mk, endL_mk, selC_eq, condT_eq, sel_eq, letN_mk, letB_mk, case_nn, case_nr, case_ne, case_rn, case_rr, case_re, case_en, case_er, case_ee, iand_u64, ior_u64, ixor_u64, iandn_u64, inot_u64, ieq_u64_0, ieq_u64, decide_eq_true_eq, Bool.not_true, Bool.not_false, Bool.false_eq_true, if_false, if_true, Bool.not_eq_true', decide_eq_false_iff_not, ilt_eq, ile_eq, reduceCtorEq, not_false_eq_true, not_true_eq_false]
  rfl
/-- What is kept reads the same. -/
theorem same_keep {S : Nat → Prop} {H H' : VH} {q : Nat} {cs : List AV} (hp : Plain H q cs) (hH : H.Ok) (k : Keep S H H') (hs : ¬ S q) : allSame H H' [q] = true := by
  have hq := hp.lt hH
  obtain ⟨r, h1, h2, h3, h4, h5, h6⟩ := hp.row
  have g : H.get q = some (.row r) := by
    unfold VH.row? at h1
    cases hg : H.get q with
    | none => rw [hg] at h1; cases h1
    | some x =>
      rw [hg] at h1
      cases x with
      | row r' => exact congrArg (fun z => some (Blk.row z)) (Option.some.inj h1)
      | map es v => cases h1
  have g' : H'.get q = some (.row r) := by rw [k.get q hq hs]; exact g
  have f : H'.from_ r.lin = 0 := by rw [keep_from k (hH.lin q r h1)]; exact h6
  simp [allSame, VH.same, g, g', VH.readable, h5, h6, f]
end Go.Vm.Tryd
/-! BitsRefined: what 'results' answers agrees outside of unknown bits; the plain laws. -/
namespace Go.Vm.Tryd
set_option linter.unusedSectionVars false
set_option linter.unusedSimpArgs false
set_option linter.unusedVariables false
set_option maxRecDepth 10000
/-- A known vector agrees with another one outside of its unknown bits. -/
def Agree (v x p : BitVec 64) : Prop := (v ^^^ p) &&& ~~~x = 0#64
theorem agree_bit {v x p : BitVec 64} : Agree v x p ↔ ∀ i, i < 64 → x.getLsbD i = false → v.getLsbD i = p.getLsbD i := by
  constructor
  · intro h i hi hx
    have := congrArg (·.getLsbD i) h
    simp only [BitVec.getLsbD_and, BitVec.getLsbD_xor, BitVec.getLsbD_not, hi, decide_true, Bool.true_and, hx, Bool.not_false, Bool.and_true, BitVec.getLsbD_zero] at this
    revert this
    cases v.getLsbD i <;> cases p.getLsbD i <;> decide
  · intro h
    apply BitVec.eq_of_getLsbD_eq
    intro i hi
    have := h i hi
    simp only [BitVec.getLsbD_and, BitVec.getLsbD_xor, BitVec.getLsbD_not, hi, decide_true, Bool.true_and, BitVec.getLsbD_zero]
    cases hx : x.getLsbD i
    · rw [this hx]; simp
    · simp
theorem agree_fix (v x y : BitVec 64) : Agree v x (fixV v x y) := by
  refine agree_bit.2 fun i hi hx => ?_
  unfold fixV
  simp only [BitVec.getLsbD_or, BitVec.getLsbD_and, BitVec.getLsbD_not, hi, hx, decide_true, Bool.true_and, Bool.not_false, Bool.and_true, Bool.and_false, Bool.or_false]
/-- With no unknown bit nothing is changed. -/
theorem fix_same (v y : BitVec 64) : fixV v 0#64 y = v := by
  unfold fixV
  apply BitVec.eq_of_getLsbD_eq
  intro i hi
  simp only [BitVec.getLsbD_or, BitVec.getLsbD_and, BitVec.getLsbD_not, BitVec.getLsbD_zero, hi, decide_true, Bool.true_and, Bool.not_false, Bool.and_true, Bool.and_false, Bool.or_false]
theorem agree_all {w : Nat} {p : BitVec 64} (h : ∀ i, w ≤ i → p.getLsbD i = false) : Agree (bmask w) (bmask w) p := by
  refine agree_bit.2 fun i hi hx => ?_
  rw [hx]
  rw [bmask_bit] at hx
  simp [hi] at hx
  rw [h i hx]
theorem agree_rfl (v x : BitVec 64) : Agree v x v := by
  unfold Agree
  simp
theorem agree_not (w : Nat) {v x p : BitVec 64} (h : Agree v x p) : Agree ((~~~v &&& ~~~x ||| x) &&& bmask w) (x &&& bmask w) ((~~~p &&& ~~~0#64 ||| 0#64) &&& bmask w) := by
  refine agree_bit.2 fun i hi hx => ?_
  have h1 := agree_bit.1 h i hi
  simp only [BitVec.getLsbD_or, BitVec.getLsbD_and, BitVec.getLsbD_xor, BitVec.getLsbD_not, BitVec.getLsbD_zero, hi, decide_true, Bool.true_and] at hx ⊢
  revert h1 hx
  generalize (bmask w).getLsbD i = m
  cases v.getLsbD i <;> cases x.getLsbD i <;> cases p.getLsbD i <;> cases m <;> decide
theorem agree_and (w : Nat) {v x p v' x' p' : BitVec 64} (h : Agree v x p) (h' : Agree v' x' p') :
    Agree ((v &&& v' &&& ~~~x &&& ~~~x' ||| (x ||| x') &&& ~~~(~~~v &&& ~~~x ||| ~~~v' &&& ~~~x')) &&& bmask w) ((x ||| x') &&& ~~~(~~~v &&& ~~~x ||| ~~~v' &&& ~~~x') &&& bmask w) ((p &&& p' &&& ~~~0#64 &&& ~~~0#64 ||| (0#64 ||| 0#64) &&& ~~~(~~~p &&& ~~~0#64 ||| ~~~p' &&& ~~~0#64)) &&& bmask w) := by
  refine agree_bit.2 fun i hi hx => ?_
  have h1 := agree_bit.1 h i hi
  have h2 := agree_bit.1 h' i hi
  simp only [BitVec.getLsbD_or, BitVec.getLsbD_and, BitVec.getLsbD_xor, BitVec.getLsbD_not, BitVec.getLsbD_zero, hi, decide_true, Bool.true_and] at hx ⊢
  revert h1 h2 hx
  generalize (bmask w).getLsbD i = m
  cases v.getLsbD i <;> cases x.getLsbD i <;> cases p.getLsbD i <;> cases v'.getLsbD i <;> cases x'.getLsbD i <;> cases p'.getLsbD i <;> cases m <;> decide
theorem agree_or (w : Nat) {v x p v' x' p' : BitVec 64} (h : Agree v x p) (h' : Agree v' x' p') :
    Agree ((v &&& ~~~x ||| v' &&& ~~~x' ||| (x ||| x') &&& ~~~(v &&& ~~~x ||| v' &&& ~~~x')) &&& bmask w) ((x ||| x') &&& ~~~(v &&& ~~~x ||| v' &&& ~~~x') &&& bmask w) ((p &&& ~~~0#64 ||| p' &&& ~~~0#64 ||| (0#64 ||| 0#64) &&& ~~~(p &&& ~~~0#64 ||| p' &&& ~~~0#64)) &&& bmask w) := by
  refine agree_bit.2 fun i hi hx => ?_
  have h1 := agree_bit.1 h i hi
  have h2 := agree_bit.1 h' i hi
  simp only [BitVec.getLsbD_or, BitVec.getLsbD_and, BitVec.getLsbD_xor, BitVec.getLsbD_not, BitVec.getLsbD_zero, hi, decide_true, Bool.true_and] at hx ⊢
  revert h1 h2 hx
  generalize (bmask w).getLsbD i = m
  cases v.getLsbD i <;> cases x.getLsbD i <;> cases p.getLsbD i <;> cases v'.getLsbD i <;> cases x'.getLsbD i <;> cases p'.getLsbD i <;> cases m <;> decide
theorem agree_xor (w : Nat) {v x p v' x' p' : BitVec 64} (h : Agree v x p) (h' : Agree v' x' p') :
    Agree (((v ^^^ v') &&& ~~~(x ||| x') ||| (x ||| x')) &&& bmask w) ((x ||| x') &&& bmask w) (((p ^^^ p') &&& ~~~(0#64 ||| 0#64) ||| (0#64 ||| 0#64)) &&& bmask w) := by
  refine agree_bit.2 fun i hi hx => ?_
  have h1 := agree_bit.1 h i hi
  have h2 := agree_bit.1 h' i hi
  simp only [BitVec.getLsbD_or, BitVec.getLsbD_and, BitVec.getLsbD_xor, BitVec.getLsbD_not, BitVec.getLsbD_zero, hi, decide_true, Bool.true_and] at hx ⊢
  revert h1 h2 hx
  generalize (bmask w).getLsbD i = m
  cases v.getLsbD i <;> cases x.getLsbD i <;> cases p.getLsbD i <;> cases v'.getLsbD i <;> cases x'.getLsbD i <;> cases p'.getLsbD i <;> cases m <;> decide
end Go.Vm.Tryd
/-! BitsRefined: the reductions' laws. -/
namespace Go.Vm.Tryd
set_option linter.unusedSectionVars false
set_option linter.unusedSimpArgs false
set_option linter.unusedVariables false
set_option maxRecDepth 10000
/-- Not known, or the same. -/
def Rf (s t : Int) : Prop := s = -1 ∨ s = t
instance (s t : Int) : Decidable (Rf s t) := inferInstanceAs (Decidable (_ ∨ _))
def Tri (s : Int) : Prop := s = 0 ∨ s = 1 ∨ s = -1
theorem kand_mono {s t u r : Int} (hs : Tri s) (ht : Tri t) (hu : Tri u) (hr : Tri r) (h1 : Rf s t) (h2 : Rf u r) : Rf (kand s u) (kand t r) := by
  rcases hs with rfl | rfl | rfl <;> rcases ht with rfl | rfl | rfl <;> rcases hu with rfl | rfl | rfl <;> rcases hr with rfl | rfl | rfl <;> revert h1 h2 <;> decide
theorem kor_mono {s t u r : Int} (hs : Tri s) (ht : Tri t) (hu : Tri u) (hr : Tri r) (h1 : Rf s t) (h2 : Rf u r) : Rf (kor s u) (kor t r) := by
  rcases hs with rfl | rfl | rfl <;> rcases ht with rfl | rfl | rfl <;> rcases hu with rfl | rfl | rfl <;> rcases hr with rfl | rfl | rfl <;> revert h1 h2 <;> decide
theorem kxor_mono {s t u r : Int} (hs : Tri s) (ht : Tri t) (hu : Tri u) (hr : Tri r) (h1 : Rf s t) (h2 : Rf u r) : Rf (kxor s u) (kxor t r) := by
  rcases hs with rfl | rfl | rfl <;> rcases ht with rfl | rfl | rfl <;> rcases hu with rfl | rfl | rfl <;> rcases hr with rfl | rfl | rfl <;> revert h1 h2 <;> decide
theorem tri_mono {a c b : Bool} (h : c = false → a = b) : Rf (tri a c) (tri b false) := by
  revert h
  cases a <;> cases b <;> cases c <;> decide
theorem fold_mono {f : Int → Int → Int} (hf : ∀ s t, f s t = 0 ∨ f s t = 1 ∨ f s t = -1) (hm : ∀ {s t u r : Int}, Tri s → Tri t → Tri u → Tri r → Rf s t → Rf u r → Rf (f s u) (f t r)) {s : Int} (hs : Tri s) {v x p : BitVec 64} (h : Agree v x p) :
    ∀ i, i ≤ 64 → Rf (fold3 f s v x i) (fold3 f s p 0#64 i)
  | 0, _ => .inr rfl
  | i + 1, hi => by
    have ih := fold_mono hf hm hs h i (by omega)
    have h0 : (0#64).getLsbD i = false := BitVec.getLsbD_zero
    show Rf (f _ (tri _ _)) (f _ (tri _ _))
    rw [h0]
    exact hm (fold3_cases hf hs v x i) (fold3_cases hf hs p 0#64 i) (tri_cases _ _) (tri_cases _ _) ih (tri_mono fun hx => agree_bit.1 h i (by omega) hx)
theorem agree_truth {s t : Int} (hs : Tri s) (ht : t = 0 ∨ t = 1) (h : Rf s t) : Agree (tv s) (tx s) (tv t) := by
  unfold Agree
  rcases hs with rfl | rfl | rfl <;> rcases ht with rfl | rfl <;> revert h <;> decide
theorem trueOf_fold {w : Nat} {v x : BitVec 64} (h : Vec w v x) : trueOf v x = fold3 kor 0 v x w := by
  rw [fold_or v x w h.le, and_mask h.x, and_mask (fun i hi => by rw [BitVec.getLsbD_and, h.v i hi, Bool.false_and])]
  rfl
theorem trueOf_mono {w : Nat} {v x p : BitVec 64} (h : Vec w v x) (h' : Vec w p 0#64) (ha : Agree v x p) : Rf (trueOf v x) (trueOf p 0#64) := by
  rw [trueOf_fold h, trueOf_fold h']
  exact fold_mono kor_cases kor_mono (.inl rfl) ha w h.le
end Go.Vm.Tryd
/-! BitsRefined: shifts and choices. -/
namespace Go.Vm.Tryd
set_option linter.unusedSectionVars false
set_option linter.unusedSimpArgs false
set_option linter.unusedVariables false
set_option maxRecDepth 10000
theorem agree_mask {v x p : BitVec 64} (w : Nat) (h : Agree v x p) : Agree (v &&& bmask w) (x &&& bmask w) (p &&& bmask w) := by
  refine agree_bit.2 fun i hi hx => ?_
  have h1 := agree_bit.1 h i hi
  simp only [BitVec.getLsbD_and] at hx ⊢
  revert h1 hx
  generalize (bmask w).getLsbD i = m
  cases v.getLsbD i <;> cases x.getLsbD i <;> cases p.getLsbD i <;> cases m <;> decide
theorem agree_shl {v x p : BitVec 64} (k : Nat) (h : Agree v x p) : Agree (v <<< k) (x <<< k) (p <<< k) := by
  refine agree_bit.2 fun i hi hx => ?_
  simp only [BitVec.getLsbD_shiftLeft, hi, decide_true, Bool.true_and] at hx ⊢
  by_cases hk : i < k
  · simp [hk]
  · have hk' : decide (i < k) = false := decide_eq_false hk
    rw [hk'] at hx ⊢
    have := agree_bit.1 h (i - k) (by omega) (by simpa using hx)
    rw [this]
theorem agree_shr {v x p : BitVec 64} (k : Nat) (h : Agree v x p) : Agree (v >>> k) (x >>> k) (p >>> k) := by
  refine agree_bit.2 fun i hi hx => ?_
  rw [BitVec.getLsbD_ushiftRight] at hx ⊢
  rw [BitVec.getLsbD_ushiftRight]
  rcases Nat.lt_or_ge (k + i) 64 with h1 | h1
  · exact agree_bit.1 h (k + i) h1 hx
  · rw [BitVec.getLsbD_of_ge _ _ h1, BitVec.getLsbD_of_ge _ _ h1]
theorem agree_cond {w : Nat} {v x v' x' p p' : BitVec 64} (hw : Vec w p 0#64) (hw' : Vec w p' 0#64) (h : Agree v x p) (h' : Agree v' x' p') {s t : Int} (ht : t = 0 ∨ t = 1) (hr : Rf s t) :
    Agree (condV s v x v' x' w) (condX s v x v' x' w) (condV t p 0#64 p' 0#64 w) := by
  have hv : condV t p 0#64 p' 0#64 w = if t = 1 then p else p' := by
    unfold condV
    rcases ht with rfl | rfl
    · rw [if_neg (by decide), if_pos rfl, if_neg (by decide)]
    · rw [if_pos rfl, if_pos rfl]
  rw [hv]
  rcases hr with rfl | rfl
  · unfold condV condX
    rw [if_neg (by decide), if_neg (by decide), if_neg (by decide), if_neg (by decide)]
    refine agree_bit.2 fun i hi hx => ?_
    have h1 := agree_bit.1 h i hi
    have h2 := agree_bit.1 h' i hi
    have m1 : (bmask w).getLsbD i = false → p.getLsbD i = false ∧ p'.getLsbD i = false := by
      intro hm
      rw [bmask_bit] at hm
      have : w ≤ i := by
        simp [hi] at hm
        exact hm
      exact ⟨hw.v i this, hw'.v i this⟩
    have e : (if t = 1 then p else p').getLsbD i = if t = 1 then p.getLsbD i else p'.getLsbD i := by split <;> rfl
    rw [e]
    simp only [BitVec.getLsbD_or, BitVec.getLsbD_and, BitVec.getLsbD_xor, BitVec.getLsbD_not, hi, decide_true, Bool.true_and] at hx ⊢
    revert h1 h2 hx m1
    generalize (bmask w).getLsbD i = m
    split <;> cases v.getLsbD i <;> cases x.getLsbD i <;> cases p.getLsbD i <;> cases v'.getLsbD i <;> cases x'.getLsbD i <;> cases p'.getLsbD i <;> cases m <;> decide
  · unfold condV condX
    rcases ht with rfl | rfl
    · rw [if_neg (by decide), if_pos rfl, if_neg (by decide), if_pos rfl, if_neg (by decide)]
      exact h'
    · rw [if_pos rfl, if_pos rfl, if_pos rfl]
      exact h
theorem agree_zero {v p : BitVec 64} (h : Agree v 0#64 p) : v = p :=
  BitVec.eq_of_getLsbD_eq fun i hi => agree_bit.1 h i hi BitVec.getLsbD_zero
theorem or_zero {x y : BitVec 64} (h : x ||| y = 0#64) : x = 0#64 ∧ y = 0#64 := by
  have hb : ∀ i, (x.getLsbD i || y.getLsbD i) = false := fun i => by
    have := congrArg (·.getLsbD i) h
    simpa only [BitVec.getLsbD_or, BitVec.getLsbD_zero] using this
  constructor <;> apply BitVec.eq_of_getLsbD_eq <;> intro i hi <;> have := hb i <;> revert this <;> rw [BitVec.getLsbD_zero] <;> cases x.getLsbD i <;> cases y.getLsbD i <;> decide
theorem eq_mono {v x v' x' p p' : BitVec 64} (h : Agree v x p) (h' : Agree v' x' p') : Rf (eqOf v x v' x') (eqOf p 0#64 p' 0#64) := by
  unfold eqOf
  by_cases h1 : (v ^^^ v') &&& ~~~(x ||| x') = 0#64
  · rw [if_pos h1]
    by_cases h2 : x ||| x' = 0#64
    · obtain ⟨rfl, rfl⟩ := or_zero h2
      obtain rfl := agree_zero h
      obtain rfl := agree_zero h'
      rw [if_pos h1]
      exact .inr rfl
    · rw [if_neg h2]
      exact .inl rfl
  · rw [if_neg h1]
    have e : (p ^^^ p') &&& ~~~(x ||| x') = (v ^^^ v') &&& ~~~(x ||| x') := by
      apply BitVec.eq_of_getLsbD_eq
      intro i hi
      have a1 := agree_bit.1 h i hi
      have a2 := agree_bit.1 h' i hi
      simp only [BitVec.getLsbD_or, BitVec.getLsbD_and, BitVec.getLsbD_xor, BitVec.getLsbD_not, hi, decide_true, Bool.true_and]
      revert a1 a2
      cases v.getLsbD i <;> cases x.getLsbD i <;> cases p.getLsbD i <;> cases v'.getLsbD i <;> cases x'.getLsbD i <;> cases p'.getLsbD i <;> decide
    rw [if_neg]
    · exact .inr rfl
    · intro e0
      apply h1
      rw [← e]
      have e1 : p ^^^ p' = 0#64 := by
        rw [show (0#64 ||| 0#64) = 0#64 from BitVec.or_self, show ~~~(0#64) = BitVec.allOnes 64 from BitVec.not_zero, BitVec.and_allOnes] at e0
        exact e0
      rw [e1, BitVec.zero_and]
end Go.Vm.Tryd
/-! BitsRefined: the signed widening. -/
namespace Go.Vm.Tryd
set_option linter.unusedSectionVars false
set_option linter.unusedSimpArgs false
set_option linter.unusedVariables false
set_option maxRecDepth 10000
theorem fdiv_sshr (y : BitVec 64) (k : Nat) : BitVec.ofInt 64 (y.toInt.fdiv (2 ^ k)) = y.sshiftRight k := by
  have h : (y.sshiftRight k).toInt = y.toInt.fdiv (2 ^ k) := by
    rw [BitVec.toInt_sshiftRight, Int.shiftRight_eq_div_pow, Int.fdiv_eq_ediv_of_nonneg _ (Int.le_of_lt (Int.pow_pos (by decide)))]
    simp
  rw [← h, BitVec.ofInt_toInt]
theorem wide_eq (w : Nat) (v : BitVec 64) : wide w v true = (v <<< (64 - w)).sshiftRight (64 - w) := by
  show BitVec.ofInt 64 (sint w v) = _
  unfold sint
  exact fdiv_sshr _ _
theorem agree_sshr {v x p : BitVec 64} (k : Nat) (h : Agree v x p) : Agree (v.sshiftRight k) (x.sshiftRight k) (p.sshiftRight k) := by
  refine agree_bit.2 fun i hi hx => ?_
  have g : ¬ 64 ≤ i := by omega
  simp only [BitVec.getLsbD_sshiftRight, g, decide_false, Bool.not_false, Bool.true_and] at hx ⊢
  by_cases h1 : k + i < 64
  · rw [if_pos h1] at hx ⊢
    rw [if_pos h1]
    exact agree_bit.1 h (k + i) h1 hx
  · rw [if_neg h1] at hx ⊢
    rw [if_neg h1]
    rw [BitVec.msb_eq_getLsbD_last] at hx ⊢
    rw [BitVec.msb_eq_getLsbD_last]
    exact agree_bit.1 h 63 (by omega) hx
theorem agree_wide {v x p : BitVec 64} (w : Nat) (s : Bool) (h : Agree v x p) : Agree (wide w v s) (wide w x s) (wide w p s) := by
  cases s
  · exact h
  · rw [wide_eq, wide_eq, wide_eq]
    exact agree_sshr _ (agree_shl _ h)
theorem agree_sar {v x p : BitVec 64} (w k : Nat) (h : Agree v x p) : Agree (sarV w v k) (sarV w x k) (sarV w p k) := by
  unfold sarV
  rw [fdiv_sshr, fdiv_sshr, fdiv_sshr]
  exact agree_mask w (agree_sshr k (agree_mask 64 (agree_wide w true h)))
end Go.Vm.Tryd
/-! BitsRefined: each operation's two results, of given vectors and of chosen ones. -/
namespace Go.Vm.Tryd
set_option linter.unusedSectionVars false
set_option linter.unusedSimpArgs false
set_option linter.unusedVariables false
set_option maxRecDepth 10000
/-- An operation answers a vector and, of chosen arguments, a known one that agrees. -/
def Pair (n f w : Nat) (l1 l2 : List AV) : Prop :=
  ∃ V X P : BitVec 64, Agree V X P ∧ (∀ H : VH, H.Ok → vcall T ext promo n f l1 H = some (bv w V X, H)) ∧ ∀ H : VH, H.Ok → vcall T ext promo n f l2 H = some (bv w P 0#64, H)
theorem zero_and (w : Nat) : 0#64 &&& bmask w = 0#64 := BitVec.zero_and
section
variable {w : Nat} {v x p v' x' p' : BitVec 64} (n : Nat) (hn : 60 ≤ n)
include hn
theorem pair_not (h : Vec w v x) (k : Vec w p 0#64) (a : Agree v x p) : Pair n 32 w [bv w v x] [bv w p 0#64] := by
  refine ⟨_, _, _, agree_not w a, fun H hH => not_ok n (by omega) h hH, fun H hH => ?_⟩
  rw [not_ok n (by omega) k hH]
  unfold mk3
  rw [zero_and]
theorem pair_and (h : Vec w v x) (k : Vec w p 0#64) (a : Agree v x p) (h' : Vec w v' x') (k' : Vec w p' 0#64) (a' : Agree v' x' p') : Pair n 33 w [bv w v x, bv w v' x'] [bv w p 0#64, bv w p' 0#64] := by
  refine ⟨_, _, _, agree_and w a a', fun H hH => and_ok n (by omega) h h' hH, fun H hH => ?_⟩
  rw [and_ok n (by omega) k k' hH]
  unfold mk3
  rw [BitVec.or_self, BitVec.zero_and, zero_and]
theorem pair_redand (h : Vec w v x) (k : Vec w p 0#64) (a : Agree v x p) (ht : ∀ i, i ≤ 64 → fold3 kand 1 p 0#64 i = 0 ∨ fold3 kand 1 p 0#64 i = 1) : Pair n 37 1 [bv w v x] [bv w p 0#64] := by
  have t := ht w h.le
  refine ⟨_, _, _, agree_truth (fold3_cases kand_cases (.inr (.inl rfl)) v x w) t (fold_mono kand_cases kand_mono (.inr (.inl rfl)) a w h.le), fun H hH => redand_ok n (by omega) h hH, fun H hH => ?_⟩
  rw [redand_ok n (by omega) k hH]
  rcases t with t | t <;> rw [t] <;> rfl
theorem pair_add (h : Vec w v x) (k : Vec w p 0#64) (a : Agree v x p) (h' : Vec w v' x') (k' : Vec w p' 0#64) (a' : Agree v' x' p') : Pair n 41 w [bv w v x, bv w v' x'] [bv w p 0#64, bv w p' 0#64] := by
  by_cases hx : x ||| x' = 0#64
  · obtain ⟨rfl, rfl⟩ := or_zero hx
    obtain rfl := agree_zero a
    obtain rfl := agree_zero a'
    exact ⟨_, _, _, agree_rfl _ _, fun H hH => add_ok n (by omega) h h' hH, fun H hH => add_ok n (by omega) h h' hH⟩
  · exact ⟨_, _, _, agree_all (mask_out w (p + p')), fun H hH => add_unk n (by omega) h h' hx hH, fun H hH => add_ok n (by omega) k k' hH⟩
omit hn in
theorem known_and (p : BitVec 64) (i : Nat) (hi : i ≤ 64) : fold3 kand 1 p 0#64 i = 0 ∨ fold3 kand 1 p 0#64 i = 1 := by
  rw [fold_and p 0#64 i hi, zero_and, if_pos rfl]
  split <;> simp
omit hn in
theorem known_or (p : BitVec 64) (i : Nat) (hi : i ≤ 64) : fold3 kor 0 p 0#64 i = 0 ∨ fold3 kor 0 p 0#64 i = 1 := by
  rw [fold_or p 0#64 i hi, zero_and, if_pos rfl]
  split <;> simp
omit hn in
theorem known_xor (p : BitVec 64) (i : Nat) (hi : i ≤ 64) : fold3 kxor 0 p 0#64 i = 0 ∨ fold3 kxor 0 p 0#64 i = 1 := by
  rw [fold_xor p 0#64 i hi, zero_and, if_pos rfl]
  split <;> simp
theorem pair_or (h : Vec w v x) (k : Vec w p 0#64) (a : Agree v x p) (h' : Vec w v' x') (k' : Vec w p' 0#64) (a' : Agree v' x' p') : Pair n 34 w [bv w v x, bv w v' x'] [bv w p 0#64, bv w p' 0#64] := by
  refine ⟨_, _, _, agree_or w a a', fun H hH => or_ok n (by omega) h h' hH, fun H hH => ?_⟩
  rw [or_ok n (by omega) k k' hH]
  unfold mk3
  rw [BitVec.or_self, BitVec.zero_and, zero_and]
theorem pair_xor (h : Vec w v x) (k : Vec w p 0#64) (a : Agree v x p) (h' : Vec w v' x') (k' : Vec w p' 0#64) (a' : Agree v' x' p') : Pair n 35 w [bv w v x, bv w v' x'] [bv w p 0#64, bv w p' 0#64] := by
  refine ⟨_, _, _, agree_xor w a a', fun H hH => xor_ok n (by omega) h h' hH, fun H hH => ?_⟩
  rw [xor_ok n (by omega) k k' hH]
  unfold mk3
  rw [BitVec.or_self, zero_and]
theorem pair_redor (h : Vec w v x) (k : Vec w p 0#64) (a : Agree v x p) : Pair n 38 1 [bv w v x] [bv w p 0#64] := by
  have t := known_or p w h.le
  refine ⟨_, _, _, agree_truth (fold3_cases kor_cases (.inl rfl) v x w) t (fold_mono kor_cases kor_mono (.inl rfl) a w h.le), fun H hH => redor_ok n (by omega) h hH, fun H hH => ?_⟩
  rw [redor_ok n (by omega) k hH]
  rcases t with t | t <;> rw [t] <;> rfl
theorem pair_redxor (h : Vec w v x) (k : Vec w p 0#64) (a : Agree v x p) : Pair n 39 1 [bv w v x] [bv w p 0#64] := by
  have t := known_xor p w h.le
  refine ⟨_, _, _, agree_truth (fold3_cases kxor_cases (.inl rfl) v x w) t (fold_mono kxor_cases kxor_mono (.inl rfl) a w h.le), fun H hH => redxor_ok n (by omega) h hH, fun H hH => ?_⟩
  rw [redxor_ok n (by omega) k hH]
  rcases t with t | t <;> rw [t] <;> rfl
theorem pair_sub (h : Vec w v x) (k : Vec w p 0#64) (a : Agree v x p) (h' : Vec w v' x') (k' : Vec w p' 0#64) (a' : Agree v' x' p') : Pair n 42 w [bv w v x, bv w v' x'] [bv w p 0#64, bv w p' 0#64] := by
  by_cases hx : x ||| x' = 0#64
  · obtain ⟨rfl, rfl⟩ := or_zero hx
    obtain rfl := agree_zero a
    obtain rfl := agree_zero a'
    exact ⟨_, _, _, agree_rfl _ _, fun H hH => sub_ok n (by omega) h h' hH, fun H hH => sub_ok n (by omega) h h' hH⟩
  · exact ⟨_, _, _, agree_all (mask_out w (p - p')), fun H hH => sub_unk n (by omega) h h' hx hH, fun H hH => sub_ok n (by omega) k k' hH⟩
theorem pair_mul (h : Vec w v x) (k : Vec w p 0#64) (a : Agree v x p) (h' : Vec w v' x') (k' : Vec w p' 0#64) (a' : Agree v' x' p') : Pair n 43 w [bv w v x, bv w v' x'] [bv w p 0#64, bv w p' 0#64] := by
  by_cases hx : x ||| x' = 0#64
  · obtain ⟨rfl, rfl⟩ := or_zero hx
    obtain rfl := agree_zero a
    obtain rfl := agree_zero a'
    exact ⟨_, _, _, agree_rfl _ _, fun H hH => mul_ok n (by omega) h h' hH, fun H hH => mul_ok n (by omega) h h' hH⟩
  · exact ⟨_, _, _, agree_all (mask_out w (p * p')), fun H hH => mul_unk n (by omega) h h' hx hH, fun H hH => mul_ok n (by omega) k k' hH⟩
theorem pair_neg (h : Vec w v x) (k : Vec w p 0#64) (a : Agree v x p) : Pair n 44 w [bv w v x] [bv w p 0#64] := by
  by_cases hx : x = 0#64
  · subst hx
    obtain rfl := agree_zero a
    exact ⟨_, _, _, agree_rfl _ _, fun H hH => neg_ok n (by omega) h hH, fun H hH => neg_ok n (by omega) h hH⟩
  · exact ⟨_, _, _, agree_all (mask_out w (0#64 - p)), fun H hH => neg_unk n (by omega) h hx hH, fun H hH => neg_ok n (by omega) k hH⟩
end
end Go.Vm.Tryd
/-! BitsRefined: each operation's two results, second part. -/
namespace Go.Vm.Tryd
set_option linter.unusedSectionVars false
set_option linter.unusedSimpArgs false
set_option linter.unusedVariables false
set_option maxRecDepth 10000
section
variable {w w' : Nat} {v x p v' x' p' : BitVec 64} (n : Nat) (hn : 60 ≤ n)
theorem known_true (p : BitVec 64) : trueOf p 0#64 = 0 ∨ trueOf p 0#64 = 1 := by
  rw [trueOf_known]
  split <;> simp
include hn
/-- A one-bit result. -/
theorem pair_truth {f : Nat} {l1 l2 : List AV} {s t : Int} (hs : Tri s) (ht : t = 0 ∨ t = 1) (hr : Rf s t)
    (h1 : ∀ H : VH, H.Ok → vcall T ext promo n f l1 H = some (bv 1 (tv s) (tx s), H)) (h2 : ∀ H : VH, H.Ok → vcall T ext promo n f l2 H = some (bv 1 (tv t) (tx t), H)) : Pair n f 1 l1 l2 := by
  refine ⟨_, _, _, agree_truth hs ht hr, h1, fun H hH => ?_⟩
  rw [h2 H hH]
  rcases ht with rfl | rfl <;> rfl
theorem pair_land (h : Vec w v x) (k : Vec w p 0#64) (a : Agree v x p) (h' : Vec w' v' x') (k' : Vec w' p' 0#64) (a' : Agree v' x' p') : Pair n 100 1 [bv w v x, bv w' v' x'] [bv w p 0#64, bv w' p' 0#64] := by
  refine pair_truth n hn (kand_cases _ _) ?_ (kand_mono (trueOf_cases _ _) (trueOf_cases _ _) (trueOf_cases _ _) (trueOf_cases _ _) (trueOf_mono h k a) (trueOf_mono h' k' a')) (fun H hH => land_ok n (by omega) h h' hH) (fun H hH => land_ok n (by omega) k k' hH)
  rcases known_true p with t | t <;> rcases known_true p' with t' | t' <;> rw [t, t'] <;> decide
theorem pair_lor (h : Vec w v x) (k : Vec w p 0#64) (a : Agree v x p) (h' : Vec w' v' x') (k' : Vec w' p' 0#64) (a' : Agree v' x' p') : Pair n 101 1 [bv w v x, bv w' v' x'] [bv w p 0#64, bv w' p' 0#64] := by
  refine pair_truth n hn (kor_cases _ _) ?_ (kor_mono (trueOf_cases _ _) (trueOf_cases _ _) (trueOf_cases _ _) (trueOf_cases _ _) (trueOf_mono h k a) (trueOf_mono h' k' a')) (fun H hH => lor_ok n (by omega) h h' hH) (fun H hH => lor_ok n (by omega) k k' hH)
  rcases known_true p with t | t <;> rcases known_true p' with t' | t' <;> rw [t, t'] <;> decide
theorem pair_resize (h : Vec w v x) (k : Vec w p 0#64) (a : Agree v x p) (hz : wide w 0#64 true = 0#64) (s : Bool) : Pair n 25 64 [bv w v x, .int .i64 64, .bool s] [bv w p 0#64, .int .i64 64, .bool s] := by
  refine ⟨_, _, _, agree_mask 64 (agree_wide w s a), fun H hH => resize_ok n (by omega) h (w' := 64) (by decide) s hH, fun H hH => ?_⟩
  have r := resize_ok n (by omega) k (w' := 64) (by decide) s hH
  have e : wide w 0#64 s = 0#64 := by
    cases s
    · rfl
    · exact hz
  rw [e, zero_and] at r
  exact r
end
end Go.Vm.Tryd
/-! BitsRefined: each operation's two results, third part. -/
namespace Go.Vm.Tryd
set_option linter.unusedSectionVars false
set_option linter.unusedSimpArgs false
set_option linter.unusedVariables false
set_option maxRecDepth 10000
section
variable {w w' : Nat} {v x p v' x' p' s y : BitVec 64} (n : Nat) (hn : 60 ≤ n)
include hn
theorem pair_shl (h : Vec w v x) (k : Vec w p 0#64) (a : Agree v x p) (h' : Vec w' s y) (k' : Vec w' p' 0#64) (a' : Agree s y p') : Pair n 48 w [bv w v x, bv w' s y] [bv w p 0#64, bv w' p' 0#64] := by
  by_cases hy : y = 0#64
  · subst hy
    obtain rfl := agree_zero a'
    refine ⟨_, _, _, agree_mask w (agree_shl _ a), fun H hH => shl_ok n (by omega) h h' hH, fun H hH => ?_⟩
    rw [shl_ok n (by omega) k h' hH, BitVec.zero_shiftLeft, zero_and]
  · refine ⟨_, _, _, agree_all (mask_out w (p <<< (min p'.toNat 64))), fun H hH => shl_unk n (by omega) h h' hy hH, fun H hH => ?_⟩
    rw [shl_ok n (by omega) k k' hH, BitVec.zero_shiftLeft, zero_and]
theorem pair_eq (h : Vec w v x) (k : Vec w p 0#64) (a : Agree v x p) (h' : Vec w v' x') (k' : Vec w p' 0#64) (a' : Agree v' x' p') : Pair n 50 1 [bv w v x, bv w v' x'] [bv w p 0#64, bv w p' 0#64] := by
  refine pair_truth n hn (eqOf_cases _ _ _ _) ?_ (eq_mono a a') (fun H hH => eq_ok n (by omega) h h' hH) (fun H hH => eq_ok n (by omega) k k' hH)
  unfold eqOf
  rw [BitVec.or_self, if_pos rfl]
  split <;> simp
omit hn in
theorem not_mono {s t : Int} (hs : Tri s) (ht : t = 0 ∨ t = 1) (h : Rf s t) : Tri (if s < 0 then -1 else 1 - s) ∧ ((if t < 0 then -1 else 1 - t) = 0 ∨ (if t < 0 then -1 else 1 - t) = 1) ∧ Rf (if s < 0 then -1 else 1 - s) (if t < 0 then -1 else 1 - t) := by
  unfold Tri
  rcases hs with rfl | rfl | rfl <;> rcases ht with rfl | rfl <;> revert h <;> decide
theorem pair_lnot (h : Vec w v x) (k : Vec w p 0#64) (a : Agree v x p) : Pair n 52 1 [bv w v x] [bv w p 0#64] := by
  obtain ⟨m1, m2, m3⟩ := not_mono (trueOf_cases v x) (known_true p) (trueOf_mono h k a)
  exact pair_truth n hn m1 m2 m3 (fun H hH => lnot_ok n (by omega) h hH) (fun H hH => lnot_ok n (by omega) k hH)
theorem pair_ne (h : Vec w v x) (k : Vec w p 0#64) (a : Agree v x p) (h' : Vec w v' x') (k' : Vec w p' 0#64) (a' : Agree v' x' p') : Pair n 104 1 [bv w v x, bv w v' x'] [bv w p 0#64, bv w p' 0#64] := by
  have t : eqOf p 0#64 p' 0#64 = 0 ∨ eqOf p 0#64 p' 0#64 = 1 := by
    unfold eqOf
    rw [BitVec.or_self, if_pos rfl]
    split <;> simp
  obtain ⟨m1, m2, m3⟩ := not_mono (eqOf_cases v x v' x') t (eq_mono a a')
  exact pair_truth n hn m1 m2 m3 (fun H hH => ne_ok n (by omega) h h' hH) (fun H hH => ne_ok n (by omega) k k' hH)
end
end Go.Vm.Tryd
/-! BitsRefined: each operation's two results, fourth part. -/
namespace Go.Vm.Tryd
set_option linter.unusedSectionVars false
set_option linter.unusedSimpArgs false
set_option linter.unusedVariables false
set_option maxRecDepth 10000
theorem wide_zero (w : Nat) : wide w 0#64 true = 0#64 := by
  rw [wide_eq, BitVec.zero_shiftLeft]
  apply BitVec.eq_of_getLsbD_eq
  intro i hi
  rw [BitVec.getLsbD_sshiftRight]
  simp
theorem sar_zero (w k : Nat) : sarV w 0#64 k = 0#64 := by
  unfold sarV
  rw [wide_zero, fdiv_sshr, BitVec.zero_and]
  apply BitVec.eq_of_getLsbD_eq
  intro i hi
  rw [BitVec.getLsbD_and, BitVec.getLsbD_sshiftRight]
  simp
theorem sar_out (w : Nat) (v : BitVec 64) (k : Nat) : ∀ i, w ≤ i → (sarV w v k).getLsbD i = false := mask_out w _
section
variable {w w' : Nat} {v x p v' x' p' s y : BitVec 64} (n : Nat) (hn : 60 ≤ n)
include hn
theorem pair_shr (h : Vec w v x) (k : Vec w p 0#64) (a : Agree v x p) (h' : Vec w' s y) (k' : Vec w' p' 0#64) (a' : Agree s y p') : Pair n 102 w [bv w v x, bv w' s y] [bv w p 0#64, bv w' p' 0#64] := by
  by_cases hy : y = 0#64
  · subst hy
    obtain rfl := agree_zero a'
    refine ⟨_, _, _, agree_shr _ a, fun H hH => shr_ok n (by omega) h h' hH, fun H hH => ?_⟩
    rw [shr_ok n (by omega) k h' hH, BitVec.zero_ushiftRight]
  · refine ⟨_, _, p >>> (min p'.toNat 64), agree_all (w := w) (fun i hi => ?_), fun H hH => shr_unk n (by omega) h h' hy hH, fun H hH => ?_⟩
    · rw [BitVec.getLsbD_ushiftRight]
      exact k.v _ (by omega)
    · rw [shr_ok n (by omega) k k' hH, BitVec.zero_ushiftRight]
theorem pair_sar (h : Vec w v x) (k : Vec w p 0#64) (a : Agree v x p) (h' : Vec w' s y) (k' : Vec w' p' 0#64) (a' : Agree s y p') : Pair n 103 w [bv w v x, bv w' s y] [bv w p 0#64, bv w' p' 0#64] := by
  by_cases hy : y = 0#64
  · subst hy
    obtain rfl := agree_zero a'
    refine ⟨_, _, _, agree_sar w _ a, fun H hH => sar_ok n (by omega) h h' hH, fun H hH => ?_⟩
    rw [sar_ok n (by omega) k h' hH, sar_zero]
  · refine ⟨_, _, _, agree_all (sar_out w p (min p'.toNat 64)), fun H hH => sar_unk n (by omega) h h' hy hH, fun H hH => ?_⟩
    rw [sar_ok n (by omega) k k' hH, sar_zero]
theorem pair_lt (h : Vec w v x) (k : Vec w p 0#64) (a : Agree v x p) (h' : Vec w v' x') (k' : Vec w p' 0#64) (a' : Agree v' x' p') (b : Bool) : Pair n 49 1 [bv w v x, bv w v' x', .bool b] [bv w p 0#64, bv w p' 0#64, .bool b] := by
  by_cases hx : x ||| x' = 0#64
  · obtain ⟨rfl, rfl⟩ := or_zero hx
    obtain rfl := agree_zero a
    obtain rfl := agree_zero a'
    refine pair_truth n hn (s := if lessOf w v v' b then 1 else 0) (t := if lessOf w v v' b then 1 else 0) ?_ ?_ (.inr rfl) (fun H hH => lt_ok n (by omega) h h' b hH) (fun H hH => lt_ok n (by omega) h h' b hH)
    · unfold Tri
      split <;> simp
    · split <;> simp
  · refine pair_truth n hn (s := -1) (t := if lessOf w p p' b then 1 else 0) ?_ ?_ (.inl rfl) (fun H hH => lt_unk n (by omega) h h' hx b hH) (fun H hH => lt_ok n (by omega) k k' b hH)
    · unfold Tri
      simp
    · split <;> simp
theorem pair_le (h : Vec w v x) (k : Vec w p 0#64) (a : Agree v x p) (h' : Vec w v' x') (k' : Vec w p' 0#64) (a' : Agree v' x' p') (b : Bool) : Pair n 51 1 [bv w v x, bv w v' x', .bool b] [bv w p 0#64, bv w p' 0#64, .bool b] := by
  by_cases hx : x' ||| x = 0#64
  · obtain ⟨rfl, rfl⟩ := or_zero hx
    obtain rfl := agree_zero a
    obtain rfl := agree_zero a'
    refine pair_truth n hn (s := if lessOf w v' v b then 0 else 1) (t := if lessOf w v' v b then 0 else 1) ?_ ?_ (.inr rfl) (fun H hH => le_ok n (by omega) h h' b hH) (fun H hH => le_ok n (by omega) h h' b hH)
    · unfold Tri
      split <;> simp
    · split <;> simp
  · refine pair_truth n hn (s := -1) (t := if lessOf w p' p b then 0 else 1) ?_ ?_ (.inl rfl) (fun H hH => le_unk n (by omega) h h' hx b hH) (fun H hH => le_ok n (by omega) k k' b hH)
    · unfold Tri
      simp
    · split <;> simp
theorem pair_cond (hs : Vec w' s y) (hp : Vec w' p' 0#64) (a0 : Agree s y p') (h : Vec w v x) (k : Vec w p 0#64) (a : Agree v x p) {v2 x2 p2 : BitVec 64} (h' : Vec w v2 x2) (k' : Vec w p2 0#64) (a' : Agree v2 x2 p2) : Pair n 105 w [bv w' s y, bv w v x, bv w v2 x2] [bv w' p' 0#64, bv w p 0#64, bv w p2 0#64] := by
  refine ⟨_, _, _, agree_cond k k' a a' (known_true p') (trueOf_mono hs hp a0), fun H hH => cond_ok n (by omega) hs h h' hH, fun H hH => ?_⟩
  rw [cond_ok n (by omega) hp k k' hH]
  congr 3
  unfold condX
  rcases known_true p' with t | t <;> rw [t] <;> simp
end
end Go.Vm.Tryd
/-! BitsRefined: the list of results, and the loop that compares two of them. -/
namespace Go.Vm.Tryd
set_option linter.unusedSectionVars false
set_option linter.unusedSimpArgs false
set_option linter.unusedVariables false
set_option maxRecDepth 10000
/-- Vectors in a row, from number i on. -/
def trip (W : Nat → Nat) (V X : Nat → BitVec 64) : Nat → Nat → List AV
  | _, 0 => []
  | i, m + 1 => .int .i64 (W i : Int) :: .int .u64 (u64 (V i)) :: .int .u64 (u64 (X i)) :: trip W V X (i + 1) m
theorem leave_rest {H H' : VH} {v : AV} (h : flat v = false) : leave H H' v = { H' with low := min H.low H'.low } := by
  unfold leave
  rw [h, Bool.and_false]
theorem trip_at (W : Nat → Nat) (V X : Nat → BitVec 64) : ∀ (k i m : Nat), k < m → ((trip W V X i m).drop (k * 3)).take 3 = [.int .i64 (W (i + k) : Int), .int .u64 (u64 (V (i + k))), .int .u64 (u64 (X (i + k)))]
  | 0, i, m + 1, _ => by simp [trip]
  | k + 1, i, m + 1, h => by
    have := trip_at W V X k (i + 1) m (by omega)
    rw [show (k + 1) * 3 = k * 3 + 1 + 1 + 1 by omega]
    simp only [trip, List.drop_succ_cons]
    rw [this, show i + 1 + k = i + (k + 1) by omega]
theorem trip_len (W : Nat → Nat) (V X : Nat → BitVec 64) : ∀ (m i : Nat), (trip W V X i m).length = m * 3
  | 0, _ => rfl
  | m + 1, i => by simp only [trip, List.length_cons, trip_len W V X m]; omega
theorem results_go (n : Nat) (W : Nat → Nat) (V X : Nat → BitVec 64) {a b c a1 b1 c1 a2 b2 c2 : Int} (g : Bool)
    (h0 : ∀ H : VH, H.Ok → vcall T ext promo n 32 [.agg [.int .i64 a, .int .u64 b, .int .u64 c]] H = some (bv (W 0) (V 0) (X 0), H))
    (h1 : ∀ H : VH, H.Ok → vcall T ext promo n 33 [.agg [.int .i64 a, .int .u64 b, .int .u64 c], .agg [.int .i64 a1, .int .u64 b1, .int .u64 c1]] H = some (bv (W 1) (V 1) (X 1), H))
    (h2 : ∀ H : VH, H.Ok → vcall T ext promo n 34 [.agg [.int .i64 a, .int .u64 b, .int .u64 c], .agg [.int .i64 a1, .int .u64 b1, .int .u64 c1]] H = some (bv (W 2) (V 2) (X 2), H))
    (h3 : ∀ H : VH, H.Ok → vcall T ext promo n 35 [.agg [.int .i64 a, .int .u64 b, .int .u64 c], .agg [.int .i64 a1, .int .u64 b1, .int .u64 c1]] H = some (bv (W 3) (V 3) (X 3), H))
    (h4 : ∀ H : VH, H.Ok → vcall T ext promo n 37 [.agg [.int .i64 a, .int .u64 b, .int .u64 c]] H = some (bv (W 4) (V 4) (X 4), H))
    (h5 : ∀ H : VH, H.Ok → vcall T ext promo n 38 [.agg [.int .i64 a, .int .u64 b, .int .u64 c]] H = some (bv (W 5) (V 5) (X 5), H))
    (h6 : ∀ H : VH, H.Ok → vcall T ext promo n 39 [.agg [.int .i64 a, .int .u64 b, .int .u64 c]] H = some (bv (W 6) (V 6) (X 6), H))
    (h7 : ∀ H : VH, H.Ok → vcall T ext promo n 52 [.agg [.int .i64 a, .int .u64 b, .int .u64 c]] H = some (bv (W 7) (V 7) (X 7), H))
    (h8 : ∀ H : VH, H.Ok → vcall T ext promo n 100 [.agg [.int .i64 a, .int .u64 b, .int .u64 c], .agg [.int .i64 a2, .int .u64 b2, .int .u64 c2]] H = some (bv (W 8) (V 8) (X 8), H))
    (h9 : ∀ H : VH, H.Ok → vcall T ext promo n 101 [.agg [.int .i64 a, .int .u64 b, .int .u64 c], .agg [.int .i64 a2, .int .u64 b2, .int .u64 c2]] H = some (bv (W 9) (V 9) (X 9), H))
    (h10 : ∀ H : VH, H.Ok → vcall T ext promo n 44 [.agg [.int .i64 a, .int .u64 b, .int .u64 c]] H = some (bv (W 10) (V 10) (X 10), H))
    (h11 : ∀ H : VH, H.Ok → vcall T ext promo n 41 [.agg [.int .i64 a, .int .u64 b, .int .u64 c], .agg [.int .i64 a1, .int .u64 b1, .int .u64 c1]] H = some (bv (W 11) (V 11) (X 11), H))
    (h12 : ∀ H : VH, H.Ok → vcall T ext promo n 42 [.agg [.int .i64 a, .int .u64 b, .int .u64 c], .agg [.int .i64 a1, .int .u64 b1, .int .u64 c1]] H = some (bv (W 12) (V 12) (X 12), H))
    (h13 : ∀ H : VH, H.Ok → vcall T ext promo n 43 [.agg [.int .i64 a, .int .u64 b, .int .u64 c], .agg [.int .i64 a1, .int .u64 b1, .int .u64 c1]] H = some (bv (W 13) (V 13) (X 13), H))
    (h14 : ∀ H : VH, H.Ok → vcall T ext promo n 48 [.agg [.int .i64 a, .int .u64 b, .int .u64 c], .agg [.int .i64 a2, .int .u64 b2, .int .u64 c2]] H = some (bv (W 14) (V 14) (X 14), H))
    (h15 : ∀ H : VH, H.Ok → vcall T ext promo n 102 [.agg [.int .i64 a, .int .u64 b, .int .u64 c], .agg [.int .i64 a2, .int .u64 b2, .int .u64 c2]] H = some (bv (W 15) (V 15) (X 15), H))
    (h16 : ∀ H : VH, H.Ok → vcall T ext promo n 103 [.agg [.int .i64 a, .int .u64 b, .int .u64 c], .agg [.int .i64 a2, .int .u64 b2, .int .u64 c2]] H = some (bv (W 16) (V 16) (X 16), H))
    (h17 : ∀ H : VH, H.Ok → vcall T ext promo n 50 [.agg [.int .i64 a, .int .u64 b, .int .u64 c], .agg [.int .i64 a1, .int .u64 b1, .int .u64 c1]] H = some (bv (W 17) (V 17) (X 17), H))
    (h18 : ∀ H : VH, H.Ok → vcall T ext promo n 104 [.agg [.int .i64 a, .int .u64 b, .int .u64 c], .agg [.int .i64 a1, .int .u64 b1, .int .u64 c1]] H = some (bv (W 18) (V 18) (X 18), H))
    (h19 : ∀ H : VH, H.Ok → vcall T ext promo n 49 [.agg [.int .i64 a, .int .u64 b, .int .u64 c], .agg [.int .i64 a1, .int .u64 b1, .int .u64 c1], .bool g] H = some (bv (W 19) (V 19) (X 19), H))
    (h20 : ∀ H : VH, H.Ok → vcall T ext promo n 51 [.agg [.int .i64 a, .int .u64 b, .int .u64 c], .agg [.int .i64 a1, .int .u64 b1, .int .u64 c1], .bool g] H = some (bv (W 20) (V 20) (X 20), H))
    (h21 : ∀ H : VH, H.Ok → vcall T ext promo n 105 [.agg [.int .i64 a2, .int .u64 b2, .int .u64 c2], .agg [.int .i64 a, .int .u64 b, .int .u64 c], .agg [.int .i64 a1, .int .u64 b1, .int .u64 c1]] H = some (bv (W 21) (V 21) (X 21), H))
    (h22 : ∀ H : VH, H.Ok → vcall T ext promo n 25 [.agg [.int .i64 a, .int .u64 b, .int .u64 c], .int .i64 64, .bool g] H = some (bv (W 22) (V 22) (X 22), H))
    {H : VH} (hH : H.Ok) : ∃ H', vcall T ext promo (n + 1) 57 [.agg [.int .i64 a, .int .u64 b, .int .u64 c], .agg [.int .i64 a1, .int .u64 b1, .int .u64 c1], .agg [.int .i64 a2, .int .u64 b2, .int .u64 c2], .bool g] H = some (.slice (some (H.next, 0)) 23 (some 23) 3, H') ∧ H'.Ok ∧ Keep (fun _ => False) H H' ∧ H'.next = H.next + 1 ∧
      ∀ i, i < 23 → H'.cells H.next (0 + i * 3) 3 = some [.int .i64 (W i : Int), .int .u64 (u64 (V i)), .int .u64 (u64 (X i))] := by
  have hl : (trip W V X 0 23).length = 69 := trip_len W V X 23 0
  refine ⟨{ H.lo.fresh (trip W V X 0 23) with low := min H.low H.next }, ok57 _ _ _ _ _ _ _ _ _ _ _ _ ?_, ok_low (fresh_ok (lo_ok hH) _) _, keep_low (Keep.fresh _ _ _).from_lo _, rfl, fun i hi => ?_⟩
  · unfold F57
    simp only [letH_mk]
    rw [h0 _ (lo_ok hH)]
    simp only [letH_mk, bindC_mk, bindV_mk, bindL_mk, bindH_mk, bindJ_mk, asB_mk, asI_mk, asS_mk, asP_mk, asSl_mk, asA_mk, asTu_mk, asSome_mk, unc_mk, endL_mk, selC_eq, condT_eq, sel_eq, letN_mk, letB_mk, case_nn, case_nr, case_ne, case_rn, case_rr, case_re, case_en, case_er, case_ee, iand_u64, ior_u64, ixor_u64, iandn_u64, inot_u64, ieq_u64_0, ieq_u64, decide_eq_true_eq, Bool.not_true, Bool.not_false, Bool.false_eq_true, if_false, if_true, Bool.not_eq_true', decide_eq_false_iff_not, ilt_eq, ile_eq, reduceCtorEq, not_false_eq_true, not_true_eq_false]
    rw [h1 _ (lo_ok hH)]
    simp only [letH_mk, bindC_mk, bindV_mk, bindL_mk, bindH_mk, bindJ_mk, asB_mk, asI_mk, asS_mk, asP_mk, asSl_mk, asA_mk, asTu_mk, asSome_mk, unc_mk, endL_mk, selC_eq, condT_eq, sel_eq, letN_mk, letB_mk, case_nn, case_nr, case_ne, case_rn, case_rr, case_re, case_en, case_er, case_ee, iand_u64, ior_u64, ixor_u64, iandn_u64, inot_u64, ieq_u64_0, ieq_u64, decide_eq_true_eq, Bool.not_true, Bool.not_false, Bool.false_eq_true, if_false, if_true, Bool.not_eq_true', decide_eq_false_iff_not, ilt_eq, ile_eq, reduceCtorEq, not_false_eq_true, not_true_eq_false]
    rw [h2 _ (lo_ok hH)]
    simp only [letH_mk, bindC_mk, bindV_mk, bindL_mk, bindH_mk, bindJ_mk, asB_mk, asI_mk, asS_mk, asP_mk, asSl_mk, asA_mk, asTu_mk, asSome_mk, unc_mk, endL_mk, selC_eq, condT_eq, sel_eq, letN_mk, letB_mk, case_nn, case_nr, case_ne, case_rn, case_rr, case_re, case_en, case_er, case_ee, iand_u64, ior_u64, ixor_u64, iandn_u64, inot_u64, ieq_u64_0, ieq_u64, decide_eq_true_eq, Bool.not_true, Bool.not_false, Bool.false_eq_true, if_false, if_true, Bool.not_eq_true', decide_eq_false_iff_not, ilt_eq, ile_eq, reduceCtorEq, not_false_eq_true, not_true_eq_false]
    rw [h3 _ (lo_ok hH)]
    simp only [letH_mk, bindC_mk, bindV_mk, bindL_mk, bindH_mk, bindJ_mk, asB_mk, asI_mk, asS_mk, asP_mk, asSl_mk, asA_mk, asTu_mk, asSome_mk, unc_mk, endL_mk, selC_eq, condT_eq, sel_eq, letN_mk, letB_mk, case_nn, case_nr, case_ne, case_rn, case_rr, case_re, case_en, case_er, case_ee, iand_u64, ior_u64, ixor_u64, iandn_u64, inot_u64, ieq_u64_0, ieq_u64, decide_eq_true_eq, Bool.not_true, Bool.not_false, Bool.false_eq_true, if_false, if_true, Bool.not_eq_true', decide_eq_false_iff_not, ilt_eq, ile_eq, reduceCtorEq, not_false_eq_true, not_true_eq_false]
    rw [h4 _ (lo_ok hH)]
    simp only [letH_mk, bindC_mk, bindV_mk, bindL_mk, bindH_mk, bindJ_mk, asB_mk, asI_mk, asS_mk, asP_mk, asSl_mk, asA_mk, asTu_mk, asSome_mk, unc_mk, endL_mk, selC_eq, condT_eq, sel_eq, letN_mk, letB_mk, case_nn, case_nr, case_ne, case_rn, case_rr, case_re, case_en, case_er, case_ee, iand_u64, ior_u64, ixor_u64, iandn_u64, inot_u64, ieq_u64_0, ieq_u64, decide_eq_true_eq, Bool.not_true, Bool.not_false, Bool.false_eq_true, if_false, if_true, Bool.not_eq_true', decide_eq_false_iff_not, ilt_eq, ile_eq, reduceCtorEq, not_false_eq_true, not_true_eq_false]
    rw [h5 _ (lo_ok hH)]
    simp only [letH_mk, bindC_mk, bindV_mk, bindL_mk, bindH_mk, bindJ_mk, asB_mk, asI_mk, asS_mk, asP_mk, asSl_mk, asA_mk, asTu_mk, asSome_mk, unc_mk, endL_mk, selC_eq, condT_eq, sel_eq, letN_mk, letB_mk, case_nn, case_nr, case_ne, case_rn, case_rr, case_re, case_en, case_er, case_ee, iand_u64, ior_u64, ixor_u64, iandn_u64, inot_u64, ieq_u64_0, ieq_u64, decide_eq_true_eq, Bool.not_true, Bool.not_false, Bool.false_eq_true, if_false, if_true, Bool.not_eq_true', decide_eq_false_iff_not, ilt_eq, ile_eq, reduceCtorEq, not_false_eq_true, not_true_eq_false]
    rw [h6 _ (lo_ok hH)]
    simp only [letH_mk, bindC_mk, bindV_mk, bindL_mk, bindH_mk, bindJ_mk, asB_mk, asI_mk, asS_mk, asP_mk, asSl_mk, asA_mk, asTu_mk, asSome_mk, unc_mk, endL_mk, selC_eq, condT_eq, sel_eq, letN_mk, letB_mk, case_nn, case_nr, case_ne, case_rn, case_rr, case_re, case_en, case_er, case_ee, iand_u64, ior_u64, ixor_u64, iandn_u64, inot_u64, ieq_u64_0, ieq_u64, decide_eq_true_eq, Bool.not_true, Bool.not_false, Bool.false_eq_true, if_false, if_true, Bool.not_eq_true', decide_eq_false_iff_not, ilt_eq, ile_eq, reduceCtorEq, not_false_eq_true, not_true_eq_false]
    rw [h7 _ (lo_ok hH)]
    simp only [letH_mk, bindC_mk, bindV_mk, bindL_mk, bindH_mk, bindJ_mk, asB_mk, asI_mk, asS_mk, asP_mk, asSl_mk, asA_mk, asTu_mk, asSome_mk, unc_mk, endL_mk, selC_eq, condT_eq, sel_eq, letN_mk, letB_mk, case_nn, case_nr, case_ne, case_rn, case_rr, case_re, case_en, case_er, case_ee, iand_u64, ior_u64, ixor_u64, iandn_u64, inot_u64, ieq_u64_0, ieq_u64, decide_eq_true_eq, Bool.not_true, Bool.not_false, Bool.false_eq_true, if_false, if_true, Bool.not_eq_true', decide_eq_false_iff_not, ilt_eq, ile_eq, reduceCtorEq, not_false_eq_true, not_true_eq_false]
    rw [h8 _ (lo_ok hH)]
    simp only [letH_mk, bindC_mk, bindV_mk, bindL_mk, bindH_mk, bindJ_mk, asB_mk, asI_mk, asS_mk, asP_mk, asSl_mk, asA_mk, asTu_mk, asSome_mk, unc_mk, endL_mk, selC_eq, condT_eq, sel_eq, letN_mk, letB_mk, case_nn, case_nr, case_ne, case_rn, case_rr, case_re, case_en, case_er, case_ee, iand_u64, ior_u64, ixor_u64, iandn_u64, inot_u64, ieq_u64_0, ieq_u64, decide_eq_true_eq, Bool.not_true, Bool.not_false, Bool.false_eq_true, if_false, if_true, Bool.not_eq_true', decide_eq_false_iff_not, ilt_eq, ile_eq, reduceCtorEq, not_false_eq_true, not_true_eq_false]
    rw [h9 _ (lo_ok hH)]
    simp only [letH_mk, bindC_mk, bindV_mk, bindL_mk, bindH_mk, bindJ_mk, asB_mk, asI_mk, asS_mk, asP_mk, asSl_mk, asA_mk, asTu_mk, asSome_mk, unc_mk, endL_mk, selC_eq, condT_eq, sel_eq, letN_mk, letB_mk, case_nn, case_nr, case_ne, case_rn, case_rr, case_re, case_en, case_er, case_ee, iand_u64, ior_u64, ixor_u64, iandn_u64, inot_u64, ieq_u64_0, ieq_u64, decide_eq_true_eq, Bool.not_true, Bool.not_false, Bool.false_eq_true, if_false, if_true, Bool.not_eq_true', decide_eq_false_iff_not, ilt_eq, ile_eq, reduceCtorEq, not_false_eq_true, not_true_eq_false]
    rw [h10 _ (lo_ok hH)]
    simp only [letH_mk, bindC_mk, bindV_mk, bindL_mk, bindH_mk, bindJ_mk, asB_mk, asI_mk, asS_mk, asP_mk, asSl_mk, asA_mk, asTu_mk, asSome_mk, unc_mk, endL_mk, selC_eq, condT_eq, sel_eq, letN_mk, letB_mk, case_nn, case_nr, case_ne, case_rn, case_rr, case_re, case_en, case_er, case_ee, iand_u64, ior_u64, ixor_u64, iandn_u64, inot_u64, ieq_u64_0, ieq_u64, decide_eq_true_eq, Bool.not_true, Bool.not_false, Bool.false_eq_true, if_false, if_true, Bool.not_eq_true', decide_eq_false_iff_not, ilt_eq, ile_eq, reduceCtorEq, not_false_eq_true, not_true_eq_false]
    rw [h11 _ (lo_ok hH)]
    simp only [letH_mk, bindC_mk, bindV_mk, bindL_mk, bindH_mk, bindJ_mk, asB_mk, asI_mk, asS_mk, asP_mk, asSl_mk, asA_mk, asTu_mk, asSome_mk, unc_mk, endL_mk, selC_eq, condT_eq, sel_eq, letN_mk, letB_mk, case_nn, case_nr, case_ne, case_rn, case_rr, case_re, case_en, case_er, case_ee, iand_u64, ior_u64, ixor_u64, iandn_u64, inot_u64, ieq_u64_0, ieq_u64, decide_eq_true_eq, Bool.not_true, Bool.not_false, Bool.false_eq_true, if_false, if_true, Bool.not_eq_true', decide_eq_false_iff_not, ilt_eq, ile_eq, reduceCtorEq, not_false_eq_true, not_true_eq_false]
    rw [h12 _ (lo_ok hH)]
    simp only [letH_mk, bindC_mk, bindV_mk, bindL_mk, bindH_mk, bindJ_mk, asB_mk, asI_mk, asS_mk, asP_mk, asSl_mk, asA_mk, asTu_mk, asSome_mk, unc_mk, endL_mk, selC_eq, condT_eq, sel_eq, letN_mk, letB_mk, case_nn, case_nr, case_ne, case_rn, case_rr, case_re, case_en, case_er, case_ee, iand_u64, ior_u64, ixor_u64, iandn_u64, inot_u64, ieq_u64_0, ieq_u64, decide_eq_true_eq, Bool.not_true, Bool.not_false, Bool.false_eq_true, if_false, if_true, Bool.not_eq_true', decide_eq_false_iff_not, ilt_eq, ile_eq, reduceCtorEq, not_false_eq_true, not_true_eq_false]
    rw [h13 _ (lo_ok hH)]
    simp only [letH_mk, bindC_mk, bindV_mk, bindL_mk, bindH_mk, bindJ_mk, asB_mk, asI_mk, asS_mk, asP_mk, asSl_mk, asA_mk, asTu_mk, asSome_mk, unc_mk, endL_mk, selC_eq, condT_eq, sel_eq, letN_mk, letB_mk, case_nn, case_nr, case_ne, case_rn, case_rr, case_re, case_en, case_er, case_ee, iand_u64, ior_u64, ixor_u64, iandn_u64, inot_u64, ieq_u64_0, ieq_u64, decide_eq_true_eq, Bool.not_true, Bool.not_false, Bool.false_eq_true, if_false, if_true, Bool.not_eq_true', decide_eq_false_iff_not, ilt_eq, ile_eq, reduceCtorEq, not_false_eq_true, not_true_eq_false]
    rw [h14 _ (lo_ok hH)]
    simp only [letH_mk, bindC_mk, bindV_mk, bindL_mk, bindH_mk, bindJ_mk, asB_mk, asI_mk, asS_mk, asP_mk, asSl_mk, asA_mk, asTu_mk, asSome_mk, unc_mk, endL_mk, selC_eq, condT_eq, sel_eq, letN_mk, letB_mk, case_nn, case_nr, case_ne, case_rn, case_rr, case_re, case_en, case_er, case_ee, iand_u64, ior_u64, ixor_u64, iandn_u64, inot_u64, ieq_u64_0, ieq_u64, decide_eq_true_eq, Bool.not_true, Bool.not_false, Bool.false_eq_true, if_false, if_true, Bool.not_eq_true', decide_eq_false_iff_not, ilt_eq, ile_eq, reduceCtorEq, not_false_eq_true, not_true_eq_false]
    rw [h15 _ (lo_ok hH)]
    simp only [letH_mk, bindC_mk, bindV_mk, bindL_mk, bindH_mk, bindJ_mk, asB_mk, asI_mk, asS_mk, asP_mk, asSl_mk, asA_mk, asTu_mk, asSome_mk, unc_mk, endL_mk, selC_eq, condT_eq, sel_eq, letN_mk, letB_mk, case_nn, case_nr, case_ne, case_rn, case_rr, case_re, case_en, case_er, case_ee, iand_u64, ior_u64, ixor_u64, iandn_u64, inot_u64, ieq_u64_0, ieq_u64, decide_eq_true_eq, Bool.not_true, Bool.not_false, Bool.false_eq_true, if_false, if_true, Bool.not_eq_true', decide_eq_false_iff_not, ilt_eq, ile_eq, reduceCtorEq, not_false_eq_true, not_true_eq_false]
    rw [h16 _ (lo_ok hH)]
    simp only [letH_mk, bindC_mk, bindV_mk, bindL_mk, bindH_mk, bindJ_mk, asB_mk, asI_mk, asS_mk, asP_mk, asSl_mk, asA_mk, asTu_mk, asSome_mk, unc_mk, endL_mk, selC_eq, condT_eq, sel_eq, letN_mk, letB_mk, case_nn, case_nr, case_ne, case_rn, case_rr, case_re, case_en, case_er, case_ee, iand_u64, ior_u64, ixor_u64, iandn_u64, inot_u64, ieq_u64_0, ieq_u64, decide_eq_true_eq, Bool.not_true, Bool.not_false, Bool.false_eq_true, if_false, if_true, Bool.not_eq_true', decide_eq_false_iff_not, ilt_eq, ile_eq, reduceCtorEq, not_false_eq_true, not_true_eq_false]
    rw [h17 _ (lo_ok hH)]
    simp only [letH_mk, bindC_mk, bindV_mk, bindL_mk, bindH_mk, bindJ_mk, asB_mk, asI_mk, asS_mk, asP_mk, asSl_mk, asA_mk, asTu_mk, asSome_mk, unc_mk, endL_mk, selC_eq, condT_eq, sel_eq, letN_mk, letB_mk, case_nn, case_nr, case_ne, case_rn, case_rr, case_re, case_en, case_er, case_ee, iand_u64, ior_u64, ixor_u64, iandn_u64, inot_u64, ieq_u64_0, ieq_u64, decide_eq_true_eq, Bool.not_true, Bool.not_false, Bool.false_eq_true, if_false, if_true, Bool.not_eq_true', decide_eq_false_iff_not, ilt_eq, ile_eq, reduceCtorEq, not_false_eq_true, not_true_eq_false]
    rw [h18 _ (lo_ok hH)]
    simp only [letH_mk, bindC_mk, bindV_mk, bindL_mk, bindH_mk, bindJ_mk, asB_mk, asI_mk, asS_mk, asP_mk, asSl_mk, asA_mk, asTu_mk, asSome_mk, unc_mk, endL_mk, selC_eq, condT_eq, sel_eq, letN_mk, letB_mk, case_nn, case_nr, case_ne, case_rn, case_rr, case_re, case_en, case_er, case_ee, iand_u64, ior_u64, ixor_u64, iandn_u64, inot_u64, ieq_u64_0, ieq_u64, decide_eq_true_eq, Bool.not_true, Bool.not_false, Bool.false_eq_true, if_false, if_true, Bool.not_eq_true', decide_eq_false_iff_not, ilt_eq, ile_eq, reduceCtorEq, not_false_eq_true, not_true_eq_false]
    rw [h19 _ (lo_ok hH)]
    simp only [letH_mk, bindC_mk, bindV_mk, bindL_mk, bindH_mk, bindJ_mk, asB_mk, asI_mk, asS_mk, asP_mk, asSl_mk, asA_mk, asTu_mk, asSome_mk, unc_mk, endL_mk, selC_eq, condT_eq, sel_eq, letN_mk, letB_mk, case_nn, case_nr, case_ne, case_rn, case_rr, case_re, case_en, case_er, case_ee, iand_u64, ior_u64, ixor_u64, iandn_u64, inot_u64, ieq_u64_0, ieq_u64, decide_eq_true_eq, Bool.not_true, Bool.not_false, Bool.false_eq_true, if_false, if_true, Bool.not_eq_true', decide_eq_false_iff_not, ilt_eq, ile_eq, reduceCtorEq, not_false_eq_true, not_true_eq_false]
    rw [h20 _ (lo_ok hH)]
    simp only [letH_mk, bindC_mk, bindV_mk, bindL_mk, bindH_mk, bindJ_mk, asB_mk, asI_mk, asS_mk, asP_mk, asSl_mk, asA_mk, asTu_mk, asSome_mk, unc_mk, endL_mk, selC_eq, condT_eq, sel_eq, letN_mk, letB_mk, case_nn, case_nr, case_ne, case_rn, case_rr, case_re, case_en, case_er, case_ee, iand_u64, ior_u64, ixor_u64, iandn_u64, inot_u64, ieq_u64_0, ieq_u64, decide_eq_true_eq, Bool.not_true, Bool.not_false, Bool.false_eq_true, if_false, if_true, Bool.not_eq_true', decide_eq_false_iff_not, ilt_eq, ile_eq, reduceCtorEq, not_false_eq_true, not_true_eq_false]
    rw [h21 _ (lo_ok hH)]
    simp only [letH_mk, bindC_mk, bindV_mk, bindL_mk, bindH_mk, bindJ_mk, asB_mk, asI_mk, asS_mk, asP_mk, asSl_mk, asA_mk, asTu_mk, asSome_mk, unc_mk, endL_mk, selC_eq, condT_eq, sel_eq, letN_mk, letB_mk, case_nn, case_nr, case_ne, case_rn, case_rr, case_re, case_en, case_er, case_ee, iand_u64, ior_u64, ixor_u64, iandn_u64, inot_u64, ieq_u64_0, ieq_u64, decide_eq_true_eq, Bool.not_true, Bool.not_false, Bool.false_eq_true, if_false, if_true, Bool.not_eq_true', decide_eq_false_iff_not, ilt_eq, ile_eq, reduceCtorEq, not_false_eq_true, not_true_eq_false]
    rw [h22 _ (lo_ok hH)]
    simp only [letH_mk, bindC_mk, bindV_mk, bindL_mk, bindH_mk, bindJ_mk, asB_mk, asI_mk, asS_mk, asP_mk, asSl_mk, asA_mk, asTu_mk, asSome_mk, unc_mk, endL_mk, selC_eq, condT_eq, sel_eq, letN_mk, letB_mk, case_nn, case_nr, case_ne, case_rn, case_rr, case_re, case_en, case_er, case_ee, iand_u64, ior_u64, ixor_u64, iandn_u64, inot_u64, ieq_u64_0, ieq_u64, decide_eq_true_eq, Bool.not_true, Bool.not_false, Bool.false_eq_true, if_false, if_true, Bool.not_eq_true', decide_eq_false_iff_not, ilt_eq, ile_eq, reduceCtorEq, not_false_eq_true, not_true_eq_false]
    rw [leave_rest rfl]
    rfl
  · have := fresh_cells (lo_ok hH) (trip W V X 0 23) (0 + i * 3) 3 (by omega)
    rw [Nat.zero_add, trip_at W V X i 0 23 hi] at this
    rw [Nat.zero_add] at this ⊢
    exact this
theorem refined_loop (n : Nat) {W : Nat → Nat} {V X P : Nat → BitVec 64} (hA : ∀ i, i < 23 → Agree (V i) (X i) (P i)) {H : VH} {b d : Nat}
    (h1 : ∀ i, i < 23 → H.cells b (0 + i * 3) 3 = some [.int .i64 (W i : Int), .int .u64 (u64 (V i)), .int .u64 (u64 (X i))])
    (h2 : ∀ i, i < 23 → H.cells d (0 + i * 3) 3 = some [.int .i64 (W i : Int), .int .u64 (u64 (P i)), .int .u64 (u64 0#64)]) :
    ∀ (m i : Nat), i ≤ 23 → 23 - i < m → loopN (L10_0 (vcall T ext promo n) n (some (b, 0)) 23 (some (d, 0)) 23) m [.int .i64 (i : Int)] H = some (.exit 0, [], H) := by
  intro m
  induction m with
  | zero => intro i _ h; omega
  | succ m ih =>
    intro i hi hm
    rw [loopN_succ]
    generalize loopN (L10_0 (vcall T ext promo n) n (some (b, 0)) 23 (some (d, 0)) 23) m = lp at ih ⊢
    unfold L10_0
    simp only [letH_mk, bindC_mk, bindV_mk, bindL_mk, bindH_mk, bindJ_mk, asB_mk, asI_mk, asS_mk, asP_mk, asSl_mk, asA_mk, asTu_mk, asSome_mk, unc_mk, endL_mk, selC_eq, condT_eq, sel_eq, letN_mk, letB_mk, case_nn, case_nr, case_ne, case_rn, case_rr, case_re, case_en, case_er, case_ee, iand_u64, ior_u64, ixor_u64, iandn_u64, inot_u64, ieq_u64_0, ieq_u64, decide_eq_true_eq, Bool.not_true, Bool.not_false, Bool.false_eq_true, if_false, if_true, Bool.not_eq_true', decide_eq_false_iff_not, ilt_eq, ile_eq, reduceCtorEq, not_false_eq_true, not_true_eq_false, Bool.and_eq_true]
    by_cases h : i < 23
    · rw [if_pos (by omega), if_pos (by omega)]
      simp only [Int.toNat_natCast, h1 i h, letH_mk, bindC_mk, bindV_mk, bindL_mk, bindH_mk, bindJ_mk, asB_mk, asI_mk, asS_mk, asP_mk, asSl_mk, asA_mk, asTu_mk, asSome_mk, unc_mk, endL_mk, selC_eq, condT_eq, sel_eq, letN_mk, letB_mk, case_nn, case_nr, case_ne, case_rn, case_rr, case_re, case_en, case_er, case_ee, iand_u64, ior_u64, ixor_u64, iandn_u64, inot_u64, ieq_u64_0, ieq_u64, decide_eq_true_eq, Bool.not_true, Bool.not_false, Bool.false_eq_true, if_false, if_true, Bool.not_eq_true', decide_eq_false_iff_not, ilt_eq, ile_eq, reduceCtorEq, not_false_eq_true, not_true_eq_false, Bool.and_eq_true]
      rw [if_pos (by omega)]
      have ha : (V i ^^^ P i) &&& ~~~X i = 0#64 := hA i h
      have hz : 0#64 &&& ~~~X i = 0#64 := BitVec.zero_and
      simp only [h2 i h, letH_mk, bindC_mk, bindV_mk, bindL_mk, bindH_mk, bindJ_mk, asB_mk, asI_mk, asS_mk, asP_mk, asSl_mk, asA_mk, asTu_mk, asSome_mk, unc_mk, endL_mk, selC_eq, condT_eq, sel_eq, letN_mk, letB_mk, case_nn, case_nr, case_ne, case_rn, case_rr, case_re, case_en, case_er, case_ee, iand_u64, ior_u64, ixor_u64, iandn_u64, inot_u64, ieq_u64_0, ieq_u64, decide_eq_true_eq, Bool.not_true, Bool.not_false, Bool.false_eq_true, if_false, if_true, Bool.not_eq_true', decide_eq_false_iff_not, ilt_eq, ile_eq, reduceCtorEq, not_false_eq_true, not_true_eq_false, ieq_dec, hz, ha, decide_true, Bool.not_true, Int.reduceNeg]
      rw [fw_i64 (by omega) (by omega)]
      exact ih (i + 1) (by omega) (by omega)
    · rw [if_neg (by omega)]
end Go.Vm.Tryd
