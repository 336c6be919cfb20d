/- Parts of a vector: what is answered. -/
import Derived.Test.YtieocmaaloaoaaaDoorLa
namespace Go.Vm.Tryd
set_option linter.unusedSectionVars false
set_option linter.unusedSimpArgs false
set_option linter.unusedVariables false
set_option maxRecDepth 10000
theorem slice_ok (n : Nat) (hn : 40 ≤ n) {w : Nat} {v x : BitVec 64} (h : Vec w v x) (k w' : Nat) (h1 : 1 ≤ w') (h2 : k + w' ≤ w) {H : VH} (hH : H.Ok) :
    vcall T ext promo n 28 [bv w v x, .int .i64 (k : Int), .int .i64 (w' : Int)] H = some (bv w' (v >>> k &&& bmask w') (x >>> k &&& bmask w'), H) := by
  obtain ⟨n, rfl⟩ : ∃ m, n = m + 1 := ⟨n - 1, by omega⟩
  apply ok28
  unfold F28
  have h3 := h.le
  simp only [letH_mk]
  rw [valid1 n (by omega) (lo_ok hH) h]
  simp only [letH_mk, bindC_mk, bindV_mk, bindL_mk, bindH_mk, bindJ_mk, asB_mk, asI_mk, asS_mk, asP_mk, asSl_mk, asA_mk, asTu_mk, asSome_mk, unc_mk, endL_mk, selC_eq, condT_eq, sel_eq, letN_mk, letB_mk, case_nn, case_nr, case_ne, case_rn, case_rr, case_re, case_en, case_er, case_ee, iand_u64, ior_u64, ixor_u64, iandn_u64, inot_u64, ieq_u64_0, ieq_u64, decide_eq_true_eq, Bool.not_true, Bool.not_false, Bool.false_eq_true, if_false, if_true, Bool.not_eq_true', decide_eq_false_iff_not, ilt_eq, ile_eq, reduceCtorEq, not_false_eq_true, not_true_eq_false]
  rw [if_neg (by omega), if_neg (by omega), if_neg (by omega), fw_i64 (n := (w : Int) - (w' : Int)) (by omega) (by omega)]
  simp only [letH_mk, bindC_mk, bindV_mk, bindL_mk, bindH_mk, bindJ_mk, asB_mk, asI_mk, asS_mk, asP_mk, asSl_mk, asA_mk, asTu_mk, asSome_mk, unc_mk, endL_mk, selC_eq, condT_eq, sel_eq, letN_mk, letB_mk, case_nn, case_nr, case_ne, case_rn, case_rr, case_re, case_en, case_er, case_ee, iand_u64, ior_u64, ixor_u64, iandn_u64, inot_u64, ieq_u64_0, ieq_u64, decide_eq_true_eq, Bool.not_true, Bool.not_false, Bool.false_eq_true, if_false, if_true, Bool.not_eq_true', decide_eq_false_iff_not, ilt_eq, ile_eq, reduceCtorEq, not_false_eq_true, not_true_eq_false]
  rw [if_neg (by omega), shr_var]
  simp only [letH_mk, bindC_mk, bindV_mk, bindL_mk, bindH_mk, bindJ_mk, asB_mk, asI_mk, asS_mk, asP_mk, asSl_mk, asA_mk, asTu_mk, asSome_mk, unc_mk, endL_mk, selC_eq, condT_eq, sel_eq, letN_mk, letB_mk, case_nn, case_nr, case_ne, case_rn, case_rr, case_re, case_en, case_er, case_ee, iand_u64, ior_u64, ixor_u64, iandn_u64, inot_u64, ieq_u64_0, ieq_u64, decide_eq_true_eq, Bool.not_true, Bool.not_false, Bool.false_eq_true, if_false, if_true, Bool.not_eq_true', decide_eq_false_iff_not, ilt_eq, ile_eq, reduceCtorEq, not_false_eq_true, not_true_eq_false]
  rw [mask_ok n (by omega)]
  simp only [letH_mk, bindC_mk, bindV_mk, bindL_mk, bindH_mk, bindJ_mk, asB_mk, asI_mk, asS_mk, asP_mk, asSl_mk, asA_mk, asTu_mk, asSome_mk, unc_mk, endL_mk, selC_eq, condT_eq, sel_eq, letN_mk, letB_mk, case_nn, case_nr, case_ne, case_rn, case_rr, case_re, case_en, case_er, case_ee, iand_u64, ior_u64, ixor_u64, iandn_u64, inot_u64, ieq_u64_0, ieq_u64, decide_eq_true_eq, Bool.not_true, Bool.not_false, Bool.false_eq_true, if_false, if_true, Bool.not_eq_true', decide_eq_false_iff_not, ilt_eq, ile_eq, reduceCtorEq, not_false_eq_true, not_true_eq_false]
  rw [shr_var]
  simp only [letH_mk, bindC_mk, bindV_mk, bindL_mk, bindH_mk, bindJ_mk, asB_mk, asI_mk, asS_mk, asP_mk, asSl_mk, asA_mk, asTu_mk, asSome_mk, unc_mk, endL_mk, selC_eq, condT_eq, sel_eq, letN_mk, letB_mk, case_nn, case_nr, case_ne, case_rn, case_rr, case_re, case_en, case_er, case_ee, iand_u64, ior_u64, ixor_u64, iandn_u64, inot_u64, ieq_u64_0, ieq_u64, decide_eq_true_eq, Bool.not_true, Bool.not_false, Bool.false_eq_true, if_false, if_true, Bool.not_eq_true', decide_eq_false_iff_not, ilt_eq, ile_eq, reduceCtorEq, not_false_eq_true, not_true_eq_false]
  rw [mask_ok n (by omega)]
  simp only [letH_mk, bindC_mk, bindV_mk, bindL_mk, bindH_mk, bindJ_mk, asB_mk, asI_mk, asS_mk, asP_mk, asSl_mk, asA_mk, asTu_mk, asSome_mk, unc_mk, endL_mk, selC_eq, condT_eq, sel_eq, letN_mk, letB_mk, case_nn, case_nr, case_ne, case_rn, case_rr, case_re, case_en, case_er, case_ee, iand_u64, ior_u64, ixor_u64, iandn_u64, inot_u64, ieq_u64_0, ieq_u64, decide_eq_true_eq, Bool.not_true, Bool.not_false, Bool.false_eq_true, if_false, if_true, Bool.not_eq_true', decide_eq_false_iff_not, ilt_eq, ile_eq, reduceCtorEq, not_false_eq_true, not_true_eq_false]
  rw [leave_flat rfl rfl]
theorem slice_vec {w' : Nat} (h : 1 ≤ w' ∧ w' ≤ 64) (v x : BitVec 64) (k : Nat) : Vec w' (v >>> k &&& bmask w') (x >>> k &&& bmask w') := ⟨h.1, h.2, mask_out _ _, mask_out _ _⟩
theorem sint_shr {w : Nat} (hw : 1 ≤ w ∧ w ≤ 64) (v : BitVec 64) : varith .shr .i64 (v <<< (64 - w)).toInt .i64 ((64 - w : Nat) : Int) = some (.int .i64 (sint w v)) := by
  simp only [varith, ilt_eq, decide_eq_true_eq]
  rw [if_neg (by omega)]
  simp only [IntKind.bits, Int.toNat_natCast]
  rw [Nat.min_eq_left (by omega), ishr_eq]
  rfl
/-- A vector's bits, on and on. -/
def wide (w : Nat) (v : BitVec 64) (s : Bool) : BitVec 64 := if s = true then BitVec.ofInt 64 (sint w v) else v
theorem resize_ok (n : Nat) (hn : 40 ≤ n) {w w' : Nat} {v x : BitVec 64} (h : Vec w v x) (hw' : 1 ≤ w' ∧ w' ≤ 64) (s : Bool) {H : VH} (hH : H.Ok) :
    vcall T ext promo n 25 [bv w v x, .int .i64 (w' : Int), .bool s] H = some (bv w' (wide w v s &&& bmask w') (wide w x s &&& bmask w'), H) := by
  obtain ⟨n, rfl⟩ : ∃ m, n = m + 1 := ⟨n - 1, by omega⟩
  apply ok25
  unfold F25
  have h1 := h.pos
  have h2 := h.le
  simp only [letH_mk]
  rw [valid1 n (by omega) (lo_ok hH) h]
  simp only [letH_mk, bindC_mk, bindV_mk, bindL_mk, bindH_mk, bindJ_mk, asB_mk, asI_mk, asS_mk, asP_mk, asSl_mk, asA_mk, asTu_mk, asSome_mk, unc_mk, endL_mk, selC_eq, condT_eq, sel_eq, letN_mk, letB_mk, case_nn, case_nr, case_ne, case_rn, case_rr, case_re, case_en, case_er, case_ee, iand_u64, ior_u64, ixor_u64, iandn_u64, inot_u64, ieq_u64_0, ieq_u64, decide_eq_true_eq, Bool.not_true, Bool.not_false, Bool.false_eq_true, if_false, if_true, Bool.not_eq_true', decide_eq_false_iff_not, ilt_eq, ile_eq, reduceCtorEq, not_false_eq_true, not_true_eq_false]
  rw [if_neg (by omega)]
  simp only [letH_mk, bindC_mk, bindV_mk, bindL_mk, bindH_mk, bindJ_mk, asB_mk, asI_mk, asS_mk, asP_mk, asSl_mk, asA_mk, asTu_mk, asSome_mk, unc_mk, endL_mk, selC_eq, condT_eq, sel_eq, letN_mk, letB_mk, case_nn, case_nr, case_ne, case_rn, case_rr, case_re, case_en, case_er, case_ee, iand_u64, ior_u64, ixor_u64, iandn_u64, inot_u64, ieq_u64_0, ieq_u64, decide_eq_true_eq, Bool.not_true, Bool.not_false, Bool.false_eq_true, if_false, if_true, Bool.not_eq_true', decide_eq_false_iff_not, ilt_eq, ile_eq, reduceCtorEq, not_false_eq_true, not_true_eq_false]
  rw [if_neg (by omega)]
  cases s
  · simp only [letH_mk, bindC_mk, bindV_mk, bindL_mk, bindH_mk, bindJ_mk, asB_mk, asI_mk, asS_mk, asP_mk, asSl_mk, asA_mk, asTu_mk, asSome_mk, unc_mk, endL_mk, selC_eq, condT_eq, sel_eq, letN_mk, letB_mk, case_nn, case_nr, case_ne, case_rn, case_rr, case_re, case_en, case_er, case_ee, iand_u64, ior_u64, ixor_u64, iandn_u64, inot_u64, ieq_u64_0, ieq_u64, decide_eq_true_eq, Bool.not_true, Bool.not_false, Bool.false_eq_true, if_false, if_true, Bool.not_eq_true', decide_eq_false_iff_not, ilt_eq, ile_eq, reduceCtorEq, not_false_eq_true, not_true_eq_false]
    rw [mask_ok n (by omega)]
    simp only [letH_mk, bindC_mk, bindV_mk, bindL_mk, bindH_mk, bindJ_mk, asB_mk, asI_mk, asS_mk, asP_mk, asSl_mk, asA_mk, asTu_mk, asSome_mk, unc_mk, endL_mk, selC_eq, condT_eq, sel_eq, letN_mk, letB_mk, case_nn, case_nr, case_ne, case_rn, case_rr, case_re, case_en, case_er, case_ee, iand_u64, ior_u64, ixor_u64, iandn_u64, inot_u64, ieq_u64_0, ieq_u64, decide_eq_true_eq, Bool.not_true, Bool.not_false, Bool.false_eq_true, if_false, if_true, Bool.not_eq_true', decide_eq_false_iff_not, ilt_eq, ile_eq, reduceCtorEq, not_false_eq_true, not_true_eq_false]
    rw [mask_ok n (by omega)]
    simp only [letH_mk, bindC_mk, bindV_mk, bindL_mk, bindH_mk, bindJ_mk, asB_mk, asI_mk, asS_mk, asP_mk, asSl_mk, asA_mk, asTu_mk, asSome_mk, unc_mk, endL_mk, selC_eq, condT_eq, sel_eq, letN_mk, letB_mk, case_nn, case_nr, case_ne, case_rn, case_rr, case_re, case_en, case_er, case_ee, iand_u64, ior_u64, ixor_u64, iandn_u64, inot_u64, ieq_u64_0, ieq_u64, decide_eq_true_eq, Bool.not_true, Bool.not_false, Bool.false_eq_true, if_false, if_true, Bool.not_eq_true', decide_eq_false_iff_not, ilt_eq, ile_eq, reduceCtorEq, not_false_eq_true, not_true_eq_false]
    rw [leave_flat rfl rfl]
    rfl
  · have e : fwrap .i64 (64 - (w : Int)) = ((64 - w : Nat) : Int) := by rw [fw_i64 (by omega) (by omega)]; omega
    simp only [letH_mk, bindC_mk, bindV_mk, bindL_mk, bindH_mk, bindJ_mk, asB_mk, asI_mk, asS_mk, asP_mk, asSl_mk, asA_mk, asTu_mk, asSome_mk, unc_mk, endL_mk, selC_eq, condT_eq, sel_eq, letN_mk, letB_mk, case_nn, case_nr, case_ne, case_rn, case_rr, case_re, case_en, case_er, case_ee, iand_u64, ior_u64, ixor_u64, iandn_u64, inot_u64, ieq_u64_0, ieq_u64, decide_eq_true_eq, Bool.not_true, Bool.not_false, Bool.false_eq_true, if_false, if_true, Bool.not_eq_true', decide_eq_false_iff_not, ilt_eq, ile_eq, reduceCtorEq, not_false_eq_true, not_true_eq_false, e]
    rw [shl_var']
    simp only [letH_mk, bindC_mk, bindV_mk, bindL_mk, bindH_mk, bindJ_mk, asB_mk, asI_mk, asS_mk, asP_mk, asSl_mk, asA_mk, asTu_mk, asSome_mk, unc_mk, endL_mk, selC_eq, condT_eq, sel_eq, letN_mk, letB_mk, case_nn, case_nr, case_ne, case_rn, case_rr, case_re, case_en, case_er, case_ee, iand_u64, ior_u64, ixor_u64, iandn_u64, inot_u64, ieq_u64_0, ieq_u64, decide_eq_true_eq, Bool.not_true, Bool.not_false, Bool.false_eq_true, if_false, if_true, Bool.not_eq_true', decide_eq_false_iff_not, ilt_eq, ile_eq, reduceCtorEq, not_false_eq_true, not_true_eq_false]
    rw [fw_i64_u64, Nat.min_eq_left (by omega), sint_shr ⟨h1, h2⟩]
    simp only [letH_mk, bindC_mk, bindV_mk, bindL_mk, bindH_mk, bindJ_mk, asB_mk, asI_mk, asS_mk, asP_mk, asSl_mk, asA_mk, asTu_mk, asSome_mk, unc_mk, endL_mk, selC_eq, condT_eq, sel_eq, letN_mk, letB_mk, case_nn, case_nr, case_ne, case_rn, case_rr, case_re, case_en, case_er, case_ee, iand_u64, ior_u64, ixor_u64, iandn_u64, inot_u64, ieq_u64_0, ieq_u64, decide_eq_true_eq, Bool.not_true, Bool.not_false, Bool.false_eq_true, if_false, if_true, Bool.not_eq_true', decide_eq_false_iff_not, ilt_eq, ile_eq, reduceCtorEq, not_false_eq_true, not_true_eq_false]
    rw [shl_var']
    simp only [letH_mk, bindC_mk, bindV_mk, bindL_mk, bindH_mk, bindJ_mk, asB_mk, asI_mk, asS_mk, asP_mk, asSl_mk, asA_mk, asTu_mk, asSome_mk, unc_mk, endL_mk, selC_eq, condT_eq, sel_eq, letN_mk, letB_mk, case_nn, case_nr, case_ne, case_rn, case_rr, case_re, case_en, case_er, case_ee, iand_u64, ior_u64, ixor_u64, iandn_u64, inot_u64, ieq_u64_0, ieq_u64, decide_eq_true_eq, Bool.not_true, Bool.not_false, Bool.false_eq_true, if_false, if_true, Bool.not_eq_true', decide_eq_false_iff_not, ilt_eq, ile_eq, reduceCtorEq, not_false_eq_true, not_true_eq_false]
    rw [fw_i64_u64, Nat.min_eq_left (by omega), sint_shr ⟨h1, h2⟩]
    simp only [letH_mk, bindC_mk, bindV_mk, bindL_mk, bindH_mk, bindJ_mk, asB_mk, asI_mk, asS_mk, asP_mk, asSl_mk, asA_mk, asTu_mk, asSome_mk, unc_mk, endL_mk, selC_eq, condT_eq, sel_eq, letN_mk, letB_mk, case_nn, case_nr, case_ne, case_rn, case_rr, case_re, case_en, case_er, case_ee, iand_u64, ior_u64, ixor_u64, iandn_u64, inot_u64, ieq_u64_0, ieq_u64, decide_eq_true_eq, Bool.not_true, Bool.not_false, Bool.false_eq_true, if_false, if_true, Bool.not_eq_true', decide_eq_false_iff_not, ilt_eq, ile_eq, reduceCtorEq, not_false_eq_true, not_true_eq_false]
    rw [fw_u64n, fw_u64n, mask_ok n (by omega)]
    simp only [letH_mk, bindC_mk, bindV_mk, bindL_mk, bindH_mk, bindJ_mk, asB_mk, asI_mk, asS_mk, asP_mk, asSl_mk, asA_mk, asTu_mk, asSome_mk, unc_mk, endL_mk, selC_eq, condT_eq, sel_eq, letN_mk, letB_mk, case_nn, case_nr, case_ne, case_rn, case_rr, case_re, case_en, case_er, case_ee, iand_u64, ior_u64, ixor_u64, iandn_u64, inot_u64, ieq_u64_0, ieq_u64, decide_eq_true_eq, Bool.not_true, Bool.not_false, Bool.false_eq_true, if_false, if_true, Bool.not_eq_true', decide_eq_false_iff_not, ilt_eq, ile_eq, reduceCtorEq, not_false_eq_true, not_true_eq_false]
    rw [mask_ok n (by omega)]
    simp only [letH_mk, bindC_mk, bindV_mk, bindL_mk, bindH_mk, bindJ_mk, asB_mk, asI_mk, asS_mk, asP_mk, asSl_mk, asA_mk, asTu_mk, asSome_mk, unc_mk, endL_mk, selC_eq, condT_eq, sel_eq, letN_mk, letB_mk, case_nn, case_nr, case_ne, case_rn, case_rr, case_re, case_en, case_er, case_ee, iand_u64, ior_u64, ixor_u64, iandn_u64, inot_u64, ieq_u64_0, ieq_u64, decide_eq_true_eq, Bool.not_true, Bool.not_false, Bool.false_eq_true, if_false, if_true, Bool.not_eq_true', decide_eq_false_iff_not, ilt_eq, ile_eq, reduceCtorEq, not_false_eq_true, not_true_eq_false]
    rw [leave_flat rfl rfl]
    rfl
theorem and_mask {w : Nat} {v : BitVec 64} (h : ∀ i, w ≤ i → v.getLsbD i = false) : v &&& bmask w = v := by
  apply BitVec.eq_of_getLsbD_eq
  intro i hi
  simp only [BitVec.getLsbD_and, bmask_bit, hi, decide_true, Bool.true_and]
  rcases Nat.lt_or_ge i w with hw | hw
  · simp [hw]
  · simp [h i hw]
theorem wide_same {w : Nat} (hw : 1 ≤ w ∧ w ≤ 64) {v : BitVec 64} (h : ∀ i, w ≤ i → v.getLsbD i = false) (s : Bool) : wide w v s &&& bmask w = v := by
  cases s
  · exact and_mask h
  · apply BitVec.eq_of_toNat_eq
    have h1 := ofInt_nat hw.2 (sint w v)
    rw [sint_mod hw h (sint_or hw h), Int.emod_eq_of_lt (by omega) (by have := nat_lt h; omega)] at h1
    exact Int.ofNat.inj h1
theorem cat_step (n m : Nat) (hn : 40 ≤ n) {H : VH} (hH : H.Ok) (b o k i : Nat) (hi : i < k) (hk : k < 1000) {w : Nat} {v x : BitVec 64} (h : Vec w v x)
    (hc : H.cells b (o + i * 3) 3 = some [.int .i64 (w : Int), .int .u64 (u64 v), .int .u64 (u64 x)]) (w0 : Nat) (v0 x0 : BitVec 64) (hw : w0 + w ≤ 64) :
    loopN (L27_0 (vcall T ext promo n) n (some (b, o)) k) (m + 1) [.int .i64 (i : Int), .agg [.int .i64 0, .int .u64 0, .int .u64 0], bv w0 v0 x0] H =
      loopN (L27_0 (vcall T ext promo n) n (some (b, o)) k) m [.int .i64 ((i + 1 : Nat) : Int), .agg [.int .i64 0, .int .u64 0, .int .u64 0], bv (w0 + w) (v0 <<< w ||| v) (x0 <<< w ||| x)] (H.fresh [.int .i64 (w : Int), .int .u64 (u64 v), .int .u64 (u64 x)]) := by
  rw [loopN_succ]
  generalize loopN (L27_0 (vcall T ext promo n) n (some (b, o)) k) m = lp
  unfold L27_0
  have h2 := h.le
  simp only [letH_mk, bindC_mk, bindV_mk, bindL_mk, bindH_mk, bindJ_mk, asB_mk, asI_mk, asS_mk, asP_mk, asSl_mk, asA_mk, asTu_mk, asSome_mk, unc_mk, endL_mk, selC_eq, condT_eq, sel_eq, letN_mk, letB_mk, case_nn, case_nr, case_ne, case_rn, case_rr, case_re, case_en, case_er, case_ee, iand_u64, ior_u64, ixor_u64, iandn_u64, inot_u64, ieq_u64_0, ieq_u64, decide_eq_true_eq, Bool.not_true, Bool.not_false, Bool.false_eq_true, if_false, if_true, Bool.not_eq_true', decide_eq_false_iff_not, ilt_eq, ile_eq, reduceCtorEq, not_false_eq_true, not_true_eq_false, Bool.and_eq_true]
  rw [if_pos (by omega), if_pos (by omega), Int.toNat_natCast, hc]
  simp only [letH_mk, bindC_mk, bindV_mk, bindL_mk, bindH_mk, bindJ_mk, asB_mk, asI_mk, asS_mk, asP_mk, asSl_mk, asA_mk, asTu_mk, asSome_mk, unc_mk, endL_mk, selC_eq, condT_eq, sel_eq, letN_mk, letB_mk, case_nn, case_nr, case_ne, case_rn, case_rr, case_re, case_en, case_er, case_ee, iand_u64, ior_u64, ixor_u64, iandn_u64, inot_u64, ieq_u64_0, ieq_u64, decide_eq_true_eq, Bool.not_true, Bool.not_false, Bool.false_eq_true, if_false, if_true, Bool.not_eq_true', decide_eq_false_iff_not, ilt_eq, ile_eq, reduceCtorEq, not_false_eq_true, not_true_eq_false]
  rw [valid1 n (by omega) hH h]
  simp only [letH_mk, bindC_mk, bindV_mk, bindL_mk, bindH_mk, bindJ_mk, asB_mk, asI_mk, asS_mk, asP_mk, asSl_mk, asA_mk, asTu_mk, asSome_mk, unc_mk, endL_mk, selC_eq, condT_eq, sel_eq, letN_mk, letB_mk, case_nn, case_nr, case_ne, case_rn, case_rr, case_re, case_en, case_er, case_ee, iand_u64, ior_u64, ixor_u64, iandn_u64, inot_u64, ieq_u64_0, ieq_u64, decide_eq_true_eq, Bool.not_true, Bool.not_false, Bool.false_eq_true, if_false, if_true, Bool.not_eq_true', decide_eq_false_iff_not, ilt_eq, ile_eq, reduceCtorEq, not_false_eq_true, not_true_eq_false]
  have e1 : fwrap .i64 ((w0 : Int) + (w : Int)) = ((w0 + w : Nat) : Int) := by rw [fw_i64 (by omega) (by omega)]; rfl
  have e2 : fwrap .i64 ((i : Int) + 1) = ((i + 1 : Nat) : Int) := by rw [fw_i64 (by omega) (by omega)]; rfl
  simp only [e1, e2]
  rw [if_neg (by omega), shl_var', Nat.min_eq_left h2]
  simp only [letH_mk, bindC_mk, bindV_mk, bindL_mk, bindH_mk, bindJ_mk, asB_mk, asI_mk, asS_mk, asP_mk, asSl_mk, asA_mk, asTu_mk, asSome_mk, unc_mk, endL_mk, selC_eq, condT_eq, sel_eq, letN_mk, letB_mk, case_nn, case_nr, case_ne, case_rn, case_rr, case_re, case_en, case_er, case_ee, iand_u64, ior_u64, ixor_u64, iandn_u64, inot_u64, ieq_u64_0, ieq_u64, decide_eq_true_eq, Bool.not_true, Bool.not_false, Bool.false_eq_true, if_false, if_true, Bool.not_eq_true', decide_eq_false_iff_not, ilt_eq, ile_eq, reduceCtorEq, not_false_eq_true, not_true_eq_false]
  rw [shl_var', Nat.min_eq_left h2]
  simp only [letH_mk, bindC_mk, bindV_mk, bindL_mk, bindH_mk, bindJ_mk, asB_mk, asI_mk, asS_mk, asP_mk, asSl_mk, asA_mk, asTu_mk, asSome_mk, unc_mk, endL_mk, selC_eq, condT_eq, sel_eq, letN_mk, letB_mk, case_nn, case_nr, case_ne, case_rn, case_rr, case_re, case_en, case_er, case_ee, iand_u64, ior_u64, ixor_u64, iandn_u64, inot_u64, ieq_u64_0, ieq_u64, decide_eq_true_eq, Bool.not_true, Bool.not_false, Bool.false_eq_true, if_false, if_true, Bool.not_eq_true', decide_eq_false_iff_not, ilt_eq, ile_eq, reduceCtorEq, not_false_eq_true, not_true_eq_false]
theorem cat_end (n m : Nat) {H : VH} (a : Option (Nat × Nat)) (k : Nat) (w : Nat) (v x : BitVec 64) :
    loopN (L27_0 (vcall T ext promo n) n a k) (m + 1) [.int .i64 (k : Int), .agg [.int .i64 0, .int .u64 0, .int .u64 0], bv w v x] H = some (.exit 0, [.agg [.int .i64 0, .int .u64 0, .int .u64 0], bv w v x], H) := by
  rw [loopN_succ]
  generalize loopN (L27_0 (vcall T ext promo n) n a k) m = lp
  unfold L27_0
  simp only [letH_mk, bindC_mk, bindV_mk, bindL_mk, bindH_mk, bindJ_mk, asB_mk, asI_mk, asS_mk, asP_mk, asSl_mk, asA_mk, asTu_mk, asSome_mk, unc_mk, endL_mk, selC_eq, condT_eq, sel_eq, letN_mk, letB_mk, case_nn, case_nr, case_ne, case_rn, case_rr, case_re, case_en, case_er, case_ee, iand_u64, ior_u64, ixor_u64, iandn_u64, inot_u64, ieq_u64_0, ieq_u64, decide_eq_true_eq, Bool.not_true, Bool.not_false, Bool.false_eq_true, if_false, if_true, Bool.not_eq_true', decide_eq_false_iff_not, ilt_eq, ile_eq, reduceCtorEq, not_false_eq_true, not_true_eq_false]
  rw [if_neg (by omega)]
theorem cat1_ok (n : Nat) (hn : 50 ≤ n) {H : VH} (hH : H.Ok) (b o : Nat) (c : Option Nat) (e : Nat) {w : Nat} {v x : BitVec 64} (h : Vec w v x)
    (hc : H.cells b o 3 = some [.int .i64 (w : Int), .int .u64 (u64 v), .int .u64 (u64 x)]) :
    vcall T ext promo n 27 [.slice (some (b, o)) 1 c e] H = some (bv w v x, H) := by
  obtain ⟨n, rfl⟩ : ∃ m, n = m + 3 := ⟨n - 3, by omega⟩
  apply ok27
  unfold F27
  have s1 := cat_step (n + 2) (n + 1) (by omega) (lo_ok hH) b o 1 0 (by omega) (by omega) h (by rw [lo_cells]; simpa using hc) 0 0#64 0#64 (by have := h.le; omega)
  have s2 := cat_end (n + 2) n (H := H.lo.fresh [.int .i64 (w : Int), .int .u64 (u64 v), .int .u64 (u64 x)]) (some (b, o)) 1 (0 + w) (0#64 <<< w ||| v) (0#64 <<< w ||| x)
  rw [show bv 0 0#64 0#64 = AV.agg [.int .i64 0, .int .u64 0, .int .u64 0] from rfl, show (((0 : Nat) : Int)) = 0 from rfl] at s1
  simp only [letH_mk]
  rw [s1, s2]
  simp only [letH_mk, bindC_mk, bindV_mk, bindL_mk, bindH_mk, bindJ_mk, asB_mk, asI_mk, asS_mk, asP_mk, asSl_mk, asA_mk, asTu_mk, asSome_mk, unc_mk, endL_mk, selC_eq, condT_eq, sel_eq, letN_mk, letB_mk, case_nn, case_nr, case_ne, case_rn, case_rr, case_re, case_en, case_er, case_ee, iand_u64, ior_u64, ixor_u64, iandn_u64, inot_u64, ieq_u64_0, ieq_u64, decide_eq_true_eq, Bool.not_true, Bool.not_false, Bool.false_eq_true, if_false, if_true, Bool.not_eq_true', decide_eq_false_iff_not, ilt_eq, ile_eq, reduceCtorEq, not_false_eq_true, not_true_eq_false]
  rw [leave_flat rfl rfl, Nat.zero_add, BitVec.zero_shiftLeft, BitVec.zero_or, BitVec.zero_or]
theorem cat2_ok (n : Nat) (hn : 50 ≤ n) {H : VH} (hH : H.Ok) (b o : Nat) (c : Option Nat) (e : Nat) (hb : b < H.next) {w w' : Nat} {v x v' x' : BitVec 64} (h : Vec w v x) (h' : Vec w' v' x') (hw : w + w' ≤ 64)
    (hc : H.cells b o 3 = some [.int .i64 (w : Int), .int .u64 (u64 v), .int .u64 (u64 x)]) (hc' : H.cells b (o + 3) 3 = some [.int .i64 (w' : Int), .int .u64 (u64 v'), .int .u64 (u64 x')]) :
    vcall T ext promo n 27 [.slice (some (b, o)) 2 c e] H = some (bv (w + w') (v <<< w' ||| v') (x <<< w' ||| x'), H) := by
  obtain ⟨n, rfl⟩ : ∃ m, n = m + 4 := ⟨n - 4, by omega⟩
  apply ok27
  unfold F27
  have s1 := cat_step (n + 3) (n + 2) (by omega) (lo_ok hH) b o 2 0 (by omega) (by omega) h (by rw [lo_cells]; simpa using hc) 0 0#64 0#64 (by have := h.le; omega)
  have k1 : (H.lo.fresh [.int .i64 (w : Int), .int .u64 (u64 v), .int .u64 (u64 x)]).cells b (o + 1 * 3) 3 = some [.int .i64 (w' : Int), .int .u64 (u64 v'), .int .u64 (u64 x')] := by
    rw [keep_cells (Keep.fresh (fun _ => False) H.lo _) (lo_ok hH) hb (fun e => e), lo_cells]
    exact hc'
  have s2 := cat_step (n + 3) (n + 1) (by omega) (fresh_ok (lo_ok hH) _) b o 2 1 (by omega) (by omega) h' k1 (0 + w) (0#64 <<< w ||| v) (0#64 <<< w ||| x) (by omega)
  have s3 := cat_end (n + 3) n (H := (H.lo.fresh [.int .i64 (w : Int), .int .u64 (u64 v), .int .u64 (u64 x)]).fresh [.int .i64 (w' : Int), .int .u64 (u64 v'), .int .u64 (u64 x')]) (some (b, o)) 2 (0 + w + w') ((0#64 <<< w ||| v) <<< w' ||| v') ((0#64 <<< w ||| x) <<< w' ||| x')
  rw [show bv 0 0#64 0#64 = AV.agg [.int .i64 0, .int .u64 0, .int .u64 0] from rfl, show (((0 : Nat) : Int)) = 0 from rfl] at s1
  simp only [letH_mk]
  rw [s1, s2, s3]
  simp only [letH_mk, bindC_mk, bindV_mk, bindL_mk, bindH_mk, bindJ_mk, asB_mk, asI_mk, asS_mk, asP_mk, asSl_mk, asA_mk, asTu_mk, asSome_mk, unc_mk, endL_mk, selC_eq, condT_eq, sel_eq, letN_mk, letB_mk, case_nn, case_nr, case_ne, case_rn, case_rr, case_re, case_en, case_er, case_ee, iand_u64, ior_u64, ixor_u64, iandn_u64, inot_u64, ieq_u64_0, ieq_u64, decide_eq_true_eq, Bool.not_true, Bool.not_false, Bool.false_eq_true, if_false, if_true, Bool.not_eq_true', decide_eq_false_iff_not, ilt_eq, ile_eq, reduceCtorEq, not_false_eq_true, not_true_eq_false]
  rw [leave_flat rfl rfl, Nat.zero_add, BitVec.zero_shiftLeft, BitVec.zero_or, BitVec.zero_or]
theorem und47 : T.und 47 = some (.slice 36) := by kernel_rfl
theorem listy47 : listy T 47 = true := by kernel_rfl
theorem info36 : (T.info 36).map (fun i => (i.size, Nat.ble ((0 + 1) * i.bytes) 140737488355328)) = some (3, true) := by kernel_rfl
theorem zero36 : zeroFits T 36 3 = true := by kernel_rfl
theorem vb_append (T : Tb) (H : VH) (ts : List Nat) (v x : AV) : vbuiltin T H .append ts [v, x] = vappend T H ts v x := rfl
theorem app36 {H : VH} {b o : Nat} {c : Option Nat} {e : Nat} {x y z : AV} (hc : H.cells b o 3 = some [x, y, z]) (ho : allOne [x, y, z] = true) :
    vbuiltin T H .append [47, 47] [.slice none 0 (some 0) 0, .slice (some (b, o)) 1 c e] = some (.slice (some (H.next, 0)) 1 none 3, H.fresh [x, y, z]) := by
  rw [vb_append]
  have hi := info36
  cases hq : T.info 36 with
  | none => rw [hq] at hi; cases hi
  | some i =>
    rw [hq] at hi
    have h1 : i.size = 3 := (Prod.mk.inj (Option.some.inj hi)).1
    have h2 : Nat.ble ((0 + 1) * i.bytes) 140737488355328 = true := (Prod.mk.inj (Option.some.inj hi)).2
    unfold vappend
    simp only [und47, listy47, hq, vlenOf, h1, h2, zero36, vsource, hc, ho, appendTo, Nat.one_mul]
    rfl
theorem rep_end (n m : Nat) {H : VH} (w : Int) (y z : Int) (a : Option (Nat × Nat)) (k : Nat) (c : Option Nat) (e : Nat) :
    loopN (L24_0 (vcall T ext promo n) n w 1 y z) (m + 1) [.slice a k c e, .int .i64 1] H = some (.exit 0, [.slice a k c e], H) := by
  rw [loopN_succ]
  generalize loopN (L24_0 (vcall T ext promo n) n w 1 y z) m = lp
  unfold L24_0
  simp only [letH_mk, bindC_mk, bindV_mk, bindL_mk, bindH_mk, bindJ_mk, asB_mk, asI_mk, asS_mk, asP_mk, asSl_mk, asA_mk, asTu_mk, asSome_mk, unc_mk, endL_mk, selC_eq, condT_eq, sel_eq, letN_mk, letB_mk, case_nn, case_nr, case_ne, case_rn, case_rr, case_re, case_en, case_er, case_ee, iand_u64, ior_u64, ixor_u64, iandn_u64, inot_u64, ieq_u64_0, ieq_u64, decide_eq_true_eq, Bool.not_true, Bool.not_false, Bool.false_eq_true, if_false, if_true, Bool.not_eq_true', decide_eq_false_iff_not, ilt_eq, ile_eq, reduceCtorEq, not_false_eq_true, not_true_eq_false]
  rw [if_neg (by omega)]
theorem rep_step (n m : Nat) {H : VH} (hH : H.Ok) (w : Nat) (v x : BitVec 64) :
    loopN (L24_0 (vcall T ext promo n) n (w : Int) 1 (u64 v) (u64 x)) (m + 1) [.slice none 0 (some 0) 0, .int .i64 0] H =
      loopN (L24_0 (vcall T ext promo n) n (w : Int) 1 (u64 v) (u64 x)) m [.slice (some (H.next + 1, 0)) 1 none 3, .int .i64 1] ((H.fresh [.int .i64 (w : Int), .int .u64 (u64 v), .int .u64 (u64 x)]).fresh [.int .i64 (w : Int), .int .u64 (u64 v), .int .u64 (u64 x)]) := by
  rw [loopN_succ]
  generalize loopN (L24_0 (vcall T ext promo n) n (w : Int) 1 (u64 v) (u64 x)) m = lp
  unfold L24_0
  simp only [letH_mk, bindC_mk, bindV_mk, bindL_mk, bindH_mk, bindJ_mk, asB_mk, asI_mk, asS_mk, asP_mk, asSl_mk, asA_mk, asTu_mk, asSome_mk, unc_mk, endL_mk, selC_eq, condT_eq, sel_eq, letN_mk, letB_mk, case_nn, case_nr, case_ne, case_rn, case_rr, case_re, case_en, case_er, case_ee, iand_u64, ior_u64, ixor_u64, iandn_u64, inot_u64, ieq_u64_0, ieq_u64, decide_eq_true_eq, Bool.not_true, Bool.not_false, Bool.false_eq_true, if_false, if_true, Bool.not_eq_true', decide_eq_false_iff_not, ilt_eq, ile_eq, reduceCtorEq, not_false_eq_true, not_true_eq_false]
  rw [if_pos (by omega), app36 (x := .int .i64 (w : Int)) (y := .int .u64 (u64 v)) (z := .int .u64 (u64 x)) (fresh_cells hH _ 0 3 (by simp)) rfl]
  simp only [letH_mk, bindC_mk, bindV_mk, bindL_mk, bindH_mk, bindJ_mk, asB_mk, asI_mk, asS_mk, asP_mk, asSl_mk, asA_mk, asTu_mk, asSome_mk, unc_mk, endL_mk, selC_eq, condT_eq, sel_eq, letN_mk, letB_mk, case_nn, case_nr, case_ne, case_rn, case_rr, case_re, case_en, case_er, case_ee, iand_u64, ior_u64, ixor_u64, iandn_u64, inot_u64, ieq_u64_0, ieq_u64, decide_eq_true_eq, Bool.not_true, Bool.not_false, Bool.false_eq_true, if_false, if_true, Bool.not_eq_true', decide_eq_false_iff_not, ilt_eq, ile_eq, reduceCtorEq, not_false_eq_true, not_true_eq_false]
  rfl
theorem rep1_ok (n : Nat) (hn : 60 ≤ n) {w : Nat} {v x : BitVec 64} (h : Vec w v x) {H : VH} (hH : H.Ok) :
    vcall T ext promo n 24 [bv w v x, .int .i64 1] H = some (bv w v x, H) := by
  obtain ⟨n, rfl⟩ : ∃ m, n = m + 3 := ⟨n - 3, by omega⟩
  apply ok24
  unfold F24
  have h1 := h.pos
  have h2 := h.le
  have q1 : fwrap .i64 ((64 : Int).tdiv (w : Int)) = ((64 / w : Nat) : Int) := by
    have a1 := Nat.div_le_self 64 w
    rw [show (64 : Int).tdiv (w : Int) = ((64 / w : Nat) : Int) from rfl]
    exact fw_i64 (Int.le_trans (by decide) (Int.natCast_nonneg (64 / w))) (Int.lt_of_le_of_lt (Int.ofNat_le.2 a1) (by decide))
  have q2 : 0 < 64 / w := Nat.div_pos h2 (by omega)
  have o1 := fresh_ok (lo_ok hH) [.int .i64 (w : Int), .int .u64 (u64 v), .int .u64 (u64 x)]
  have s1 := rep_step (n + 2) (n + 1) o1 w v x
  have s2 := rep_end (n + 2) n (H := ((H.lo.fresh [.int .i64 (w : Int), .int .u64 (u64 v), .int .u64 (u64 x)]).fresh [.int .i64 (w : Int), .int .u64 (u64 v), .int .u64 (u64 x)]).fresh [.int .i64 (w : Int), .int .u64 (u64 v), .int .u64 (u64 x)]) (w : Int) (u64 v) (u64 x) (some (H.next + 1 + 1, 0)) 1 none 3
  have o2 := fresh_ok (fresh_ok o1 [.int .i64 (w : Int), .int .u64 (u64 v), .int .u64 (u64 x)]) [.int .i64 (w : Int), .int .u64 (u64 v), .int .u64 (u64 x)]
  have s3 := cat1_ok (n + 2) (by omega) o2 (H.next + 1 + 1) 0 none 3 h (fresh_cells (fresh_ok o1 [.int .i64 (w : Int), .int .u64 (u64 v), .int .u64 (u64 x)]) [.int .i64 (w : Int), .int .u64 (u64 v), .int .u64 (u64 x)] 0 3 (by simp))
  simp only [letH_mk]
  rw [valid1 (n + 2) (by omega) (lo_ok hH) h]
  simp only [letH_mk, bindC_mk, bindV_mk, bindL_mk, bindH_mk, bindJ_mk, asB_mk, asI_mk, asS_mk, asP_mk, asSl_mk, asA_mk, asTu_mk, asSome_mk, unc_mk, endL_mk, selC_eq, condT_eq, sel_eq, letN_mk, letB_mk, case_nn, case_nr, case_ne, case_rn, case_rr, case_re, case_en, case_er, case_ee, iand_u64, ior_u64, ixor_u64, iandn_u64, inot_u64, ieq_u64_0, ieq_u64, decide_eq_true_eq, Bool.not_true, Bool.not_false, Bool.false_eq_true, if_false, if_true, Bool.not_eq_true', decide_eq_false_iff_not, ilt_eq, ile_eq, reduceCtorEq, not_false_eq_true, not_true_eq_false]
  rw [if_neg (by omega), quo_i64 64 (w : Int) (by omega), q1]
  simp only [letH_mk, bindC_mk, bindV_mk, bindL_mk, bindH_mk, bindJ_mk, asB_mk, asI_mk, asS_mk, asP_mk, asSl_mk, asA_mk, asTu_mk, asSome_mk, unc_mk, endL_mk, selC_eq, condT_eq, sel_eq, letN_mk, letB_mk, case_nn, case_nr, case_ne, case_rn, case_rr, case_re, case_en, case_er, case_ee, iand_u64, ior_u64, ixor_u64, iandn_u64, inot_u64, ieq_u64_0, ieq_u64, decide_eq_true_eq, Bool.not_true, Bool.not_false, Bool.false_eq_true, if_false, if_true, Bool.not_eq_true', decide_eq_false_iff_not, ilt_eq, ile_eq, reduceCtorEq, not_false_eq_true, not_true_eq_false]
  rw [if_neg (by omega), s1]
  rw [show ((H.lo.fresh [.int .i64 (w : Int), .int .u64 (u64 v), .int .u64 (u64 x)]).next + 1) = H.next + 1 + 1 from rfl, s2]
  simp only [letH_mk, bindC_mk, bindV_mk, bindL_mk, bindH_mk, bindJ_mk, asB_mk, asI_mk, asS_mk, asP_mk, asSl_mk, asA_mk, asTu_mk, asSome_mk, unc_mk, endL_mk, selC_eq, condT_eq, sel_eq, letN_mk, letB_mk, case_nn, case_nr, case_ne, case_rn, case_rr, case_re, case_en, case_er, case_ee, iand_u64, ior_u64, ixor_u64, iandn_u64, inot_u64, ieq_u64_0, ieq_u64, decide_eq_true_eq, Bool.not_true, Bool.not_false, Bool.false_eq_true, if_false, if_true, Bool.not_eq_true', decide_eq_false_iff_not, ilt_eq, ile_eq, reduceCtorEq, not_false_eq_true, not_true_eq_false]
  rw [s3]
  simp only [letH_mk, bindC_mk, bindV_mk, bindL_mk, bindH_mk, bindJ_mk, asB_mk, asI_mk, asS_mk, asP_mk, asSl_mk, asA_mk, asTu_mk, asSome_mk, unc_mk, endL_mk, selC_eq, condT_eq, sel_eq, letN_mk, letB_mk, case_nn, case_nr, case_ne, case_rn, case_rr, case_re, case_en, case_er, case_ee, iand_u64, ior_u64, ixor_u64, iandn_u64, inot_u64, ieq_u64_0, ieq_u64, decide_eq_true_eq, Bool.not_true, Bool.not_false, Bool.false_eq_true, if_false, if_true, Bool.not_eq_true', decide_eq_false_iff_not, ilt_eq, ile_eq, reduceCtorEq, not_false_eq_true, not_true_eq_false]
  rw [leave_flat rfl rfl]
/-- A window's first i bits are read, the others are not known. -/
def win (w' k i : Nat) (v : BitVec 64) : BitVec 64 := (v >>> k &&& bmask i) ||| (bmask w' &&& ~~~bmask i)
theorem win_bit (w' k i : Nat) (v : BitVec 64) (j : Nat) (hj : j < 64) : (win w' k i v).getLsbD j = (if j < i then v.getLsbD (k + j) else decide (j < w')) := by
  unfold win
  simp only [BitVec.getLsbD_or, BitVec.getLsbD_and, BitVec.getLsbD_not, BitVec.getLsbD_ushiftRight, bmask_bit, hj, decide_true, Bool.true_and]
  by_cases h : j < i
  · simp [h]
  · simp [h]
theorem win_out {w' k i : Nat} (hi : i ≤ w') (v : BitVec 64) : ∀ j, w' ≤ j → (win w' k i v).getLsbD j = false := by
  intro j hj
  rcases Nat.lt_or_ge j 64 with h | h
  · rw [win_bit _ _ _ _ _ h, if_neg (by omega)]
    simp
    omega
  · exact BitVec.getLsbD_of_ge _ _ h
theorem puts_bit (w pw k : Nat) (v pv : BitVec 64) (j : Nat) (hj : j < 64) : (v &&& ~~~(bmask pw <<< k &&& bmask w) ||| pv <<< k &&& (bmask pw <<< k &&& bmask w)).getLsbD j = (if k ≤ j ∧ j < k + pw ∧ j < w then pv.getLsbD (j - k) else v.getLsbD j) := by
  simp only [BitVec.getLsbD_or, BitVec.getLsbD_and, BitVec.getLsbD_not, BitVec.getLsbD_shiftLeft, bmask_bit, hj, decide_true, Bool.true_and]
  by_cases h1 : j < k
  · have : ¬ k ≤ j := by omega
    simp [h1, this]
  · have h2 : k ≤ j := by omega
    have h3 : j - k < 64 := by omega
    by_cases h4 : j < w
    · by_cases h5 : j - k < pw
      · have : j < k + pw := by omega
        simp [h1, h2, h3, h4, h5, this]
      · have : ¬ j < k + pw := by omega
        simp [h1, h2, h3, h4, h5, this]
    · simp [h4]
theorem win_step {w' k i : Nat} (hi : i < w') (v : BitVec 64) :
    win w' k i v &&& ~~~(bmask 1 <<< i &&& bmask w') ||| (v >>> (k + i) &&& bmask 1) <<< i &&& (bmask 1 <<< i &&& bmask w') = win w' k (i + 1) v := by
  apply BitVec.eq_of_getLsbD_eq
  intro j hj
  rw [puts_bit _ _ _ _ _ _ hj, win_bit _ _ _ _ _ hj, win_bit _ _ _ _ _ hj]
  simp only [BitVec.getLsbD_and, BitVec.getLsbD_ushiftRight, bmask_bit]
  rcases Nat.lt_trichotomy j i with h | h | h
  · rw [if_neg (by omega), if_pos h, if_pos (by omega)]
  · subst h
    rw [if_pos (by omega), if_pos (by omega)]
    simp
  · rw [if_neg (by omega), if_neg (by omega), if_neg (by omega)]
theorem win_loop (n : Nat) (hn : 50 ≤ n) {w w' k : Nat} {v x : BitVec 64} (h : Vec w v x) (hw' : 1 ≤ w') (hk : k + w' ≤ w) : ∀ (j m i : Nat), i + j = w' → j < m → ∀ {H : VH}, H.Ok →
    loopN (L80_0 (vcall T ext promo n) n (w : Int) (k : Int) (u64 v) (w' : Int) (u64 x)) m [.int .i64 (i : Int), bv w' (win w' k i v) (win w' k i x)] H = some (.exit 0, [bv w' (win w' k w' v) (win w' k w' x)], H) := by
  intro j
  have h2 := h.le
  induction j with
  | zero =>
    intro m i hi hm H hH
    obtain ⟨m, rfl⟩ : ∃ j, m = j + 1 := ⟨m - 1, by omega⟩
    obtain rfl : i = w' := by omega
    rw [loopN_succ]
    generalize loopN (L80_0 (vcall T ext promo n) n (w : Int) (k : Int) (u64 v) (i : Int) (u64 x)) m = lp
    unfold L80_0
    simp only [letH_mk, bindC_mk, bindV_mk, bindL_mk, bindH_mk, bindJ_mk, asB_mk, asI_mk, asS_mk, asP_mk, asSl_mk, asA_mk, asTu_mk, asSome_mk, unc_mk, endL_mk, selC_eq, condT_eq, sel_eq, letN_mk, letB_mk, case_nn, case_nr, case_ne, case_rn, case_rr, case_re, case_en, case_er, case_ee, iand_u64, ior_u64, ixor_u64, iandn_u64, inot_u64, ieq_u64_0, ieq_u64, decide_eq_true_eq, Bool.not_true, Bool.not_false, Bool.false_eq_true, if_false, if_true, Bool.not_eq_true', decide_eq_false_iff_not, ilt_eq, ile_eq, reduceCtorEq, not_false_eq_true, not_true_eq_false]
    rw [if_neg (by omega)]
  | succ j ih =>
    intro m i hi hm H hH
    obtain ⟨m, rfl⟩ : ∃ j, m = j + 1 := ⟨m - 1, by omega⟩
    have ih := ih m (i + 1) (by omega) (by omega) hH
    rw [loopN_succ]
    generalize loopN (L80_0 (vcall T ext promo n) n (w : Int) (k : Int) (u64 v) (w' : Int) (u64 x)) m = lp at ih ⊢
    unfold L80_0
    have e1 : fwrap .i64 ((k : Int) + (i : Int)) = ((k + i : Nat) : Int) := by rw [fw_i64 (by omega) (by omega)]; rfl
    have e2 : fwrap .i64 ((i : Int) + 1) = ((i + 1 : Nat) : Int) := by rw [fw_i64 (by omega) (by omega)]; rfl
    have c1 : vcall T ext promo n 28 [bv w v x, .int .i64 ((k + i : Nat) : Int), .int .i64 1] H = some (bv 1 (v >>> (k + i) &&& bmask 1) (x >>> (k + i) &&& bmask 1), H) := slice_ok n (by omega) h (k + i) 1 (by omega) (by omega) hH
    have c2 := put_ok n (by omega) (⟨hw', by omega, win_out (by omega) v, win_out (by omega) x⟩ : Vec w' (win w' k i v) (win w' k i x)) (slice_vec (w' := 1) (by decide) v x (k + i)) i (by omega) hH
    rw [win_step (by omega), win_step (by omega)] at c2
    simp only [letH_mk, bindC_mk, bindV_mk, bindL_mk, bindH_mk, bindJ_mk, asB_mk, asI_mk, asS_mk, asP_mk, asSl_mk, asA_mk, asTu_mk, asSome_mk, unc_mk, endL_mk, selC_eq, condT_eq, sel_eq, letN_mk, letB_mk, case_nn, case_nr, case_ne, case_rn, case_rr, case_re, case_en, case_er, case_ee, iand_u64, ior_u64, ixor_u64, iandn_u64, inot_u64, ieq_u64_0, ieq_u64, decide_eq_true_eq, Bool.not_true, Bool.not_false, Bool.false_eq_true, if_false, if_true, Bool.not_eq_true', decide_eq_false_iff_not, ilt_eq, ile_eq, reduceCtorEq, not_false_eq_true, not_true_eq_false, e1, e2]
    rw [if_pos (by omega), if_pos (by omega)]
    simp only [letH_mk, bindC_mk, bindV_mk, bindL_mk, bindH_mk, bindJ_mk, asB_mk, asI_mk, asS_mk, asP_mk, asSl_mk, asA_mk, asTu_mk, asSome_mk, unc_mk, endL_mk, selC_eq, condT_eq, sel_eq, letN_mk, letB_mk, case_nn, case_nr, case_ne, case_rn, case_rr, case_re, case_en, case_er, case_ee, iand_u64, ior_u64, ixor_u64, iandn_u64, inot_u64, ieq_u64_0, ieq_u64, decide_eq_true_eq, Bool.not_true, Bool.not_false, Bool.false_eq_true, if_false, if_true, Bool.not_eq_true', decide_eq_false_iff_not, ilt_eq, ile_eq, reduceCtorEq, not_false_eq_true, not_true_eq_false]
    rw [if_pos (by omega), c1]
    simp only [letH_mk, bindC_mk, bindV_mk, bindL_mk, bindH_mk, bindJ_mk, asB_mk, asI_mk, asS_mk, asP_mk, asSl_mk, asA_mk, asTu_mk, asSome_mk, unc_mk, endL_mk, selC_eq, condT_eq, sel_eq, letN_mk, letB_mk, case_nn, case_nr, case_ne, case_rn, case_rr, case_re, case_en, case_er, case_ee, iand_u64, ior_u64, ixor_u64, iandn_u64, inot_u64, ieq_u64_0, ieq_u64, decide_eq_true_eq, Bool.not_true, Bool.not_false, Bool.false_eq_true, if_false, if_true, Bool.not_eq_true', decide_eq_false_iff_not, ilt_eq, ile_eq, reduceCtorEq, not_false_eq_true, not_true_eq_false]
    rw [c2]
    simp only [letH_mk, bindC_mk, bindV_mk, bindL_mk, bindH_mk, bindJ_mk, asB_mk, asI_mk, asS_mk, asP_mk, asSl_mk, asA_mk, asTu_mk, asSome_mk, unc_mk, endL_mk, selC_eq, condT_eq, sel_eq, letN_mk, letB_mk, case_nn, case_nr, case_ne, case_rn, case_rr, case_re, case_en, case_er, case_ee, iand_u64, ior_u64, ixor_u64, iandn_u64, inot_u64, ieq_u64_0, ieq_u64, decide_eq_true_eq, Bool.not_true, Bool.not_false, Bool.false_eq_true, if_false, if_true, Bool.not_eq_true', decide_eq_false_iff_not, ilt_eq, ile_eq, reduceCtorEq, not_false_eq_true, not_true_eq_false]
    exact ih
theorem win_zero (w' k : Nat) (v : BitVec 64) : win w' k 0 v = bmask w' := by
  apply BitVec.eq_of_getLsbD_eq
  intro j hj
  rw [win_bit _ _ _ _ _ hj, if_neg (by omega), bmask_bit]
  simp [hj]
theorem win_all (w' k : Nat) (v : BitVec 64) : win w' k w' v = v >>> k &&& bmask w' := by
  apply BitVec.eq_of_getLsbD_eq
  intro j hj
  rw [win_bit _ _ _ _ _ hj]
  simp only [BitVec.getLsbD_and, BitVec.getLsbD_ushiftRight, bmask_bit, hj, decide_true, Bool.true_and]
  by_cases h : j < w'
  · simp [h]
  · simp [h]
theorem window_ok (n : Nat) (hn : 100 ≤ n) {w w' k : Nat} {v x : BitVec 64} (h : Vec w v x) (hw' : 1 ≤ w') (hk : k + w' ≤ w) {H : VH} (hH : H.Ok) :
    vcall T ext promo n 80 [bv w v x, .int .i64 (k : Int), .int .i64 (w' : Int)] H = some (bv w' (v >>> k &&& bmask w') (x >>> k &&& bmask w'), H) := by
  obtain ⟨n, rfl⟩ : ∃ m, n = m + 1 := ⟨n - 1, by omega⟩
  apply ok80
  unfold F80
  have h2 := h.le
  have l1 := win_loop n (by omega) h hw' hk w' n 0 (by omega) (by omega) (lo_ok hH)
  rw [win_zero, win_zero, win_all, win_all, show (((0 : Nat) : Int)) = 0 from rfl] at l1
  simp only [letH_mk]
  rw [all_ok n (by omega) ⟨hw', by omega⟩ 120 H.lo (bmask w') (bmask w') (by simp)]
  simp only [letH_mk, bindC_mk, bindV_mk, bindL_mk, bindH_mk, bindJ_mk, asB_mk, asI_mk, asS_mk, asP_mk, asSl_mk, asA_mk, asTu_mk, asSome_mk, unc_mk, endL_mk, selC_eq, condT_eq, sel_eq, letN_mk, letB_mk, case_nn, case_nr, case_ne, case_rn, case_rr, case_re, case_en, case_er, case_ee, iand_u64, ior_u64, ixor_u64, iandn_u64, inot_u64, ieq_u64_0, ieq_u64, decide_eq_true_eq, Bool.not_true, Bool.not_false, Bool.false_eq_true, if_false, if_true, Bool.not_eq_true', decide_eq_false_iff_not, ilt_eq, ile_eq, reduceCtorEq, not_false_eq_true, not_true_eq_false]
  rw [l1]
  simp only [letH_mk, bindC_mk, bindV_mk, bindL_mk, bindH_mk, bindJ_mk, asB_mk, asI_mk, asS_mk, asP_mk, asSl_mk, asA_mk, asTu_mk, asSome_mk, unc_mk, endL_mk, selC_eq, condT_eq, sel_eq, letN_mk, letB_mk, case_nn, case_nr, case_ne, case_rn, case_rr, case_re, case_en, case_er, case_ee, iand_u64, ior_u64, ixor_u64, iandn_u64, inot_u64, ieq_u64_0, ieq_u64, decide_eq_true_eq, Bool.not_true, Bool.not_false, Bool.false_eq_true, if_false, if_true, Bool.not_eq_true', decide_eq_false_iff_not, ilt_eq, ile_eq, reduceCtorEq, not_false_eq_true, not_true_eq_false]
  rw [leave_flat rfl rfl]
theorem part_ok (n : Nat) (hn : 150 ≤ n) {w w' pw : Nat} {v x p : BitVec 64} (h : Vec w v x) (hp : Vec pw p 0#64) (hw' : 1 ≤ w') (hk : min p.toNat 64 + w' ≤ w) {H : VH} (hH : H.Ok) :
    vcall T ext promo n 29 [bv w v x, bv pw p 0#64, .bool false, .int .i64 (w' : Int)] H = some (bv w' (v >>> (min p.toNat 64) &&& bmask w') (x >>> (min p.toNat 64) &&& bmask w'), H) := by
  obtain ⟨n, rfl⟩ : ∃ m, n = m + 1 := ⟨n - 1, by omega⟩
  apply ok29
  unfold F29
  have h2 := h.le
  have e : fwrap .i64 (imin (u64 p) 64) = ((min p.toNat 64 : Nat) : Int) := by
    unfold imin
    simp only [ilt_eq, decide_eq_true_eq, u64]
    split
    · rw [fw_i64 (by omega) (by omega)]
      omega
    · rw [fw_i64 (by omega) (by omega)]
      omega
  have o1 := fresh_ok (lo_ok hH) [.int .i64 (w : Int), .int .u64 (u64 v), .int .u64 (u64 x), .int .i64 (pw : Int), .int .u64 (u64 p), .int .u64 (u64 0#64)]
  simp only [letH_mk]
  rw [valid2 n (by omega) (lo_ok hH) h hp]
  simp only [letH_mk, bindC_mk, bindV_mk, bindL_mk, bindH_mk, bindJ_mk, asB_mk, asI_mk, asS_mk, asP_mk, asSl_mk, asA_mk, asTu_mk, asSome_mk, unc_mk, endL_mk, selC_eq, condT_eq, sel_eq, letN_mk, letB_mk, case_nn, case_nr, case_ne, case_rn, case_rr, case_re, case_en, case_er, case_ee, iand_u64, ior_u64, ixor_u64, iandn_u64, inot_u64, ieq_u64_0, ieq_u64, decide_eq_true_eq, Bool.not_true, Bool.not_false, Bool.false_eq_true, if_false, if_true, Bool.not_eq_true', decide_eq_false_iff_not, ilt_eq, ile_eq, reduceCtorEq, not_false_eq_true, not_true_eq_false]
  rw [if_neg (by omega)]
  simp only [letH_mk, bindC_mk, bindV_mk, bindL_mk, bindH_mk, bindJ_mk, asB_mk, asI_mk, asS_mk, asP_mk, asSl_mk, asA_mk, asTu_mk, asSome_mk, unc_mk, endL_mk, selC_eq, condT_eq, sel_eq, letN_mk, letB_mk, case_nn, case_nr, case_ne, case_rn, case_rr, case_re, case_en, case_er, case_ee, iand_u64, ior_u64, ixor_u64, iandn_u64, inot_u64, ieq_u64_0, ieq_u64, decide_eq_true_eq, Bool.not_true, Bool.not_false, Bool.false_eq_true, if_false, if_true, Bool.not_eq_true', decide_eq_false_iff_not, ilt_eq, ile_eq, reduceCtorEq, not_false_eq_true, not_true_eq_false]
  rw [if_neg (by omega), int_ok n (by omega) hp o1]
  simp only [letH_mk, bindC_mk, bindV_mk, bindL_mk, bindH_mk, bindJ_mk, asB_mk, asI_mk, asS_mk, asP_mk, asSl_mk, asA_mk, asTu_mk, asSome_mk, unc_mk, endL_mk, selC_eq, condT_eq, sel_eq, letN_mk, letB_mk, case_nn, case_nr, case_ne, case_rn, case_rr, case_re, case_en, case_er, case_ee, iand_u64, ior_u64, ixor_u64, iandn_u64, inot_u64, ieq_u64_0, ieq_u64, decide_eq_true_eq, Bool.not_true, Bool.not_false, Bool.false_eq_true, if_false, if_true, Bool.not_eq_true', decide_eq_false_iff_not, ilt_eq, ile_eq, reduceCtorEq, not_false_eq_true, not_true_eq_false]
  rw [e, window_ok n (by omega) h hw' hk o1]
  simp only [letH_mk, bindC_mk, bindV_mk, bindL_mk, bindH_mk, bindJ_mk, asB_mk, asI_mk, asS_mk, asP_mk, asSl_mk, asA_mk, asTu_mk, asSome_mk, unc_mk, endL_mk, selC_eq, condT_eq, sel_eq, letN_mk, letB_mk, case_nn, case_nr, case_ne, case_rn, case_rr, case_re, case_en, case_er, case_ee, iand_u64, ior_u64, ixor_u64, iandn_u64, inot_u64, ieq_u64_0, ieq_u64, decide_eq_true_eq, Bool.not_true, Bool.not_false, Bool.false_eq_true, if_false, if_true, Bool.not_eq_true', decide_eq_false_iff_not, ilt_eq, ile_eq, reduceCtorEq, not_false_eq_true, not_true_eq_false]
  rw [leave_flat rfl rfl]
end Go.Vm.Tryd
