/- Strings and bytes: slices, conversions, the table of two-digit numbers. -/
import Derived.Test.YtieocmaaloaoaaaDoorSm
import Derived.Test.YtieocmaaloaoaaaDoorVmStr
namespace Go.Vm.Tryd
set_option linter.unusedSectionVars false
set_option linter.unusedSimpArgs false
set_option linter.unusedVariables false
set_option maxRecDepth 10000
theorem und9 : T.und 9 = some .string := by kernel_rfl
theorem und88 : T.und 88 = some (.slice 5) := by kernel_rfl
theorem und5 : T.und 5 = some (.int .u8) := by kernel_rfl
theorem sl9 (H : VH) (l : List UInt8) (a b : Nat) (h1 : a ≤ b) (h2 : b ≤ l.length) : vslice T H 9 (.v (.str (PS.of l))) (some (.int .i64 (a : Int))) (some (.int .i64 (b : Int))) = some (.str (PS.of ((l.drop a).take (b - a)))) := by
  unfold vslice
  rw [und9]
  exact str_slice l a b h1 h2
theorem sl9f (H : VH) (l : List UInt8) (a : Nat) (h1 : a ≤ l.length) : vslice T H 9 (.v (.str (PS.of l))) (some (.int .i64 (a : Int))) none = some (.str (PS.of (l.drop a))) := by
  unfold vslice
  rw [und9]
  exact str_from l a h1
theorem conv88 {H : VH} {b o k : Nat} {c : Option Nat} {e : Nat} (l : List UInt8) (h : H.cells b o k = some (byteCells l)) : vconvert T H 88 9 (.slice (some (b, o)) k c e) = some (.str (PS.of l), H) := by
  unfold vconvert
  rw [und88, und9]
  simp only [und5, h, conv_go]
  rfl
/-- The digits of a number below 100. -/
def digs (w : Nat) : List UInt8 := if w < 10 then [UInt8.ofNat (48 + w)] else [UInt8.ofNat (48 + w / 10), UInt8.ofNat (48 + w % 10)]
def smalls : List UInt8 := [48, 48, 48, 49, 48, 50, 48, 51, 48, 52, 48, 53, 48, 54, 48, 55, 48, 56, 48, 57, 49, 48, 49, 49, 49, 50, 49, 51, 49, 52, 49, 53, 49, 54, 49, 55, 49, 56, 49, 57, 50, 48, 50, 49, 50, 50, 50, 51, 50, 52, 50, 53, 50, 54, 50, 55, 50, 56, 50, 57, 51, 48, 51, 49, 51, 50, 51, 51, 51, 52, 51, 53, 51, 54, 51, 55, 51, 56, 51, 57, 52, 48, 52, 49, 52, 50, 52, 51, 52, 52, 52, 53, 52, 54, 52, 55, 52, 56, 52, 57, 53, 48, 53, 49, 53, 50, 53, 51, 53, 52, 53, 53, 53, 54, 53, 55, 53, 56, 53, 57, 54, 48, 54, 49, 54, 50, 54, 51, 54, 52, 54, 53, 54, 54, 54, 55, 54, 56, 54, 57, 55, 48, 55, 49, 55, 50, 55, 51, 55, 52, 55, 53, 55, 54, 55, 55, 55, 56, 55, 57, 56, 48, 56, 49, 56, 50, 56, 51, 56, 52, 56, 53, 56, 54, 56, 55, 56, 56, 56, 57, 57, 48, 57, 49, 57, 50, 57, 51, 57, 52, 57, 53, 57, 54, 57, 55, 57, 56, 57, 57]
theorem smalls_len : smalls.length = 200 := by decide +kernel
theorem smalls_at : ∀ w : Fin 100, 10 ≤ w.val → (smalls.drop (w.val * 2)).take (w.val * 2 + 2 - w.val * 2) = digs w.val := by decide +kernel
theorem small_ok (n : Nat) (hn : 5 ≤ n) (w : Nat) (hw : w < 100) (H : VH) : vcall T ext promo n 179 [.int .i64 (w : Int)] H = some (.str (PS.of (digs w)), H) := by
  obtain ⟨n, rfl⟩ : ∃ m, n = m + 1 := ⟨n - 1, by omega⟩
  apply ok179
  unfold F179
  simp only [letH_mk, bindC_mk, bindV_mk, bindL_mk, bindH_mk, bindJ_mk, asB_mk, asI_mk, asS_mk, asP_mk, asSl_mk, asA_mk, asTu_mk, asSome_mk, unc_mk, endL_mk, selC_eq, condT_eq, sel_eq, letN_mk, letB_mk, case_nn, case_nr, case_ne, case_rn, case_rr, case_re, case_en, case_er, case_ee, iand_u64, ior_u64, ixor_u64, iandn_u64, inot_u64, ieq_u64_0, ieq_u64, decide_eq_true_eq, Bool.not_true, Bool.not_false, Bool.false_eq_true, if_false, if_true, Bool.not_eq_true', decide_eq_false_iff_not, ilt_eq, ile_eq, reduceCtorEq, not_false_eq_true, not_true_eq_false]
  by_cases h : w < 10
  · rw [if_pos (by omega), fw_i64 (by omega) (by omega), show ((w : Int) + 1) = ((w + 1 : Nat) : Int) from rfl, sl9 _ _ _ _ (by omega) (by simp; omega)]
    simp only [letH_mk, bindC_mk, bindV_mk, bindL_mk, bindH_mk, bindJ_mk, asB_mk, asI_mk, asS_mk, asP_mk, asSl_mk, asA_mk, asTu_mk, asSome_mk, unc_mk, endL_mk, selC_eq, condT_eq, sel_eq, letN_mk, letB_mk, case_nn, case_nr, case_ne, case_rn, case_rr, case_re, case_en, case_er, case_ee, iand_u64, ior_u64, ixor_u64, iandn_u64, inot_u64, ieq_u64_0, ieq_u64, decide_eq_true_eq, Bool.not_true, Bool.not_false, Bool.false_eq_true, if_false, if_true, Bool.not_eq_true', decide_eq_false_iff_not, ilt_eq, ile_eq, reduceCtorEq, not_false_eq_true, not_true_eq_false]
    rw [leave_flat rfl rfl]
    have : ∀ w : Fin 10, ([48, 49, 50, 51, 52, 53, 54, 55, 56, 57, 97, 98, 99, 100, 101, 102, 103, 104, 105, 106, 107, 108, 109, 110, 111, 112, 113, 114, 115, 116, 117, 118, 119, 120, 121, 122].drop w.val : List UInt8).take (w.val + 1 - w.val) = digs w.val := by decide
    rw [this ⟨w, h⟩]
  · rw [if_neg (by omega)]
    have e1 : fwrap .i64 ((w : Int) * 2) = ((w * 2 : Nat) : Int) := by rw [fw_i64 (by omega) (by omega)]; rfl
    have e2 : fwrap .i64 (((w * 2 : Nat) : Int) + 2) = ((w * 2 + 2 : Nat) : Int) := by rw [fw_i64 (by omega) (by omega)]; rfl
    rw [e1, e2]
    have e3 := sl9 H.lo smalls (w * 2) (w * 2 + 2) (by omega) (by rw [smalls_len]; omega)
    unfold smalls at e3
    rw [e3]
    simp only [letH_mk, bindC_mk, bindV_mk, bindL_mk, bindH_mk, bindJ_mk, asB_mk, asI_mk, asS_mk, asP_mk, asSl_mk, asA_mk, asTu_mk, asSome_mk, unc_mk, endL_mk, selC_eq, condT_eq, sel_eq, letN_mk, letB_mk, case_nn, case_nr, case_ne, case_rn, case_rr, case_re, case_en, case_er, case_ee, iand_u64, ior_u64, ixor_u64, iandn_u64, inot_u64, ieq_u64_0, ieq_u64, decide_eq_true_eq, Bool.not_true, Bool.not_false, Bool.false_eq_true, if_false, if_true, Bool.not_eq_true', decide_eq_false_iff_not, ilt_eq, ile_eq, reduceCtorEq, not_false_eq_true, not_true_eq_false]
    rw [leave_flat rfl rfl]
    have := smalls_at ⟨w, hw⟩ (show 10 ≤ w by omega)
    unfold smalls at this
    rw [this]

theorem itoa_ok (n : Nat) (hn : 20 ≤ n) (w : Nat) (hw : w < 100) (H : VH) : vcall T ext promo n 76 [.int .i64 (w : Int)] H = some (.str (PS.of (digs w)), H) := by
  obtain ⟨n, rfl⟩ : ∃ m, n = m + 3 := ⟨n - 3, by omega⟩
  apply ok76
  unfold F76
  have e1 : ∀ H, vcall T ext promo (n + 1) 156 [.int .i64 (w : Int), .int .i64 10] H = some (.str (PS.of (digs w)), H) := by
    intro H
    apply ok156
    unfold F156
    simp only [letH_mk, bindC_mk, bindV_mk, bindL_mk, bindH_mk, bindJ_mk, asB_mk, asI_mk, asS_mk, asP_mk, asSl_mk, asA_mk, asTu_mk, asSome_mk, unc_mk, endL_mk, selC_eq, condT_eq, sel_eq, letN_mk, letB_mk, case_nn, case_nr, case_ne, case_rn, case_rr, case_re, case_en, case_er, case_ee, iand_u64, ior_u64, ixor_u64, iandn_u64, inot_u64, ieq_u64_0, ieq_u64, decide_eq_true_eq, Bool.not_true, Bool.not_false, Bool.false_eq_true, if_false, if_true, Bool.not_eq_true', decide_eq_false_iff_not, ilt_eq, ile_eq, reduceCtorEq, not_false_eq_true, not_true_eq_false, ieq_dec]
    rw [if_pos (by omega)]
    simp only [letH_mk, bindC_mk, bindV_mk, bindL_mk, bindH_mk, bindJ_mk, asB_mk, asI_mk, asS_mk, asP_mk, asSl_mk, asA_mk, asTu_mk, asSome_mk, unc_mk, endL_mk, selC_eq, condT_eq, sel_eq, letN_mk, letB_mk, case_nn, case_nr, case_ne, case_rn, case_rr, case_re, case_en, case_er, case_ee, iand_u64, ior_u64, ixor_u64, iandn_u64, inot_u64, ieq_u64_0, ieq_u64, decide_eq_true_eq, Bool.not_true, Bool.not_false, Bool.false_eq_true, if_false, if_true, Bool.not_eq_true', decide_eq_false_iff_not, ilt_eq, ile_eq, reduceCtorEq, not_false_eq_true, not_true_eq_false]
    rw [if_pos (by omega), small_ok n (by omega) w hw]
    simp only [letH_mk, bindC_mk, bindV_mk, bindL_mk, bindH_mk, bindJ_mk, asB_mk, asI_mk, asS_mk, asP_mk, asSl_mk, asA_mk, asTu_mk, asSome_mk, unc_mk, endL_mk, selC_eq, condT_eq, sel_eq, letN_mk, letB_mk, case_nn, case_nr, case_ne, case_rn, case_rr, case_re, case_en, case_er, case_ee, iand_u64, ior_u64, ixor_u64, iandn_u64, inot_u64, ieq_u64_0, ieq_u64, decide_eq_true_eq, Bool.not_true, Bool.not_false, Bool.false_eq_true, if_false, if_true, Bool.not_eq_true', decide_eq_false_iff_not, ilt_eq, ile_eq, reduceCtorEq, not_false_eq_true, not_true_eq_false]
    rw [leave_flat rfl rfl]
  have e2 : ∀ H, vcall T ext promo (n + 2) 130 [.int .i64 (w : Int)] H = some (.str (PS.of (digs w)), H) := by
    intro H
    apply ok130
    unfold F130
    simp only [letH_mk]
    rw [e1]
    simp only [letH_mk, bindC_mk, bindV_mk, bindL_mk, bindH_mk, bindJ_mk, asB_mk, asI_mk, asS_mk, asP_mk, asSl_mk, asA_mk, asTu_mk, asSome_mk, unc_mk, endL_mk, selC_eq, condT_eq, sel_eq, letN_mk, letB_mk, case_nn, case_nr, case_ne, case_rn, case_rr, case_re, case_en, case_er, case_ee, iand_u64, ior_u64, ixor_u64, iandn_u64, inot_u64, ieq_u64_0, ieq_u64, decide_eq_true_eq, Bool.not_true, Bool.not_false, Bool.false_eq_true, if_false, if_true, Bool.not_eq_true', decide_eq_false_iff_not, ilt_eq, ile_eq, reduceCtorEq, not_false_eq_true, not_true_eq_false]
    rw [leave_flat rfl rfl]
  simp only [letH_mk]
  rw [e2]
  simp only [letH_mk, bindC_mk, bindV_mk, bindL_mk, bindH_mk, bindJ_mk, asB_mk, asI_mk, asS_mk, asP_mk, asSl_mk, asA_mk, asTu_mk, asSome_mk, unc_mk, endL_mk, selC_eq, condT_eq, sel_eq, letN_mk, letB_mk, case_nn, case_nr, case_ne, case_rn, case_rr, case_re, case_en, case_er, case_ee, iand_u64, ior_u64, ixor_u64, iandn_u64, inot_u64, ieq_u64_0, ieq_u64, decide_eq_true_eq, Bool.not_true, Bool.not_false, Bool.false_eq_true, if_false, if_true, Bool.not_eq_true', decide_eq_false_iff_not, ilt_eq, ile_eq, reduceCtorEq, not_false_eq_true, not_true_eq_false]
  rw [leave_flat rfl rfl]
/-- The sign of a bit. -/
theorem digs_len (w : Nat) : (digs w).length ≤ 2 := by
  unfold digs
  split <;> simp
end Go.Vm.Tryd
