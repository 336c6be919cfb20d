/- The vectors' numbers: what the operations answer. -/
import Derived.Test.YtieocmaaloaoaaaDoorLo
namespace Go.Vm.Tryd
set_option linter.unusedSectionVars false
set_option linter.unusedSimpArgs false
set_option linter.unusedVariables false
set_option maxRecDepth 10000
theorem number_ok (n : Nat) (hn : 40 ≤ n) {w : Nat} {v v' : BitVec 64} (h : Vec w v 0#64) (h' : Vec w v' 0#64) (f : Nat) (g : BitVec 64) {H : VH} (hH : H.Ok)
    (hf : ∀ H, vcall T ext promo (n - 1) f [.int .u64 (u64 v), .int .u64 (u64 v')] H = some (.int .u64 (u64 g), H)) :
    vcall T ext promo n 85 [bv w v 0#64, bv w v' 0#64, .func f [] []] H = some (bv w (g &&& bmask w) 0#64, H) := by
  obtain ⟨n, rfl⟩ : ∃ m, n = m + 1 := ⟨n - 1, by omega⟩
  apply ok85
  unfold F85
  simp only [letH_mk]
  rw [alike_ok n (by omega) h h' (lo_ok hH)]
  simp only [letH_mk, bindC_mk, bindV_mk, bindL_mk, bindH_mk, bindJ_mk, asB_mk, asI_mk, asS_mk, asP_mk, asSl_mk, asA_mk, asTu_mk, asSome_mk, unc_mk, endL_mk, selC_eq, condT_eq, sel_eq, letN_mk, letB_mk, case_nn, case_nr, case_ne, case_rn, case_rr, case_re, case_en, case_er, case_ee, iand_u64, ior_u64, ixor_u64, iandn_u64, inot_u64, ieq_u64_0, ieq_u64, decide_eq_true_eq, Bool.not_true, Bool.not_false, Bool.false_eq_true, if_false, if_true, Bool.not_eq_true', decide_eq_false_iff_not, ilt_eq, ile_eq, reduceCtorEq, not_false_eq_true, not_true_eq_false, BitVec.or_self, asFn_mk, List.nil_append, List.append_nil]
  rw [Nat.add_sub_cancel] at hf
  rw [hf]
  simp only [letH_mk, bindC_mk, bindV_mk, bindL_mk, bindH_mk, bindJ_mk, asB_mk, asI_mk, asS_mk, asP_mk, asSl_mk, asA_mk, asTu_mk, asSome_mk, unc_mk, endL_mk, selC_eq, condT_eq, sel_eq, letN_mk, letB_mk, case_nn, case_nr, case_ne, case_rn, case_rr, case_re, case_en, case_er, case_ee, iand_u64, ior_u64, ixor_u64, iandn_u64, inot_u64, ieq_u64_0, ieq_u64, decide_eq_true_eq, Bool.not_true, Bool.not_false, Bool.false_eq_true, if_false, if_true, Bool.not_eq_true', decide_eq_false_iff_not, ilt_eq, ile_eq, reduceCtorEq, not_false_eq_true, not_true_eq_false]
  rw [of_ok n (by omega) ⟨h.pos, h.le⟩]
  simp only [letH_mk, bindC_mk, bindV_mk, bindL_mk, bindH_mk, bindJ_mk, asB_mk, asI_mk, asS_mk, asP_mk, asSl_mk, asA_mk, asTu_mk, asSome_mk, unc_mk, endL_mk, selC_eq, condT_eq, sel_eq, letN_mk, letB_mk, case_nn, case_nr, case_ne, case_rn, case_rr, case_re, case_en, case_er, case_ee, iand_u64, ior_u64, ixor_u64, iandn_u64, inot_u64, ieq_u64_0, ieq_u64, decide_eq_true_eq, Bool.not_true, Bool.not_false, Bool.false_eq_true, if_false, if_true, Bool.not_eq_true', decide_eq_false_iff_not, ilt_eq, ile_eq, reduceCtorEq, not_false_eq_true, not_true_eq_false]
  rw [leave_flat rfl rfl]
theorem add_ok (n : Nat) (hn : 50 ≤ n) {w : Nat} {v v' : BitVec 64} (h : Vec w v 0#64) (h' : Vec w v' 0#64) {H : VH} (hH : H.Ok) : vcall T ext promo n 41 [bv w v 0#64, bv w v' 0#64] H = some (bv w ((v + v') &&& bmask w) 0#64, H) := by
  obtain ⟨n, rfl⟩ : ∃ m, n = m + 1 := ⟨n - 1, by omega⟩
  apply ok41
  unfold F41
  have hf : ∀ H, vcall T ext promo (n - 1) 86 [.int .u64 (u64 v), .int .u64 (u64 v')] H = some (.int .u64 (u64 (v + v')), H) := by
    intro H
    obtain ⟨m, hm⟩ : ∃ m, n - 1 = m + 1 := ⟨n - 2, by omega⟩
    rw [hm]
    apply ok86
    unfold F86
    simp only [letH_mk, bindC_mk, bindV_mk, bindL_mk, bindH_mk, bindJ_mk, asB_mk, asI_mk, asS_mk, asP_mk, asSl_mk, asA_mk, asTu_mk, asSome_mk, unc_mk, endL_mk, selC_eq, condT_eq, sel_eq, letN_mk, letB_mk, case_nn, case_nr, case_ne, case_rn, case_rr, case_re, case_en, case_er, case_ee, iand_u64, ior_u64, ixor_u64, iandn_u64, inot_u64, ieq_u64_0, ieq_u64, decide_eq_true_eq, Bool.not_true, Bool.not_false, Bool.false_eq_true, if_false, if_true, Bool.not_eq_true', decide_eq_false_iff_not, ilt_eq, ile_eq, reduceCtorEq, not_false_eq_true, not_true_eq_false, add_u64]
    rw [leave_flat rfl rfl]
  simp only [letH_mk]
  rw [number_ok n (by omega) h h' 86 (v + v') (lo_ok hH) hf]
  simp only [letH_mk, bindC_mk, bindV_mk, bindL_mk, bindH_mk, bindJ_mk, asB_mk, asI_mk, asS_mk, asP_mk, asSl_mk, asA_mk, asTu_mk, asSome_mk, unc_mk, endL_mk, selC_eq, condT_eq, sel_eq, letN_mk, letB_mk, case_nn, case_nr, case_ne, case_rn, case_rr, case_re, case_en, case_er, case_ee, iand_u64, ior_u64, ixor_u64, iandn_u64, inot_u64, ieq_u64_0, ieq_u64, decide_eq_true_eq, Bool.not_true, Bool.not_false, Bool.false_eq_true, if_false, if_true, Bool.not_eq_true', decide_eq_false_iff_not, ilt_eq, ile_eq, reduceCtorEq, not_false_eq_true, not_true_eq_false]
  rw [leave_flat rfl rfl]
theorem sub_ok (n : Nat) (hn : 50 ≤ n) {w : Nat} {v v' : BitVec 64} (h : Vec w v 0#64) (h' : Vec w v' 0#64) {H : VH} (hH : H.Ok) : vcall T ext promo n 42 [bv w v 0#64, bv w v' 0#64] H = some (bv w ((v - v') &&& bmask w) 0#64, H) := by
  obtain ⟨n, rfl⟩ : ∃ m, n = m + 1 := ⟨n - 1, by omega⟩
  apply ok42
  unfold F42
  have hf : ∀ H, vcall T ext promo (n - 1) 87 [.int .u64 (u64 v), .int .u64 (u64 v')] H = some (.int .u64 (u64 (v - v')), H) := by
    intro H
    obtain ⟨m, hm⟩ : ∃ m, n - 1 = m + 1 := ⟨n - 2, by omega⟩
    rw [hm]
    apply ok87
    unfold F87
    simp only [letH_mk, bindC_mk, bindV_mk, bindL_mk, bindH_mk, bindJ_mk, asB_mk, asI_mk, asS_mk, asP_mk, asSl_mk, asA_mk, asTu_mk, asSome_mk, unc_mk, endL_mk, selC_eq, condT_eq, sel_eq, letN_mk, letB_mk, case_nn, case_nr, case_ne, case_rn, case_rr, case_re, case_en, case_er, case_ee, iand_u64, ior_u64, ixor_u64, iandn_u64, inot_u64, ieq_u64_0, ieq_u64, decide_eq_true_eq, Bool.not_true, Bool.not_false, Bool.false_eq_true, if_false, if_true, Bool.not_eq_true', decide_eq_false_iff_not, ilt_eq, ile_eq, reduceCtorEq, not_false_eq_true, not_true_eq_false, sub_u64]
    rw [leave_flat rfl rfl]
  simp only [letH_mk]
  rw [number_ok n (by omega) h h' 87 (v - v') (lo_ok hH) hf]
  simp only [letH_mk, bindC_mk, bindV_mk, bindL_mk, bindH_mk, bindJ_mk, asB_mk, asI_mk, asS_mk, asP_mk, asSl_mk, asA_mk, asTu_mk, asSome_mk, unc_mk, endL_mk, selC_eq, condT_eq, sel_eq, letN_mk, letB_mk, case_nn, case_nr, case_ne, case_rn, case_rr, case_re, case_en, case_er, case_ee, iand_u64, ior_u64, ixor_u64, iandn_u64, inot_u64, ieq_u64_0, ieq_u64, decide_eq_true_eq, Bool.not_true, Bool.not_false, Bool.false_eq_true, if_false, if_true, Bool.not_eq_true', decide_eq_false_iff_not, ilt_eq, ile_eq, reduceCtorEq, not_false_eq_true, not_true_eq_false]
  rw [leave_flat rfl rfl]
theorem mul_ok (n : Nat) (hn : 50 ≤ n) {w : Nat} {v v' : BitVec 64} (h : Vec w v 0#64) (h' : Vec w v' 0#64) {H : VH} (hH : H.Ok) : vcall T ext promo n 43 [bv w v 0#64, bv w v' 0#64] H = some (bv w ((v * v') &&& bmask w) 0#64, H) := by
  obtain ⟨n, rfl⟩ : ∃ m, n = m + 1 := ⟨n - 1, by omega⟩
  apply ok43
  unfold F43
  have hf : ∀ H, vcall T ext promo (n - 1) 88 [.int .u64 (u64 v), .int .u64 (u64 v')] H = some (.int .u64 (u64 (v * v')), H) := by
    intro H
    obtain ⟨m, hm⟩ : ∃ m, n - 1 = m + 1 := ⟨n - 2, by omega⟩
    rw [hm]
    apply ok88
    unfold F88
    simp only [letH_mk, bindC_mk, bindV_mk, bindL_mk, bindH_mk, bindJ_mk, asB_mk, asI_mk, asS_mk, asP_mk, asSl_mk, asA_mk, asTu_mk, asSome_mk, unc_mk, endL_mk, selC_eq, condT_eq, sel_eq, letN_mk, letB_mk, case_nn, case_nr, case_ne, case_rn, case_rr, case_re, case_en, case_er, case_ee, iand_u64, ior_u64, ixor_u64, iandn_u64, inot_u64, ieq_u64_0, ieq_u64, decide_eq_true_eq, Bool.not_true, Bool.not_false, Bool.false_eq_true, if_false, if_true, Bool.not_eq_true', decide_eq_false_iff_not, ilt_eq, ile_eq, reduceCtorEq, not_false_eq_true, not_true_eq_false, mul_u64]
    rw [leave_flat rfl rfl]
  simp only [letH_mk]
  rw [number_ok n (by omega) h h' 88 (v * v') (lo_ok hH) hf]
  simp only [letH_mk, bindC_mk, bindV_mk, bindL_mk, bindH_mk, bindJ_mk, asB_mk, asI_mk, asS_mk, asP_mk, asSl_mk, asA_mk, asTu_mk, asSome_mk, unc_mk, endL_mk, selC_eq, condT_eq, sel_eq, letN_mk, letB_mk, case_nn, case_nr, case_ne, case_rn, case_rr, case_re, case_en, case_er, case_ee, iand_u64, ior_u64, ixor_u64, iandn_u64, inot_u64, ieq_u64_0, ieq_u64, decide_eq_true_eq, Bool.not_true, Bool.not_false, Bool.false_eq_true, if_false, if_true, Bool.not_eq_true', decide_eq_false_iff_not, ilt_eq, ile_eq, reduceCtorEq, not_false_eq_true, not_true_eq_false]
  rw [leave_flat rfl rfl]
theorem neg_ok (n : Nat) (hn : 50 ≤ n) {w : Nat} {v : BitVec 64} (h : Vec w v 0#64) {H : VH} (hH : H.Ok) : vcall T ext promo n 44 [bv w v 0#64] H = some (bv w ((0#64 - v) &&& bmask w) 0#64, H) := by
  obtain ⟨n, rfl⟩ : ∃ m, n = m + 1 := ⟨n - 1, by omega⟩
  apply ok44
  unfold F44
  have hf : ∀ H, vcall T ext promo (n - 1) 89 [.int .u64 (u64 v), .int .u64 (u64 v)] H = some (.int .u64 (u64 (0#64 - v)), H) := by
    intro H
    obtain ⟨m, hm⟩ : ∃ m, n - 1 = m + 1 := ⟨n - 2, by omega⟩
    rw [hm]
    apply ok89
    unfold F89
    simp only [letH_mk, bindC_mk, bindV_mk, bindL_mk, bindH_mk, bindJ_mk, asB_mk, asI_mk, asS_mk, asP_mk, asSl_mk, asA_mk, asTu_mk, asSome_mk, unc_mk, endL_mk, selC_eq, condT_eq, sel_eq, letN_mk, letB_mk, case_nn, case_nr, case_ne, case_rn, case_rr, case_re, case_en, case_er, case_ee, iand_u64, ior_u64, ixor_u64, iandn_u64, inot_u64, ieq_u64_0, ieq_u64, decide_eq_true_eq, Bool.not_true, Bool.not_false, Bool.false_eq_true, if_false, if_true, Bool.not_eq_true', decide_eq_false_iff_not, ilt_eq, ile_eq, reduceCtorEq, not_false_eq_true, not_true_eq_false]
    rw [show (0 : Int) = u64 0#64 from rfl, sub_u64, leave_flat rfl rfl]
  simp only [letH_mk]
  rw [number_ok n (by omega) h h 89 (0#64 - v) (lo_ok hH) hf]
  simp only [letH_mk, bindC_mk, bindV_mk, bindL_mk, bindH_mk, bindJ_mk, asB_mk, asI_mk, asS_mk, asP_mk, asSl_mk, asA_mk, asTu_mk, asSome_mk, unc_mk, endL_mk, selC_eq, condT_eq, sel_eq, letN_mk, letB_mk, case_nn, case_nr, case_ne, case_rn, case_rr, case_re, case_en, case_er, case_ee, iand_u64, ior_u64, ixor_u64, iandn_u64, inot_u64, ieq_u64_0, ieq_u64, decide_eq_true_eq, Bool.not_true, Bool.not_false, Bool.false_eq_true, if_false, if_true, Bool.not_eq_true', decide_eq_false_iff_not, ilt_eq, ile_eq, reduceCtorEq, not_false_eq_true, not_true_eq_false]
  rw [leave_flat rfl rfl]

/-! Arithmetic below 2 ^ w. -/
theorem bmask_nat {w : Nat} (hw : w ≤ 64) : (bmask w).toNat = 2 ^ w - 1 := by
  simp only [bmask, BitVec.toNat_setWidth, BitVec.toNat_allOnes]
  have h2 : 2 ^ w ≤ 2 ^ 64 := Nat.pow_le_pow_right (by decide) hw
  have h1 : 1 ≤ 2 ^ w := Nat.one_le_two_pow
  exact Nat.mod_eq_of_lt (by omega)
theorem and_nat {w : Nat} (hw : w ≤ 64) (x : BitVec 64) : (x &&& bmask w).toNat = x.toNat % 2 ^ w := by
  rw [BitVec.toNat_and, bmask_nat hw, Nat.and_two_pow_sub_one_eq_mod]
theorem dvd64 {w : Nat} (hw : w ≤ 64) : 2 ^ w ∣ 2 ^ 64 := Nat.pow_dvd_pow 2 hw
theorem add_nat {w : Nat} (hw : w ≤ 64) (x y : BitVec 64) : ((x + y) &&& bmask w).toNat = (x.toNat + y.toNat) % 2 ^ w := by
  rw [and_nat hw, BitVec.toNat_add, Nat.mod_mod_of_dvd _ (dvd64 hw)]
theorem mul_nat {w : Nat} (hw : w ≤ 64) (x y : BitVec 64) : ((x * y) &&& bmask w).toNat = (x.toNat * y.toNat) % 2 ^ w := by
  rw [and_nat hw, BitVec.toNat_mul, Nat.mod_mod_of_dvd _ (dvd64 hw)]
theorem sub_nat {w : Nat} (hw : w ≤ 64) (x y : BitVec 64) : ((x - y) &&& bmask w).toNat = (2 ^ 64 - y.toNat + x.toNat) % 2 ^ w := by
  rw [and_nat hw, BitVec.toNat_sub, Nat.mod_mod_of_dvd _ (dvd64 hw)]
theorem sub_add {w : Nat} (hw : w ≤ 64) {a b : BitVec 64} (ha : ∀ i, w ≤ i → a.getLsbD i = false) : ((a - b) &&& bmask w) + b &&& bmask w = a := by
  apply BitVec.eq_of_toNat_eq
  rw [add_nat hw, sub_nat hw, Nat.mod_add_mod]
  have hb := b.isLt
  rw [show 2 ^ 64 - b.toNat + a.toNat + b.toNat = 2 ^ 64 + a.toNat by omega]
  obtain ⟨K, hK⟩ := dvd64 hw
  rw [hK, Nat.mul_add_mod]
  exact Nat.mod_eq_of_lt (Nat.lt_pow_two_of_testBit _ fun i hi => by rw [BitVec.testBit_toNat]; exact ha i hi)
theorem mul_distrib {w : Nat} (hw : w ≤ 64) (a b c : BitVec 64) : a * ((b + c) &&& bmask w) &&& bmask w = ((a * b) &&& bmask w) + ((a * c) &&& bmask w) &&& bmask w := by
  apply BitVec.eq_of_toNat_eq
  rw [mul_nat hw, add_nat hw, add_nat hw, mul_nat hw, mul_nat hw, Nat.mul_mod_mod, Nat.mul_add, ← Nat.add_mod]
theorem neg_sub {w : Nat} (a : BitVec 64) : (0#64 - a) &&& bmask w = ((0#64 &&& bmask w) - a) &&& bmask w := by
  rw [BitVec.zero_and]
theorem all_and (w : Nat) (x : BitVec 64) : ∀ i, w ≤ i → (x &&& bmask w).getLsbD i = false := mask_out w x
theorem kvec {w : Nat} (hw : 1 ≤ w ∧ w ≤ 64) (x : BitVec 64) : Vec w (x &&& bmask w) 0#64 := ⟨hw.1, hw.2, mask_out w x, fun i _ => by simp⟩
/-- Whole numbers as vectors. -/
theorem ofInt_nat {w : Nat} (hw : w ≤ 64) (z : Int) : (((BitVec.ofInt 64 z) &&& bmask w).toNat : Int) = z % (2 ^ w : Nat) := by
  rw [and_nat hw, BitVec.toNat_ofInt]
  have hd : ((2 ^ w : Nat) : Int) ∣ ((2 ^ 64 : Nat) : Int) := Int.natCast_dvd_natCast.2 (dvd64 hw)
  have hnn : 0 ≤ z % ((2 ^ 64 : Nat) : Int) := Int.emod_nonneg _ (by decide)
  rw [Int.natCast_emod, Int.toNat_of_nonneg hnn]
  exact Int.emod_emod_of_dvd z hd
theorem sint_mod {w : Nat} (hw : 1 ≤ w ∧ w ≤ 64) {v : BitVec 64} (h : ∀ i, w ≤ i → v.getLsbD i = false) (hs : sint w v = (v.toNat : Int) ∨ sint w v = (v.toNat : Int) - (2 ^ w : Nat)) : sint w v % (2 ^ w : Nat) = (v.toNat : Int) % (2 ^ w : Nat) := by
  rcases hs with e | e
  · rw [e]
  · rw [e, Int.sub_emod_right]
theorem fw_fw (z : Int) : fwrap .u64 (fwrap .i64 z) = u64 (BitVec.ofInt 64 z) := by
  rw [← fw_u64n, fw_u64, fw_u64, fwrap_eq]
  simp only [IntKind.wrap, IntKind.bits, IntKind.signed, Bool.true_and, decide_eq_true_eq, show (2 : Int) ^ 64 = 18446744073709551616 from rfl, show (2 : Int) ^ (64 - 1) = 9223372036854775808 from rfl]
  split <;> omega

/-- A vector's number. -/
def snum (w : Nat) (v : BitVec 64) (signed : Bool) : Int := if signed then sint w v else (v.toNat : Int)
theorem sint_or {w : Nat} (hw : 1 ≤ w ∧ w ≤ 64) {v : BitVec 64} (h : ∀ i, w ≤ i → v.getLsbD i = false) : sint w v = (v.toNat : Int) ∨ sint w v = (v.toNat : Int) - (2 ^ w : Nat) := by
  rw [sint_eq hw h]
  split
  · exact .inl rfl
  · exact .inr rfl
theorem snum_mod {w : Nat} (hw : 1 ≤ w ∧ w ≤ 64) {v : BitVec 64} (h : ∀ i, w ≤ i → v.getLsbD i = false) (signed : Bool) : snum w v signed % (2 ^ w : Nat) = (v.toNat : Int) % (2 ^ w : Nat) := by
  cases signed
  · rfl
  · exact sint_mod hw h (sint_or hw h)
theorem snum_ne {w : Nat} (hw : 1 ≤ w ∧ w ≤ 64) {v : BitVec 64} (h : ∀ i, w ≤ i → v.getLsbD i = false) (hv : v ≠ 0#64) (signed : Bool) : snum w v signed ≠ 0 := by
  have hn : v.toNat ≠ 0 := fun e => hv (BitVec.eq_of_toNat_eq e)
  have hlt := nat_lt h
  cases signed
  · show ((v.toNat : Nat) : Int) ≠ 0
    omega
  · show sint w v ≠ 0
    rcases sint_or hw h with e | e <;> rw [e] <;> omega
theorem u64_ofInt {z : Int} (h1 : 0 ≤ z) (h2 : z < 18446744073709551616) : u64 (BitVec.ofInt 64 z) = z := by
  rw [← fw_u64n, fw_u64]
  exact Int.emod_eq_of_lt h1 h2
theorem divide_ok (n : Nat) (hn : 40 ≤ n) {w : Nat} {v v' : BitVec 64} (h : Vec w v 0#64) (h' : Vec w v' 0#64) (hv : v' ≠ 0#64) (signed : Bool) {H : VH} (hH : H.Ok) :
    vcall T ext promo n 90 [bv w v 0#64, bv w v' 0#64, .bool signed] H = some (.tuple [.int .u64 (u64 (BitVec.ofInt 64 ((snum w v signed).tdiv (snum w v' signed)))), .int .u64 (u64 (BitVec.ofInt 64 ((snum w v signed).tmod (snum w v' signed))))], H) := by
  obtain ⟨n, rfl⟩ : ∃ m, n = m + 1 := ⟨n - 1, by omega⟩
  apply ok90
  unfold F90
  have hne := snum_ne ⟨h'.pos, h'.le⟩ h'.v hv signed
  cases signed
  · have hb : 0 < v'.toNat := Nat.pos_of_ne_zero fun e => hv (BitVec.eq_of_toNat_eq e)
    have e1 : varith .quo .u64 (u64 v) .u64 (u64 v') = some (.int .u64 (u64 (BitVec.ofInt 64 ((v.toNat : Int).tdiv (v'.toNat : Int))))) := by
      simp only [varith, kindEq, if_true, ieq_dec, decide_eq_true_eq]
      rw [if_neg (show ¬ u64 v' = 0 by unfold u64; omega), fw_u64n]
    have e2 : varith .rem .u64 (u64 v) .u64 (u64 v') = some (.int .u64 (u64 (BitVec.ofInt 64 ((v.toNat : Int).tmod (v'.toNat : Int))))) := by
      simp only [varith, kindEq, if_true, ieq_dec, decide_eq_true_eq]
      rw [if_neg (show ¬ u64 v' = 0 by unfold u64; omega)]
      have h3 : (v.toNat : Int).tmod (v'.toNat : Int) = ((v.toNat % v'.toNat : Nat) : Int) := rfl
      have h4 := Nat.mod_lt v.toNat hb
      have h5 := v'.isLt
      rw [u64_ofInt (by rw [h3]; omega) (by rw [h3]; omega)]
    simp only [letH_mk, bindC_mk, bindV_mk, bindL_mk, bindH_mk, bindJ_mk, asB_mk, asI_mk, asS_mk, asP_mk, asSl_mk, asA_mk, asTu_mk, asSome_mk, unc_mk, endL_mk, selC_eq, condT_eq, sel_eq, letN_mk, letB_mk, case_nn, case_nr, case_ne, case_rn, case_rr, case_re, case_en, case_er, case_ee, iand_u64, ior_u64, ixor_u64, iandn_u64, inot_u64, ieq_u64_0, ieq_u64, decide_eq_true_eq, Bool.not_true, Bool.not_false, Bool.false_eq_true, if_false, if_true, Bool.not_eq_true', decide_eq_false_iff_not, ilt_eq, ile_eq, reduceCtorEq, not_false_eq_true, not_true_eq_false]
    rw [e1]
    simp only [letH_mk, bindC_mk, bindV_mk, bindL_mk, bindH_mk, bindJ_mk, asB_mk, asI_mk, asS_mk, asP_mk, asSl_mk, asA_mk, asTu_mk, asSome_mk, unc_mk, endL_mk, selC_eq, condT_eq, sel_eq, letN_mk, letB_mk, case_nn, case_nr, case_ne, case_rn, case_rr, case_re, case_en, case_er, case_ee, iand_u64, ior_u64, ixor_u64, iandn_u64, inot_u64, ieq_u64_0, ieq_u64, decide_eq_true_eq, Bool.not_true, Bool.not_false, Bool.false_eq_true, if_false, if_true, Bool.not_eq_true', decide_eq_false_iff_not, ilt_eq, ile_eq, reduceCtorEq, not_false_eq_true, not_true_eq_false]
    rw [e2]
    simp only [letH_mk, bindC_mk, bindV_mk, bindL_mk, bindH_mk, bindJ_mk, asB_mk, asI_mk, asS_mk, asP_mk, asSl_mk, asA_mk, asTu_mk, asSome_mk, unc_mk, endL_mk, selC_eq, condT_eq, sel_eq, letN_mk, letB_mk, case_nn, case_nr, case_ne, case_rn, case_rr, case_re, case_en, case_er, case_ee, iand_u64, ior_u64, ixor_u64, iandn_u64, inot_u64, ieq_u64_0, ieq_u64, decide_eq_true_eq, Bool.not_true, Bool.not_false, Bool.false_eq_true, if_false, if_true, Bool.not_eq_true', decide_eq_false_iff_not, ilt_eq, ile_eq, reduceCtorEq, not_false_eq_true, not_true_eq_false]
    rw [leave_flat rfl rfl]
    rfl
  · simp only [letH_mk, bindC_mk, bindV_mk, bindL_mk, bindH_mk, bindJ_mk, asB_mk, asI_mk, asS_mk, asP_mk, asSl_mk, asA_mk, asTu_mk, asSome_mk, unc_mk, endL_mk, selC_eq, condT_eq, sel_eq, letN_mk, letB_mk, case_nn, case_nr, case_ne, case_rn, case_rr, case_re, case_en, case_er, case_ee, iand_u64, ior_u64, ixor_u64, iandn_u64, inot_u64, ieq_u64_0, ieq_u64, decide_eq_true_eq, Bool.not_true, Bool.not_false, Bool.false_eq_true, if_false, if_true, Bool.not_eq_true', decide_eq_false_iff_not, ilt_eq, ile_eq, reduceCtorEq, not_false_eq_true, not_true_eq_false]
    rw [int_ok n (by omega) h (lo_ok hH)]
    simp only [letH_mk, bindC_mk, bindV_mk, bindL_mk, bindH_mk, bindJ_mk, asB_mk, asI_mk, asS_mk, asP_mk, asSl_mk, asA_mk, asTu_mk, asSome_mk, unc_mk, endL_mk, selC_eq, condT_eq, sel_eq, letN_mk, letB_mk, case_nn, case_nr, case_ne, case_rn, case_rr, case_re, case_en, case_er, case_ee, iand_u64, ior_u64, ixor_u64, iandn_u64, inot_u64, ieq_u64_0, ieq_u64, decide_eq_true_eq, Bool.not_true, Bool.not_false, Bool.false_eq_true, if_false, if_true, Bool.not_eq_true', decide_eq_false_iff_not, ilt_eq, ile_eq, reduceCtorEq, not_false_eq_true, not_true_eq_false]
    rw [int_ok n (by omega) h' (lo_ok hH)]
    simp only [letH_mk, bindC_mk, bindV_mk, bindL_mk, bindH_mk, bindJ_mk, asB_mk, asI_mk, asS_mk, asP_mk, asSl_mk, asA_mk, asTu_mk, asSome_mk, unc_mk, endL_mk, selC_eq, condT_eq, sel_eq, letN_mk, letB_mk, case_nn, case_nr, case_ne, case_rn, case_rr, case_re, case_en, case_er, case_ee, iand_u64, ior_u64, ixor_u64, iandn_u64, inot_u64, ieq_u64_0, ieq_u64, decide_eq_true_eq, Bool.not_true, Bool.not_false, Bool.false_eq_true, if_false, if_true, Bool.not_eq_true', decide_eq_false_iff_not, ilt_eq, ile_eq, reduceCtorEq, not_false_eq_true, not_true_eq_false, ieq_dec]
    have hne' : sint w v' ≠ 0 := hne
    show _ = some (AV.tuple [.int .u64 (u64 (BitVec.ofInt 64 ((sint w v).tdiv (sint w v')))), .int .u64 (u64 (BitVec.ofInt 64 ((sint w v).tmod (sint w v'))))], H)
    by_cases hm : sint w v' = -1
    · rw [if_pos hm, hm, fw_fw, leave_flat rfl rfl]
      rw [show (0 : Int) - sint w v = (sint w v).tdiv (-1) by rw [Int.tdiv_neg, Int.tdiv_one]; omega, show (sint w v).tmod (-1) = 0 by rw [Int.tmod_neg, Int.tmod_one]]
      rfl
    · rw [if_neg hm, quo_i64 _ _ hne']
      simp only [letH_mk, bindC_mk, bindV_mk, bindL_mk, bindH_mk, bindJ_mk, asB_mk, asI_mk, asS_mk, asP_mk, asSl_mk, asA_mk, asTu_mk, asSome_mk, unc_mk, endL_mk, selC_eq, condT_eq, sel_eq, letN_mk, letB_mk, case_nn, case_nr, case_ne, case_rn, case_rr, case_re, case_en, case_er, case_ee, iand_u64, ior_u64, ixor_u64, iandn_u64, inot_u64, ieq_u64_0, ieq_u64, decide_eq_true_eq, Bool.not_true, Bool.not_false, Bool.false_eq_true, if_false, if_true, Bool.not_eq_true', decide_eq_false_iff_not, ilt_eq, ile_eq, reduceCtorEq, not_false_eq_true, not_true_eq_false]
      rw [rem_i64 _ _ hne']
      simp only [letH_mk, bindC_mk, bindV_mk, bindL_mk, bindH_mk, bindJ_mk, asB_mk, asI_mk, asS_mk, asP_mk, asSl_mk, asA_mk, asTu_mk, asSome_mk, unc_mk, endL_mk, selC_eq, condT_eq, sel_eq, letN_mk, letB_mk, case_nn, case_nr, case_ne, case_rn, case_rr, case_re, case_en, case_er, case_ee, iand_u64, ior_u64, ixor_u64, iandn_u64, inot_u64, ieq_u64_0, ieq_u64, decide_eq_true_eq, Bool.not_true, Bool.not_false, Bool.false_eq_true, if_false, if_true, Bool.not_eq_true', decide_eq_false_iff_not, ilt_eq, ile_eq, reduceCtorEq, not_false_eq_true, not_true_eq_false]
      rw [fw_fw, fw_u64n, leave_flat rfl rfl]
theorem div_ok (n : Nat) (hn : 50 ≤ n) {w : Nat} {v v' : BitVec 64} (h : Vec w v 0#64) (h' : Vec w v' 0#64) (signed : Bool) {H : VH} (hH : H.Ok) :
    vcall T ext promo n 45 [bv w v 0#64, bv w v' 0#64, .bool signed] H = some (if v' = 0#64 then bv w (bmask w) (bmask w) else bv w (BitVec.ofInt 64 ((snum w v signed).tdiv (snum w v' signed)) &&& bmask w) 0#64, H) := by
  obtain ⟨n, rfl⟩ : ∃ m, n = m + 1 := ⟨n - 1, by omega⟩
  apply ok45
  unfold F45
  simp only [letH_mk]
  rw [alike_ok n (by omega) h h' (lo_ok hH)]
  simp only [letH_mk, bindC_mk, bindV_mk, bindL_mk, bindH_mk, bindJ_mk, asB_mk, asI_mk, asS_mk, asP_mk, asSl_mk, asA_mk, asTu_mk, asSome_mk, unc_mk, endL_mk, selC_eq, condT_eq, sel_eq, letN_mk, letB_mk, case_nn, case_nr, case_ne, case_rn, case_rr, case_re, case_en, case_er, case_ee, iand_u64, ior_u64, ixor_u64, iandn_u64, inot_u64, ieq_u64_0, ieq_u64, decide_eq_true_eq, Bool.not_true, Bool.not_false, Bool.false_eq_true, if_false, if_true, Bool.not_eq_true', decide_eq_false_iff_not, ilt_eq, ile_eq, reduceCtorEq, not_false_eq_true, not_true_eq_false, BitVec.or_self]
  by_cases hv : v' = 0#64
  · rw [if_pos hv, if_pos hv, all_ok n (by omega) ⟨h.pos, h.le⟩ 120 H.lo (bmask w) (bmask w) (by simp)]
    simp only [letH_mk, bindC_mk, bindV_mk, bindL_mk, bindH_mk, bindJ_mk, asB_mk, asI_mk, asS_mk, asP_mk, asSl_mk, asA_mk, asTu_mk, asSome_mk, unc_mk, endL_mk, selC_eq, condT_eq, sel_eq, letN_mk, letB_mk, case_nn, case_nr, case_ne, case_rn, case_rr, case_re, case_en, case_er, case_ee, iand_u64, ior_u64, ixor_u64, iandn_u64, inot_u64, ieq_u64_0, ieq_u64, decide_eq_true_eq, Bool.not_true, Bool.not_false, Bool.false_eq_true, if_false, if_true, Bool.not_eq_true', decide_eq_false_iff_not, ilt_eq, ile_eq, reduceCtorEq, not_false_eq_true, not_true_eq_false]
    rw [leave_flat rfl rfl]
  · rw [if_neg hv, if_neg hv, divide_ok n (by omega) h h' hv signed (lo_ok hH)]
    simp only [letH_mk, bindC_mk, bindV_mk, bindL_mk, bindH_mk, bindJ_mk, asB_mk, asI_mk, asS_mk, asP_mk, asSl_mk, asA_mk, asTu_mk, asSome_mk, unc_mk, endL_mk, selC_eq, condT_eq, sel_eq, letN_mk, letB_mk, case_nn, case_nr, case_ne, case_rn, case_rr, case_re, case_en, case_er, case_ee, iand_u64, ior_u64, ixor_u64, iandn_u64, inot_u64, ieq_u64_0, ieq_u64, decide_eq_true_eq, Bool.not_true, Bool.not_false, Bool.false_eq_true, if_false, if_true, Bool.not_eq_true', decide_eq_false_iff_not, ilt_eq, ile_eq, reduceCtorEq, not_false_eq_true, not_true_eq_false]
    rw [of_ok n (by omega) ⟨h.pos, h.le⟩]
    simp only [letH_mk, bindC_mk, bindV_mk, bindL_mk, bindH_mk, bindJ_mk, asB_mk, asI_mk, asS_mk, asP_mk, asSl_mk, asA_mk, asTu_mk, asSome_mk, unc_mk, endL_mk, selC_eq, condT_eq, sel_eq, letN_mk, letB_mk, case_nn, case_nr, case_ne, case_rn, case_rr, case_re, case_en, case_er, case_ee, iand_u64, ior_u64, ixor_u64, iandn_u64, inot_u64, ieq_u64_0, ieq_u64, decide_eq_true_eq, Bool.not_true, Bool.not_false, Bool.false_eq_true, if_false, if_true, Bool.not_eq_true', decide_eq_false_iff_not, ilt_eq, ile_eq, reduceCtorEq, not_false_eq_true, not_true_eq_false]
    rw [leave_flat rfl rfl]
theorem mod_ok (n : Nat) (hn : 50 ≤ n) {w : Nat} {v v' : BitVec 64} (h : Vec w v 0#64) (h' : Vec w v' 0#64) (signed : Bool) {H : VH} (hH : H.Ok) :
    vcall T ext promo n 46 [bv w v 0#64, bv w v' 0#64, .bool signed] H = some (if v' = 0#64 then bv w (bmask w) (bmask w) else bv w (BitVec.ofInt 64 ((snum w v signed).tmod (snum w v' signed)) &&& bmask w) 0#64, H) := by
  obtain ⟨n, rfl⟩ : ∃ m, n = m + 1 := ⟨n - 1, by omega⟩
  apply ok46
  unfold F46
  simp only [letH_mk]
  rw [alike_ok n (by omega) h h' (lo_ok hH)]
  simp only [letH_mk, bindC_mk, bindV_mk, bindL_mk, bindH_mk, bindJ_mk, asB_mk, asI_mk, asS_mk, asP_mk, asSl_mk, asA_mk, asTu_mk, asSome_mk, unc_mk, endL_mk, selC_eq, condT_eq, sel_eq, letN_mk, letB_mk, case_nn, case_nr, case_ne, case_rn, case_rr, case_re, case_en, case_er, case_ee, iand_u64, ior_u64, ixor_u64, iandn_u64, inot_u64, ieq_u64_0, ieq_u64, decide_eq_true_eq, Bool.not_true, Bool.not_false, Bool.false_eq_true, if_false, if_true, Bool.not_eq_true', decide_eq_false_iff_not, ilt_eq, ile_eq, reduceCtorEq, not_false_eq_true, not_true_eq_false, BitVec.or_self]
  by_cases hv : v' = 0#64
  · rw [if_pos hv, if_pos hv, all_ok n (by omega) ⟨h.pos, h.le⟩ 120 H.lo (bmask w) (bmask w) (by simp)]
    simp only [letH_mk, bindC_mk, bindV_mk, bindL_mk, bindH_mk, bindJ_mk, asB_mk, asI_mk, asS_mk, asP_mk, asSl_mk, asA_mk, asTu_mk, asSome_mk, unc_mk, endL_mk, selC_eq, condT_eq, sel_eq, letN_mk, letB_mk, case_nn, case_nr, case_ne, case_rn, case_rr, case_re, case_en, case_er, case_ee, iand_u64, ior_u64, ixor_u64, iandn_u64, inot_u64, ieq_u64_0, ieq_u64, decide_eq_true_eq, Bool.not_true, Bool.not_false, Bool.false_eq_true, if_false, if_true, Bool.not_eq_true', decide_eq_false_iff_not, ilt_eq, ile_eq, reduceCtorEq, not_false_eq_true, not_true_eq_false]
    rw [leave_flat rfl rfl]
  · rw [if_neg hv, if_neg hv, divide_ok n (by omega) h h' hv signed (lo_ok hH)]
    simp only [letH_mk, bindC_mk, bindV_mk, bindL_mk, bindH_mk, bindJ_mk, asB_mk, asI_mk, asS_mk, asP_mk, asSl_mk, asA_mk, asTu_mk, asSome_mk, unc_mk, endL_mk, selC_eq, condT_eq, sel_eq, letN_mk, letB_mk, case_nn, case_nr, case_ne, case_rn, case_rr, case_re, case_en, case_er, case_ee, iand_u64, ior_u64, ixor_u64, iandn_u64, inot_u64, ieq_u64_0, ieq_u64, decide_eq_true_eq, Bool.not_true, Bool.not_false, Bool.false_eq_true, if_false, if_true, Bool.not_eq_true', decide_eq_false_iff_not, ilt_eq, ile_eq, reduceCtorEq, not_false_eq_true, not_true_eq_false]
    rw [of_ok n (by omega) ⟨h.pos, h.le⟩]
    simp only [letH_mk, bindC_mk, bindV_mk, bindL_mk, bindH_mk, bindJ_mk, asB_mk, asI_mk, asS_mk, asP_mk, asSl_mk, asA_mk, asTu_mk, asSome_mk, unc_mk, endL_mk, selC_eq, condT_eq, sel_eq, letN_mk, letB_mk, case_nn, case_nr, case_ne, case_rn, case_rr, case_re, case_en, case_er, case_ee, iand_u64, ior_u64, ixor_u64, iandn_u64, inot_u64, ieq_u64_0, ieq_u64, decide_eq_true_eq, Bool.not_true, Bool.not_false, Bool.false_eq_true, if_false, if_true, Bool.not_eq_true', decide_eq_false_iff_not, ilt_eq, ile_eq, reduceCtorEq, not_false_eq_true, not_true_eq_false]
    rw [leave_flat rfl rfl]
/-- Quotient times divisor and remainder. -/
theorem div_law {w : Nat} (hw : 1 ≤ w ∧ w ≤ 64) {a b : BitVec 64} (ha : ∀ i, w ≤ i → a.getLsbD i = false) (hb : ∀ i, w ≤ i → b.getLsbD i = false) (signed : Bool) :
    (((BitVec.ofInt 64 ((snum w a signed).tdiv (snum w b signed)) &&& bmask w) * b) &&& bmask w) + (BitVec.ofInt 64 ((snum w a signed).tmod (snum w b signed)) &&& bmask w) &&& bmask w = a := by
  apply BitVec.eq_of_toNat_eq
  apply Int.ofNat_inj.1
  rw [add_nat hw.2, mul_nat hw.2]
  have e1 := snum_mod hw ha signed
  have e2 := snum_mod hw hb signed
  have halt := nat_lt ha
  have e3 := ofInt_nat hw.2 ((snum w a signed).tdiv (snum w b signed))
  have e4 := ofInt_nat hw.2 ((snum w a signed).tmod (snum w b signed))
  have e5 := Int.mul_tdiv_add_tmod (snum w a signed) (snum w b signed)
  simp only [Int.ofNat_eq_natCast, Int.natCast_emod, Int.natCast_add, Int.natCast_mul, e3, e4]
  generalize (snum w a signed).tdiv (snum w b signed) = q at *
  generalize (snum w a signed).tmod (snum w b signed) = r at *
  generalize snum w a signed = x at *
  generalize snum w b signed = y at *
  have hM : ((a.toNat : Nat) : Int) % ((2 ^ w : Nat) : Int) = (a.toNat : Int) := Int.emod_eq_of_lt (Int.natCast_nonneg _) (Int.ofNat_lt.2 halt)
  generalize ((2 ^ w : Nat) : Int) = M at *
  have h1 : (q % M * (b.toNat : Int)) % M = (y * q) % M := by
    rw [Int.mul_emod, Int.emod_emod_of_dvd _ (Int.dvd_refl M), ← e2, ← Int.mul_emod, Int.mul_comm]
  rw [← Int.add_emod, Int.add_emod, h1, ← Int.add_emod, e5, e1, hM]
end Go.Vm.Tryd
