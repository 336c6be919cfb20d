/- The vectors' texts are read back. -/
import Derived.Test.YtieocmaaloaoaaaDoorBt
namespace Go.Vm.Tryd
set_option linter.unusedSectionVars false
set_option linter.unusedSimpArgs false
set_option linter.unusedVariables false
set_option maxRecDepth 10000
theorem put_ok (n : Nat) (hn : 40 ≤ n) {w pw : Nat} {v x pv px : BitVec 64} (h : Vec w v x) (h' : Vec pw pv px) (k : Nat) (hk : k < w) {H : VH} (hH : H.Ok) :
    vcall T ext promo n 31 [bv w v x, .int .i64 (k : Int), bv pw pv px] H =
      some (bv w (v &&& ~~~(bmask pw <<< k &&& bmask w) ||| pv <<< k &&& (bmask pw <<< k &&& bmask w)) (x &&& ~~~(bmask pw <<< k &&& bmask w) ||| px <<< k &&& (bmask pw <<< k &&& bmask w)), H) := by
  obtain ⟨n, rfl⟩ : ∃ m, n = m + 1 := ⟨n - 1, by omega⟩
  apply ok31
  unfold F31
  have h1 := h.le
  have h2 := h'.pos
  have h3 := h'.le
  simp only [letH_mk]
  rw [valid2 n (by omega) (lo_ok hH) h h']
  simp only [letH_mk, bindC_mk, bindV_mk, bindL_mk, bindH_mk, bindJ_mk, asB_mk, asI_mk, asS_mk, asP_mk, asSl_mk, asA_mk, asTu_mk, asSome_mk, unc_mk, endL_mk, selC_eq, condT_eq, sel_eq, letN_mk, letB_mk, case_nn, case_nr, case_ne, case_rn, case_rr, case_re, case_en, case_er, case_ee, iand_u64, ior_u64, ixor_u64, iandn_u64, inot_u64, ieq_u64_0, ieq_u64, decide_eq_true_eq, Bool.not_true, Bool.not_false, Bool.false_eq_true, if_false, if_true, Bool.not_eq_true', decide_eq_false_iff_not, ilt_eq, ile_eq, reduceCtorEq, not_false_eq_true, not_true_eq_false]
  rw [fw_i64 (by omega) (by omega), if_neg (by omega)]
  simp only [letH_mk, bindC_mk, bindV_mk, bindL_mk, bindH_mk, bindJ_mk, asB_mk, asI_mk, asS_mk, asP_mk, asSl_mk, asA_mk, asTu_mk, asSome_mk, unc_mk, endL_mk, selC_eq, condT_eq, sel_eq, letN_mk, letB_mk, case_nn, case_nr, case_ne, case_rn, case_rr, case_re, case_en, case_er, case_ee, iand_u64, ior_u64, ixor_u64, iandn_u64, inot_u64, ieq_u64_0, ieq_u64, decide_eq_true_eq, Bool.not_true, Bool.not_false, Bool.false_eq_true, if_false, if_true, Bool.not_eq_true', decide_eq_false_iff_not, ilt_eq, ile_eq, reduceCtorEq, not_false_eq_true, not_true_eq_false]
  rw [if_neg (by omega), mask_ok n (by omega)]
  simp only [letH_mk, bindC_mk, bindV_mk, bindL_mk, bindH_mk, bindJ_mk, asB_mk, asI_mk, asS_mk, asP_mk, asSl_mk, asA_mk, asTu_mk, asSome_mk, unc_mk, endL_mk, selC_eq, condT_eq, sel_eq, letN_mk, letB_mk, case_nn, case_nr, case_ne, case_rn, case_rr, case_re, case_en, case_er, case_ee, iand_u64, ior_u64, ixor_u64, iandn_u64, inot_u64, ieq_u64_0, ieq_u64, decide_eq_true_eq, Bool.not_true, Bool.not_false, Bool.false_eq_true, if_false, if_true, Bool.not_eq_true', decide_eq_false_iff_not, ilt_eq, ile_eq, reduceCtorEq, not_false_eq_true, not_true_eq_false]
  rw [if_neg (by omega), shl_var', shl_var', shl_var', Nat.min_eq_left (by omega)]
  simp only [letH_mk, bindC_mk, bindV_mk, bindL_mk, bindH_mk, bindJ_mk, asB_mk, asI_mk, asS_mk, asP_mk, asSl_mk, asA_mk, asTu_mk, asSome_mk, unc_mk, endL_mk, selC_eq, condT_eq, sel_eq, letN_mk, letB_mk, case_nn, case_nr, case_ne, case_rn, case_rr, case_re, case_en, case_er, case_ee, iand_u64, ior_u64, ixor_u64, iandn_u64, inot_u64, ieq_u64_0, ieq_u64, decide_eq_true_eq, Bool.not_true, Bool.not_false, Bool.false_eq_true, if_false, if_true, Bool.not_eq_true', decide_eq_false_iff_not, ilt_eq, ile_eq, reduceCtorEq, not_false_eq_true, not_true_eq_false]
  rw [mask_ok n (by omega)]
  simp only [letH_mk, bindC_mk, bindV_mk, bindL_mk, bindH_mk, bindJ_mk, asB_mk, asI_mk, asS_mk, asP_mk, asSl_mk, asA_mk, asTu_mk, asSome_mk, unc_mk, endL_mk, selC_eq, condT_eq, sel_eq, letN_mk, letB_mk, case_nn, case_nr, case_ne, case_rn, case_rr, case_re, case_en, case_er, case_ee, iand_u64, ior_u64, ixor_u64, iandn_u64, inot_u64, ieq_u64_0, ieq_u64, decide_eq_true_eq, Bool.not_true, Bool.not_false, Bool.false_eq_true, if_false, if_true, Bool.not_eq_true', decide_eq_false_iff_not, ilt_eq, ile_eq, reduceCtorEq, not_false_eq_true, not_true_eq_false]
  rw [leave_flat rfl rfl]
/-- A digit that is 0 or 1. -/
theorem digit_ok (n : Nat) (hn : 5 ≤ n) (b : Bool) (H : VH) : vcall T ext promo n 128 [.int .u8 (if b then 49 else 48)] H = some (.int .i64 (if b then 1 else 0), H) := by
  obtain ⟨n, rfl⟩ : ∃ m, n = m + 1 := ⟨n - 1, by omega⟩
  apply ok128
  unfold F128
  cases b
  · simp only [letH_mk, bindC_mk, bindV_mk, bindL_mk, bindH_mk, bindJ_mk, asB_mk, asI_mk, asS_mk, asP_mk, asSl_mk, asA_mk, asTu_mk, asSome_mk, unc_mk, endL_mk, selC_eq, condT_eq, sel_eq, letN_mk, letB_mk, case_nn, case_nr, case_ne, case_rn, case_rr, case_re, case_en, case_er, case_ee, iand_u64, ior_u64, ixor_u64, iandn_u64, inot_u64, ieq_u64_0, ieq_u64, decide_eq_true_eq, Bool.not_true, Bool.not_false, Bool.false_eq_true, if_false, if_true, Bool.not_eq_true', decide_eq_false_iff_not, ilt_eq, ile_eq, reduceCtorEq, not_false_eq_true, not_true_eq_false]
    rw [if_pos (by decide)]
    simp only [letH_mk, bindC_mk, bindV_mk, bindL_mk, bindH_mk, bindJ_mk, asB_mk, asI_mk, asS_mk, asP_mk, asSl_mk, asA_mk, asTu_mk, asSome_mk, unc_mk, endL_mk, selC_eq, condT_eq, sel_eq, letN_mk, letB_mk, case_nn, case_nr, case_ne, case_rn, case_rr, case_re, case_en, case_er, case_ee, iand_u64, ior_u64, ixor_u64, iandn_u64, inot_u64, ieq_u64_0, ieq_u64, decide_eq_true_eq, Bool.not_true, Bool.not_false, Bool.false_eq_true, if_false, if_true, Bool.not_eq_true', decide_eq_false_iff_not, ilt_eq, ile_eq, reduceCtorEq, not_false_eq_true, not_true_eq_false]
    rw [if_pos (by decide), leave_flat rfl rfl]
    rfl
  · simp only [letH_mk, bindC_mk, bindV_mk, bindL_mk, bindH_mk, bindJ_mk, asB_mk, asI_mk, asS_mk, asP_mk, asSl_mk, asA_mk, asTu_mk, asSome_mk, unc_mk, endL_mk, selC_eq, condT_eq, sel_eq, letN_mk, letB_mk, case_nn, case_nr, case_ne, case_rn, case_rr, case_re, case_en, case_er, case_ee, iand_u64, ior_u64, ixor_u64, iandn_u64, inot_u64, ieq_u64_0, ieq_u64, decide_eq_true_eq, Bool.not_true, Bool.not_false, Bool.false_eq_true, if_false, if_true, Bool.not_eq_true', decide_eq_false_iff_not, ilt_eq, ile_eq, reduceCtorEq, not_false_eq_true, not_true_eq_false]
    rw [if_pos (by decide)]
    simp only [letH_mk, bindC_mk, bindV_mk, bindL_mk, bindH_mk, bindJ_mk, asB_mk, asI_mk, asS_mk, asP_mk, asSl_mk, asA_mk, asTu_mk, asSome_mk, unc_mk, endL_mk, selC_eq, condT_eq, sel_eq, letN_mk, letB_mk, case_nn, case_nr, case_ne, case_rn, case_rr, case_re, case_en, case_er, case_ee, iand_u64, ior_u64, ixor_u64, iandn_u64, inot_u64, ieq_u64_0, ieq_u64, decide_eq_true_eq, Bool.not_true, Bool.not_false, Bool.false_eq_true, if_false, if_true, Bool.not_eq_true', decide_eq_false_iff_not, ilt_eq, ile_eq, reduceCtorEq, not_false_eq_true, not_true_eq_false]
    rw [if_pos (by decide), leave_flat rfl rfl]
    rfl
theorem digs_eq (w : Nat) (hw : 1 ≤ w ∧ w ≤ 64) : (∃ d, 1 ≤ d ∧ d ≤ 9 ∧ w = d ∧ digs w = [UInt8.ofNat (48 + d)]) ∨ ∃ d e, 1 ≤ d ∧ d ≤ 9 ∧ e ≤ 9 ∧ w = 10 * d + e ∧ digs w = [UInt8.ofNat (48 + d), UInt8.ofNat (48 + e)] := by
  unfold digs
  by_cases h : w < 10
  · rw [if_pos h]
    exact .inl ⟨w, hw.1, by omega, rfl, rfl⟩
  · rw [if_neg h]
    exact .inr ⟨w / 10, w % 10, by omega, by omega, by omega, by omega, rfl⟩
theorem dig_nat (d : Nat) (h : d ≤ 9) : (UInt8.ofNat (48 + d)).toNat = 48 + d := by
  simp
  omega
/-- One round of the loop that reads a width. -/
theorem size_step (n m : Nat) (l : List UInt8) (hl : l.length < 1000) (a k d : Nat) (ha : a ≤ 100) (hd : d ≤ 9) (hk : k < l.length) (he : l[k].toNat = 48 + d) (H : VH) :
    loopN (L72_0 (vcall T ext promo n) n (PS.of l)) (m + 1) [.int .i64 (a : Int), .int .i64 (k : Int)] H = loopN (L72_0 (vcall T ext promo n) n (PS.of l)) m [.int .i64 (imin ((10 * a + d : Nat) : Int) 1000), .int .i64 ((k + 1 : Nat) : Int)] H := by
  rw [loopN_succ]
  generalize loopN (L72_0 (vcall T ext promo n) n (PS.of l)) m = lp
  unfold L72_0
  simp only [letH_mk, bindC_mk, bindV_mk, bindL_mk, bindH_mk, bindJ_mk, asB_mk, asI_mk, asS_mk, asP_mk, asSl_mk, asA_mk, asTu_mk, asSome_mk, unc_mk, endL_mk, selC_eq, condT_eq, sel_eq, letN_mk, letB_mk, case_nn, case_nr, case_ne, case_rn, case_rr, case_re, case_en, case_er, case_ee, iand_u64, ior_u64, ixor_u64, iandn_u64, inot_u64, ieq_u64_0, ieq_u64, decide_eq_true_eq, Bool.not_true, Bool.not_false, Bool.false_eq_true, if_false, if_true, Bool.not_eq_true', decide_eq_false_iff_not, ilt_eq, ile_eq, reduceCtorEq, not_false_eq_true, not_true_eq_false, of_len, Bool.and_eq_true]
  rw [if_pos (by omega), if_pos (by omega), byte_int l k hk, he, if_pos (by omega), if_pos (by omega)]
  simp only [letH_mk, bindC_mk, bindV_mk, bindL_mk, bindH_mk, bindJ_mk, asB_mk, asI_mk, asS_mk, asP_mk, asSl_mk, asA_mk, asTu_mk, asSome_mk, unc_mk, endL_mk, selC_eq, condT_eq, sel_eq, letN_mk, letB_mk, case_nn, case_nr, case_ne, case_rn, case_rr, case_re, case_en, case_er, case_ee, iand_u64, ior_u64, ixor_u64, iandn_u64, inot_u64, ieq_u64_0, ieq_u64, decide_eq_true_eq, Bool.not_true, Bool.not_false, Bool.false_eq_true, if_false, if_true, Bool.not_eq_true', decide_eq_false_iff_not, ilt_eq, ile_eq, reduceCtorEq, not_false_eq_true, not_true_eq_false, Bool.and_eq_true]
  have e1 : fwrap .i64 (10 * (a : Int)) = 10 * (a : Int) := fw_i64 (by omega) (by omega)
  have e2 : fwrap .u8 (((48 + d : Nat) : Int) - 48) = (d : Int) := by rw [fw_u8]; omega
  have e3 : fwrap .i64 (d : Int) = (d : Int) := fw_i64 (by omega) (by omega)
  have e4 : fwrap .i64 (10 * (a : Int) + (d : Int)) = ((10 * a + d : Nat) : Int) := by rw [fw_i64 (by omega) (by omega)]; omega
  have e5 : fwrap .i64 ((k : Int) + 1) = ((k + 1 : Nat) : Int) := by rw [fw_i64 (by omega) (by omega)]; rfl
  rw [if_pos (by omega), if_pos (by omega), e1, e2, e3, e4, e5]
theorem size_end (n m : Nat) (l : List UInt8) (hl : l.length < 1000) (a k : Nat) (hk : k < l.length) (he : l[k].toNat = 39) (H : VH) :
    loopN (L72_0 (vcall T ext promo n) n (PS.of l)) (m + 1) [.int .i64 (a : Int), .int .i64 (k : Int)] H = some (.exit 0, [.int .i64 (a : Int), .int .i64 (k : Int)], H) := by
  rw [loopN_succ]
  generalize loopN (L72_0 (vcall T ext promo n) n (PS.of l)) m = lp
  unfold L72_0
  simp only [letH_mk, bindC_mk, bindV_mk, bindL_mk, bindH_mk, bindJ_mk, asB_mk, asI_mk, asS_mk, asP_mk, asSl_mk, asA_mk, asTu_mk, asSome_mk, unc_mk, endL_mk, selC_eq, condT_eq, sel_eq, letN_mk, letB_mk, case_nn, case_nr, case_ne, case_rn, case_rr, case_re, case_en, case_er, case_ee, iand_u64, ior_u64, ixor_u64, iandn_u64, inot_u64, ieq_u64_0, ieq_u64, decide_eq_true_eq, Bool.not_true, Bool.not_false, Bool.false_eq_true, if_false, if_true, Bool.not_eq_true', decide_eq_false_iff_not, ilt_eq, ile_eq, reduceCtorEq, not_false_eq_true, not_true_eq_false, of_len, Bool.and_eq_true]
  rw [if_pos (by omega), if_pos (by omega), byte_int l k hk, he, if_neg (by omega)]
  simp only [letH_mk, bindC_mk, bindV_mk, bindL_mk, bindH_mk, bindJ_mk, asB_mk, asI_mk, asS_mk, asP_mk, asSl_mk, asA_mk, asTu_mk, asSome_mk, unc_mk, endL_mk, selC_eq, condT_eq, sel_eq, letN_mk, letB_mk, case_nn, case_nr, case_ne, case_rn, case_rr, case_re, case_en, case_er, case_ee, iand_u64, ior_u64, ixor_u64, iandn_u64, inot_u64, ieq_u64_0, ieq_u64, decide_eq_true_eq, Bool.not_true, Bool.not_false, Bool.false_eq_true, if_false, if_true, Bool.not_eq_true', decide_eq_false_iff_not, ilt_eq, ile_eq, reduceCtorEq, not_false_eq_true, not_true_eq_false]

theorem imin_lt (a : Nat) (h : a ≤ 1000) : imin (a : Int) 1000 = (a : Int) := by
  unfold imin
  simp only [ilt_eq, decide_eq_true_eq]
  split
  · omega
  · rfl
theorem size_loop (n : Nat) (hn : 10 ≤ n) {w : Nat} (hw : 1 ≤ w ∧ w ≤ 64) (rest : List UInt8) (hr : rest.length < 900) (H : VH) :
    ∃ c, (digs w ++ 39 :: rest)[0]? = some c ∧ c.toNat ≠ 48 ∧ 1 ≤ (digs w).length ∧ loopN (L72_0 (vcall T ext promo n) n (PS.of (digs w ++ 39 :: rest))) n [.int .i64 0, .int .i64 0] H = some (.exit 0, [.int .i64 (w : Int), .int .i64 ((digs w).length : Int)], H) := by
  rcases digs_eq w hw with ⟨d, h1, h2, h3, h4⟩ | ⟨d, e, h1, h2, h3, h4, h5⟩
  · obtain ⟨m, rfl⟩ : ∃ m, n = m + 2 := ⟨n - 2, by omega⟩
    refine ⟨UInt8.ofNat (48 + d), by rw [h4]; rfl, by rw [dig_nat d h2]; omega, by rw [h4]; exact Nat.le_refl _, ?_⟩
    rw [h4]
    have s1 := size_step (m + 2) (m + 1) ([UInt8.ofNat (48 + d)] ++ 39 :: rest) (by simp; omega) 0 0 d (by omega) h2 (by simp) (dig_nat d h2) H
    have s2 := size_end (m + 2) m ([UInt8.ofNat (48 + d)] ++ 39 :: rest) (by simp; omega) d 1 (by simp) rfl H
    simp only [Nat.mul_zero, Nat.zero_add] at s1
    rw [imin_lt d (by omega)] at s1
    rw [show ((0 : Nat) : Int) = 0 from rfl] at s1
    rw [s1, s2, h3]
    rfl
  · obtain ⟨m, rfl⟩ : ∃ m, n = m + 3 := ⟨n - 3, by omega⟩
    refine ⟨UInt8.ofNat (48 + d), by rw [h5]; rfl, by rw [dig_nat d h2]; omega, by rw [h5]; exact Nat.le_succ _, ?_⟩
    rw [h5]
    have s1 := size_step (m + 3) (m + 2) ([UInt8.ofNat (48 + d), UInt8.ofNat (48 + e)] ++ 39 :: rest) (by simp; omega) 0 0 d (by omega) h2 (by simp) (dig_nat d h2) H
    have s2 := size_step (m + 3) (m + 1) ([UInt8.ofNat (48 + d), UInt8.ofNat (48 + e)] ++ 39 :: rest) (by simp; omega) d 1 e (by omega) h3 (by simp) (dig_nat e h3) H
    have s3 := size_end (m + 3) m ([UInt8.ofNat (48 + d), UInt8.ofNat (48 + e)] ++ 39 :: rest) (by simp; omega) (10 * d + e) 2 (by simp) rfl H
    simp only [Nat.mul_zero, Nat.zero_add] at s1
    rw [imin_lt d (by omega)] at s1
    rw [imin_lt (10 * d + e) (by omega)] at s2
    rw [show ((0 : Nat) : Int) = 0 from rfl] at s1
    rw [s1, s2, s3, h4]
    rfl
theorem byte_zero (l : List UInt8) (c : UInt8) (h : l[0]? = some c) : (((PS.of l).byte ((0 : Int).toNat) : Nat) : Int) = (c.toNat : Int) ∧ 0 < l.length := by
  have hlen : 0 < l.length := by
    rcases l with _ | ⟨a, l⟩
    · cases h
    · simp
  have := byte_at l 0 hlen
  rw [show ((0 : Int).toNat) = 0 from rfl, this]
  have e : l[0]? = some l[0] := List.getElem?_eq_getElem hlen
  rw [h] at e
  rw [← Option.some.inj e]
  exact ⟨rfl, hlen⟩
/-- The width at a text's begin. -/
theorem size_ok (n : Nat) (hn : 80 ≤ n) {w : Nat} (hw : 1 ≤ w ∧ w ≤ 64) (rest : List UInt8) (hr : rest.length < 900) (H : VH) :
    vcall T ext promo n 72 [.str (PS.of (digs w ++ 39 :: rest))] H = some (.tuple [.int .i64 (w : Int), .int .i64 ((digs w).length : Int), .int .i64 0], H) := by
  obtain ⟨n, rfl⟩ : ∃ m, n = m + 1 := ⟨n - 1, by omega⟩
  apply ok72
  unfold F72
  obtain ⟨c, h1, h2, h3, h4⟩ := size_loop n (by omega) hw rest hr H.lo
  obtain ⟨h5, h6⟩ := byte_zero _ _ h1
  simp only [letH_mk]
  rw [h4]
  simp only [letH_mk, bindC_mk, bindV_mk, bindL_mk, bindH_mk, bindJ_mk, asB_mk, asI_mk, asS_mk, asP_mk, asSl_mk, asA_mk, asTu_mk, asSome_mk, unc_mk, endL_mk, selC_eq, condT_eq, sel_eq, letN_mk, letB_mk, case_nn, case_nr, case_ne, case_rn, case_rr, case_re, case_en, case_er, case_ee, iand_u64, ior_u64, ixor_u64, iandn_u64, inot_u64, ieq_u64_0, ieq_u64, decide_eq_true_eq, Bool.not_true, Bool.not_false, Bool.false_eq_true, if_false, if_true, Bool.not_eq_true', decide_eq_false_iff_not, ilt_eq, ile_eq, reduceCtorEq, not_false_eq_true, not_true_eq_false, ieq_dec, of_len, Bool.and_eq_true]
  rw [if_neg (by omega), if_pos (by omega), h5]
  simp only [letH_mk, bindC_mk, bindV_mk, bindL_mk, bindH_mk, bindJ_mk, asB_mk, asI_mk, asS_mk, asP_mk, asSl_mk, asA_mk, asTu_mk, asSome_mk, unc_mk, endL_mk, selC_eq, condT_eq, sel_eq, letN_mk, letB_mk, case_nn, case_nr, case_ne, case_rn, case_rr, case_re, case_en, case_er, case_ee, iand_u64, ior_u64, ixor_u64, iandn_u64, inot_u64, ieq_u64_0, ieq_u64, decide_eq_true_eq, Bool.not_true, Bool.not_false, Bool.false_eq_true, if_false, if_true, Bool.not_eq_true', decide_eq_false_iff_not, ilt_eq, ile_eq, reduceCtorEq, not_false_eq_true, not_true_eq_false]
  rw [if_neg (by omega), if_neg (by omega), leave_flat rfl rfl]
end Go.Vm.Tryd
