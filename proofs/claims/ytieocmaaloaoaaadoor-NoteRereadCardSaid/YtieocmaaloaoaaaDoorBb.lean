/- The vectors' operations: what they answer. -/
import Derived.Test.YtieocmaaloaoaaaDoorSm
namespace Go.Vm.Tryd
set_option linter.unusedSectionVars false
set_option linter.unusedSimpArgs false
set_option linter.unusedVariables false
theorem fresh3 {H : VH} (hH : H.Ok) (a b c : AV) : (H.fresh [a, b, c]).cells H.next (0 + 0 * 3) 3 = some [a, b, c] := fresh_cells hH _ 0 3 (by simp)
theorem valid1 (n : Nat) (hn : 20 ≤ n) {H : VH} (hH : H.Ok) {w : Nat} {v x : BitVec 64} (hv : Vec w v x) :
    vcall T ext promo n 75 [.slice (some (H.next, 0)) 1 (some 1) 3] (H.fresh [.int .i64 (w : Int), .int .u64 (u64 v), .int .u64 (u64 x)]) = some (.bool true, H.fresh [.int .i64 (w : Int), .int .u64 (u64 v), .int .u64 (u64 x)]) := by
  refine valid_ok n (by omega) (by omega) fun i hi => ⟨w, v, x, hv, ?_⟩
  obtain rfl : i = 0 := by omega
  exact fresh_cells hH _ 0 3 (by simp)
theorem valid2 (n : Nat) (hn : 20 ≤ n) {H : VH} (hH : H.Ok) {w w' : Nat} {v x v' x' : BitVec 64} (hv : Vec w v x) (hv' : Vec w' v' x') :
    vcall T ext promo n 75 [.slice (some (H.next, 0)) 2 (some 2) 3] (H.fresh [.int .i64 (w : Int), .int .u64 (u64 v), .int .u64 (u64 x), .int .i64 (w' : Int), .int .u64 (u64 v'), .int .u64 (u64 x')]) =
      some (.bool true, H.fresh [.int .i64 (w : Int), .int .u64 (u64 v), .int .u64 (u64 x), .int .i64 (w' : Int), .int .u64 (u64 v'), .int .u64 (u64 x')]) := by
  refine valid_ok n (by omega) (by omega) fun i hi => ?_
  rcases (show i = 0 ∨ i = 1 by omega) with rfl | rfl
  · exact ⟨w, v, x, hv, fresh_cells hH _ 0 3 (by simp)⟩
  · exact ⟨w', v', x', hv', fresh_cells hH _ 3 3 (by simp)⟩
theorem alike_ok (n : Nat) (hn : 25 ≤ n) {w : Nat} {v x v' x' : BitVec 64} (h : Vec w v x) (h' : Vec w v' x') {H : VH} (hH : H.Ok) : vcall T ext promo n 82 [bv w v x, bv w v' x'] H = some (.bool true, H) := by
  obtain ⟨n, rfl⟩ : ∃ m, n = m + 1 := ⟨n - 1, by omega⟩
  apply ok82
  unfold F82
  simp only [letH_mk]
  rw [valid2 n (by omega) (lo_ok hH) h h']
  simp only [letH_mk, bindC_mk, bindV_mk, bindL_mk, bindH_mk, bindJ_mk, asB_mk, asI_mk, asS_mk, asP_mk, asSl_mk, asA_mk, asTu_mk, asSome_mk, unc_mk, endL_mk, selC_eq, condT_eq, sel_eq, letN_mk, letB_mk, case_nn, case_nr, case_ne, case_rn, case_rr, case_re, case_en, case_er, case_ee, iand_u64, ior_u64, ixor_u64, iandn_u64, inot_u64, ieq_u64_0, ieq_u64, decide_eq_true_eq, Bool.not_true, Bool.not_false, Bool.false_eq_true, if_false, if_true, Bool.not_eq_true', decide_eq_false_iff_not, ilt_eq, ile_eq, reduceCtorEq, not_false_eq_true, not_true_eq_false, ieq_dec]
  rw [leave_flat rfl rfl]
  simp
/-- What make3 makes. -/
abbrev mk3 (w : Nat) (one unk : BitVec 64) : AV := bv w ((one ||| unk) &&& bmask w) (unk &&& bmask w)
theorem mk3_vec {w : Nat} (hw : 1 ≤ w ∧ w ≤ 64) (one unk : BitVec 64) : Vec w ((one ||| unk) &&& bmask w) (unk &&& bmask w) := ⟨hw.1, hw.2, mask_out w _, mask_out w _⟩
theorem make3_ok (n : Nat) (hn : 5 ≤ n) (w : Nat) (one unk : BitVec 64) (H : VH) : vcall T ext promo n 81 [.int .i64 (w : Int), .int .u64 (u64 one), .int .u64 (u64 unk)] H = some (mk3 w one unk, H) := by
  obtain ⟨n, rfl⟩ : ∃ m, n = m + 1 := ⟨n - 1, by omega⟩
  apply ok81
  unfold F81
  simp only [letH_mk, bindC_mk, bindV_mk, bindL_mk, bindH_mk, bindJ_mk, asB_mk, asI_mk, asS_mk, asP_mk, asSl_mk, asA_mk, asTu_mk, asSome_mk, unc_mk, endL_mk, selC_eq, condT_eq, sel_eq, letN_mk, letB_mk, case_nn, case_nr, case_ne, case_rn, case_rr, case_re, case_en, case_er, case_ee, iand_u64, ior_u64, ixor_u64, iandn_u64, inot_u64, ieq_u64_0, ieq_u64, decide_eq_true_eq, Bool.not_true, Bool.not_false, Bool.false_eq_true, if_false, if_true, Bool.not_eq_true', decide_eq_false_iff_not, ilt_eq, ile_eq, reduceCtorEq, not_false_eq_true, not_true_eq_false]
  rw [mask_ok n (by omega)]
  simp only [letH_mk, bindC_mk, bindV_mk, bindL_mk, bindH_mk, bindJ_mk, asB_mk, asI_mk, asS_mk, asP_mk, asSl_mk, asA_mk, asTu_mk, asSome_mk, unc_mk, endL_mk, selC_eq, condT_eq, sel_eq, letN_mk, letB_mk, case_nn, case_nr, case_ne, case_rn, case_rr, case_re, case_en, case_er, case_ee, iand_u64, ior_u64, ixor_u64, iandn_u64, inot_u64, ieq_u64_0, ieq_u64, decide_eq_true_eq, Bool.not_true, Bool.not_false, Bool.false_eq_true, if_false, if_true, Bool.not_eq_true', decide_eq_false_iff_not, ilt_eq, ile_eq, reduceCtorEq, not_false_eq_true, not_true_eq_false]
  rw [mask_ok n (by omega)]
  simp only [letH_mk, bindC_mk, bindV_mk, bindL_mk, bindH_mk, bindJ_mk, asB_mk, asI_mk, asS_mk, asP_mk, asSl_mk, asA_mk, asTu_mk, asSome_mk, unc_mk, endL_mk, selC_eq, condT_eq, sel_eq, letN_mk, letB_mk, case_nn, case_nr, case_ne, case_rn, case_rr, case_re, case_en, case_er, case_ee, iand_u64, ior_u64, ixor_u64, iandn_u64, inot_u64, ieq_u64_0, ieq_u64, decide_eq_true_eq, Bool.not_true, Bool.not_false, Bool.false_eq_true, if_false, if_true, Bool.not_eq_true', decide_eq_false_iff_not, ilt_eq, ile_eq, reduceCtorEq, not_false_eq_true, not_true_eq_false]
  rw [leave_flat rfl rfl]
theorem not_ok (n : Nat) (hn : 30 ≤ n) {w : Nat} {v x : BitVec 64} (h : Vec w v x) {H : VH} (hH : H.Ok) : vcall T ext promo n 32 [bv w v x] H = some (mk3 w (~~~v &&& ~~~x) x, H) := by
  obtain ⟨n, rfl⟩ : ∃ m, n = m + 1 := ⟨n - 1, by omega⟩
  apply ok32
  unfold F32
  simp only [letH_mk]
  rw [valid1 n (by omega) (lo_ok hH) h]
  simp only [letH_mk, bindC_mk, bindV_mk, bindL_mk, bindH_mk, bindJ_mk, asB_mk, asI_mk, asS_mk, asP_mk, asSl_mk, asA_mk, asTu_mk, asSome_mk, unc_mk, endL_mk, selC_eq, condT_eq, sel_eq, letN_mk, letB_mk, case_nn, case_nr, case_ne, case_rn, case_rr, case_re, case_en, case_er, case_ee, iand_u64, ior_u64, ixor_u64, iandn_u64, inot_u64, ieq_u64_0, ieq_u64, decide_eq_true_eq, Bool.not_true, Bool.not_false, Bool.false_eq_true, if_false, if_true, Bool.not_eq_true', decide_eq_false_iff_not, ilt_eq, ile_eq, reduceCtorEq, not_false_eq_true, not_true_eq_false]
  rw [make3_ok n (by omega)]
  simp only [letH_mk, bindC_mk, bindV_mk, bindL_mk, bindH_mk, bindJ_mk, asB_mk, asI_mk, asS_mk, asP_mk, asSl_mk, asA_mk, asTu_mk, asSome_mk, unc_mk, endL_mk, selC_eq, condT_eq, sel_eq, letN_mk, letB_mk, case_nn, case_nr, case_ne, case_rn, case_rr, case_re, case_en, case_er, case_ee, iand_u64, ior_u64, ixor_u64, iandn_u64, inot_u64, ieq_u64_0, ieq_u64, decide_eq_true_eq, Bool.not_true, Bool.not_false, Bool.false_eq_true, if_false, if_true, Bool.not_eq_true', decide_eq_false_iff_not, ilt_eq, ile_eq, reduceCtorEq, not_false_eq_true, not_true_eq_false]
  rw [leave_flat rfl rfl]
theorem and_ok (n : Nat) (hn : 30 ≤ n) {w : Nat} {v x v' x' : BitVec 64} (h : Vec w v x) (h' : Vec w v' x') {H : VH} (hH : H.Ok) :
    vcall T ext promo n 33 [bv w v x, bv w v' x'] H = some (mk3 w (v &&& v' &&& ~~~x &&& ~~~x') ((x ||| x') &&& ~~~(~~~v &&& ~~~x ||| ~~~v' &&& ~~~x')), H) := by
  obtain ⟨n, rfl⟩ : ∃ m, n = m + 1 := ⟨n - 1, by omega⟩
  apply ok33
  unfold F33
  simp only [letH_mk]
  rw [alike_ok n (by omega) h h' (lo_ok hH)]
  simp only [letH_mk, bindC_mk, bindV_mk, bindL_mk, bindH_mk, bindJ_mk, asB_mk, asI_mk, asS_mk, asP_mk, asSl_mk, asA_mk, asTu_mk, asSome_mk, unc_mk, endL_mk, selC_eq, condT_eq, sel_eq, letN_mk, letB_mk, case_nn, case_nr, case_ne, case_rn, case_rr, case_re, case_en, case_er, case_ee, iand_u64, ior_u64, ixor_u64, iandn_u64, inot_u64, ieq_u64_0, ieq_u64, decide_eq_true_eq, Bool.not_true, Bool.not_false, Bool.false_eq_true, if_false, if_true, Bool.not_eq_true', decide_eq_false_iff_not, ilt_eq, ile_eq, reduceCtorEq, not_false_eq_true, not_true_eq_false]
  rw [make3_ok n (by omega)]
  simp only [letH_mk, bindC_mk, bindV_mk, bindL_mk, bindH_mk, bindJ_mk, asB_mk, asI_mk, asS_mk, asP_mk, asSl_mk, asA_mk, asTu_mk, asSome_mk, unc_mk, endL_mk, selC_eq, condT_eq, sel_eq, letN_mk, letB_mk, case_nn, case_nr, case_ne, case_rn, case_rr, case_re, case_en, case_er, case_ee, iand_u64, ior_u64, ixor_u64, iandn_u64, inot_u64, ieq_u64_0, ieq_u64, decide_eq_true_eq, Bool.not_true, Bool.not_false, Bool.false_eq_true, if_false, if_true, Bool.not_eq_true', decide_eq_false_iff_not, ilt_eq, ile_eq, reduceCtorEq, not_false_eq_true, not_true_eq_false]
  rw [leave_flat rfl rfl]
theorem or_ok (n : Nat) (hn : 30 ≤ n) {w : Nat} {v x v' x' : BitVec 64} (h : Vec w v x) (h' : Vec w v' x') {H : VH} (hH : H.Ok) :
    vcall T ext promo n 34 [bv w v x, bv w v' x'] H = some (mk3 w (v &&& ~~~x ||| v' &&& ~~~x') ((x ||| x') &&& ~~~(v &&& ~~~x ||| v' &&& ~~~x')), H) := by
  obtain ⟨n, rfl⟩ : ∃ m, n = m + 1 := ⟨n - 1, by omega⟩
  apply ok34
  unfold F34
  simp only [letH_mk]
  rw [alike_ok n (by omega) h h' (lo_ok hH)]
  simp only [letH_mk, bindC_mk, bindV_mk, bindL_mk, bindH_mk, bindJ_mk, asB_mk, asI_mk, asS_mk, asP_mk, asSl_mk, asA_mk, asTu_mk, asSome_mk, unc_mk, endL_mk, selC_eq, condT_eq, sel_eq, letN_mk, letB_mk, case_nn, case_nr, case_ne, case_rn, case_rr, case_re, case_en, case_er, case_ee, iand_u64, ior_u64, ixor_u64, iandn_u64, inot_u64, ieq_u64_0, ieq_u64, decide_eq_true_eq, Bool.not_true, Bool.not_false, Bool.false_eq_true, if_false, if_true, Bool.not_eq_true', decide_eq_false_iff_not, ilt_eq, ile_eq, reduceCtorEq, not_false_eq_true, not_true_eq_false]
  rw [make3_ok n (by omega)]
  simp only [letH_mk, bindC_mk, bindV_mk, bindL_mk, bindH_mk, bindJ_mk, asB_mk, asI_mk, asS_mk, asP_mk, asSl_mk, asA_mk, asTu_mk, asSome_mk, unc_mk, endL_mk, selC_eq, condT_eq, sel_eq, letN_mk, letB_mk, case_nn, case_nr, case_ne, case_rn, case_rr, case_re, case_en, case_er, case_ee, iand_u64, ior_u64, ixor_u64, iandn_u64, inot_u64, ieq_u64_0, ieq_u64, decide_eq_true_eq, Bool.not_true, Bool.not_false, Bool.false_eq_true, if_false, if_true, Bool.not_eq_true', decide_eq_false_iff_not, ilt_eq, ile_eq, reduceCtorEq, not_false_eq_true, not_true_eq_false]
  rw [leave_flat rfl rfl]
theorem xor_ok (n : Nat) (hn : 30 ≤ n) {w : Nat} {v x v' x' : BitVec 64} (h : Vec w v x) (h' : Vec w v' x') {H : VH} (hH : H.Ok) :
    vcall T ext promo n 35 [bv w v x, bv w v' x'] H = some (mk3 w ((v ^^^ v') &&& ~~~(x ||| x')) (x ||| x'), H) := by
  obtain ⟨n, rfl⟩ : ∃ m, n = m + 1 := ⟨n - 1, by omega⟩
  apply ok35
  unfold F35
  simp only [letH_mk]
  rw [alike_ok n (by omega) h h' (lo_ok hH)]
  simp only [letH_mk, bindC_mk, bindV_mk, bindL_mk, bindH_mk, bindJ_mk, asB_mk, asI_mk, asS_mk, asP_mk, asSl_mk, asA_mk, asTu_mk, asSome_mk, unc_mk, endL_mk, selC_eq, condT_eq, sel_eq, letN_mk, letB_mk, case_nn, case_nr, case_ne, case_rn, case_rr, case_re, case_en, case_er, case_ee, iand_u64, ior_u64, ixor_u64, iandn_u64, inot_u64, ieq_u64_0, ieq_u64, decide_eq_true_eq, Bool.not_true, Bool.not_false, Bool.false_eq_true, if_false, if_true, Bool.not_eq_true', decide_eq_false_iff_not, ilt_eq, ile_eq, reduceCtorEq, not_false_eq_true, not_true_eq_false]
  rw [make3_ok n (by omega)]
  simp only [letH_mk, bindC_mk, bindV_mk, bindL_mk, bindH_mk, bindJ_mk, asB_mk, asI_mk, asS_mk, asP_mk, asSl_mk, asA_mk, asTu_mk, asSome_mk, unc_mk, endL_mk, selC_eq, condT_eq, sel_eq, letN_mk, letB_mk, case_nn, case_nr, case_ne, case_rn, case_rr, case_re, case_en, case_er, case_ee, iand_u64, ior_u64, ixor_u64, iandn_u64, inot_u64, ieq_u64_0, ieq_u64, decide_eq_true_eq, Bool.not_true, Bool.not_false, Bool.false_eq_true, if_false, if_true, Bool.not_eq_true', decide_eq_false_iff_not, ilt_eq, ile_eq, reduceCtorEq, not_false_eq_true, not_true_eq_false]
  rw [leave_flat rfl rfl]
theorem of_ok (n : Nat) (hn : 5 ≤ n) {w : Nat} (hw : 1 ≤ w ∧ w ≤ 64) (v : BitVec 64) (H : VH) : vcall T ext promo n 30 [.int .i64 (w : Int), .int .u64 (u64 v)] H = some (bv w (v &&& bmask w) 0#64, H) := by
  obtain ⟨n, rfl⟩ : ∃ m, n = m + 1 := ⟨n - 1, by omega⟩
  apply ok30
  unfold F30
  simp only [letH_mk, bindC_mk, bindV_mk, bindL_mk, bindH_mk, bindJ_mk, asB_mk, asI_mk, asS_mk, asP_mk, asSl_mk, asA_mk, asTu_mk, asSome_mk, unc_mk, endL_mk, selC_eq, condT_eq, sel_eq, letN_mk, letB_mk, case_nn, case_nr, case_ne, case_rn, case_rr, case_re, case_en, case_er, case_ee, iand_u64, ior_u64, ixor_u64, iandn_u64, inot_u64, ieq_u64_0, ieq_u64, decide_eq_true_eq, Bool.not_true, Bool.not_false, Bool.false_eq_true, if_false, if_true, Bool.not_eq_true', decide_eq_false_iff_not, ilt_eq, ile_eq, reduceCtorEq, not_false_eq_true, not_true_eq_false]
  rw [if_neg (by omega)]
  simp only [letH_mk, bindC_mk, bindV_mk, bindL_mk, bindH_mk, bindJ_mk, asB_mk, asI_mk, asS_mk, asP_mk, asSl_mk, asA_mk, asTu_mk, asSome_mk, unc_mk, endL_mk, selC_eq, condT_eq, sel_eq, letN_mk, letB_mk, case_nn, case_nr, case_ne, case_rn, case_rr, case_re, case_en, case_er, case_ee, iand_u64, ior_u64, ixor_u64, iandn_u64, inot_u64, ieq_u64_0, ieq_u64, decide_eq_true_eq, Bool.not_true, Bool.not_false, Bool.false_eq_true, if_false, if_true, Bool.not_eq_true', decide_eq_false_iff_not, ilt_eq, ile_eq, reduceCtorEq, not_false_eq_true, not_true_eq_false]
  rw [if_neg (by omega), mask_ok n (by omega)]
  simp only [letH_mk, bindC_mk, bindV_mk, bindL_mk, bindH_mk, bindJ_mk, asB_mk, asI_mk, asS_mk, asP_mk, asSl_mk, asA_mk, asTu_mk, asSome_mk, unc_mk, endL_mk, selC_eq, condT_eq, sel_eq, letN_mk, letB_mk, case_nn, case_nr, case_ne, case_rn, case_rr, case_re, case_en, case_er, case_ee, iand_u64, ior_u64, ixor_u64, iandn_u64, inot_u64, ieq_u64_0, ieq_u64, decide_eq_true_eq, Bool.not_true, Bool.not_false, Bool.false_eq_true, if_false, if_true, Bool.not_eq_true', decide_eq_false_iff_not, ilt_eq, ile_eq, reduceCtorEq, not_false_eq_true, not_true_eq_false]
  rw [leave_flat rfl rfl]
  rfl
theorem of_vec {w : Nat} (hw : 1 ≤ w ∧ w ≤ 64) (v : BitVec 64) : Vec w (v &&& bmask w) 0#64 := ⟨hw.1, hw.2, mask_out w v, fun _ _ => by simp⟩
/-- A vector of one bit. -/
def tv (t : Int) : BitVec 64 := if t < 0 then 1#64 else BitVec.ofInt 64 t
def tx (t : Int) : BitVec 64 := if t < 0 then 1#64 else 0#64
theorem truth_ok (n : Nat) (hn : 5 ≤ n) (t : Int) (H : VH) : vcall T ext promo n 83 [.int .i64 t] H = some (bv 1 (tv t) (tx t), H) := by
  obtain ⟨n, rfl⟩ : ∃ m, n = m + 1 := ⟨n - 1, by omega⟩
  apply ok83
  unfold F83 tv tx
  simp only [letH_mk, bindC_mk, bindV_mk, bindL_mk, bindH_mk, bindJ_mk, asB_mk, asI_mk, asS_mk, asP_mk, asSl_mk, asA_mk, asTu_mk, asSome_mk, unc_mk, endL_mk, selC_eq, condT_eq, sel_eq, letN_mk, letB_mk, case_nn, case_nr, case_ne, case_rn, case_rr, case_re, case_en, case_er, case_ee, iand_u64, ior_u64, ixor_u64, iandn_u64, inot_u64, ieq_u64_0, ieq_u64, decide_eq_true_eq, Bool.not_true, Bool.not_false, Bool.false_eq_true, if_false, if_true, Bool.not_eq_true', decide_eq_false_iff_not, ilt_eq, ile_eq, reduceCtorEq, not_false_eq_true, not_true_eq_false, fw_u64n]
  split
  · rw [leave_flat rfl rfl]
    rfl
  · rw [leave_flat rfl rfl]
    rfl
theorem one_out : ∀ i, 1 ≤ i → (1#64).getLsbD i = false := by
  intro i hi
  rw [BitVec.getLsbD_one]
  simp
  omega
theorem truth_vec {t : Int} (h : t = 0 ∨ t = 1 ∨ t = -1) : Vec 1 (tv t) (tx t) := by
  rcases h with rfl | rfl | rfl
  · exact ⟨by decide, by decide, fun i _ => by simp [tv], fun i _ => by simp [tx]⟩
  · exact ⟨by decide, by decide, fun i hi => one_out i hi, fun i _ => by simp [tx]⟩
  · exact ⟨by decide, by decide, fun i hi => one_out i hi, fun i hi => one_out i hi⟩
/-- Whether some bit is 1: 1, 0, or -1 for 'not known'. -/
def trueOf (v x : BitVec 64) : Int := if v &&& ~~~x = 0#64 then (if x = 0#64 then 0 else -1) else 1
theorem true_ok (n : Nat) (hn : 25 ≤ n) {w : Nat} {v x : BitVec 64} (h : Vec w v x) {H : VH} (hH : H.Ok) : vcall T ext promo n 47 [bv w v x] H = some (.int .i64 (trueOf v x), H) := by
  obtain ⟨n, rfl⟩ : ∃ m, n = m + 1 := ⟨n - 1, by omega⟩
  apply ok47
  unfold F47 trueOf
  simp only [letH_mk]
  rw [valid1 n (by omega) (lo_ok hH) h]
  simp only [letH_mk, bindC_mk, bindV_mk, bindL_mk, bindH_mk, bindJ_mk, asB_mk, asI_mk, asS_mk, asP_mk, asSl_mk, asA_mk, asTu_mk, asSome_mk, unc_mk, endL_mk, selC_eq, condT_eq, sel_eq, letN_mk, letB_mk, case_nn, case_nr, case_ne, case_rn, case_rr, case_re, case_en, case_er, case_ee, iand_u64, ior_u64, ixor_u64, iandn_u64, inot_u64, ieq_u64_0, ieq_u64, decide_eq_true_eq, Bool.not_true, Bool.not_false, Bool.false_eq_true, if_false, if_true, Bool.not_eq_true', decide_eq_false_iff_not, ilt_eq, ile_eq, reduceCtorEq, not_false_eq_true, not_true_eq_false]
  by_cases h1 : v &&& ~~~x = 0#64
  · simp only [h1, letH_mk, bindC_mk, bindV_mk, bindL_mk, bindH_mk, bindJ_mk, asB_mk, asI_mk, asS_mk, asP_mk, asSl_mk, asA_mk, asTu_mk, asSome_mk, unc_mk, endL_mk, selC_eq, condT_eq, sel_eq, letN_mk, letB_mk, case_nn, case_nr, case_ne, case_rn, case_rr, case_re, case_en, case_er, case_ee, iand_u64, ior_u64, ixor_u64, iandn_u64, inot_u64, ieq_u64_0, ieq_u64, decide_eq_true_eq, Bool.not_true, Bool.not_false, Bool.false_eq_true, if_false, if_true, Bool.not_eq_true', decide_eq_false_iff_not, ilt_eq, ile_eq, reduceCtorEq, not_false_eq_true, not_true_eq_false]
    by_cases h2 : x = 0#64
    · rw [if_pos h2, if_pos h2, leave_flat rfl rfl]
    · rw [if_neg h2, if_neg h2, leave_flat rfl rfl]
  · simp only [h1, letH_mk, bindC_mk, bindV_mk, bindL_mk, bindH_mk, bindJ_mk, asB_mk, asI_mk, asS_mk, asP_mk, asSl_mk, asA_mk, asTu_mk, asSome_mk, unc_mk, endL_mk, selC_eq, condT_eq, sel_eq, letN_mk, letB_mk, case_nn, case_nr, case_ne, case_rn, case_rr, case_re, case_en, case_er, case_ee, iand_u64, ior_u64, ixor_u64, iandn_u64, inot_u64, ieq_u64_0, ieq_u64, decide_eq_true_eq, Bool.not_true, Bool.not_false, Bool.false_eq_true, if_false, if_true, Bool.not_eq_true', decide_eq_false_iff_not, ilt_eq, ile_eq, reduceCtorEq, not_false_eq_true, not_true_eq_false]
    rw [leave_flat rfl rfl]

theorem trueOf_cases (v x : BitVec 64) : trueOf v x = 0 ∨ trueOf v x = 1 ∨ trueOf v x = -1 := by
  unfold trueOf
  split
  · split <;> simp
  · simp
theorem trueOf_truth {t : Int} (h : t = 0 ∨ t = 1 ∨ t = -1) : trueOf (tv t) (tx t) = t := by
  rcases h with rfl | rfl | rfl <;> decide
theorem lnot_ok (n : Nat) (hn : 35 ≤ n) {w : Nat} {v x : BitVec 64} (h : Vec w v x) {H : VH} (hH : H.Ok) :
    vcall T ext promo n 52 [bv w v x] H = some (bv 1 (tv (if trueOf v x < 0 then -1 else 1 - trueOf v x)) (tx (if trueOf v x < 0 then -1 else 1 - trueOf v x)), H) := by
  obtain ⟨n, rfl⟩ : ∃ m, n = m + 1 := ⟨n - 1, by omega⟩
  apply ok52
  unfold F52
  simp only [letH_mk]
  rw [valid1 n (by omega) (lo_ok hH) h]
  simp only [letH_mk, bindC_mk, bindV_mk, bindL_mk, bindH_mk, bindJ_mk, asB_mk, asI_mk, asS_mk, asP_mk, asSl_mk, asA_mk, asTu_mk, asSome_mk, unc_mk, endL_mk, selC_eq, condT_eq, sel_eq, letN_mk, letB_mk, case_nn, case_nr, case_ne, case_rn, case_rr, case_re, case_en, case_er, case_ee, iand_u64, ior_u64, ixor_u64, iandn_u64, inot_u64, ieq_u64_0, ieq_u64, decide_eq_true_eq, Bool.not_true, Bool.not_false, Bool.false_eq_true, if_false, if_true, Bool.not_eq_true', decide_eq_false_iff_not, ilt_eq, ile_eq, reduceCtorEq, not_false_eq_true, not_true_eq_false]
  rw [true_ok n (by omega) h (fresh_ok (lo_ok hH) _)]
  simp only [letH_mk, bindC_mk, bindV_mk, bindL_mk, bindH_mk, bindJ_mk, asB_mk, asI_mk, asS_mk, asP_mk, asSl_mk, asA_mk, asTu_mk, asSome_mk, unc_mk, endL_mk, selC_eq, condT_eq, sel_eq, letN_mk, letB_mk, case_nn, case_nr, case_ne, case_rn, case_rr, case_re, case_en, case_er, case_ee, iand_u64, ior_u64, ixor_u64, iandn_u64, inot_u64, ieq_u64_0, ieq_u64, decide_eq_true_eq, Bool.not_true, Bool.not_false, Bool.false_eq_true, if_false, if_true, Bool.not_eq_true', decide_eq_false_iff_not, ilt_eq, ile_eq, reduceCtorEq, not_false_eq_true, not_true_eq_false]
  have ht := trueOf_cases v x
  by_cases h1 : trueOf v x < 0
  · rw [if_neg (by omega), if_pos h1, truth_ok n (by omega)]
    simp only [letH_mk, bindC_mk, bindV_mk, bindL_mk, bindH_mk, bindJ_mk, asB_mk, asI_mk, asS_mk, asP_mk, asSl_mk, asA_mk, asTu_mk, asSome_mk, unc_mk, endL_mk, selC_eq, condT_eq, sel_eq, letN_mk, letB_mk, case_nn, case_nr, case_ne, case_rn, case_rr, case_re, case_en, case_er, case_ee, iand_u64, ior_u64, ixor_u64, iandn_u64, inot_u64, ieq_u64_0, ieq_u64, decide_eq_true_eq, Bool.not_true, Bool.not_false, Bool.false_eq_true, if_false, if_true, Bool.not_eq_true', decide_eq_false_iff_not, ilt_eq, ile_eq, reduceCtorEq, not_false_eq_true, not_true_eq_false]
    rw [leave_flat rfl rfl]
  · rw [if_pos (by omega), if_neg h1, fw_i64 (by omega) (by omega), truth_ok n (by omega)]
    simp only [letH_mk, bindC_mk, bindV_mk, bindL_mk, bindH_mk, bindJ_mk, asB_mk, asI_mk, asS_mk, asP_mk, asSl_mk, asA_mk, asTu_mk, asSome_mk, unc_mk, endL_mk, selC_eq, condT_eq, sel_eq, letN_mk, letB_mk, case_nn, case_nr, case_ne, case_rn, case_rr, case_re, case_en, case_er, case_ee, iand_u64, ior_u64, ixor_u64, iandn_u64, inot_u64, ieq_u64_0, ieq_u64, decide_eq_true_eq, Bool.not_true, Bool.not_false, Bool.false_eq_true, if_false, if_true, Bool.not_eq_true', decide_eq_false_iff_not, ilt_eq, ile_eq, reduceCtorEq, not_false_eq_true, not_true_eq_false]
    rw [leave_flat rfl rfl]
theorem all_ok (n : Nat) (hn : 5 ≤ n) {w : Nat} (hw : 1 ≤ w ∧ w ≤ 64) (c : Int) (H : VH) (v x : BitVec 64)
    (hc : c = 48 ∧ v = 0#64 ∧ x = 0#64 ∨ c = 49 ∧ v = bmask w ∧ x = 0#64 ∨ c = 120 ∧ v = bmask w ∧ x = bmask w ∨ c = 122 ∧ v = 0#64 ∧ x = bmask w) :
    vcall T ext promo n 36 [.int .i64 (w : Int), .int .u8 c] H = some (bv w v x, H) := by
  obtain ⟨n, rfl⟩ : ∃ m, n = m + 1 := ⟨n - 1, by omega⟩
  apply ok36
  unfold F36
  simp only [letH_mk, bindC_mk, bindV_mk, bindL_mk, bindH_mk, bindJ_mk, asB_mk, asI_mk, asS_mk, asP_mk, asSl_mk, asA_mk, asTu_mk, asSome_mk, unc_mk, endL_mk, selC_eq, condT_eq, sel_eq, letN_mk, letB_mk, case_nn, case_nr, case_ne, case_rn, case_rr, case_re, case_en, case_er, case_ee, iand_u64, ior_u64, ixor_u64, iandn_u64, inot_u64, ieq_u64_0, ieq_u64, decide_eq_true_eq, Bool.not_true, Bool.not_false, Bool.false_eq_true, if_false, if_true, Bool.not_eq_true', decide_eq_false_iff_not, ilt_eq, ile_eq, reduceCtorEq, not_false_eq_true, not_true_eq_false]
  rw [if_neg (by omega)]
  simp only [letH_mk, bindC_mk, bindV_mk, bindL_mk, bindH_mk, bindJ_mk, asB_mk, asI_mk, asS_mk, asP_mk, asSl_mk, asA_mk, asTu_mk, asSome_mk, unc_mk, endL_mk, selC_eq, condT_eq, sel_eq, letN_mk, letB_mk, case_nn, case_nr, case_ne, case_rn, case_rr, case_re, case_en, case_er, case_ee, iand_u64, ior_u64, ixor_u64, iandn_u64, inot_u64, ieq_u64_0, ieq_u64, decide_eq_true_eq, Bool.not_true, Bool.not_false, Bool.false_eq_true, if_false, if_true, Bool.not_eq_true', decide_eq_false_iff_not, ilt_eq, ile_eq, reduceCtorEq, not_false_eq_true, not_true_eq_false]
  rw [if_neg (by omega), mask_ok n (by omega)]
  simp only [letH_mk, bindC_mk, bindV_mk, bindL_mk, bindH_mk, bindJ_mk, asB_mk, asI_mk, asS_mk, asP_mk, asSl_mk, asA_mk, asTu_mk, asSome_mk, unc_mk, endL_mk, selC_eq, condT_eq, sel_eq, letN_mk, letB_mk, case_nn, case_nr, case_ne, case_rn, case_rr, case_re, case_en, case_er, case_ee, iand_u64, ior_u64, ixor_u64, iandn_u64, inot_u64, ieq_u64_0, ieq_u64, decide_eq_true_eq, Bool.not_true, Bool.not_false, Bool.false_eq_true, if_false, if_true, Bool.not_eq_true', decide_eq_false_iff_not, ilt_eq, ile_eq, reduceCtorEq, not_false_eq_true, not_true_eq_false, ieq_dec]
  rcases hc with ⟨rfl, rfl, rfl⟩ | ⟨rfl, rfl, rfl⟩ | ⟨rfl, rfl, rfl⟩ | ⟨rfl, rfl, rfl⟩
  · rw [if_pos rfl, leave_flat rfl rfl]; rfl
  · rw [if_neg (by decide), if_pos rfl, leave_flat rfl rfl]; rfl
  · rw [if_neg (by decide), if_neg (by decide), if_pos rfl, leave_flat rfl rfl]
  · rw [if_neg (by decide), if_neg (by decide), if_neg (by decide), if_pos rfl, leave_flat rfl rfl]; rfl
theorem kno_ok (n : Nat) (hn : 25 ≤ n) {w : Nat} {v x : BitVec 64} (h : Vec w v x) {H : VH} (hH : H.Ok) : vcall T ext promo n 131 [bv w v x] H = some (.bool (decide (x = 0#64)), H) := by
  obtain ⟨n, rfl⟩ : ∃ m, n = m + 1 := ⟨n - 1, by omega⟩
  apply ok131
  unfold F131
  simp only [letH_mk]
  rw [valid1 n (by omega) (lo_ok hH) h]
  simp only [letH_mk, bindC_mk, bindV_mk, bindL_mk, bindH_mk, bindJ_mk, asB_mk, asI_mk, asS_mk, asP_mk, asSl_mk, asA_mk, asTu_mk, asSome_mk, unc_mk, endL_mk, selC_eq, condT_eq, sel_eq, letN_mk, letB_mk, case_nn, case_nr, case_ne, case_rn, case_rr, case_re, case_en, case_er, case_ee, iand_u64, ior_u64, ixor_u64, iandn_u64, inot_u64, ieq_u64_0, ieq_u64, decide_eq_true_eq, Bool.not_true, Bool.not_false, Bool.false_eq_true, if_false, if_true, Bool.not_eq_true', decide_eq_false_iff_not, ilt_eq, ile_eq, reduceCtorEq, not_false_eq_true, not_true_eq_false]
  rw [leave_flat rfl rfl]
theorem uint_ok (n : Nat) (hn : 30 ≤ n) {w : Nat} {v : BitVec 64} (h : Vec w v 0#64) {H : VH} (hH : H.Ok) : vcall T ext promo n 132 [bv w v 0#64] H = some (.tuple [.int .u64 (u64 v), .bool true], H) := by
  obtain ⟨n, rfl⟩ : ∃ m, n = m + 1 := ⟨n - 1, by omega⟩
  apply ok132
  unfold F132
  simp only [letH_mk]
  rw [kno_ok n (by omega) h (lo_ok hH)]
  simp only [letH_mk, bindC_mk, bindV_mk, bindL_mk, bindH_mk, bindJ_mk, asB_mk, asI_mk, asS_mk, asP_mk, asSl_mk, asA_mk, asTu_mk, asSome_mk, unc_mk, endL_mk, selC_eq, condT_eq, sel_eq, letN_mk, letB_mk, case_nn, case_nr, case_ne, case_rn, case_rr, case_re, case_en, case_er, case_ee, iand_u64, ior_u64, ixor_u64, iandn_u64, inot_u64, ieq_u64_0, ieq_u64, decide_eq_true_eq, Bool.not_true, Bool.not_false, Bool.false_eq_true, if_false, if_true, Bool.not_eq_true', decide_eq_false_iff_not, ilt_eq, ile_eq, reduceCtorEq, not_false_eq_true, not_true_eq_false, decide_true]
  rw [leave_flat rfl rfl]
theorem shift_ok (n : Nat) (hn : 35 ≤ n) {w : Nat} {v : BitVec 64} (h : Vec w v 0#64) {H : VH} (hH : H.Ok) : vcall T ext promo n 91 [bv w v 0#64] H = some (.tuple [.int .i64 ((min v.toNat 64 : Nat) : Int), .bool true], H) := by
  obtain ⟨n, rfl⟩ : ∃ m, n = m + 1 := ⟨n - 1, by omega⟩
  apply ok91
  unfold F91
  simp only [letH_mk]
  rw [uint_ok n (by omega) h (lo_ok hH)]
  simp only [letH_mk, bindC_mk, bindV_mk, bindL_mk, bindH_mk, bindJ_mk, asB_mk, asI_mk, asS_mk, asP_mk, asSl_mk, asA_mk, asTu_mk, asSome_mk, unc_mk, endL_mk, selC_eq, condT_eq, sel_eq, letN_mk, letB_mk, case_nn, case_nr, case_ne, case_rn, case_rr, case_re, case_en, case_er, case_ee, iand_u64, ior_u64, ixor_u64, iandn_u64, inot_u64, ieq_u64_0, ieq_u64, decide_eq_true_eq, Bool.not_true, Bool.not_false, Bool.false_eq_true, if_false, if_true, Bool.not_eq_true', decide_eq_false_iff_not, ilt_eq, ile_eq, reduceCtorEq, not_false_eq_true, not_true_eq_false]
  have : fwrap .i64 (imin (u64 v) 64) = ((min v.toNat 64 : Nat) : Int) := by
    unfold imin
    simp only [ilt_eq, decide_eq_true_eq, u64]
    split
    · rw [fw_i64 (by omega) (by omega)]
      omega
    · rw [fw_i64 (by omega) (by omega)]
      omega
  rw [this, leave_flat rfl rfl]
theorem shl_var' (x : BitVec 64) (k : Nat) : varith .shl .u64 (u64 x) .i64 (k : Int) = some (.int .u64 (u64 (x <<< (min k 64)))) := shl_var x k (Int.natCast_nonneg k)
theorem shl_ok (n : Nat) (hn : 40 ≤ n) {w w' : Nat} {v x s : BitVec 64} (h : Vec w v x) (h' : Vec w' s 0#64) {H : VH} (hH : H.Ok) :
    vcall T ext promo n 48 [bv w v x, bv w' s 0#64] H = some (bv w (v <<< (min s.toNat 64) &&& bmask w) (x <<< (min s.toNat 64) &&& bmask w), H) := by
  obtain ⟨n, rfl⟩ : ∃ m, n = m + 1 := ⟨n - 1, by omega⟩
  apply ok48
  unfold F48
  simp only [letH_mk]
  rw [valid2 n (by omega) (lo_ok hH) h h']
  simp only [letH_mk, bindC_mk, bindV_mk, bindL_mk, bindH_mk, bindJ_mk, asB_mk, asI_mk, asS_mk, asP_mk, asSl_mk, asA_mk, asTu_mk, asSome_mk, unc_mk, endL_mk, selC_eq, condT_eq, sel_eq, letN_mk, letB_mk, case_nn, case_nr, case_ne, case_rn, case_rr, case_re, case_en, case_er, case_ee, iand_u64, ior_u64, ixor_u64, iandn_u64, inot_u64, ieq_u64_0, ieq_u64, decide_eq_true_eq, Bool.not_true, Bool.not_false, Bool.false_eq_true, if_false, if_true, Bool.not_eq_true', decide_eq_false_iff_not, ilt_eq, ile_eq, reduceCtorEq, not_false_eq_true, not_true_eq_false]
  rw [shift_ok n (by omega) h' (fresh_ok (lo_ok hH) _)]
  simp only [letH_mk, bindC_mk, bindV_mk, bindL_mk, bindH_mk, bindJ_mk, asB_mk, asI_mk, asS_mk, asP_mk, asSl_mk, asA_mk, asTu_mk, asSome_mk, unc_mk, endL_mk, selC_eq, condT_eq, sel_eq, letN_mk, letB_mk, case_nn, case_nr, case_ne, case_rn, case_rr, case_re, case_en, case_er, case_ee, iand_u64, ior_u64, ixor_u64, iandn_u64, inot_u64, ieq_u64_0, ieq_u64, decide_eq_true_eq, Bool.not_true, Bool.not_false, Bool.false_eq_true, if_false, if_true, Bool.not_eq_true', decide_eq_false_iff_not, ilt_eq, ile_eq, reduceCtorEq, not_false_eq_true, not_true_eq_false]
  rw [shl_var', mask_ok n (by omega)]
  simp only [letH_mk, bindC_mk, bindV_mk, bindL_mk, bindH_mk, bindJ_mk, asB_mk, asI_mk, asS_mk, asP_mk, asSl_mk, asA_mk, asTu_mk, asSome_mk, unc_mk, endL_mk, selC_eq, condT_eq, sel_eq, letN_mk, letB_mk, case_nn, case_nr, case_ne, case_rn, case_rr, case_re, case_en, case_er, case_ee, iand_u64, ior_u64, ixor_u64, iandn_u64, inot_u64, ieq_u64_0, ieq_u64, decide_eq_true_eq, Bool.not_true, Bool.not_false, Bool.false_eq_true, if_false, if_true, Bool.not_eq_true', decide_eq_false_iff_not, ilt_eq, ile_eq, reduceCtorEq, not_false_eq_true, not_true_eq_false]
  rw [shl_var', mask_ok n (by omega)]
  simp only [letH_mk, bindC_mk, bindV_mk, bindL_mk, bindH_mk, bindJ_mk, asB_mk, asI_mk, asS_mk, asP_mk, asSl_mk, asA_mk, asTu_mk, asSome_mk, unc_mk, endL_mk, selC_eq, condT_eq, sel_eq, letN_mk, letB_mk, case_nn, case_nr, case_ne, case_rn, case_rr, case_re, case_en, case_er, case_ee, iand_u64, ior_u64, ixor_u64, iandn_u64, inot_u64, ieq_u64_0, ieq_u64, decide_eq_true_eq, Bool.not_true, Bool.not_false, Bool.false_eq_true, if_false, if_true, Bool.not_eq_true', decide_eq_false_iff_not, ilt_eq, ile_eq, reduceCtorEq, not_false_eq_true, not_true_eq_false]
  rw [leave_flat rfl rfl, Nat.min_eq_left (Nat.min_le_right _ _)]
theorem equal_ok (n : Nat) (hn : 5 ≤ n) (w w' : Nat) (v x v' x' : BitVec 64) (H : VH) :
    vcall T ext promo n 93 [bv w v x, bv w' v' x'] H = some (.int .i64 (if (v ^^^ v') &&& ~~~(x ||| x') = 0#64 then (if x ||| x' = 0#64 then 1 else -1) else 0), H) := by
  obtain ⟨n, rfl⟩ : ∃ m, n = m + 1 := ⟨n - 1, by omega⟩
  apply ok93
  unfold F93
  simp only [letH_mk, bindC_mk, bindV_mk, bindL_mk, bindH_mk, bindJ_mk, asB_mk, asI_mk, asS_mk, asP_mk, asSl_mk, asA_mk, asTu_mk, asSome_mk, unc_mk, endL_mk, selC_eq, condT_eq, sel_eq, letN_mk, letB_mk, case_nn, case_nr, case_ne, case_rn, case_rr, case_re, case_en, case_er, case_ee, iand_u64, ior_u64, ixor_u64, iandn_u64, inot_u64, ieq_u64_0, ieq_u64, decide_eq_true_eq, Bool.not_true, Bool.not_false, Bool.false_eq_true, if_false, if_true, Bool.not_eq_true', decide_eq_false_iff_not, ilt_eq, ile_eq, reduceCtorEq, not_false_eq_true, not_true_eq_false]
  by_cases h1 : (v ^^^ v') &&& ~~~(x ||| x') = 0#64
  · simp only [h1, letH_mk, bindC_mk, bindV_mk, bindL_mk, bindH_mk, bindJ_mk, asB_mk, asI_mk, asS_mk, asP_mk, asSl_mk, asA_mk, asTu_mk, asSome_mk, unc_mk, endL_mk, selC_eq, condT_eq, sel_eq, letN_mk, letB_mk, case_nn, case_nr, case_ne, case_rn, case_rr, case_re, case_en, case_er, case_ee, iand_u64, ior_u64, ixor_u64, iandn_u64, inot_u64, ieq_u64_0, ieq_u64, decide_eq_true_eq, Bool.not_true, Bool.not_false, Bool.false_eq_true, if_false, if_true, Bool.not_eq_true', decide_eq_false_iff_not, ilt_eq, ile_eq, reduceCtorEq, not_false_eq_true, not_true_eq_false]
    by_cases h2 : x ||| x' = 0#64
    · simp only [h2, letH_mk, bindC_mk, bindV_mk, bindL_mk, bindH_mk, bindJ_mk, asB_mk, asI_mk, asS_mk, asP_mk, asSl_mk, asA_mk, asTu_mk, asSome_mk, unc_mk, endL_mk, selC_eq, condT_eq, sel_eq, letN_mk, letB_mk, case_nn, case_nr, case_ne, case_rn, case_rr, case_re, case_en, case_er, case_ee, iand_u64, ior_u64, ixor_u64, iandn_u64, inot_u64, ieq_u64_0, ieq_u64, decide_eq_true_eq, Bool.not_true, Bool.not_false, Bool.false_eq_true, if_false, if_true, Bool.not_eq_true', decide_eq_false_iff_not, ilt_eq, ile_eq, reduceCtorEq, not_false_eq_true, not_true_eq_false]
      rw [leave_flat rfl rfl]
    · simp only [h2, letH_mk, bindC_mk, bindV_mk, bindL_mk, bindH_mk, bindJ_mk, asB_mk, asI_mk, asS_mk, asP_mk, asSl_mk, asA_mk, asTu_mk, asSome_mk, unc_mk, endL_mk, selC_eq, condT_eq, sel_eq, letN_mk, letB_mk, case_nn, case_nr, case_ne, case_rn, case_rr, case_re, case_en, case_er, case_ee, iand_u64, ior_u64, ixor_u64, iandn_u64, inot_u64, ieq_u64_0, ieq_u64, decide_eq_true_eq, Bool.not_true, Bool.not_false, Bool.false_eq_true, if_false, if_true, Bool.not_eq_true', decide_eq_false_iff_not, ilt_eq, ile_eq, reduceCtorEq, not_false_eq_true, not_true_eq_false]
      rw [leave_flat rfl rfl]
  · simp only [h1, letH_mk, bindC_mk, bindV_mk, bindL_mk, bindH_mk, bindJ_mk, asB_mk, asI_mk, asS_mk, asP_mk, asSl_mk, asA_mk, asTu_mk, asSome_mk, unc_mk, endL_mk, selC_eq, condT_eq, sel_eq, letN_mk, letB_mk, case_nn, case_nr, case_ne, case_rn, case_rr, case_re, case_en, case_er, case_ee, iand_u64, ior_u64, ixor_u64, iandn_u64, inot_u64, ieq_u64_0, ieq_u64, decide_eq_true_eq, Bool.not_true, Bool.not_false, Bool.false_eq_true, if_false, if_true, Bool.not_eq_true', decide_eq_false_iff_not, ilt_eq, ile_eq, reduceCtorEq, not_false_eq_true, not_true_eq_false]
    rw [leave_flat rfl rfl]
/-- Comparison for equality: 1, 0 or -1. -/
def eqOf (v x v' x' : BitVec 64) : Int := if (v ^^^ v') &&& ~~~(x ||| x') = 0#64 then (if x ||| x' = 0#64 then 1 else -1) else 0
theorem eq_ok (n : Nat) (hn : 40 ≤ n) {w : Nat} {v x v' x' : BitVec 64} (h : Vec w v x) (h' : Vec w v' x') {H : VH} (hH : H.Ok) :
    vcall T ext promo n 50 [bv w v x, bv w v' x'] H = some (bv 1 (tv (eqOf v x v' x')) (tx (eqOf v x v' x')), H) := by
  obtain ⟨n, rfl⟩ : ∃ m, n = m + 1 := ⟨n - 1, by omega⟩
  apply ok50
  unfold F50
  simp only [letH_mk]
  rw [alike_ok n (by omega) h h' (lo_ok hH)]
  simp only [letH_mk, bindC_mk, bindV_mk, bindL_mk, bindH_mk, bindJ_mk, asB_mk, asI_mk, asS_mk, asP_mk, asSl_mk, asA_mk, asTu_mk, asSome_mk, unc_mk, endL_mk, selC_eq, condT_eq, sel_eq, letN_mk, letB_mk, case_nn, case_nr, case_ne, case_rn, case_rr, case_re, case_en, case_er, case_ee, iand_u64, ior_u64, ixor_u64, iandn_u64, inot_u64, ieq_u64_0, ieq_u64, decide_eq_true_eq, Bool.not_true, Bool.not_false, Bool.false_eq_true, if_false, if_true, Bool.not_eq_true', decide_eq_false_iff_not, ilt_eq, ile_eq, reduceCtorEq, not_false_eq_true, not_true_eq_false]
  rw [equal_ok n (by omega)]
  simp only [letH_mk, bindC_mk, bindV_mk, bindL_mk, bindH_mk, bindJ_mk, asB_mk, asI_mk, asS_mk, asP_mk, asSl_mk, asA_mk, asTu_mk, asSome_mk, unc_mk, endL_mk, selC_eq, condT_eq, sel_eq, letN_mk, letB_mk, case_nn, case_nr, case_ne, case_rn, case_rr, case_re, case_en, case_er, case_ee, iand_u64, ior_u64, ixor_u64, iandn_u64, inot_u64, ieq_u64_0, ieq_u64, decide_eq_true_eq, Bool.not_true, Bool.not_false, Bool.false_eq_true, if_false, if_true, Bool.not_eq_true', decide_eq_false_iff_not, ilt_eq, ile_eq, reduceCtorEq, not_false_eq_true, not_true_eq_false]
  rw [truth_ok n (by omega)]
  simp only [letH_mk, bindC_mk, bindV_mk, bindL_mk, bindH_mk, bindJ_mk, asB_mk, asI_mk, asS_mk, asP_mk, asSl_mk, asA_mk, asTu_mk, asSome_mk, unc_mk, endL_mk, selC_eq, condT_eq, sel_eq, letN_mk, letB_mk, case_nn, case_nr, case_ne, case_rn, case_rr, case_re, case_en, case_er, case_ee, iand_u64, ior_u64, ixor_u64, iandn_u64, inot_u64, ieq_u64_0, ieq_u64, decide_eq_true_eq, Bool.not_true, Bool.not_false, Bool.false_eq_true, if_false, if_true, Bool.not_eq_true', decide_eq_false_iff_not, ilt_eq, ile_eq, reduceCtorEq, not_false_eq_true, not_true_eq_false]
  rw [leave_flat rfl rfl]
  rfl
theorem fw_i64_u64 (y : BitVec 64) : fwrap .i64 (u64 y) = y.toInt := by
  rw [fwrap_eq]
  simp only [IntKind.wrap, IntKind.bits, IntKind.signed, Bool.true_and, decide_eq_true_eq, show (2 : Int) ^ 64 = 18446744073709551616 from rfl, show (2 : Int) ^ (64 - 1) = 9223372036854775808 from rfl]
  have := y.isLt
  rw [BitVec.toInt_eq_toNat_cond]
  unfold u64
  split <;> split <;> omega
/-- A signed number of w bits. -/
def sint (w : Nat) (v : BitVec 64) : Int := (v <<< (64 - w)).toInt.fdiv (2 ^ (64 - w))
theorem int_ok (n : Nat) (hn : 30 ≤ n) {w : Nat} {v : BitVec 64} (h : Vec w v 0#64) {H : VH} (hH : H.Ok) : vcall T ext promo n 79 [bv w v 0#64] H = some (.tuple [.int .i64 (sint w v), .bool true], H) := by
  obtain ⟨n, rfl⟩ : ∃ m, n = m + 1 := ⟨n - 1, by omega⟩
  apply ok79
  unfold F79
  have h1 := h.pos
  have h2 := h.le
  simp only [letH_mk]
  rw [kno_ok n (by omega) h (lo_ok hH)]
  simp only [letH_mk, bindC_mk, bindV_mk, bindL_mk, bindH_mk, bindJ_mk, asB_mk, asI_mk, asS_mk, asP_mk, asSl_mk, asA_mk, asTu_mk, asSome_mk, unc_mk, endL_mk, selC_eq, condT_eq, sel_eq, letN_mk, letB_mk, case_nn, case_nr, case_ne, case_rn, case_rr, case_re, case_en, case_er, case_ee, iand_u64, ior_u64, ixor_u64, iandn_u64, inot_u64, ieq_u64_0, ieq_u64, decide_eq_true_eq, Bool.not_true, Bool.not_false, Bool.false_eq_true, if_false, if_true, Bool.not_eq_true', decide_eq_false_iff_not, ilt_eq, ile_eq, reduceCtorEq, not_false_eq_true, not_true_eq_false, decide_true]
  have e : fwrap .i64 (64 - (w : Int)) = ((64 - w : Nat) : Int) := by rw [fw_i64 (by omega) (by omega)]; omega
  rw [e, shl_var']
  simp only [letH_mk, bindC_mk, bindV_mk, bindL_mk, bindH_mk, bindJ_mk, asB_mk, asI_mk, asS_mk, asP_mk, asSl_mk, asA_mk, asTu_mk, asSome_mk, unc_mk, endL_mk, selC_eq, condT_eq, sel_eq, letN_mk, letB_mk, case_nn, case_nr, case_ne, case_rn, case_rr, case_re, case_en, case_er, case_ee, iand_u64, ior_u64, ixor_u64, iandn_u64, inot_u64, ieq_u64_0, ieq_u64, decide_eq_true_eq, Bool.not_true, Bool.not_false, Bool.false_eq_true, if_false, if_true, Bool.not_eq_true', decide_eq_false_iff_not, ilt_eq, ile_eq, reduceCtorEq, not_false_eq_true, not_true_eq_false]
  rw [fw_i64_u64, Nat.min_eq_left (by omega)]
  have e2 : varith .shr .i64 (v <<< (64 - w)).toInt .i64 ((64 - w : Nat) : Int) = some (.int .i64 (sint w v)) := by
    simp only [varith, ilt_eq, decide_eq_true_eq]
    rw [if_neg (by omega)]
    simp only [IntKind.bits, Int.toNat_natCast]
    rw [Nat.min_eq_left (by omega), ishr_eq]
    rfl
  rw [e2]
  simp only [letH_mk, bindC_mk, bindV_mk, bindL_mk, bindH_mk, bindJ_mk, asB_mk, asI_mk, asS_mk, asP_mk, asSl_mk, asA_mk, asTu_mk, asSome_mk, unc_mk, endL_mk, selC_eq, condT_eq, sel_eq, letN_mk, letB_mk, case_nn, case_nr, case_ne, case_rn, case_rr, case_re, case_en, case_er, case_ee, iand_u64, ior_u64, ixor_u64, iandn_u64, inot_u64, ieq_u64_0, ieq_u64, decide_eq_true_eq, Bool.not_true, Bool.not_false, Bool.false_eq_true, if_false, if_true, Bool.not_eq_true', decide_eq_false_iff_not, ilt_eq, ile_eq, reduceCtorEq, not_false_eq_true, not_true_eq_false]
  rw [leave_flat rfl rfl]
def lessOf (w : Nat) (v v' : BitVec 64) (signed : Bool) : Bool := if signed then decide (sint w v < sint w v') else decide (v.toNat < v'.toNat)
theorem less_ok (n : Nat) (hn : 35 ≤ n) {w : Nat} {v v' : BitVec 64} (h : Vec w v 0#64) (h' : Vec w v' 0#64) (signed : Bool) {H : VH} (hH : H.Ok) :
    vcall T ext promo n 92 [bv w v 0#64, bv w v' 0#64, .bool signed] H = some (.bool (lessOf w v v' signed), H) := by
  obtain ⟨n, rfl⟩ : ∃ m, n = m + 1 := ⟨n - 1, by omega⟩
  apply ok92
  unfold F92 lessOf
  cases signed
  · simp only [letH_mk, bindC_mk, bindV_mk, bindL_mk, bindH_mk, bindJ_mk, asB_mk, asI_mk, asS_mk, asP_mk, asSl_mk, asA_mk, asTu_mk, asSome_mk, unc_mk, endL_mk, selC_eq, condT_eq, sel_eq, letN_mk, letB_mk, case_nn, case_nr, case_ne, case_rn, case_rr, case_re, case_en, case_er, case_ee, iand_u64, ior_u64, ixor_u64, iandn_u64, inot_u64, ieq_u64_0, ieq_u64, decide_eq_true_eq, Bool.not_true, Bool.not_false, Bool.false_eq_true, if_false, if_true, Bool.not_eq_true', decide_eq_false_iff_not, ilt_eq, ile_eq, reduceCtorEq, not_false_eq_true, not_true_eq_false]
    rw [leave_flat rfl rfl]
    simp [u64]
  · simp only [letH_mk, bindC_mk, bindV_mk, bindL_mk, bindH_mk, bindJ_mk, asB_mk, asI_mk, asS_mk, asP_mk, asSl_mk, asA_mk, asTu_mk, asSome_mk, unc_mk, endL_mk, selC_eq, condT_eq, sel_eq, letN_mk, letB_mk, case_nn, case_nr, case_ne, case_rn, case_rr, case_re, case_en, case_er, case_ee, iand_u64, ior_u64, ixor_u64, iandn_u64, inot_u64, ieq_u64_0, ieq_u64, decide_eq_true_eq, Bool.not_true, Bool.not_false, Bool.false_eq_true, if_false, if_true, Bool.not_eq_true', decide_eq_false_iff_not, ilt_eq, ile_eq, reduceCtorEq, not_false_eq_true, not_true_eq_false]
    rw [int_ok n (by omega) h (lo_ok hH)]
    simp only [letH_mk, bindC_mk, bindV_mk, bindL_mk, bindH_mk, bindJ_mk, asB_mk, asI_mk, asS_mk, asP_mk, asSl_mk, asA_mk, asTu_mk, asSome_mk, unc_mk, endL_mk, selC_eq, condT_eq, sel_eq, letN_mk, letB_mk, case_nn, case_nr, case_ne, case_rn, case_rr, case_re, case_en, case_er, case_ee, iand_u64, ior_u64, ixor_u64, iandn_u64, inot_u64, ieq_u64_0, ieq_u64, decide_eq_true_eq, Bool.not_true, Bool.not_false, Bool.false_eq_true, if_false, if_true, Bool.not_eq_true', decide_eq_false_iff_not, ilt_eq, ile_eq, reduceCtorEq, not_false_eq_true, not_true_eq_false]
    rw [int_ok n (by omega) h' (lo_ok hH)]
    simp only [letH_mk, bindC_mk, bindV_mk, bindL_mk, bindH_mk, bindJ_mk, asB_mk, asI_mk, asS_mk, asP_mk, asSl_mk, asA_mk, asTu_mk, asSome_mk, unc_mk, endL_mk, selC_eq, condT_eq, sel_eq, letN_mk, letB_mk, case_nn, case_nr, case_ne, case_rn, case_rr, case_re, case_en, case_er, case_ee, iand_u64, ior_u64, ixor_u64, iandn_u64, inot_u64, ieq_u64_0, ieq_u64, decide_eq_true_eq, Bool.not_true, Bool.not_false, Bool.false_eq_true, if_false, if_true, Bool.not_eq_true', decide_eq_false_iff_not, ilt_eq, ile_eq, reduceCtorEq, not_false_eq_true, not_true_eq_false]
    rw [leave_flat rfl rfl]
theorem lt_ok (n : Nat) (hn : 40 ≤ n) {w : Nat} {v v' : BitVec 64} (h : Vec w v 0#64) (h' : Vec w v' 0#64) (signed : Bool) {H : VH} (hH : H.Ok) :
    vcall T ext promo n 49 [bv w v 0#64, bv w v' 0#64, .bool signed] H = some (bv 1 (tv (if lessOf w v v' signed then 1 else 0)) (tx (if lessOf w v v' signed then 1 else 0)), H) := by
  obtain ⟨n, rfl⟩ : ∃ m, n = m + 1 := ⟨n - 1, by omega⟩
  apply ok49
  unfold F49
  simp only [letH_mk]
  rw [alike_ok n (by omega) h h' (lo_ok hH)]
  simp only [letH_mk, bindC_mk, bindV_mk, bindL_mk, bindH_mk, bindJ_mk, asB_mk, asI_mk, asS_mk, asP_mk, asSl_mk, asA_mk, asTu_mk, asSome_mk, unc_mk, endL_mk, selC_eq, condT_eq, sel_eq, letN_mk, letB_mk, case_nn, case_nr, case_ne, case_rn, case_rr, case_re, case_en, case_er, case_ee, iand_u64, ior_u64, ixor_u64, iandn_u64, inot_u64, ieq_u64_0, ieq_u64, decide_eq_true_eq, Bool.not_true, Bool.not_false, Bool.false_eq_true, if_false, if_true, Bool.not_eq_true', decide_eq_false_iff_not, ilt_eq, ile_eq, reduceCtorEq, not_false_eq_true, not_true_eq_false, BitVec.or_self]
  rw [less_ok n (by omega) h h' signed (lo_ok hH)]
  simp only [letH_mk, bindC_mk, bindV_mk, bindL_mk, bindH_mk, bindJ_mk, asB_mk, asI_mk, asS_mk, asP_mk, asSl_mk, asA_mk, asTu_mk, asSome_mk, unc_mk, endL_mk, selC_eq, condT_eq, sel_eq, letN_mk, letB_mk, case_nn, case_nr, case_ne, case_rn, case_rr, case_re, case_en, case_er, case_ee, iand_u64, ior_u64, ixor_u64, iandn_u64, inot_u64, ieq_u64_0, ieq_u64, decide_eq_true_eq, Bool.not_true, Bool.not_false, Bool.false_eq_true, if_false, if_true, Bool.not_eq_true', decide_eq_false_iff_not, ilt_eq, ile_eq, reduceCtorEq, not_false_eq_true, not_true_eq_false]
  cases lessOf w v v' signed
  · simp only [letH_mk, bindC_mk, bindV_mk, bindL_mk, bindH_mk, bindJ_mk, asB_mk, asI_mk, asS_mk, asP_mk, asSl_mk, asA_mk, asTu_mk, asSome_mk, unc_mk, endL_mk, selC_eq, condT_eq, sel_eq, letN_mk, letB_mk, case_nn, case_nr, case_ne, case_rn, case_rr, case_re, case_en, case_er, case_ee, iand_u64, ior_u64, ixor_u64, iandn_u64, inot_u64, ieq_u64_0, ieq_u64, decide_eq_true_eq, Bool.not_true, Bool.not_false, Bool.false_eq_true, if_false, if_true, Bool.not_eq_true', decide_eq_false_iff_not, ilt_eq, ile_eq, reduceCtorEq, not_false_eq_true, not_true_eq_false]
    rw [truth_ok n (by omega)]
    simp only [letH_mk, bindC_mk, bindV_mk, bindL_mk, bindH_mk, bindJ_mk, asB_mk, asI_mk, asS_mk, asP_mk, asSl_mk, asA_mk, asTu_mk, asSome_mk, unc_mk, endL_mk, selC_eq, condT_eq, sel_eq, letN_mk, letB_mk, case_nn, case_nr, case_ne, case_rn, case_rr, case_re, case_en, case_er, case_ee, iand_u64, ior_u64, ixor_u64, iandn_u64, inot_u64, ieq_u64_0, ieq_u64, decide_eq_true_eq, Bool.not_true, Bool.not_false, Bool.false_eq_true, if_false, if_true, Bool.not_eq_true', decide_eq_false_iff_not, ilt_eq, ile_eq, reduceCtorEq, not_false_eq_true, not_true_eq_false]
    rw [leave_flat rfl rfl]
  · simp only [letH_mk, bindC_mk, bindV_mk, bindL_mk, bindH_mk, bindJ_mk, asB_mk, asI_mk, asS_mk, asP_mk, asSl_mk, asA_mk, asTu_mk, asSome_mk, unc_mk, endL_mk, selC_eq, condT_eq, sel_eq, letN_mk, letB_mk, case_nn, case_nr, case_ne, case_rn, case_rr, case_re, case_en, case_er, case_ee, iand_u64, ior_u64, ixor_u64, iandn_u64, inot_u64, ieq_u64_0, ieq_u64, decide_eq_true_eq, Bool.not_true, Bool.not_false, Bool.false_eq_true, if_false, if_true, Bool.not_eq_true', decide_eq_false_iff_not, ilt_eq, ile_eq, reduceCtorEq, not_false_eq_true, not_true_eq_false]
    rw [truth_ok n (by omega)]
    simp only [letH_mk, bindC_mk, bindV_mk, bindL_mk, bindH_mk, bindJ_mk, asB_mk, asI_mk, asS_mk, asP_mk, asSl_mk, asA_mk, asTu_mk, asSome_mk, unc_mk, endL_mk, selC_eq, condT_eq, sel_eq, letN_mk, letB_mk, case_nn, case_nr, case_ne, case_rn, case_rr, case_re, case_en, case_er, case_ee, iand_u64, ior_u64, ixor_u64, iandn_u64, inot_u64, ieq_u64_0, ieq_u64, decide_eq_true_eq, Bool.not_true, Bool.not_false, Bool.false_eq_true, if_false, if_true, Bool.not_eq_true', decide_eq_false_iff_not, ilt_eq, ile_eq, reduceCtorEq, not_false_eq_true, not_true_eq_false]
    rw [leave_flat rfl rfl]
theorem le_ok (n : Nat) (hn : 50 ≤ n) {w : Nat} {v v' : BitVec 64} (h : Vec w v 0#64) (h' : Vec w v' 0#64) (signed : Bool) {H : VH} (hH : H.Ok) :
    vcall T ext promo n 51 [bv w v 0#64, bv w v' 0#64, .bool signed] H = some (bv 1 (tv (if lessOf w v' v signed then 0 else 1)) (tx (if lessOf w v' v signed then 0 else 1)), H) := by
  obtain ⟨n, rfl⟩ : ∃ m, n = m + 1 := ⟨n - 1, by omega⟩
  apply ok51
  unfold F51
  simp only [letH_mk]
  rw [lt_ok n (by omega) h' h signed (lo_ok hH)]
  simp only [letH_mk, bindC_mk, bindV_mk, bindL_mk, bindH_mk, bindJ_mk, asB_mk, asI_mk, asS_mk, asP_mk, asSl_mk, asA_mk, asTu_mk, asSome_mk, unc_mk, endL_mk, selC_eq, condT_eq, sel_eq, letN_mk, letB_mk, case_nn, case_nr, case_ne, case_rn, case_rr, case_re, case_en, case_er, case_ee, iand_u64, ior_u64, ixor_u64, iandn_u64, inot_u64, ieq_u64_0, ieq_u64, decide_eq_true_eq, Bool.not_true, Bool.not_false, Bool.false_eq_true, if_false, if_true, Bool.not_eq_true', decide_eq_false_iff_not, ilt_eq, ile_eq, reduceCtorEq, not_false_eq_true, not_true_eq_false]
  cases lessOf w v' v signed
  · rw [lnot_ok n (by omega) (truth_vec (by simp)) (lo_ok hH)]
    simp only [letH_mk, bindC_mk, bindV_mk, bindL_mk, bindH_mk, bindJ_mk, asB_mk, asI_mk, asS_mk, asP_mk, asSl_mk, asA_mk, asTu_mk, asSome_mk, unc_mk, endL_mk, selC_eq, condT_eq, sel_eq, letN_mk, letB_mk, case_nn, case_nr, case_ne, case_rn, case_rr, case_re, case_en, case_er, case_ee, iand_u64, ior_u64, ixor_u64, iandn_u64, inot_u64, ieq_u64_0, ieq_u64, decide_eq_true_eq, Bool.not_true, Bool.not_false, Bool.false_eq_true, if_false, if_true, Bool.not_eq_true', decide_eq_false_iff_not, ilt_eq, ile_eq, reduceCtorEq, not_false_eq_true, not_true_eq_false]
    rw [trueOf_truth (by simp), leave_flat rfl rfl]
    rfl
  · rw [lnot_ok n (by omega) (truth_vec (by simp)) (lo_ok hH)]
    simp only [letH_mk, bindC_mk, bindV_mk, bindL_mk, bindH_mk, bindJ_mk, asB_mk, asI_mk, asS_mk, asP_mk, asSl_mk, asA_mk, asTu_mk, asSome_mk, unc_mk, endL_mk, selC_eq, condT_eq, sel_eq, letN_mk, letB_mk, case_nn, case_nr, case_ne, case_rn, case_rr, case_re, case_en, case_er, case_ee, iand_u64, ior_u64, ixor_u64, iandn_u64, inot_u64, ieq_u64_0, ieq_u64, decide_eq_true_eq, Bool.not_true, Bool.not_false, Bool.false_eq_true, if_false, if_true, Bool.not_eq_true', decide_eq_false_iff_not, ilt_eq, ile_eq, reduceCtorEq, not_false_eq_true, not_true_eq_false]
    rw [trueOf_truth (by simp), leave_flat rfl rfl]
    rfl
/-- '==' of vectors. -/
theorem bv_eq (w w' : Nat) (v x v' x' : BitVec 64) : vbinOp T .eql 36 (bv w v x) (bv w' v' x') = some (.bool (decide (w = w' ∧ v = v' ∧ x = x'))) := by
  have key : ∀ (a b c a' b' c' : Int), vbinOp T .eql 36 (.agg [.int .i64 a, .int .u64 b, .int .u64 c]) (.agg [.int .i64 a', .int .u64 b', .int .u64 c']) =
      (match (if kindEq .i64 .i64 then some (ieq a a') else none : Option Bool) with
        | some true => (match (if kindEq .u64 .u64 then some (ieq b b') else none : Option Bool) with
          | some true => (match (if kindEq .u64 .u64 then some (ieq c c') else none : Option Bool) with
            | some true => some true
            | r => r)
          | r => r)
        | r => r).map .bool := by
    intro a b c a' b' c'
    kernel_rfl
  rw [key]
  simp only [kindEq, if_true, ieq_u64, ieq_dec]
  by_cases h1 : w = w'
  · by_cases h2 : v = v'
    · by_cases h3 : x = x' <;> simp [h1, h2, h3, u64_inj]
    · simp [h1, h2, u64_inj]
  · have : ¬ ((w : Int) = (w' : Int)) := by omega
    simp [h1, this]
end Go.Vm.Tryd
