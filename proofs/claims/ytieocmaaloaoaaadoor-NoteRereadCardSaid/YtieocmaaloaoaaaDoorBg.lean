/- The vectors' texts are read back: the digits. -/
import Derived.Test.YtieocmaaloaoaaaDoorBr
namespace Go.Vm.Tryd
set_option linter.unusedSectionVars false
set_option linter.unusedSimpArgs false
set_option linter.unusedVariables false
set_option maxRecDepth 10000
theorem bitsT_get (v x : BitVec 64) : ∀ (w i : Nat) (h : i < (bitsT v x w).length), (bitsT v x w)[i] = bitC v x (w - 1 - i)
  | 0, i, h => by simp [bitsT] at h
  | w + 1, 0, h => by simp [bitsT]
  | w + 1, i + 1, h => by
    have h' : i < (bitsT v x w).length := by simpa [bitsT] using h
    have := bitsT_get v x w i h'
    simp only [bitsT, List.getElem_cons_succ, this]
    congr 1
    omega
theorem bitC_cases (v x : BitVec 64) (k : Nat) : bitC v x k = 48 ∧ v.getLsbD k = false ∧ x.getLsbD k = false ∨ bitC v x k = 49 ∧ v.getLsbD k = true ∧ x.getLsbD k = false ∨ bitC v x k = 120 ∧ v.getLsbD k = true ∧ x.getLsbD k = true ∨ bitC v x k = 122 ∧ v.getLsbD k = false ∧ x.getLsbD k = true := by
  unfold bitC
  cases v.getLsbD k <;> cases x.getLsbD k <;> simp
theorem shl_i64_one : varith .shl .i64 1 .i64 1 = some (.int .i64 2) := by kernel_rfl
theorem g0_step (n m : Nat) (hn : 10 ≤ n) {w : Nat} {v x : BitVec 64} (hw : w ≤ 64) (i : Nat) (hi : i < w) (a b c : Int) (H : VH) :
    loopN (L74_0 (vcall T ext promo n) n (PS.of (bitsT v x w)) 1) (m + 1) [.int .i64 (i : Int), .agg [.int .i64 a, .int .u64 b, .int .u64 c]] H = loopN (L74_0 (vcall T ext promo n) n (PS.of (bitsT v x w)) 1) m [.int .i64 ((i + 1 : Nat) : Int), .agg [.int .i64 a, .int .u64 b, .int .u64 c]] H := by
  rw [loopN_succ]
  generalize loopN (L74_0 (vcall T ext promo n) n (PS.of (bitsT v x w)) 1) m = lp
  unfold L74_0
  have hl := bitsT_len v x w
  have e5 : fwrap .i64 ((i : Int) + 1) = ((i + 1 : Nat) : Int) := by rw [fw_i64 (by omega) (by omega)]; rfl
  simp only [letH_mk, bindC_mk, bindV_mk, bindL_mk, bindH_mk, bindJ_mk, asB_mk, asI_mk, asS_mk, asP_mk, asSl_mk, asA_mk, asTu_mk, asSome_mk, unc_mk, endL_mk, selC_eq, condT_eq, sel_eq, letN_mk, letB_mk, case_nn, case_nr, case_ne, case_rn, case_rr, case_re, case_en, case_er, case_ee, iand_u64, ior_u64, ixor_u64, iandn_u64, inot_u64, ieq_u64_0, ieq_u64, decide_eq_true_eq, Bool.not_true, Bool.not_false, Bool.false_eq_true, if_false, if_true, Bool.not_eq_true', decide_eq_false_iff_not, ilt_eq, ile_eq, reduceCtorEq, not_false_eq_true, not_true_eq_false, of_len, hl, Bool.and_eq_true, ieq_dec]
  rw [if_pos (by omega), if_pos (by omega), byte_int _ i (by rw [hl]; exact hi), bitsT_get]
  rcases bitC_cases v x (w - 1 - i) with ⟨h, _, _⟩ | ⟨h, _, _⟩ | ⟨h, _, _⟩ | ⟨h, _, _⟩
  · have d0 := digit_ok n (by omega) false H
    simp only [Bool.false_eq_true, if_false] at d0
    rw [h, show (((48 : UInt8).toNat : Nat) : Int) = 48 from rfl, if_pos (by decide), if_pos (by decide), d0]
    simp only [letH_mk, bindC_mk, bindV_mk, bindL_mk, bindH_mk, bindJ_mk, asB_mk, asI_mk, asS_mk, asP_mk, asSl_mk, asA_mk, asTu_mk, asSome_mk, unc_mk, endL_mk, selC_eq, condT_eq, sel_eq, letN_mk, letB_mk, case_nn, case_nr, case_ne, case_rn, case_rr, case_re, case_en, case_er, case_ee, iand_u64, ior_u64, ixor_u64, iandn_u64, inot_u64, ieq_u64_0, ieq_u64, decide_eq_true_eq, Bool.not_true, Bool.not_false, Bool.false_eq_true, if_false, if_true, Bool.not_eq_true', decide_eq_false_iff_not, ilt_eq, ile_eq, reduceCtorEq, not_false_eq_true, not_true_eq_false, shl_i64_one]
    rw [if_neg (by decide), d0]
    simp only [letH_mk, bindC_mk, bindV_mk, bindL_mk, bindH_mk, bindJ_mk, asB_mk, asI_mk, asS_mk, asP_mk, asSl_mk, asA_mk, asTu_mk, asSome_mk, unc_mk, endL_mk, selC_eq, condT_eq, sel_eq, letN_mk, letB_mk, case_nn, case_nr, case_ne, case_rn, case_rr, case_re, case_en, case_er, case_ee, iand_u64, ior_u64, ixor_u64, iandn_u64, inot_u64, ieq_u64_0, ieq_u64, decide_eq_true_eq, Bool.not_true, Bool.not_false, Bool.false_eq_true, if_false, if_true, Bool.not_eq_true', decide_eq_false_iff_not, ilt_eq, ile_eq, reduceCtorEq, not_false_eq_true, not_true_eq_false]
    rw [if_neg (by decide), e5]
  · have d0 := digit_ok n (by omega) true H
    simp only [if_true] at d0
    rw [h, show (((49 : UInt8).toNat : Nat) : Int) = 49 from rfl, if_pos (by decide), if_pos (by decide), d0]
    simp only [letH_mk, bindC_mk, bindV_mk, bindL_mk, bindH_mk, bindJ_mk, asB_mk, asI_mk, asS_mk, asP_mk, asSl_mk, asA_mk, asTu_mk, asSome_mk, unc_mk, endL_mk, selC_eq, condT_eq, sel_eq, letN_mk, letB_mk, case_nn, case_nr, case_ne, case_rn, case_rr, case_re, case_en, case_er, case_ee, iand_u64, ior_u64, ixor_u64, iandn_u64, inot_u64, ieq_u64_0, ieq_u64, decide_eq_true_eq, Bool.not_true, Bool.not_false, Bool.false_eq_true, if_false, if_true, Bool.not_eq_true', decide_eq_false_iff_not, ilt_eq, ile_eq, reduceCtorEq, not_false_eq_true, not_true_eq_false, shl_i64_one]
    rw [if_neg (by decide), d0]
    simp only [letH_mk, bindC_mk, bindV_mk, bindL_mk, bindH_mk, bindJ_mk, asB_mk, asI_mk, asS_mk, asP_mk, asSl_mk, asA_mk, asTu_mk, asSome_mk, unc_mk, endL_mk, selC_eq, condT_eq, sel_eq, letN_mk, letB_mk, case_nn, case_nr, case_ne, case_rn, case_rr, case_re, case_en, case_er, case_ee, iand_u64, ior_u64, ixor_u64, iandn_u64, inot_u64, ieq_u64_0, ieq_u64, decide_eq_true_eq, Bool.not_true, Bool.not_false, Bool.false_eq_true, if_false, if_true, Bool.not_eq_true', decide_eq_false_iff_not, ilt_eq, ile_eq, reduceCtorEq, not_false_eq_true, not_true_eq_false]
    rw [if_neg (by decide), e5]
  · rw [h, show (((120 : UInt8).toNat : Nat) : Int) = 120 from rfl, if_neg (by decide)]
    simp only [letH_mk, bindC_mk, bindV_mk, bindL_mk, bindH_mk, bindJ_mk, asB_mk, asI_mk, asS_mk, asP_mk, asSl_mk, asA_mk, asTu_mk, asSome_mk, unc_mk, endL_mk, selC_eq, condT_eq, sel_eq, letN_mk, letB_mk, case_nn, case_nr, case_ne, case_rn, case_rr, case_re, case_en, case_er, case_ee, iand_u64, ior_u64, ixor_u64, iandn_u64, inot_u64, ieq_u64_0, ieq_u64, decide_eq_true_eq, Bool.not_true, Bool.not_false, Bool.false_eq_true, if_false, if_true, Bool.not_eq_true', decide_eq_false_iff_not, ilt_eq, ile_eq, reduceCtorEq, not_false_eq_true, not_true_eq_false]
    rw [e5]
  · rw [h, show (((122 : UInt8).toNat : Nat) : Int) = 122 from rfl, if_pos (by decide), if_neg (by decide)]
    simp only [letH_mk, bindC_mk, bindV_mk, bindL_mk, bindH_mk, bindJ_mk, asB_mk, asI_mk, asS_mk, asP_mk, asSl_mk, asA_mk, asTu_mk, asSome_mk, unc_mk, endL_mk, selC_eq, condT_eq, sel_eq, letN_mk, letB_mk, case_nn, case_nr, case_ne, case_rn, case_rr, case_re, case_en, case_er, case_ee, iand_u64, ior_u64, ixor_u64, iandn_u64, inot_u64, ieq_u64_0, ieq_u64, decide_eq_true_eq, Bool.not_true, Bool.not_false, Bool.false_eq_true, if_false, if_true, Bool.not_eq_true', decide_eq_false_iff_not, ilt_eq, ile_eq, reduceCtorEq, not_false_eq_true, not_true_eq_false]
    rw [e5]
theorem g0_end (n m : Nat) {w : Nat} {v x : BitVec 64} (a b c : Int) (H : VH) :
    loopN (L74_0 (vcall T ext promo n) n (PS.of (bitsT v x w)) 1) (m + 1) [.int .i64 (w : Int), .agg [.int .i64 a, .int .u64 b, .int .u64 c]] H = some (.exit 0, [.agg [.int .i64 a, .int .u64 b, .int .u64 c]], H) := by
  rw [loopN_succ]
  generalize loopN (L74_0 (vcall T ext promo n) n (PS.of (bitsT v x w)) 1) m = lp
  unfold L74_0
  have hl := bitsT_len v x w
  simp only [letH_mk, bindC_mk, bindV_mk, bindL_mk, bindH_mk, bindJ_mk, asB_mk, asI_mk, asS_mk, asP_mk, asSl_mk, asA_mk, asTu_mk, asSome_mk, unc_mk, endL_mk, selC_eq, condT_eq, sel_eq, letN_mk, letB_mk, case_nn, case_nr, case_ne, case_rn, case_rr, case_re, case_en, case_er, case_ee, iand_u64, ior_u64, ixor_u64, iandn_u64, inot_u64, ieq_u64_0, ieq_u64, decide_eq_true_eq, Bool.not_true, Bool.not_false, Bool.false_eq_true, if_false, if_true, Bool.not_eq_true', decide_eq_false_iff_not, ilt_eq, ile_eq, reduceCtorEq, not_false_eq_true, not_true_eq_false, of_len, hl]
  rw [if_neg (by omega)]
theorem g0_loop (n : Nat) (hn : 10 ≤ n) {w : Nat} {v x : BitVec 64} (hw : w ≤ 64) (a b c : Int) (H : VH) : ∀ (j m i : Nat), i + j = w → j < m →
    loopN (L74_0 (vcall T ext promo n) n (PS.of (bitsT v x w)) 1) m [.int .i64 (i : Int), .agg [.int .i64 a, .int .u64 b, .int .u64 c]] H = some (.exit 0, [.agg [.int .i64 a, .int .u64 b, .int .u64 c]], H) := by
  intro j
  induction j with
  | zero =>
    intro m i hi hm
    obtain ⟨m, rfl⟩ : ∃ j, m = j + 1 := ⟨m - 1, by omega⟩
    obtain rfl : i = w := by omega
    exact g0_end n m a b c H
  | succ j ih =>
    intro m i hi hm
    obtain ⟨m, rfl⟩ : ∃ j, m = j + 1 := ⟨m - 1, by omega⟩
    rw [g0_step n m hn hw i (by omega) a b c H]
    exact ih m (i + 1) (by omega) (by omega)
theorem bmask_one : bmask 1 = 1#64 := by decide
/-- One bit as a vector. -/
def bitV (b : Bool) : BitVec 64 := if b then 1#64 else 0#64
theorem bitV_vec (a b : Bool) : Vec 1 (bitV a) (bitV b) := by
  refine ⟨by decide, by decide, fun i hi => ?_, fun i hi => ?_⟩
  · cases a
    · simp [bitV]
    · exact one_out i hi
  · cases b
    · simp [bitV]
    · exact one_out i hi
theorem g2_loop (n m : Nat) {w k i : Nat} (hw : w ≤ 64) (hk : k < w) (s : PS) (dw dv dx a b c : Int) (H : VH) :
    loopN (L74_2 (vcall T ext promo n) n s (w : Int) 1 (k : Int) (i : Int) dw dv dx) (m + 2) [.int .i64 0, .agg [.int .i64 a, .int .u64 b, .int .u64 c]] H = some (.exit 4, [.agg [.int .i64 a, .int .u64 b, .int .u64 c]], H) := by
  rw [loopN_succ, show m + 1 = m.succ from rfl]
  have hend : ∀ lp, L74_2 (vcall T ext promo n) n s (w : Int) 1 (k : Int) (i : Int) dw dv dx lp [.int .i64 1, .agg [.int .i64 a, .int .u64 b, .int .u64 c]] H = some (.exit 4, [.agg [.int .i64 a, .int .u64 b, .int .u64 c]], H) := by
    intro lp
    unfold L74_2
    simp only [letH_mk, bindC_mk, bindV_mk, bindL_mk, bindH_mk, bindJ_mk, asB_mk, asI_mk, asS_mk, asP_mk, asSl_mk, asA_mk, asTu_mk, asSome_mk, unc_mk, endL_mk, selC_eq, condT_eq, sel_eq, letN_mk, letB_mk, case_nn, case_nr, case_ne, case_rn, case_rr, case_re, case_en, case_er, case_ee, iand_u64, ior_u64, ixor_u64, iandn_u64, inot_u64, ieq_u64_0, ieq_u64, decide_eq_true_eq, Bool.not_true, Bool.not_false, Bool.false_eq_true, if_false, if_true, Bool.not_eq_true', decide_eq_false_iff_not, ilt_eq, ile_eq, reduceCtorEq, not_false_eq_true, not_true_eq_false]
    rw [if_neg (by decide)]
  have h2 : loopN (L74_2 (vcall T ext promo n) n s (w : Int) 1 (k : Int) (i : Int) dw dv dx) m.succ [.int .i64 1, .agg [.int .i64 a, .int .u64 b, .int .u64 c]] H = some (.exit 4, [.agg [.int .i64 a, .int .u64 b, .int .u64 c]], H) := by
    rw [loopN_succ]
    exact hend _
  generalize loopN (L74_2 (vcall T ext promo n) n s (w : Int) 1 (k : Int) (i : Int) dw dv dx) m.succ = lp at h2 ⊢
  unfold L74_2
  simp only [letH_mk, bindC_mk, bindV_mk, bindL_mk, bindH_mk, bindJ_mk, asB_mk, asI_mk, asS_mk, asP_mk, asSl_mk, asA_mk, asTu_mk, asSome_mk, unc_mk, endL_mk, selC_eq, condT_eq, sel_eq, letN_mk, letB_mk, case_nn, case_nr, case_ne, case_rn, case_rr, case_re, case_en, case_er, case_ee, iand_u64, ior_u64, ixor_u64, iandn_u64, inot_u64, ieq_u64_0, ieq_u64, decide_eq_true_eq, Bool.not_true, Bool.not_false, Bool.false_eq_true, if_false, if_true, Bool.not_eq_true', decide_eq_false_iff_not, ilt_eq, ile_eq, reduceCtorEq, not_false_eq_true, not_true_eq_false]
  rw [if_pos (by decide), fw_i64 (by omega) (by omega), if_neg (by omega)]
  simp only [letH_mk, bindC_mk, bindV_mk, bindL_mk, bindH_mk, bindJ_mk, asB_mk, asI_mk, asS_mk, asP_mk, asSl_mk, asA_mk, asTu_mk, asSome_mk, unc_mk, endL_mk, selC_eq, condT_eq, sel_eq, letN_mk, letB_mk, case_nn, case_nr, case_ne, case_rn, case_rr, case_re, case_en, case_er, case_ee, iand_u64, ior_u64, ixor_u64, iandn_u64, inot_u64, ieq_u64_0, ieq_u64, decide_eq_true_eq, Bool.not_true, Bool.not_false, Bool.false_eq_true, if_false, if_true, Bool.not_eq_true', decide_eq_false_iff_not, ilt_eq, ile_eq, reduceCtorEq, not_false_eq_true, not_true_eq_false]
  rw [show fwrap .i64 (0 + 1) = 1 from by decide +kernel]
  exact h2
theorem put_bit {w k : Nat} (hk : k < w) (hw : w ≤ 64) (v : BitVec 64) :
    (v &&& bmask k) &&& ~~~(bmask 1 <<< k &&& bmask w) ||| bitV (v.getLsbD k) <<< k &&& (bmask 1 <<< k &&& bmask w) = v &&& bmask (k + 1) := by
  apply BitVec.eq_of_getLsbD_eq
  intro i hi
  simp only [BitVec.getLsbD_or, BitVec.getLsbD_and, BitVec.getLsbD_not, BitVec.getLsbD_shiftLeft, bmask_bit, hi, decide_true, Bool.true_and]
  rcases Nat.lt_trichotomy i k with h | h | h
  · simp [h, show i < k + 1 by omega]
  · subst h
    simp [hk]
    cases v.getLsbD i <;> rfl
  · have h2 : ¬ i < k + 1 := by omega
    have h3 : ¬ i < k := by omega
    have h4 : ¬ i - k < 1 := by omega
    simp [h2, h3, h4]

theorem all1_ok (n : Nat) (hn : 5 ≤ n) (b : Bool) (H : VH) : vcall T ext promo n 36 [.int .i64 1, .int .u8 (if b then 120 else 122)] H = some (bv 1 (bitV b) (bitV true), H) := by
  cases b
  · exact all_ok n hn (w := 1) (by decide) 122 H 0#64 (bmask 1) (by simp)
  · exact all_ok n hn (w := 1) (by decide) 120 H (bmask 1) (bmask 1) (by simp)
theorem of1_ok (n : Nat) (hn : 5 ≤ n) (b : Bool) (H : VH) : vcall T ext promo n 30 [.int .i64 1, .int .u64 (fwrap .u64 (if b then 1 else 0))] H = some (bv 1 (bitV b) (bitV false), H) := by
  have := of_ok n hn (w := 1) (by decide) (bitV b) H
  cases b
  · exact this
  · exact this
/-- One digit: from the lowest one on. -/
theorem g1_step (n m : Nat) (hn : 60 ≤ n) {w : Nat} {v x : BitVec 64} (hw : 1 ≤ w ∧ w ≤ 64) (k : Nat) (hk : k < w) (ra rb rc : Int) {H : VH} (hH : H.Ok) :
    loopN (L74_1 (vcall T ext promo n) n (PS.of (bitsT v x w)) (w : Int) 1) (m + 1) [.int .i64 (k : Int), .int .i64 ((w - 1 - k : Nat) : Int), .agg [.int .i64 ra, .int .u64 rb, .int .u64 rc], bv w (v &&& bmask k) (x &&& bmask k)] H =
      loopN (L74_1 (vcall T ext promo n) n (PS.of (bitsT v x w)) (w : Int) 1) m [.int .i64 ((k + 1 : Nat) : Int), .int .i64 (((w - 1 - k : Nat) : Int) - 1), .agg [.int .i64 ra, .int .u64 rb, .int .u64 rc], bv w (v &&& bmask (k + 1)) (x &&& bmask (k + 1))] H := by
  rw [loopN_succ]
  generalize loopN (L74_1 (vcall T ext promo n) n (PS.of (bitsT v x w)) (w : Int) 1) m = lp
  unfold L74_1
  have hl := bitsT_len v x w
  have e1 : fwrap .i64 ((k : Int) + 1) = ((k + 1 : Nat) : Int) := by rw [fw_i64 (by omega) (by omega)]; rfl
  have e2 : fwrap .i64 (((w - 1 - k : Nat) : Int) - 1) = ((w - 1 - k : Nat) : Int) - 1 := fw_i64 (by omega) (by omega)
  obtain ⟨n', rfl⟩ : ∃ j, n = j + 2 := ⟨n - 2, by omega⟩
  have hin := fun dw dv dx => g2_loop (n' + 2) n' (i := w - 1 - k) hw.2 hk (PS.of (bitsT v x w)) dw dv dx ra rb rc H
  have hbase : Vec w (v &&& bmask k) (x &&& bmask k) := by
    refine ⟨hw.1, hw.2, fun i hi => ?_, fun i hi => ?_⟩
    · exact mask_out k v i (by omega)
    · exact mask_out k x i (by omega)
  have hput := put_ok (n' + 2) (by omega) hbase (bitV_vec (v.getLsbD k) (x.getLsbD k)) k hk hH
  rw [put_bit hk hw.2, put_bit hk hw.2] at hput
  simp only [letH_mk, bindC_mk, bindV_mk, bindL_mk, bindH_mk, bindJ_mk, asB_mk, asI_mk, asS_mk, asP_mk, asSl_mk, asA_mk, asTu_mk, asSome_mk, unc_mk, endL_mk, selC_eq, condT_eq, sel_eq, letN_mk, letB_mk, case_nn, case_nr, case_ne, case_rn, case_rr, case_re, case_en, case_er, case_ee, iand_u64, ior_u64, ixor_u64, iandn_u64, inot_u64, ieq_u64_0, ieq_u64, decide_eq_true_eq, Bool.not_true, Bool.not_false, Bool.false_eq_true, if_false, if_true, Bool.not_eq_true', decide_eq_false_iff_not, ilt_eq, ile_eq, reduceCtorEq, not_false_eq_true, not_true_eq_false, of_len, hl, Bool.and_eq_true, ieq_dec]
  rw [if_pos (by omega), if_pos (by omega), byte_int _ (w - 1 - k) (by rw [hl]; omega), bitsT_get, show w - 1 - (w - 1 - k) = k by omega]
  rcases bitC_cases v x k with ⟨h, h1, h2⟩ | ⟨h, h1, h2⟩ | ⟨h, h1, h2⟩ | ⟨h, h1, h2⟩
  · have d0 := digit_ok (n' + 2) (by omega) false H
    have o0 := of1_ok (n' + 2) (by omega) false H
    simp only [Bool.false_eq_true, if_false] at d0 o0
    rw [h1, h2] at hput
    rw [h, show (((48 : UInt8).toNat : Nat) : Int) = 48 from rfl, if_neg (by decide)]
    simp only [letH_mk, bindC_mk, bindV_mk, bindL_mk, bindH_mk, bindJ_mk, asB_mk, asI_mk, asS_mk, asP_mk, asSl_mk, asA_mk, asTu_mk, asSome_mk, unc_mk, endL_mk, selC_eq, condT_eq, sel_eq, letN_mk, letB_mk, case_nn, case_nr, case_ne, case_rn, case_rr, case_re, case_en, case_er, case_ee, iand_u64, ior_u64, ixor_u64, iandn_u64, inot_u64, ieq_u64_0, ieq_u64, decide_eq_true_eq, Bool.not_true, Bool.not_false, Bool.false_eq_true, if_false, if_true, Bool.not_eq_true', decide_eq_false_iff_not, ilt_eq, ile_eq, reduceCtorEq, not_false_eq_true, not_true_eq_false]
    rw [if_neg (by decide), d0]
    simp only [letH_mk, bindC_mk, bindV_mk, bindL_mk, bindH_mk, bindJ_mk, asB_mk, asI_mk, asS_mk, asP_mk, asSl_mk, asA_mk, asTu_mk, asSome_mk, unc_mk, endL_mk, selC_eq, condT_eq, sel_eq, letN_mk, letB_mk, case_nn, case_nr, case_ne, case_rn, case_rr, case_re, case_en, case_er, case_ee, iand_u64, ior_u64, ixor_u64, iandn_u64, inot_u64, ieq_u64_0, ieq_u64, decide_eq_true_eq, Bool.not_true, Bool.not_false, Bool.false_eq_true, if_false, if_true, Bool.not_eq_true', decide_eq_false_iff_not, ilt_eq, ile_eq, reduceCtorEq, not_false_eq_true, not_true_eq_false]
    rw [o0]
    simp only [letH_mk, bindC_mk, bindV_mk, bindL_mk, bindH_mk, bindJ_mk, asB_mk, asI_mk, asS_mk, asP_mk, asSl_mk, asA_mk, asTu_mk, asSome_mk, unc_mk, endL_mk, selC_eq, condT_eq, sel_eq, letN_mk, letB_mk, case_nn, case_nr, case_ne, case_rn, case_rr, case_re, case_en, case_er, case_ee, iand_u64, ior_u64, ixor_u64, iandn_u64, inot_u64, ieq_u64_0, ieq_u64, decide_eq_true_eq, Bool.not_true, Bool.not_false, Bool.false_eq_true, if_false, if_true, Bool.not_eq_true', decide_eq_false_iff_not, ilt_eq, ile_eq, reduceCtorEq, not_false_eq_true, not_true_eq_false]
    rw [hin]
    simp only [letH_mk, bindC_mk, bindV_mk, bindL_mk, bindH_mk, bindJ_mk, asB_mk, asI_mk, asS_mk, asP_mk, asSl_mk, asA_mk, asTu_mk, asSome_mk, unc_mk, endL_mk, selC_eq, condT_eq, sel_eq, letN_mk, letB_mk, case_nn, case_nr, case_ne, case_rn, case_rr, case_re, case_en, case_er, case_ee, iand_u64, ior_u64, ixor_u64, iandn_u64, inot_u64, ieq_u64_0, ieq_u64, decide_eq_true_eq, Bool.not_true, Bool.not_false, Bool.false_eq_true, if_false, if_true, Bool.not_eq_true', decide_eq_false_iff_not, ilt_eq, ile_eq, reduceCtorEq, not_false_eq_true, not_true_eq_false]
    rw [hput]
    simp only [letH_mk, bindC_mk, bindV_mk, bindL_mk, bindH_mk, bindJ_mk, asB_mk, asI_mk, asS_mk, asP_mk, asSl_mk, asA_mk, asTu_mk, asSome_mk, unc_mk, endL_mk, selC_eq, condT_eq, sel_eq, letN_mk, letB_mk, case_nn, case_nr, case_ne, case_rn, case_rr, case_re, case_en, case_er, case_ee, iand_u64, ior_u64, ixor_u64, iandn_u64, inot_u64, ieq_u64_0, ieq_u64, decide_eq_true_eq, Bool.not_true, Bool.not_false, Bool.false_eq_true, if_false, if_true, Bool.not_eq_true', decide_eq_false_iff_not, ilt_eq, ile_eq, reduceCtorEq, not_false_eq_true, not_true_eq_false, e1, e2]
  · have d0 := digit_ok (n' + 2) (by omega) true H
    have o0 := of1_ok (n' + 2) (by omega) true H
    simp only [if_true] at d0 o0
    rw [h1, h2] at hput
    rw [h, show (((49 : UInt8).toNat : Nat) : Int) = 49 from rfl, if_neg (by decide)]
    simp only [letH_mk, bindC_mk, bindV_mk, bindL_mk, bindH_mk, bindJ_mk, asB_mk, asI_mk, asS_mk, asP_mk, asSl_mk, asA_mk, asTu_mk, asSome_mk, unc_mk, endL_mk, selC_eq, condT_eq, sel_eq, letN_mk, letB_mk, case_nn, case_nr, case_ne, case_rn, case_rr, case_re, case_en, case_er, case_ee, iand_u64, ior_u64, ixor_u64, iandn_u64, inot_u64, ieq_u64_0, ieq_u64, decide_eq_true_eq, Bool.not_true, Bool.not_false, Bool.false_eq_true, if_false, if_true, Bool.not_eq_true', decide_eq_false_iff_not, ilt_eq, ile_eq, reduceCtorEq, not_false_eq_true, not_true_eq_false]
    rw [if_neg (by decide), d0]
    simp only [letH_mk, bindC_mk, bindV_mk, bindL_mk, bindH_mk, bindJ_mk, asB_mk, asI_mk, asS_mk, asP_mk, asSl_mk, asA_mk, asTu_mk, asSome_mk, unc_mk, endL_mk, selC_eq, condT_eq, sel_eq, letN_mk, letB_mk, case_nn, case_nr, case_ne, case_rn, case_rr, case_re, case_en, case_er, case_ee, iand_u64, ior_u64, ixor_u64, iandn_u64, inot_u64, ieq_u64_0, ieq_u64, decide_eq_true_eq, Bool.not_true, Bool.not_false, Bool.false_eq_true, if_false, if_true, Bool.not_eq_true', decide_eq_false_iff_not, ilt_eq, ile_eq, reduceCtorEq, not_false_eq_true, not_true_eq_false]
    rw [o0]
    simp only [letH_mk, bindC_mk, bindV_mk, bindL_mk, bindH_mk, bindJ_mk, asB_mk, asI_mk, asS_mk, asP_mk, asSl_mk, asA_mk, asTu_mk, asSome_mk, unc_mk, endL_mk, selC_eq, condT_eq, sel_eq, letN_mk, letB_mk, case_nn, case_nr, case_ne, case_rn, case_rr, case_re, case_en, case_er, case_ee, iand_u64, ior_u64, ixor_u64, iandn_u64, inot_u64, ieq_u64_0, ieq_u64, decide_eq_true_eq, Bool.not_true, Bool.not_false, Bool.false_eq_true, if_false, if_true, Bool.not_eq_true', decide_eq_false_iff_not, ilt_eq, ile_eq, reduceCtorEq, not_false_eq_true, not_true_eq_false]
    rw [hin]
    simp only [letH_mk, bindC_mk, bindV_mk, bindL_mk, bindH_mk, bindJ_mk, asB_mk, asI_mk, asS_mk, asP_mk, asSl_mk, asA_mk, asTu_mk, asSome_mk, unc_mk, endL_mk, selC_eq, condT_eq, sel_eq, letN_mk, letB_mk, case_nn, case_nr, case_ne, case_rn, case_rr, case_re, case_en, case_er, case_ee, iand_u64, ior_u64, ixor_u64, iandn_u64, inot_u64, ieq_u64_0, ieq_u64, decide_eq_true_eq, Bool.not_true, Bool.not_false, Bool.false_eq_true, if_false, if_true, Bool.not_eq_true', decide_eq_false_iff_not, ilt_eq, ile_eq, reduceCtorEq, not_false_eq_true, not_true_eq_false]
    rw [hput]
    simp only [letH_mk, bindC_mk, bindV_mk, bindL_mk, bindH_mk, bindJ_mk, asB_mk, asI_mk, asS_mk, asP_mk, asSl_mk, asA_mk, asTu_mk, asSome_mk, unc_mk, endL_mk, selC_eq, condT_eq, sel_eq, letN_mk, letB_mk, case_nn, case_nr, case_ne, case_rn, case_rr, case_re, case_en, case_er, case_ee, iand_u64, ior_u64, ixor_u64, iandn_u64, inot_u64, ieq_u64_0, ieq_u64, decide_eq_true_eq, Bool.not_true, Bool.not_false, Bool.false_eq_true, if_false, if_true, Bool.not_eq_true', decide_eq_false_iff_not, ilt_eq, ile_eq, reduceCtorEq, not_false_eq_true, not_true_eq_false, e1, e2]
  · have o0 := all1_ok (n' + 2) (by omega) true H
    simp only [if_true] at o0
    rw [h1, h2] at hput
    rw [h, show (((120 : UInt8).toNat : Nat) : Int) = 120 from rfl, if_pos (by decide)]
    simp only [letH_mk, bindC_mk, bindV_mk, bindL_mk, bindH_mk, bindJ_mk, asB_mk, asI_mk, asS_mk, asP_mk, asSl_mk, asA_mk, asTu_mk, asSome_mk, unc_mk, endL_mk, selC_eq, condT_eq, sel_eq, letN_mk, letB_mk, case_nn, case_nr, case_ne, case_rn, case_rr, case_re, case_en, case_er, case_ee, iand_u64, ior_u64, ixor_u64, iandn_u64, inot_u64, ieq_u64_0, ieq_u64, decide_eq_true_eq, Bool.not_true, Bool.not_false, Bool.false_eq_true, if_false, if_true, Bool.not_eq_true', decide_eq_false_iff_not, ilt_eq, ile_eq, reduceCtorEq, not_false_eq_true, not_true_eq_false]
    rw [o0]
    simp only [letH_mk, bindC_mk, bindV_mk, bindL_mk, bindH_mk, bindJ_mk, asB_mk, asI_mk, asS_mk, asP_mk, asSl_mk, asA_mk, asTu_mk, asSome_mk, unc_mk, endL_mk, selC_eq, condT_eq, sel_eq, letN_mk, letB_mk, case_nn, case_nr, case_ne, case_rn, case_rr, case_re, case_en, case_er, case_ee, iand_u64, ior_u64, ixor_u64, iandn_u64, inot_u64, ieq_u64_0, ieq_u64, decide_eq_true_eq, Bool.not_true, Bool.not_false, Bool.false_eq_true, if_false, if_true, Bool.not_eq_true', decide_eq_false_iff_not, ilt_eq, ile_eq, reduceCtorEq, not_false_eq_true, not_true_eq_false]
    rw [hin]
    simp only [letH_mk, bindC_mk, bindV_mk, bindL_mk, bindH_mk, bindJ_mk, asB_mk, asI_mk, asS_mk, asP_mk, asSl_mk, asA_mk, asTu_mk, asSome_mk, unc_mk, endL_mk, selC_eq, condT_eq, sel_eq, letN_mk, letB_mk, case_nn, case_nr, case_ne, case_rn, case_rr, case_re, case_en, case_er, case_ee, iand_u64, ior_u64, ixor_u64, iandn_u64, inot_u64, ieq_u64_0, ieq_u64, decide_eq_true_eq, Bool.not_true, Bool.not_false, Bool.false_eq_true, if_false, if_true, Bool.not_eq_true', decide_eq_false_iff_not, ilt_eq, ile_eq, reduceCtorEq, not_false_eq_true, not_true_eq_false]
    rw [hput]
    simp only [letH_mk, bindC_mk, bindV_mk, bindL_mk, bindH_mk, bindJ_mk, asB_mk, asI_mk, asS_mk, asP_mk, asSl_mk, asA_mk, asTu_mk, asSome_mk, unc_mk, endL_mk, selC_eq, condT_eq, sel_eq, letN_mk, letB_mk, case_nn, case_nr, case_ne, case_rn, case_rr, case_re, case_en, case_er, case_ee, iand_u64, ior_u64, ixor_u64, iandn_u64, inot_u64, ieq_u64_0, ieq_u64, decide_eq_true_eq, Bool.not_true, Bool.not_false, Bool.false_eq_true, if_false, if_true, Bool.not_eq_true', decide_eq_false_iff_not, ilt_eq, ile_eq, reduceCtorEq, not_false_eq_true, not_true_eq_false, e1, e2]
  · have o0 := all1_ok (n' + 2) (by omega) false H
    simp only [Bool.false_eq_true, if_false] at o0
    rw [h1, h2] at hput
    rw [h, show (((122 : UInt8).toNat : Nat) : Int) = 122 from rfl, if_neg (by decide)]
    simp only [letH_mk, bindC_mk, bindV_mk, bindL_mk, bindH_mk, bindJ_mk, asB_mk, asI_mk, asS_mk, asP_mk, asSl_mk, asA_mk, asTu_mk, asSome_mk, unc_mk, endL_mk, selC_eq, condT_eq, sel_eq, letN_mk, letB_mk, case_nn, case_nr, case_ne, case_rn, case_rr, case_re, case_en, case_er, case_ee, iand_u64, ior_u64, ixor_u64, iandn_u64, inot_u64, ieq_u64_0, ieq_u64, decide_eq_true_eq, Bool.not_true, Bool.not_false, Bool.false_eq_true, if_false, if_true, Bool.not_eq_true', decide_eq_false_iff_not, ilt_eq, ile_eq, reduceCtorEq, not_false_eq_true, not_true_eq_false]
    rw [o0]
    simp only [letH_mk, bindC_mk, bindV_mk, bindL_mk, bindH_mk, bindJ_mk, asB_mk, asI_mk, asS_mk, asP_mk, asSl_mk, asA_mk, asTu_mk, asSome_mk, unc_mk, endL_mk, selC_eq, condT_eq, sel_eq, letN_mk, letB_mk, case_nn, case_nr, case_ne, case_rn, case_rr, case_re, case_en, case_er, case_ee, iand_u64, ior_u64, ixor_u64, iandn_u64, inot_u64, ieq_u64_0, ieq_u64, decide_eq_true_eq, Bool.not_true, Bool.not_false, Bool.false_eq_true, if_false, if_true, Bool.not_eq_true', decide_eq_false_iff_not, ilt_eq, ile_eq, reduceCtorEq, not_false_eq_true, not_true_eq_false]
    rw [hin]
    simp only [letH_mk, bindC_mk, bindV_mk, bindL_mk, bindH_mk, bindJ_mk, asB_mk, asI_mk, asS_mk, asP_mk, asSl_mk, asA_mk, asTu_mk, asSome_mk, unc_mk, endL_mk, selC_eq, condT_eq, sel_eq, letN_mk, letB_mk, case_nn, case_nr, case_ne, case_rn, case_rr, case_re, case_en, case_er, case_ee, iand_u64, ior_u64, ixor_u64, iandn_u64, inot_u64, ieq_u64_0, ieq_u64, decide_eq_true_eq, Bool.not_true, Bool.not_false, Bool.false_eq_true, if_false, if_true, Bool.not_eq_true', decide_eq_false_iff_not, ilt_eq, ile_eq, reduceCtorEq, not_false_eq_true, not_true_eq_false]
    rw [hput]
    simp only [letH_mk, bindC_mk, bindV_mk, bindL_mk, bindH_mk, bindJ_mk, asB_mk, asI_mk, asS_mk, asP_mk, asSl_mk, asA_mk, asTu_mk, asSome_mk, unc_mk, endL_mk, selC_eq, condT_eq, sel_eq, letN_mk, letB_mk, case_nn, case_nr, case_ne, case_rn, case_rr, case_re, case_en, case_er, case_ee, iand_u64, ior_u64, ixor_u64, iandn_u64, inot_u64, ieq_u64_0, ieq_u64, decide_eq_true_eq, Bool.not_true, Bool.not_false, Bool.false_eq_true, if_false, if_true, Bool.not_eq_true', decide_eq_false_iff_not, ilt_eq, ile_eq, reduceCtorEq, not_false_eq_true, not_true_eq_false, e1, e2]

theorem g1_end (n m : Nat) {w : Nat} {v x : BitVec 64} (a ra rb rc ba bb bc : Int) (H : VH) :
    loopN (L74_1 (vcall T ext promo n) n (PS.of (bitsT v x w)) (w : Int) 1) (m + 1) [.int .i64 a, .int .i64 (-1), .agg [.int .i64 ra, .int .u64 rb, .int .u64 rc], .agg [.int .i64 ba, .int .u64 bb, .int .u64 bc]] H =
      some (.exit 2, [.int .i64 a, .agg [.int .i64 ra, .int .u64 rb, .int .u64 rc], .agg [.int .i64 ba, .int .u64 bb, .int .u64 bc]], H) := by
  rw [loopN_succ]
  generalize loopN (L74_1 (vcall T ext promo n) n (PS.of (bitsT v x w)) (w : Int) 1) m = lp
  unfold L74_1
  simp only [letH_mk, bindC_mk, bindV_mk, bindL_mk, bindH_mk, bindJ_mk, asB_mk, asI_mk, asS_mk, asP_mk, asSl_mk, asA_mk, asTu_mk, asSome_mk, unc_mk, endL_mk, selC_eq, condT_eq, sel_eq, letN_mk, letB_mk, case_nn, case_nr, case_ne, case_rn, case_rr, case_re, case_en, case_er, case_ee, iand_u64, ior_u64, ixor_u64, iandn_u64, inot_u64, ieq_u64_0, ieq_u64, decide_eq_true_eq, Bool.not_true, Bool.not_false, Bool.false_eq_true, if_false, if_true, Bool.not_eq_true', decide_eq_false_iff_not, ilt_eq, ile_eq, reduceCtorEq, not_false_eq_true, not_true_eq_false]
  rw [if_neg (by decide)]
theorem g1_loop (n : Nat) (hn : 60 ≤ n) {w : Nat} {v x : BitVec 64} (hw : 1 ≤ w ∧ w ≤ 64) (ra rb rc : Int) {H : VH} (hH : H.Ok) : ∀ (j m k : Nat), k + j = w → j < m →
    loopN (L74_1 (vcall T ext promo n) n (PS.of (bitsT v x w)) (w : Int) 1) m [.int .i64 (k : Int), .int .i64 ((w : Int) - 1 - (k : Int)), .agg [.int .i64 ra, .int .u64 rb, .int .u64 rc], bv w (v &&& bmask k) (x &&& bmask k)] H =
      some (.exit 2, [.int .i64 (w : Int), .agg [.int .i64 ra, .int .u64 rb, .int .u64 rc], bv w (v &&& bmask w) (x &&& bmask w)], H) := by
  intro j
  induction j with
  | zero =>
    intro m k hk hm
    obtain ⟨m, rfl⟩ : ∃ j, m = j + 1 := ⟨m - 1, by omega⟩
    obtain rfl : k = w := by omega
    rw [show ((k : Int) - 1 - (k : Int)) = -1 by omega]
    exact g1_end n m _ _ _ _ _ _ _ H
  | succ j ih =>
    intro m k hk hm
    obtain ⟨m, rfl⟩ : ∃ j, m = j + 1 := ⟨m - 1, by omega⟩
    have h1 := g1_step n m hn hw k (by omega) ra rb rc (v := v) (x := x) hH
    rw [show (((w - 1 - k : Nat) : Int)) = (w : Int) - 1 - (k : Int) by omega] at h1
    rw [h1]
    have h2 := ih m (k + 1) (by omega) (by omega)
    rw [show ((w : Int) - 1 - (k : Int) - 1) = (w : Int) - 1 - ((k + 1 : Nat) : Int) by omega]
    exact h2
theorem grouped_ok (n : Nat) (hn : 200 ≤ n) {w : Nat} {v x : BitVec 64} (h : Vec w v x) {H : VH} (hH : H.Ok) :
    vcall T ext promo n 74 [.str (PS.of (bitsT v x w)), .int .i64 (w : Int), .int .i64 1, .int .i64 0] H = some (.tuple [bv w v x, .int .i64 0], H) := by
  obtain ⟨n, rfl⟩ : ∃ m, n = m + 1 := ⟨n - 1, by omega⟩
  apply ok74
  unfold F74
  have hl := bitsT_len v x w
  have hw := h.pos
  have hw2 := h.le
  have l0 := g0_loop n (by omega) (v := v) (x := x) hw2 0 0 0 H.lo w n 0 (by omega) (by omega)
  have l1 := g1_loop n (by omega) (v := v) (x := x) ⟨hw, hw2⟩ 0 0 0 (lo_ok hH) w n 0 (by omega) (by omega)
  have z : ∀ y : BitVec 64, y &&& bmask 0 = 0#64 := fun y => by
    apply BitVec.eq_of_getLsbD_eq
    intro i _
    rw [mask_out 0 y i (Nat.zero_le _)]
    simp
  have full : ∀ y : BitVec 64, (∀ i, w ≤ i → y.getLsbD i = false) → y &&& bmask w = y := fun y hy => by
    apply BitVec.eq_of_getLsbD_eq
    intro i hi
    rw [BitVec.getLsbD_and, bmask_bit]
    rcases Nat.lt_or_ge i w with h1 | h1
    · simp [hi, h1]
    · simp [hy i h1]
  rw [z, z, show ((w : Int) - 1 - ((0 : Nat) : Int)) = (w : Int) - 1 by omega, full v h.v, full x h.x] at l1
  have hb0 : ∃ c, (bitsT v x w)[0]? = some c ∧ c = bitC v x (w - 1) := ⟨(bitsT v x w)[0]'(by rw [hl]; omega), List.getElem?_eq_getElem (by rw [hl]; omega), by rw [bitsT_get]; rfl⟩
  obtain ⟨c, hc, hcv⟩ := hb0
  obtain ⟨h5, h6⟩ := byte_zero _ _ hc
  rw [show ((0 : Nat) : Int) = 0 from rfl] at l0 l1
  simp only [letH_mk]
  rw [l0]
  simp only [letH_mk, bindC_mk, bindV_mk, bindL_mk, bindH_mk, bindJ_mk, asB_mk, asI_mk, asS_mk, asP_mk, asSl_mk, asA_mk, asTu_mk, asSome_mk, unc_mk, endL_mk, selC_eq, condT_eq, sel_eq, letN_mk, letB_mk, case_nn, case_nr, case_ne, case_rn, case_rr, case_re, case_en, case_er, case_ee, iand_u64, ior_u64, ixor_u64, iandn_u64, inot_u64, ieq_u64_0, ieq_u64, decide_eq_true_eq, Bool.not_true, Bool.not_false, Bool.false_eq_true, if_false, if_true, Bool.not_eq_true', decide_eq_false_iff_not, ilt_eq, ile_eq, reduceCtorEq, not_false_eq_true, not_true_eq_false, ieq_dec, of_len, hl, Bool.and_eq_true]
  have l1' : loopN (L74_1 (vcall T ext promo n) n (PS.of (bitsT v x w)) (w : Int) 1) n [.int .i64 0, .int .i64 ((w : Int) - 1), .agg [.int .i64 0, .int .u64 0, .int .u64 0], .agg [.int .i64 (w : Int), .int .u64 0, .int .u64 0]] H.lo =
      some (.exit 2, [.int .i64 (w : Int), .agg [.int .i64 0, .int .u64 0, .int .u64 0], bv w v x], H.lo) := l1
  rw [fw_i64 (by omega) (by omega), l1']
  simp only [letH_mk, bindC_mk, bindV_mk, bindL_mk, bindH_mk, bindJ_mk, asB_mk, asI_mk, asS_mk, asP_mk, asSl_mk, asA_mk, asTu_mk, asSome_mk, unc_mk, endL_mk, selC_eq, condT_eq, sel_eq, letN_mk, letB_mk, case_nn, case_nr, case_ne, case_rn, case_rr, case_re, case_en, case_er, case_ee, iand_u64, ior_u64, ixor_u64, iandn_u64, inot_u64, ieq_u64_0, ieq_u64, decide_eq_true_eq, Bool.not_true, Bool.not_false, Bool.false_eq_true, if_false, if_true, Bool.not_eq_true', decide_eq_false_iff_not, ilt_eq, ile_eq, reduceCtorEq, not_false_eq_true, not_true_eq_false, Int.lt_irrefl, decide_false]
  rw [if_pos (by omega), h5]
  by_cases e1 : (c.toNat : Int) = 120
  · rw [if_pos e1]
    simp only [letH_mk, bindC_mk, bindV_mk, bindL_mk, bindH_mk, bindJ_mk, asB_mk, asI_mk, asS_mk, asP_mk, asSl_mk, asA_mk, asTu_mk, asSome_mk, unc_mk, endL_mk, selC_eq, condT_eq, sel_eq, letN_mk, letB_mk, case_nn, case_nr, case_ne, case_rn, case_rr, case_re, case_en, case_er, case_ee, iand_u64, ior_u64, ixor_u64, iandn_u64, inot_u64, ieq_u64_0, ieq_u64, decide_eq_true_eq, Bool.not_true, Bool.not_false, Bool.false_eq_true, if_false, if_true, Bool.not_eq_true', decide_eq_false_iff_not, ilt_eq, ile_eq, reduceCtorEq, not_false_eq_true, not_true_eq_false]
    rw [leave_flat rfl rfl]
  · rw [if_neg e1]
    by_cases e2 : (c.toNat : Int) = 122
    · rw [if_pos e2]
      simp only [letH_mk, bindC_mk, bindV_mk, bindL_mk, bindH_mk, bindJ_mk, asB_mk, asI_mk, asS_mk, asP_mk, asSl_mk, asA_mk, asTu_mk, asSome_mk, unc_mk, endL_mk, selC_eq, condT_eq, sel_eq, letN_mk, letB_mk, case_nn, case_nr, case_ne, case_rn, case_rr, case_re, case_en, case_er, case_ee, iand_u64, ior_u64, ixor_u64, iandn_u64, inot_u64, ieq_u64_0, ieq_u64, decide_eq_true_eq, Bool.not_true, Bool.not_false, Bool.false_eq_true, if_false, if_true, Bool.not_eq_true', decide_eq_false_iff_not, ilt_eq, ile_eq, reduceCtorEq, not_false_eq_true, not_true_eq_false]
      rw [leave_flat rfl rfl]
    · rw [if_neg e2]
      simp only [letH_mk, bindC_mk, bindV_mk, bindL_mk, bindH_mk, bindJ_mk, asB_mk, asI_mk, asS_mk, asP_mk, asSl_mk, asA_mk, asTu_mk, asSome_mk, unc_mk, endL_mk, selC_eq, condT_eq, sel_eq, letN_mk, letB_mk, case_nn, case_nr, case_ne, case_rn, case_rr, case_re, case_en, case_er, case_ee, iand_u64, ior_u64, ixor_u64, iandn_u64, inot_u64, ieq_u64_0, ieq_u64, decide_eq_true_eq, Bool.not_true, Bool.not_false, Bool.false_eq_true, if_false, if_true, Bool.not_eq_true', decide_eq_false_iff_not, ilt_eq, ile_eq, reduceCtorEq, not_false_eq_true, not_true_eq_false]
      rw [leave_flat rfl rfl]
theorem read_ok (n : Nat) (hn : 300 ≤ n) {w : Nat} {v x : BitVec 64} (h : Vec w v x) {H : VH} (hH : H.Ok) :
    vcall T ext promo n 21 [.str (PS.of (txt w v x))] H = some (.tuple [bv w v x, .int .i64 0], H) := by
  obtain ⟨n, rfl⟩ : ∃ m, n = m + 1 := ⟨n - 1, by omega⟩
  apply ok21
  unfold F21
  have hl := bitsT_len v x w
  have hw := h.pos
  have hw2 := h.le
  have hd := digs_len w
  have ht : txt w v x = digs w ++ 39 :: (98 :: bitsT v x w) := by simp [txt]
  have hlen : (txt w v x).length = (digs w).length + 2 + w := by
    rw [ht]
    simp [hl]
    omega
  have hs := size_ok n (by omega) ⟨hw, hw2⟩ (98 :: bitsT v x w) (by simp [hl]; omega) H.lo
  rw [← ht] at hs
  have hk : (txt w v x)[(digs w).length]'(by omega) = 39 := by
    simp [ht]
  have hdrop : (txt w v x).drop ((digs w).length + 1) = 98 :: bitsT v x w := by
    rw [show txt w v x = (digs w ++ [39]) ++ (98 :: bitsT v x w) by simp [txt]]
    exact List.drop_left' (by simp)
  have e1 : fwrap .i64 (((digs w).length : Int) + 1) = (((digs w).length + 1 : Nat) : Int) := by rw [fw_i64 (by omega) (by omega)]; rfl
  have s1 := sl9f H.lo (txt w v x) ((digs w).length + 1) (by omega)
  rw [hdrop] at s1
  have b0 : (((PS.of (98 :: bitsT v x w)).byte ((0 : Int).toNat) : Nat) : Int) = 98 := (byte_zero (98 :: bitsT v x w) 98 rfl).1
  have s2 : vslice T H.lo 9 (.v (.str (PS.of (98 :: bitsT v x w)))) (some (.int .i64 1)) none = some (.str (PS.of (bitsT v x w))) := sl9f H.lo (98 :: bitsT v x w) 1 (by simp)
  have hlen2 : (98 :: bitsT v x w).length = w + 1 := by simp [hl]
  simp only [letH_mk]
  rw [hs]
  simp only [letH_mk, bindC_mk, bindV_mk, bindL_mk, bindH_mk, bindJ_mk, asB_mk, asI_mk, asS_mk, asP_mk, asSl_mk, asA_mk, asTu_mk, asSome_mk, unc_mk, endL_mk, selC_eq, condT_eq, sel_eq, letN_mk, letB_mk, case_nn, case_nr, case_ne, case_rn, case_rr, case_re, case_en, case_er, case_ee, iand_u64, ior_u64, ixor_u64, iandn_u64, inot_u64, ieq_u64_0, ieq_u64, decide_eq_true_eq, Bool.not_true, Bool.not_false, Bool.false_eq_true, if_false, if_true, Bool.not_eq_true', decide_eq_false_iff_not, ilt_eq, ile_eq, reduceCtorEq, not_false_eq_true, not_true_eq_false, ieq_dec, of_len, hlen, Bool.and_eq_true]
  rw [if_neg (by decide), if_neg (by omega), if_pos (by omega), byte_int _ _ (by omega), hk]
  simp only [letH_mk, bindC_mk, bindV_mk, bindL_mk, bindH_mk, bindJ_mk, asB_mk, asI_mk, asS_mk, asP_mk, asSl_mk, asA_mk, asTu_mk, asSome_mk, unc_mk, endL_mk, selC_eq, condT_eq, sel_eq, letN_mk, letB_mk, case_nn, case_nr, case_ne, case_rn, case_rr, case_re, case_en, case_er, case_ee, iand_u64, ior_u64, ixor_u64, iandn_u64, inot_u64, ieq_u64_0, ieq_u64, decide_eq_true_eq, Bool.not_true, Bool.not_false, Bool.false_eq_true, if_false, if_true, Bool.not_eq_true', decide_eq_false_iff_not, ilt_eq, ile_eq, reduceCtorEq, not_false_eq_true, not_true_eq_false]
  rw [if_neg (by decide), e1, s1]
  simp only [letH_mk, bindC_mk, bindV_mk, bindL_mk, bindH_mk, bindJ_mk, asB_mk, asI_mk, asS_mk, asP_mk, asSl_mk, asA_mk, asTu_mk, asSome_mk, unc_mk, endL_mk, selC_eq, condT_eq, sel_eq, letN_mk, letB_mk, case_nn, case_nr, case_ne, case_rn, case_rr, case_re, case_en, case_er, case_ee, iand_u64, ior_u64, ixor_u64, iandn_u64, inot_u64, ieq_u64_0, ieq_u64, decide_eq_true_eq, Bool.not_true, Bool.not_false, Bool.false_eq_true, if_false, if_true, Bool.not_eq_true', decide_eq_false_iff_not, ilt_eq, ile_eq, reduceCtorEq, not_false_eq_true, not_true_eq_false, of_len, hlen2, Bool.and_eq_true]
  rw [if_pos (by omega), if_pos (by omega), b0]
  simp only [letH_mk, bindC_mk, bindV_mk, bindL_mk, bindH_mk, bindJ_mk, asB_mk, asI_mk, asS_mk, asP_mk, asSl_mk, asA_mk, asTu_mk, asSome_mk, unc_mk, endL_mk, selC_eq, condT_eq, sel_eq, letN_mk, letB_mk, case_nn, case_nr, case_ne, case_rn, case_rr, case_re, case_en, case_er, case_ee, iand_u64, ior_u64, ixor_u64, iandn_u64, inot_u64, ieq_u64_0, ieq_u64, decide_eq_true_eq, Bool.not_true, Bool.not_false, Bool.false_eq_true, if_false, if_true, Bool.not_eq_true', decide_eq_false_iff_not, ilt_eq, ile_eq, reduceCtorEq, not_false_eq_true, not_true_eq_false]
  rw [if_neg (by decide)]
  simp only [letH_mk, bindC_mk, bindV_mk, bindL_mk, bindH_mk, bindJ_mk, asB_mk, asI_mk, asS_mk, asP_mk, asSl_mk, asA_mk, asTu_mk, asSome_mk, unc_mk, endL_mk, selC_eq, condT_eq, sel_eq, letN_mk, letB_mk, case_nn, case_nr, case_ne, case_rn, case_rr, case_re, case_en, case_er, case_ee, iand_u64, ior_u64, ixor_u64, iandn_u64, inot_u64, ieq_u64_0, ieq_u64, decide_eq_true_eq, Bool.not_true, Bool.not_false, Bool.false_eq_true, if_false, if_true, Bool.not_eq_true', decide_eq_false_iff_not, ilt_eq, ile_eq, reduceCtorEq, not_false_eq_true, not_true_eq_false, of_len, hlen2, Bool.and_eq_true]
  rw [if_neg (by omega), if_pos (by omega), b0]
  simp only [letH_mk, bindC_mk, bindV_mk, bindL_mk, bindH_mk, bindJ_mk, asB_mk, asI_mk, asS_mk, asP_mk, asSl_mk, asA_mk, asTu_mk, asSome_mk, unc_mk, endL_mk, selC_eq, condT_eq, sel_eq, letN_mk, letB_mk, case_nn, case_nr, case_ne, case_rn, case_rr, case_re, case_en, case_er, case_ee, iand_u64, ior_u64, ixor_u64, iandn_u64, inot_u64, ieq_u64_0, ieq_u64, decide_eq_true_eq, Bool.not_true, Bool.not_false, Bool.false_eq_true, if_false, if_true, Bool.not_eq_true', decide_eq_false_iff_not, ilt_eq, ile_eq, reduceCtorEq, not_false_eq_true, not_true_eq_false]
  rw [s2]
  simp only [letH_mk, bindC_mk, bindV_mk, bindL_mk, bindH_mk, bindJ_mk, asB_mk, asI_mk, asS_mk, asP_mk, asSl_mk, asA_mk, asTu_mk, asSome_mk, unc_mk, endL_mk, selC_eq, condT_eq, sel_eq, letN_mk, letB_mk, case_nn, case_nr, case_ne, case_rn, case_rr, case_re, case_en, case_er, case_ee, iand_u64, ior_u64, ixor_u64, iandn_u64, inot_u64, ieq_u64_0, ieq_u64, decide_eq_true_eq, Bool.not_true, Bool.not_false, Bool.false_eq_true, if_false, if_true, Bool.not_eq_true', decide_eq_false_iff_not, ilt_eq, ile_eq, reduceCtorEq, not_false_eq_true, not_true_eq_false]
  rw [if_neg (by decide), grouped_ok n (by omega) h (lo_ok hH)]
  simp only [letH_mk, bindC_mk, bindV_mk, bindL_mk, bindH_mk, bindJ_mk, asB_mk, asI_mk, asS_mk, asP_mk, asSl_mk, asA_mk, asTu_mk, asSome_mk, unc_mk, endL_mk, selC_eq, condT_eq, sel_eq, letN_mk, letB_mk, case_nn, case_nr, case_ne, case_rn, case_rr, case_re, case_en, case_er, case_ee, iand_u64, ior_u64, ixor_u64, iandn_u64, inot_u64, ieq_u64_0, ieq_u64, decide_eq_true_eq, Bool.not_true, Bool.not_false, Bool.false_eq_true, if_false, if_true, Bool.not_eq_true', decide_eq_false_iff_not, ilt_eq, ile_eq, reduceCtorEq, not_false_eq_true, not_true_eq_false]
  rw [leave_flat rfl rfl]
end Go.Vm.Tryd
