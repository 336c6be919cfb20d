/- BitsWhole on the machine. -/
import Derived.Test.YtieocmaaloaoaaaDoorBs
namespace Go.Vm.Tryd
set_option linter.unusedSectionVars false
set_option linter.unusedSimpArgs false
set_option linter.unusedVariables false
set_option maxRecDepth 10000
theorem cat_law {w k : Nat} (hw : w ≤ 64) (hk : k < w) {v : BitVec 64} (h : ∀ i, w ≤ i → v.getLsbD i = false) : (v >>> k &&& bmask (w - k)) <<< k ||| (v &&& bmask k) = v := by
  apply BitVec.eq_of_getLsbD_eq
  intro j hj
  simp only [BitVec.getLsbD_or, BitVec.getLsbD_and, BitVec.getLsbD_shiftLeft, BitVec.getLsbD_ushiftRight, bmask_bit, hj, decide_true, Bool.true_and]
  by_cases h1 : j < k
  · simp [h1]
  · have h2 : k + (j - k) = j := by omega
    have h3 : j - k < 64 := by omega
    rw [h2]
    by_cases h4 : j < w
    · have h5 : j - k < w - k := by omega
      simp [h1, h3, h5]
    · rw [h j (by omega)]
      simp
theorem putV_out {w pw k : Nat} {v pv : BitVec 64} (h : ∀ i, w ≤ i → v.getLsbD i = false) : ∀ i, w ≤ i → (v &&& ~~~(bmask pw <<< k &&& bmask w) ||| pv <<< k &&& (bmask pw <<< k &&& bmask w)).getLsbD i = false := by
  intro j hj
  rcases Nat.lt_or_ge j 64 with h1 | h1
  · rw [puts_bit _ _ _ _ _ _ h1, if_neg (by omega)]
    exact h j hj
  · exact BitVec.getLsbD_of_ge _ _ h1
theorem put_slice {w pw k : Nat} (hk : k + pw ≤ w) (hw : w ≤ 64) {v pv : BitVec 64} (h : ∀ i, pw ≤ i → pv.getLsbD i = false) :
    (v &&& ~~~(bmask pw <<< k &&& bmask w) ||| pv <<< k &&& (bmask pw <<< k &&& bmask w)) >>> k &&& bmask pw = pv := by
  apply BitVec.eq_of_getLsbD_eq
  intro j hj
  rw [BitVec.getLsbD_and, BitVec.getLsbD_ushiftRight, bmask_bit]
  rcases Nat.lt_or_ge j pw with h1 | h1
  · rw [puts_bit _ _ _ _ _ _ (by omega), if_pos (by omega), Nat.add_sub_cancel_left]
    simp [hj, h1]
  · rw [h j h1]
    have : ¬ j < pw := by omega
    simp [this]
theorem put_back {w pw k : Nat} {v pv : BitVec 64} :
    (v &&& ~~~(bmask pw <<< k &&& bmask w) ||| pv <<< k &&& (bmask pw <<< k &&& bmask w)) &&& ~~~(bmask pw <<< k &&& bmask w) ||| (v >>> k &&& bmask pw) <<< k &&& (bmask pw <<< k &&& bmask w) = v := by
  apply BitVec.eq_of_getLsbD_eq
  intro j hj
  rw [puts_bit _ _ _ _ _ _ hj, puts_bit _ _ _ _ _ _ hj]
  by_cases h1 : k ≤ j ∧ j < k + pw ∧ j < w
  · rw [if_pos h1, BitVec.getLsbD_and, BitVec.getLsbD_ushiftRight, bmask_bit]
    have h2 : k + (j - k) = j := by omega
    have h3 : j - k < 64 := by omega
    have h4 : j - k < pw := by omega
    simp [h2, h3, h4]
  · rw [if_neg h1, if_neg h1]
theorem of_small {k : Nat} (h : k < 128) : (BitVec.ofInt 64 (k : Int) &&& bmask 7).toNat = k := by
  have h1 := ofInt_nat (w := 7) (by decide) (k : Int)
  rw [Int.emod_eq_of_lt (by omega) (by omega)] at h1
  exact Int.ofNat.inj h1
theorem bitsWhole_vm (n : Nat) (hn : 1000 ≤ n) {H : VH} (hH : H.Ok) (a : Option (Nat × Nat)) (l : Nat) (c : Option Nat) (e : Nat) (hN : Nums H H.next a l) :
    ∃ H', vcall T ext promo n 5 [.slice a l c e] H = some (.bool true, H') := by
  obtain ⟨n, rfl⟩ : ∃ m, n = m + 1 := ⟨n - 1, by omega⟩
  obtain ⟨o0, s0⟩ := start hH c e hN
  obtain ⟨w, H1, e1, w1, w2, d1⟩ := width_ok n (by omega) o0 s0 (by omega)
  have hw : 1 ≤ w ∧ w ≤ 64 := ⟨w1, w2⟩
  obtain ⟨v, x, H2, e2, hv, d2⟩ := bits_ok n (by omega) d1.ok d1.st (by omega) w hw
  obtain ⟨sg, H3, e3, d3⟩ := flip_ok n (by omega) d2.ok d2.st (by omega) 2 (by omega)
  have hj := joined_ok n (by omega) d2.ok
  have a1 := rep1_ok n (by omega) hv d2.ok
  have a2 := resize_ok n (by omega) hv hw sg d3.ok
  rw [wide_same hw hv.v, wide_same hw hv.x] at a2
  have fin : ∀ HH, F5 (vcall T ext promo n) n a l c e H = some (.bool true, leave H HH (.bool true)) → ∃ H', vcall T ext promo (n + 1) 5 [.slice a l c e] H = some (.bool true, H') := fun HH h => ⟨_, ok5 _ _ _ _ _ _ h⟩
  by_cases hz : w = 1
  · have o3 := fresh_ok d3.ok [.int .i64 (w : Int), .int .u64 (u64 v), .int .u64 (u64 x)]
    have b1 := cat1_ok n (by omega) o3 H3.next 0 (some 1) 3 hv (fresh_cells d3.ok _ 0 3 (by simp))
    refine fin (H3.fresh [.int .i64 (w : Int), .int .u64 (u64 v), .int .u64 (u64 x)]) ?_
    unfold F5
    simp only [letH_mk, lo_next]
    rw [e1]
    simp only [letH_mk, bindC_mk, bindV_mk, bindL_mk, bindH_mk, bindJ_mk, asB_mk, asI_mk, asS_mk, asP_mk, asSl_mk, asA_mk, asTu_mk, asSome_mk, unc_mk, endL_mk, selC_eq, condT_eq, sel_eq, letN_mk, letB_mk, case_nn, case_nr, case_ne, case_rn, case_rr, case_re, case_en, case_er, case_ee, iand_u64, ior_u64, ixor_u64, iandn_u64, inot_u64, ieq_u64_0, ieq_u64, decide_eq_true_eq, Bool.not_true, Bool.not_false, Bool.false_eq_true, if_false, if_true, Bool.not_eq_true', decide_eq_false_iff_not, ilt_eq, ile_eq, reduceCtorEq, not_false_eq_true, not_true_eq_false]
    rw [e2]
    simp only [letH_mk, bindC_mk, bindV_mk, bindL_mk, bindH_mk, bindJ_mk, asB_mk, asI_mk, asS_mk, asP_mk, asSl_mk, asA_mk, asTu_mk, asSome_mk, unc_mk, endL_mk, selC_eq, condT_eq, sel_eq, letN_mk, letB_mk, case_nn, case_nr, case_ne, case_rn, case_rr, case_re, case_en, case_er, case_ee, iand_u64, ior_u64, ixor_u64, iandn_u64, inot_u64, ieq_u64_0, ieq_u64, decide_eq_true_eq, Bool.not_true, Bool.not_false, Bool.false_eq_true, if_false, if_true, Bool.not_eq_true', decide_eq_false_iff_not, ilt_eq, ile_eq, reduceCtorEq, not_false_eq_true, not_true_eq_false]
    rw [hj]
    simp only [letH_mk, bindC_mk, bindV_mk, bindL_mk, bindH_mk, bindJ_mk, asB_mk, asI_mk, asS_mk, asP_mk, asSl_mk, asA_mk, asTu_mk, asSome_mk, unc_mk, endL_mk, selC_eq, condT_eq, sel_eq, letN_mk, letB_mk, case_nn, case_nr, case_ne, case_rn, case_rr, case_re, case_en, case_er, case_ee, iand_u64, ior_u64, ixor_u64, iandn_u64, inot_u64, ieq_u64_0, ieq_u64, decide_eq_true_eq, Bool.not_true, Bool.not_false, Bool.false_eq_true, if_false, if_true, Bool.not_eq_true', decide_eq_false_iff_not, ilt_eq, ile_eq, reduceCtorEq, not_false_eq_true, not_true_eq_false]
    rw [a1]
    simp only [letH_mk, bindC_mk, bindV_mk, bindL_mk, bindH_mk, bindJ_mk, asB_mk, asI_mk, asS_mk, asP_mk, asSl_mk, asA_mk, asTu_mk, asSome_mk, unc_mk, endL_mk, selC_eq, condT_eq, sel_eq, letN_mk, letB_mk, case_nn, case_nr, case_ne, case_rn, case_rr, case_re, case_en, case_er, case_ee, iand_u64, ior_u64, ixor_u64, iandn_u64, inot_u64, ieq_u64_0, ieq_u64, decide_eq_true_eq, Bool.not_true, Bool.not_false, Bool.false_eq_true, if_false, if_true, Bool.not_eq_true', decide_eq_false_iff_not, ilt_eq, ile_eq, reduceCtorEq, not_false_eq_true, not_true_eq_false]
    rw [bv_ne]
    simp only [letH_mk, bindC_mk, bindV_mk, bindL_mk, bindH_mk, bindJ_mk, asB_mk, asI_mk, asS_mk, asP_mk, asSl_mk, asA_mk, asTu_mk, asSome_mk, unc_mk, endL_mk, selC_eq, condT_eq, sel_eq, letN_mk, letB_mk, case_nn, case_nr, case_ne, case_rn, case_rr, case_re, case_en, case_er, case_ee, iand_u64, ior_u64, ixor_u64, iandn_u64, inot_u64, ieq_u64_0, ieq_u64, decide_eq_true_eq, Bool.not_true, Bool.not_false, Bool.false_eq_true, if_false, if_true, Bool.not_eq_true', decide_eq_false_iff_not, ilt_eq, ile_eq, reduceCtorEq, not_false_eq_true, not_true_eq_false, and_self, decide_true]
    rw [e3]
    simp only [letH_mk, bindC_mk, bindV_mk, bindL_mk, bindH_mk, bindJ_mk, asB_mk, asI_mk, asS_mk, asP_mk, asSl_mk, asA_mk, asTu_mk, asSome_mk, unc_mk, endL_mk, selC_eq, condT_eq, sel_eq, letN_mk, letB_mk, case_nn, case_nr, case_ne, case_rn, case_rr, case_re, case_en, case_er, case_ee, iand_u64, ior_u64, ixor_u64, iandn_u64, inot_u64, ieq_u64_0, ieq_u64, decide_eq_true_eq, Bool.not_true, Bool.not_false, Bool.false_eq_true, if_false, if_true, Bool.not_eq_true', decide_eq_false_iff_not, ilt_eq, ile_eq, reduceCtorEq, not_false_eq_true, not_true_eq_false]
    rw [a2]
    simp only [letH_mk, bindC_mk, bindV_mk, bindL_mk, bindH_mk, bindJ_mk, asB_mk, asI_mk, asS_mk, asP_mk, asSl_mk, asA_mk, asTu_mk, asSome_mk, unc_mk, endL_mk, selC_eq, condT_eq, sel_eq, letN_mk, letB_mk, case_nn, case_nr, case_ne, case_rn, case_rr, case_re, case_en, case_er, case_ee, iand_u64, ior_u64, ixor_u64, iandn_u64, inot_u64, ieq_u64_0, ieq_u64, decide_eq_true_eq, Bool.not_true, Bool.not_false, Bool.false_eq_true, if_false, if_true, Bool.not_eq_true', decide_eq_false_iff_not, ilt_eq, ile_eq, reduceCtorEq, not_false_eq_true, not_true_eq_false]
    rw [bv_ne]
    simp only [letH_mk, bindC_mk, bindV_mk, bindL_mk, bindH_mk, bindJ_mk, asB_mk, asI_mk, asS_mk, asP_mk, asSl_mk, asA_mk, asTu_mk, asSome_mk, unc_mk, endL_mk, selC_eq, condT_eq, sel_eq, letN_mk, letB_mk, case_nn, case_nr, case_ne, case_rn, case_rr, case_re, case_en, case_er, case_ee, iand_u64, ior_u64, ixor_u64, iandn_u64, inot_u64, ieq_u64_0, ieq_u64, decide_eq_true_eq, Bool.not_true, Bool.not_false, Bool.false_eq_true, if_false, if_true, Bool.not_eq_true', decide_eq_false_iff_not, ilt_eq, ile_eq, reduceCtorEq, not_false_eq_true, not_true_eq_false, and_self, decide_true, ieq_dec]
    rw [if_pos (by omega), b1]
    simp only [letH_mk, bindC_mk, bindV_mk, bindL_mk, bindH_mk, bindJ_mk, asB_mk, asI_mk, asS_mk, asP_mk, asSl_mk, asA_mk, asTu_mk, asSome_mk, unc_mk, endL_mk, selC_eq, condT_eq, sel_eq, letN_mk, letB_mk, case_nn, case_nr, case_ne, case_rn, case_rr, case_re, case_en, case_er, case_ee, iand_u64, ior_u64, ixor_u64, iandn_u64, inot_u64, ieq_u64_0, ieq_u64, decide_eq_true_eq, Bool.not_true, Bool.not_false, Bool.false_eq_true, if_false, if_true, Bool.not_eq_true', decide_eq_false_iff_not, ilt_eq, ile_eq, reduceCtorEq, not_false_eq_true, not_true_eq_false]
    rw [bv_eq]
    simp only [letH_mk, bindC_mk, bindV_mk, bindL_mk, bindH_mk, bindJ_mk, asB_mk, asI_mk, asS_mk, asP_mk, asSl_mk, asA_mk, asTu_mk, asSome_mk, unc_mk, endL_mk, selC_eq, condT_eq, sel_eq, letN_mk, letB_mk, case_nn, case_nr, case_ne, case_rn, case_rr, case_re, case_en, case_er, case_ee, iand_u64, ior_u64, ixor_u64, iandn_u64, inot_u64, ieq_u64_0, ieq_u64, decide_eq_true_eq, Bool.not_true, Bool.not_false, Bool.false_eq_true, if_false, if_true, Bool.not_eq_true', decide_eq_false_iff_not, ilt_eq, ile_eq, reduceCtorEq, not_false_eq_true, not_true_eq_false, and_self, decide_true]
  · obtain ⟨r, H4, e4, r1, r2, d4⟩ := range_ok n (by omega) d3.ok d3.st (by omega) 1 ((w : Int) - 1) (by omega) (by omega) (by omega)
    obtain ⟨k, rfl⟩ := Int.eq_ofNat_of_zero_le (show 0 ≤ r by omega)
    have q1 : fwrap .i64 ((w : Int) - 1) = (w : Int) - 1 := fw_i64 (by omega) (by omega)
    have q2 : fwrap .i64 ((w : Int) - (k : Int)) = ((w - k : Nat) : Int) := by rw [fw_i64 (by omega) (by omega)]; omega
    have b1 : vcall T ext promo n 28 [bv w v x, .int .i64 0, .int .i64 (k : Int)] H4 = some (bv k (v >>> 0 &&& bmask k) (x >>> 0 &&& bmask k), H4) := slice_ok n (by omega) hv 0 k (by omega) (by omega) d4.ok
    have b2 := slice_ok n (by omega) hv k (w - k) (by omega) (by omega) d4.ok
    have v1 := slice_vec (w' := w - k) (by omega) v x k
    have v2 := slice_vec (w' := k) (by omega) v x 0
    let cs : List AV := [.int .i64 ((w - k : Nat) : Int), .int .u64 (u64 (v >>> k &&& bmask (w - k))), .int .u64 (u64 (x >>> k &&& bmask (w - k))), .int .i64 (k : Int), .int .u64 (u64 (v >>> 0 &&& bmask k)), .int .u64 (u64 (x >>> 0 &&& bmask k))]
    have o5 := fresh_ok d4.ok cs
    have b3 := cat2_ok n (by omega) o5 H4.next 0 (some 2) 3 (Nat.lt_succ_self _) v1 v2 (by omega) (fresh_cells d4.ok cs 0 3 (by simp [cs])) (fresh_cells d4.ok cs 3 3 (by simp [cs]))
    rw [BitVec.ushiftRight_zero, BitVec.ushiftRight_zero, cat_law w2 (by omega) hv.v, cat_law w2 (by omega) hv.x, show w - k + k = w by omega] at b3
    have b4 := resize_ok n (by omega) hv (w' := k) (by omega) false o5
    rw [show wide w v false = v from rfl, show wide w x false = x from rfl] at b4
    have b5 : vcall T ext promo n 30 [.int .i64 7, .int .u64 (fwrap .u64 (k : Int))] (H4.fresh cs) = some (bv 7 (BitVec.ofInt 64 (k : Int) &&& bmask 7) 0#64, H4.fresh cs) := by
      rw [fw_u64n]
      exact of_ok n (by omega) (w := 7) (by decide) _ _
    have m1 : min (BitVec.ofInt 64 (k : Int) &&& bmask 7).toNat 64 = k := by rw [of_small (by omega)]; omega
    have b6 := part_ok n (by omega) hv (kvec (w := 7) (by decide) (BitVec.ofInt 64 (k : Int))) (w' := w - k) (by omega) (by rw [m1]; omega) o5
    rw [m1] at b6
    have s5 := d4.st.fresh d4.ok cs
    obtain ⟨r', H5, e5, r3, r4, d5⟩ := range_ok n (by omega) o5 s5 (by omega) 1 (w : Int) (by omega) (by omega) (by omega)
    obtain ⟨pw, rfl⟩ := Int.eq_ofNat_of_zero_le (show 0 ≤ r' by omega)
    obtain ⟨pv, px, H6, e6, hp, d6⟩ := bits_ok n (by omega) d5.ok d5.st (by omega) pw (by omega)
    have q3 : fwrap .i64 ((w : Int) - (pw : Int)) = (w : Int) - (pw : Int) := fw_i64 (by omega) (by omega)
    obtain ⟨r'', H7, e7, r5, r6, d7⟩ := range_ok n (by omega) d6.ok d6.st (by omega) 0 ((w : Int) - (pw : Int)) (by omega) (by omega) (by omega)
    obtain ⟨j, rfl⟩ := Int.eq_ofNat_of_zero_le r5
    have c1 := put_ok n (by omega) hv hp j (by omega) d7.ok
    have hv' : Vec w (v &&& ~~~(bmask pw <<< j &&& bmask w) ||| pv <<< j &&& (bmask pw <<< j &&& bmask w)) (x &&& ~~~(bmask pw <<< j &&& bmask w) ||| px <<< j &&& (bmask pw <<< j &&& bmask w)) := ⟨w1, w2, putV_out hv.v, putV_out hv.x⟩
    have c2 := slice_ok n (by omega) hv' j pw (by omega) (by omega) d7.ok
    rw [put_slice (by omega) w2 hp.v, put_slice (by omega) w2 hp.x] at c2
    have c3 := slice_ok n (by omega) hv j pw (by omega) (by omega) d7.ok
    have c4 := put_ok n (by omega) hv' (slice_vec (w' := pw) (by omega) v x j) j (by omega) d7.ok
    rw [put_back, put_back] at c4
    refine fin H7 ?_
    unfold F5
    simp only [letH_mk, lo_next]
    rw [e1]
    simp only [letH_mk, bindC_mk, bindV_mk, bindL_mk, bindH_mk, bindJ_mk, asB_mk, asI_mk, asS_mk, asP_mk, asSl_mk, asA_mk, asTu_mk, asSome_mk, unc_mk, endL_mk, selC_eq, condT_eq, sel_eq, letN_mk, letB_mk, case_nn, case_nr, case_ne, case_rn, case_rr, case_re, case_en, case_er, case_ee, iand_u64, ior_u64, ixor_u64, iandn_u64, inot_u64, ieq_u64_0, ieq_u64, decide_eq_true_eq, Bool.not_true, Bool.not_false, Bool.false_eq_true, if_false, if_true, Bool.not_eq_true', decide_eq_false_iff_not, ilt_eq, ile_eq, reduceCtorEq, not_false_eq_true, not_true_eq_false]
    rw [e2]
    simp only [letH_mk, bindC_mk, bindV_mk, bindL_mk, bindH_mk, bindJ_mk, asB_mk, asI_mk, asS_mk, asP_mk, asSl_mk, asA_mk, asTu_mk, asSome_mk, unc_mk, endL_mk, selC_eq, condT_eq, sel_eq, letN_mk, letB_mk, case_nn, case_nr, case_ne, case_rn, case_rr, case_re, case_en, case_er, case_ee, iand_u64, ior_u64, ixor_u64, iandn_u64, inot_u64, ieq_u64_0, ieq_u64, decide_eq_true_eq, Bool.not_true, Bool.not_false, Bool.false_eq_true, if_false, if_true, Bool.not_eq_true', decide_eq_false_iff_not, ilt_eq, ile_eq, reduceCtorEq, not_false_eq_true, not_true_eq_false]
    rw [hj]
    simp only [letH_mk, bindC_mk, bindV_mk, bindL_mk, bindH_mk, bindJ_mk, asB_mk, asI_mk, asS_mk, asP_mk, asSl_mk, asA_mk, asTu_mk, asSome_mk, unc_mk, endL_mk, selC_eq, condT_eq, sel_eq, letN_mk, letB_mk, case_nn, case_nr, case_ne, case_rn, case_rr, case_re, case_en, case_er, case_ee, iand_u64, ior_u64, ixor_u64, iandn_u64, inot_u64, ieq_u64_0, ieq_u64, decide_eq_true_eq, Bool.not_true, Bool.not_false, Bool.false_eq_true, if_false, if_true, Bool.not_eq_true', decide_eq_false_iff_not, ilt_eq, ile_eq, reduceCtorEq, not_false_eq_true, not_true_eq_false]
    rw [a1]
    simp only [letH_mk, bindC_mk, bindV_mk, bindL_mk, bindH_mk, bindJ_mk, asB_mk, asI_mk, asS_mk, asP_mk, asSl_mk, asA_mk, asTu_mk, asSome_mk, unc_mk, endL_mk, selC_eq, condT_eq, sel_eq, letN_mk, letB_mk, case_nn, case_nr, case_ne, case_rn, case_rr, case_re, case_en, case_er, case_ee, iand_u64, ior_u64, ixor_u64, iandn_u64, inot_u64, ieq_u64_0, ieq_u64, decide_eq_true_eq, Bool.not_true, Bool.not_false, Bool.false_eq_true, if_false, if_true, Bool.not_eq_true', decide_eq_false_iff_not, ilt_eq, ile_eq, reduceCtorEq, not_false_eq_true, not_true_eq_false]
    rw [bv_ne]
    simp only [letH_mk, bindC_mk, bindV_mk, bindL_mk, bindH_mk, bindJ_mk, asB_mk, asI_mk, asS_mk, asP_mk, asSl_mk, asA_mk, asTu_mk, asSome_mk, unc_mk, endL_mk, selC_eq, condT_eq, sel_eq, letN_mk, letB_mk, case_nn, case_nr, case_ne, case_rn, case_rr, case_re, case_en, case_er, case_ee, iand_u64, ior_u64, ixor_u64, iandn_u64, inot_u64, ieq_u64_0, ieq_u64, decide_eq_true_eq, Bool.not_true, Bool.not_false, Bool.false_eq_true, if_false, if_true, Bool.not_eq_true', decide_eq_false_iff_not, ilt_eq, ile_eq, reduceCtorEq, not_false_eq_true, not_true_eq_false, and_self, decide_true]
    rw [e3]
    simp only [letH_mk, bindC_mk, bindV_mk, bindL_mk, bindH_mk, bindJ_mk, asB_mk, asI_mk, asS_mk, asP_mk, asSl_mk, asA_mk, asTu_mk, asSome_mk, unc_mk, endL_mk, selC_eq, condT_eq, sel_eq, letN_mk, letB_mk, case_nn, case_nr, case_ne, case_rn, case_rr, case_re, case_en, case_er, case_ee, iand_u64, ior_u64, ixor_u64, iandn_u64, inot_u64, ieq_u64_0, ieq_u64, decide_eq_true_eq, Bool.not_true, Bool.not_false, Bool.false_eq_true, if_false, if_true, Bool.not_eq_true', decide_eq_false_iff_not, ilt_eq, ile_eq, reduceCtorEq, not_false_eq_true, not_true_eq_false]
    rw [a2]
    simp only [letH_mk, bindC_mk, bindV_mk, bindL_mk, bindH_mk, bindJ_mk, asB_mk, asI_mk, asS_mk, asP_mk, asSl_mk, asA_mk, asTu_mk, asSome_mk, unc_mk, endL_mk, selC_eq, condT_eq, sel_eq, letN_mk, letB_mk, case_nn, case_nr, case_ne, case_rn, case_rr, case_re, case_en, case_er, case_ee, iand_u64, ior_u64, ixor_u64, iandn_u64, inot_u64, ieq_u64_0, ieq_u64, decide_eq_true_eq, Bool.not_true, Bool.not_false, Bool.false_eq_true, if_false, if_true, Bool.not_eq_true', decide_eq_false_iff_not, ilt_eq, ile_eq, reduceCtorEq, not_false_eq_true, not_true_eq_false]
    rw [bv_ne]
    simp only [letH_mk, bindC_mk, bindV_mk, bindL_mk, bindH_mk, bindJ_mk, asB_mk, asI_mk, asS_mk, asP_mk, asSl_mk, asA_mk, asTu_mk, asSome_mk, unc_mk, endL_mk, selC_eq, condT_eq, sel_eq, letN_mk, letB_mk, case_nn, case_nr, case_ne, case_rn, case_rr, case_re, case_en, case_er, case_ee, iand_u64, ior_u64, ixor_u64, iandn_u64, inot_u64, ieq_u64_0, ieq_u64, decide_eq_true_eq, Bool.not_true, Bool.not_false, Bool.false_eq_true, if_false, if_true, Bool.not_eq_true', decide_eq_false_iff_not, ilt_eq, ile_eq, reduceCtorEq, not_false_eq_true, not_true_eq_false, and_self, decide_true, ieq_dec]
    rw [if_neg (by omega), q1, e4]
    simp only [letH_mk, bindC_mk, bindV_mk, bindL_mk, bindH_mk, bindJ_mk, asB_mk, asI_mk, asS_mk, asP_mk, asSl_mk, asA_mk, asTu_mk, asSome_mk, unc_mk, endL_mk, selC_eq, condT_eq, sel_eq, letN_mk, letB_mk, case_nn, case_nr, case_ne, case_rn, case_rr, case_re, case_en, case_er, case_ee, iand_u64, ior_u64, ixor_u64, iandn_u64, inot_u64, ieq_u64_0, ieq_u64, decide_eq_true_eq, Bool.not_true, Bool.not_false, Bool.false_eq_true, if_false, if_true, Bool.not_eq_true', decide_eq_false_iff_not, ilt_eq, ile_eq, reduceCtorEq, not_false_eq_true, not_true_eq_false]
    rw [b1]
    simp only [letH_mk, bindC_mk, bindV_mk, bindL_mk, bindH_mk, bindJ_mk, asB_mk, asI_mk, asS_mk, asP_mk, asSl_mk, asA_mk, asTu_mk, asSome_mk, unc_mk, endL_mk, selC_eq, condT_eq, sel_eq, letN_mk, letB_mk, case_nn, case_nr, case_ne, case_rn, case_rr, case_re, case_en, case_er, case_ee, iand_u64, ior_u64, ixor_u64, iandn_u64, inot_u64, ieq_u64_0, ieq_u64, decide_eq_true_eq, Bool.not_true, Bool.not_false, Bool.false_eq_true, if_false, if_true, Bool.not_eq_true', decide_eq_false_iff_not, ilt_eq, ile_eq, reduceCtorEq, not_false_eq_true, not_true_eq_false, q2]
    rw [b2]
    simp only [letH_mk, bindC_mk, bindV_mk, bindL_mk, bindH_mk, bindJ_mk, asB_mk, asI_mk, asS_mk, asP_mk, asSl_mk, asA_mk, asTu_mk, asSome_mk, unc_mk, endL_mk, selC_eq, condT_eq, sel_eq, letN_mk, letB_mk, case_nn, case_nr, case_ne, case_rn, case_rr, case_re, case_en, case_er, case_ee, iand_u64, ior_u64, ixor_u64, iandn_u64, inot_u64, ieq_u64_0, ieq_u64, decide_eq_true_eq, Bool.not_true, Bool.not_false, Bool.false_eq_true, if_false, if_true, Bool.not_eq_true', decide_eq_false_iff_not, ilt_eq, ile_eq, reduceCtorEq, not_false_eq_true, not_true_eq_false]
    rw [b3]
    simp only [letH_mk, bindC_mk, bindV_mk, bindL_mk, bindH_mk, bindJ_mk, asB_mk, asI_mk, asS_mk, asP_mk, asSl_mk, asA_mk, asTu_mk, asSome_mk, unc_mk, endL_mk, selC_eq, condT_eq, sel_eq, letN_mk, letB_mk, case_nn, case_nr, case_ne, case_rn, case_rr, case_re, case_en, case_er, case_ee, iand_u64, ior_u64, ixor_u64, iandn_u64, inot_u64, ieq_u64_0, ieq_u64, decide_eq_true_eq, Bool.not_true, Bool.not_false, Bool.false_eq_true, if_false, if_true, Bool.not_eq_true', decide_eq_false_iff_not, ilt_eq, ile_eq, reduceCtorEq, not_false_eq_true, not_true_eq_false]
    rw [bv_ne]
    simp only [letH_mk, bindC_mk, bindV_mk, bindL_mk, bindH_mk, bindJ_mk, asB_mk, asI_mk, asS_mk, asP_mk, asSl_mk, asA_mk, asTu_mk, asSome_mk, unc_mk, endL_mk, selC_eq, condT_eq, sel_eq, letN_mk, letB_mk, case_nn, case_nr, case_ne, case_rn, case_rr, case_re, case_en, case_er, case_ee, iand_u64, ior_u64, ixor_u64, iandn_u64, inot_u64, ieq_u64_0, ieq_u64, decide_eq_true_eq, Bool.not_true, Bool.not_false, Bool.false_eq_true, if_false, if_true, Bool.not_eq_true', decide_eq_false_iff_not, ilt_eq, ile_eq, reduceCtorEq, not_false_eq_true, not_true_eq_false, and_self, decide_true]
    rw [b4]
    simp only [letH_mk, bindC_mk, bindV_mk, bindL_mk, bindH_mk, bindJ_mk, asB_mk, asI_mk, asS_mk, asP_mk, asSl_mk, asA_mk, asTu_mk, asSome_mk, unc_mk, endL_mk, selC_eq, condT_eq, sel_eq, letN_mk, letB_mk, case_nn, case_nr, case_ne, case_rn, case_rr, case_re, case_en, case_er, case_ee, iand_u64, ior_u64, ixor_u64, iandn_u64, inot_u64, ieq_u64_0, ieq_u64, decide_eq_true_eq, Bool.not_true, Bool.not_false, Bool.false_eq_true, if_false, if_true, Bool.not_eq_true', decide_eq_false_iff_not, ilt_eq, ile_eq, reduceCtorEq, not_false_eq_true, not_true_eq_false]
    rw [BitVec.ushiftRight_zero, BitVec.ushiftRight_zero, bv_ne]
    simp only [letH_mk, bindC_mk, bindV_mk, bindL_mk, bindH_mk, bindJ_mk, asB_mk, asI_mk, asS_mk, asP_mk, asSl_mk, asA_mk, asTu_mk, asSome_mk, unc_mk, endL_mk, selC_eq, condT_eq, sel_eq, letN_mk, letB_mk, case_nn, case_nr, case_ne, case_rn, case_rr, case_re, case_en, case_er, case_ee, iand_u64, ior_u64, ixor_u64, iandn_u64, inot_u64, ieq_u64_0, ieq_u64, decide_eq_true_eq, Bool.not_true, Bool.not_false, Bool.false_eq_true, if_false, if_true, Bool.not_eq_true', decide_eq_false_iff_not, ilt_eq, ile_eq, reduceCtorEq, not_false_eq_true, not_true_eq_false, and_self, decide_true]
    rw [b5]
    simp only [letH_mk, bindC_mk, bindV_mk, bindL_mk, bindH_mk, bindJ_mk, asB_mk, asI_mk, asS_mk, asP_mk, asSl_mk, asA_mk, asTu_mk, asSome_mk, unc_mk, endL_mk, selC_eq, condT_eq, sel_eq, letN_mk, letB_mk, case_nn, case_nr, case_ne, case_rn, case_rr, case_re, case_en, case_er, case_ee, iand_u64, ior_u64, ixor_u64, iandn_u64, inot_u64, ieq_u64_0, ieq_u64, decide_eq_true_eq, Bool.not_true, Bool.not_false, Bool.false_eq_true, if_false, if_true, Bool.not_eq_true', decide_eq_false_iff_not, ilt_eq, ile_eq, reduceCtorEq, not_false_eq_true, not_true_eq_false]
    rw [b6]
    simp only [letH_mk, bindC_mk, bindV_mk, bindL_mk, bindH_mk, bindJ_mk, asB_mk, asI_mk, asS_mk, asP_mk, asSl_mk, asA_mk, asTu_mk, asSome_mk, unc_mk, endL_mk, selC_eq, condT_eq, sel_eq, letN_mk, letB_mk, case_nn, case_nr, case_ne, case_rn, case_rr, case_re, case_en, case_er, case_ee, iand_u64, ior_u64, ixor_u64, iandn_u64, inot_u64, ieq_u64_0, ieq_u64, decide_eq_true_eq, Bool.not_true, Bool.not_false, Bool.false_eq_true, if_false, if_true, Bool.not_eq_true', decide_eq_false_iff_not, ilt_eq, ile_eq, reduceCtorEq, not_false_eq_true, not_true_eq_false]
    rw [bv_ne]
    simp only [letH_mk, bindC_mk, bindV_mk, bindL_mk, bindH_mk, bindJ_mk, asB_mk, asI_mk, asS_mk, asP_mk, asSl_mk, asA_mk, asTu_mk, asSome_mk, unc_mk, endL_mk, selC_eq, condT_eq, sel_eq, letN_mk, letB_mk, case_nn, case_nr, case_ne, case_rn, case_rr, case_re, case_en, case_er, case_ee, iand_u64, ior_u64, ixor_u64, iandn_u64, inot_u64, ieq_u64_0, ieq_u64, decide_eq_true_eq, Bool.not_true, Bool.not_false, Bool.false_eq_true, if_false, if_true, Bool.not_eq_true', decide_eq_false_iff_not, ilt_eq, ile_eq, reduceCtorEq, not_false_eq_true, not_true_eq_false, and_self, decide_true]
    rw [e5]
    simp only [letH_mk, bindC_mk, bindV_mk, bindL_mk, bindH_mk, bindJ_mk, asB_mk, asI_mk, asS_mk, asP_mk, asSl_mk, asA_mk, asTu_mk, asSome_mk, unc_mk, endL_mk, selC_eq, condT_eq, sel_eq, letN_mk, letB_mk, case_nn, case_nr, case_ne, case_rn, case_rr, case_re, case_en, case_er, case_ee, iand_u64, ior_u64, ixor_u64, iandn_u64, inot_u64, ieq_u64_0, ieq_u64, decide_eq_true_eq, Bool.not_true, Bool.not_false, Bool.false_eq_true, if_false, if_true, Bool.not_eq_true', decide_eq_false_iff_not, ilt_eq, ile_eq, reduceCtorEq, not_false_eq_true, not_true_eq_false]
    rw [e6]
    simp only [letH_mk, bindC_mk, bindV_mk, bindL_mk, bindH_mk, bindJ_mk, asB_mk, asI_mk, asS_mk, asP_mk, asSl_mk, asA_mk, asTu_mk, asSome_mk, unc_mk, endL_mk, selC_eq, condT_eq, sel_eq, letN_mk, letB_mk, case_nn, case_nr, case_ne, case_rn, case_rr, case_re, case_en, case_er, case_ee, iand_u64, ior_u64, ixor_u64, iandn_u64, inot_u64, ieq_u64_0, ieq_u64, decide_eq_true_eq, Bool.not_true, Bool.not_false, Bool.false_eq_true, if_false, if_true, Bool.not_eq_true', decide_eq_false_iff_not, ilt_eq, ile_eq, reduceCtorEq, not_false_eq_true, not_true_eq_false, q3]
    rw [e7]
    simp only [letH_mk, bindC_mk, bindV_mk, bindL_mk, bindH_mk, bindJ_mk, asB_mk, asI_mk, asS_mk, asP_mk, asSl_mk, asA_mk, asTu_mk, asSome_mk, unc_mk, endL_mk, selC_eq, condT_eq, sel_eq, letN_mk, letB_mk, case_nn, case_nr, case_ne, case_rn, case_rr, case_re, case_en, case_er, case_ee, iand_u64, ior_u64, ixor_u64, iandn_u64, inot_u64, ieq_u64_0, ieq_u64, decide_eq_true_eq, Bool.not_true, Bool.not_false, Bool.false_eq_true, if_false, if_true, Bool.not_eq_true', decide_eq_false_iff_not, ilt_eq, ile_eq, reduceCtorEq, not_false_eq_true, not_true_eq_false]
    rw [c1]
    simp only [letH_mk, bindC_mk, bindV_mk, bindL_mk, bindH_mk, bindJ_mk, asB_mk, asI_mk, asS_mk, asP_mk, asSl_mk, asA_mk, asTu_mk, asSome_mk, unc_mk, endL_mk, selC_eq, condT_eq, sel_eq, letN_mk, letB_mk, case_nn, case_nr, case_ne, case_rn, case_rr, case_re, case_en, case_er, case_ee, iand_u64, ior_u64, ixor_u64, iandn_u64, inot_u64, ieq_u64_0, ieq_u64, decide_eq_true_eq, Bool.not_true, Bool.not_false, Bool.false_eq_true, if_false, if_true, Bool.not_eq_true', decide_eq_false_iff_not, ilt_eq, ile_eq, reduceCtorEq, not_false_eq_true, not_true_eq_false]
    rw [c2]
    simp only [letH_mk, bindC_mk, bindV_mk, bindL_mk, bindH_mk, bindJ_mk, asB_mk, asI_mk, asS_mk, asP_mk, asSl_mk, asA_mk, asTu_mk, asSome_mk, unc_mk, endL_mk, selC_eq, condT_eq, sel_eq, letN_mk, letB_mk, case_nn, case_nr, case_ne, case_rn, case_rr, case_re, case_en, case_er, case_ee, iand_u64, ior_u64, ixor_u64, iandn_u64, inot_u64, ieq_u64_0, ieq_u64, decide_eq_true_eq, Bool.not_true, Bool.not_false, Bool.false_eq_true, if_false, if_true, Bool.not_eq_true', decide_eq_false_iff_not, ilt_eq, ile_eq, reduceCtorEq, not_false_eq_true, not_true_eq_false]
    rw [bv_eq]
    simp only [letH_mk, bindC_mk, bindV_mk, bindL_mk, bindH_mk, bindJ_mk, asB_mk, asI_mk, asS_mk, asP_mk, asSl_mk, asA_mk, asTu_mk, asSome_mk, unc_mk, endL_mk, selC_eq, condT_eq, sel_eq, letN_mk, letB_mk, case_nn, case_nr, case_ne, case_rn, case_rr, case_re, case_en, case_er, case_ee, iand_u64, ior_u64, ixor_u64, iandn_u64, inot_u64, ieq_u64_0, ieq_u64, decide_eq_true_eq, Bool.not_true, Bool.not_false, Bool.false_eq_true, if_false, if_true, Bool.not_eq_true', decide_eq_false_iff_not, ilt_eq, ile_eq, reduceCtorEq, not_false_eq_true, not_true_eq_false, and_self, decide_true]
    rw [c3]
    simp only [letH_mk, bindC_mk, bindV_mk, bindL_mk, bindH_mk, bindJ_mk, asB_mk, asI_mk, asS_mk, asP_mk, asSl_mk, asA_mk, asTu_mk, asSome_mk, unc_mk, endL_mk, selC_eq, condT_eq, sel_eq, letN_mk, letB_mk, case_nn, case_nr, case_ne, case_rn, case_rr, case_re, case_en, case_er, case_ee, iand_u64, ior_u64, ixor_u64, iandn_u64, inot_u64, ieq_u64_0, ieq_u64, decide_eq_true_eq, Bool.not_true, Bool.not_false, Bool.false_eq_true, if_false, if_true, Bool.not_eq_true', decide_eq_false_iff_not, ilt_eq, ile_eq, reduceCtorEq, not_false_eq_true, not_true_eq_false]
    rw [c4]
    simp only [letH_mk, bindC_mk, bindV_mk, bindL_mk, bindH_mk, bindJ_mk, asB_mk, asI_mk, asS_mk, asP_mk, asSl_mk, asA_mk, asTu_mk, asSome_mk, unc_mk, endL_mk, selC_eq, condT_eq, sel_eq, letN_mk, letB_mk, case_nn, case_nr, case_ne, case_rn, case_rr, case_re, case_en, case_er, case_ee, iand_u64, ior_u64, ixor_u64, iandn_u64, inot_u64, ieq_u64_0, ieq_u64, decide_eq_true_eq, Bool.not_true, Bool.not_false, Bool.false_eq_true, if_false, if_true, Bool.not_eq_true', decide_eq_false_iff_not, ilt_eq, ile_eq, reduceCtorEq, not_false_eq_true, not_true_eq_false]
    rw [bv_eq]
    simp only [letH_mk, bindC_mk, bindV_mk, bindL_mk, bindH_mk, bindJ_mk, asB_mk, asI_mk, asS_mk, asP_mk, asSl_mk, asA_mk, asTu_mk, asSome_mk, unc_mk, endL_mk, selC_eq, condT_eq, sel_eq, letN_mk, letB_mk, case_nn, case_nr, case_ne, case_rn, case_rr, case_re, case_en, case_er, case_ee, iand_u64, ior_u64, ixor_u64, iandn_u64, inot_u64, ieq_u64_0, ieq_u64, decide_eq_true_eq, Bool.not_true, Bool.not_false, Bool.false_eq_true, if_false, if_true, Bool.not_eq_true', decide_eq_false_iff_not, ilt_eq, ile_eq, reduceCtorEq, not_false_eq_true, not_true_eq_false, and_self, decide_true]
end Go.Vm.Tryd
