/- Picked from StreamW.lean. -/
import Derived.Test.YtmlogeklbcgjnaaGreatDoorSm
import Derived.Test.YtmlogeklbcgjnaaGreatDoorBw
namespace Go.Vm.Tryz
set_option linter.unusedSectionVars false
set_option linter.unusedSimpArgs false
set_option linter.unusedVariables false
set_option maxRecDepth 10000
theorem word_ok (n : Nat) (hn : 15 ≤ n) {H : VH} {b k : Nat} (hH : H.Ok) (hs : StB H b k) (hk : k < 1000000000 - 3) :
    ∃ (r : BitVec 64) (H' : VH), vcall T ext promo n 16 [.ptr (some (b, 0))] H = some (.int .u64 (u64 r), H') ∧ Drawn H H' b (k + 3) := by
  obtain ⟨n, rfl⟩ : ∃ m, n = m + 1 := ⟨n - 1, by omega⟩
  obtain ⟨r1, H1, e1, _, _, d1⟩ := next_ok n (by omega) (lo_ok hH) hs.lo (by omega) 1073741824 (by omega)
  obtain ⟨r2, H2, e2, _, _, d2⟩ := next_ok n (by omega) d1.ok d1.st (by omega) 1073741824 (by omega)
  obtain ⟨r3, H3, e3, _, _, d3⟩ := next_ok n (by omega) d2.ok d2.st (by omega) 1073741824 (by omega)
  refine ⟨BitVec.ofInt 64 r1 ^^^ BitVec.ofInt 64 (ishl (u64 (BitVec.ofInt 64 r2)) 25) ^^^ BitVec.ofInt 64 (ishl (u64 (BitVec.ofInt 64 r3)) 50), _, ok16 _ _ _ ?_, ((d1.trans d2).trans d3).leave hH (hs.lt hH) (.int .u64 (u64 (BitVec.ofInt 64 r1 ^^^ BitVec.ofInt 64 (ishl (u64 (BitVec.ofInt 64 r2)) 25) ^^^ BitVec.ofInt 64 (ishl (u64 (BitVec.ofInt 64 r3)) 50))))⟩
  unfold F16
  simp only [letH_mk, e1, e2, e3, bindC_mk, asI_mk, letN_mk, fw_u64n, ixor_u64]
theorem smask_ok (n : Nat) (hn : 1 ≤ n) (w : Nat) (H : VH) : vcall T ext promo n 17 [.int .i64 (w : Int)] H = some (.int .u64 (u64 (bmask w)), H) := by
  obtain ⟨n, rfl⟩ : ∃ m, n = m + 1 := ⟨n - 1, by omega⟩
  apply ok17
  unfold F17
  simp only [letH_mk, selC_eq, ile_eq, decide_eq_true_eq]
  by_cases h : 64 ≤ w
  · rw [if_pos (by omega), leave_flat rfl rfl, bmask_ge h]
    rfl
  · rw [if_neg (by omega), shl_one]
    simp only [bindV_mk, asI_mk, letN_mk]
    rw [leave_flat rfl rfl, bmask_lt (by omega)]
    have : (1 : Int) = u64 1#64 := rfl
    rw [this, sub_u64]
theorem known_ok (n : Nat) (hn : 20 ≤ n) {H : VH} {b k : Nat} (hH : H.Ok) (hs : StB H b k) (hk : k < 1000000000 - 5) (w : Nat) (hw : 1 ≤ w ∧ w ≤ 64) :
    ∃ (v : BitVec 64) (H' : VH), vcall T ext promo n 6 [.ptr (some (b, 0)), .int .i64 (w : Int)] H = some (bv w v 0#64, H') ∧ Vec w v 0#64 ∧ Drawn H H' b (k + 5) := by
  obtain ⟨n, rfl⟩ : ∃ m, n = m + 1 := ⟨n - 1, by omega⟩
  obtain ⟨v1, H1, e1, d1⟩ := word_ok n (by omega) (lo_ok hH) hs.lo (by omega)
  obtain ⟨r2, H2, e2, _, _, d2⟩ := next_ok n (by omega) d1.ok d1.st (by omega) 6 (by omega)
  have fin : ∀ (v : BitVec 64) (H3 : VH), Drawn H2 H3 b (k + 5) →
      (∀ K : Ex → List AV → VH → Option (AV × VH), bindJ (selC (ieq r2 0) (bindC (vcall T ext promo n 5 [.ptr (some (b, 0)), .int .i64 3] H2) fun v8 H9 => asI .i64 v8 fun n10 => some (.normal, [.int .u64 (fwrap .u64 n10)], H9)) (selC (ieq r2 1) (bindC (vcall T ext promo n 5 [.ptr (some (b, 0)), .int .i64 3] H2) fun v11 H12 => asI .i64 v11 fun n13 => letN (inot .u64 (fwrap .u64 n13)) fun n14 => some (.normal, [.int .u64 n14], H12)) (selC (ieq r2 2) (bindC (vcall T ext promo n 5 [.ptr (some (b, 0)), .int .i64 64] H2) fun v15 H16 => asI .i64 v15 fun n17 => bindV (varith .shl .u64 1 .i64 n17) fun v18 => asI .u64 v18 fun n19 => some (.normal, [.int .u64 n19], H16)) (some (.normal, [.int .u64 (u64 v1)], H2))))) K = K .normal [.int .u64 (u64 v)] H3) →
      ∃ (v : BitVec 64) (H' : VH), vcall T ext promo (n + 1) 6 [.ptr (some (b, 0)), .int .i64 (w : Int)] H = some (bv w v 0#64, H') ∧ Vec w v 0#64 ∧ Drawn H H' b (k + 5) := by
    intro v H3 d3 hJ
    refine ⟨v &&& bmask w, _, ok6 _ _ _ _ ?_, ⟨hw.1, hw.2, mask_out w v, fun i _ => by simp⟩, ((d1.trans d2).trans d3).leave hH (hs.lt hH) (bv w (v &&& bmask w) 0#64)⟩
    unfold F6
    simp only [letH_mk, e1, e2, bindC_mk, asI_mk]
    rw [hJ]
    simp only [case_nn, unc_mk, asI_mk, endL_mk]
    rw [smask_ok n (by omega)]
    simp only [bindC_mk, asI_mk, letN_mk, iand_u64]
    rfl
  by_cases h0 : r2 = 0
  · obtain ⟨r3, H3, e3, _, _, d3⟩ := next_ok n (by omega) d2.ok d2.st (by omega) 3 (by omega)
    refine fin (BitVec.ofInt 64 r3) H3 d3 fun K => ?_
    simp only [selC_eq, ieq_dec, decide_eq_true_eq]
    rw [if_pos h0, e3]
    simp only [bindC_mk, asI_mk, bindJ_mk, fw_u64n]
  · by_cases h1 : r2 = 1
    · obtain ⟨r3, H3, e3, _, _, d3⟩ := next_ok n (by omega) d2.ok d2.st (by omega) 3 (by omega)
      refine fin (~~~(BitVec.ofInt 64 r3)) H3 d3 fun K => ?_
      simp only [selC_eq, ieq_dec, decide_eq_true_eq]
      rw [if_neg h0, if_pos h1, e3]
      simp only [bindC_mk, asI_mk, bindJ_mk, fw_u64n, letN_mk, inot_u64]
    · by_cases h2 : r2 = 2
      · obtain ⟨r3, H3, e3, _, _, d3⟩ := next_ok n (by omega) d2.ok d2.st (by omega) 64 (by omega)
        refine fin (1#64 <<< (min r3.toNat 64)) H3 d3 fun K => ?_
        simp only [selC_eq, ieq_dec, decide_eq_true_eq]
        rw [if_neg h0, if_neg h1, if_pos h2, e3]
        simp only [bindC_mk, asI_mk]
        rw [show (1 : Int) = u64 1#64 from rfl, shl_var _ _ (by omega)]
        simp only [bindV_mk, asI_mk, bindJ_mk]
      · refine fin v1 H2 ⟨d2.st.up (by omega), .refl _ _, d2.ok, d2.low⟩ fun K => ?_
        simp only [selC_eq, ieq_dec, decide_eq_true_eq]
        rw [if_neg h0, if_neg h1, if_neg h2]
        simp only [bindJ_mk]
end Go.Vm.Tryz
