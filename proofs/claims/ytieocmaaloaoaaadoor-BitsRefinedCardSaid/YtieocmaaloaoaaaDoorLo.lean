/- BitsOrdered on the machine. -/
import Derived.Test.YtieocmaaloaoaaaDoorLr
namespace Go.Vm.Tryd
set_option linter.unusedSectionVars false
set_option linter.unusedSimpArgs false
set_option linter.unusedVariables false
set_option maxRecDepth 10000
theorem nat_lt {w : Nat} {v : BitVec 64} (h : ∀ i, w ≤ i → v.getLsbD i = false) : v.toNat < 2 ^ w :=
  Nat.lt_pow_two_of_testBit _ fun i hi => by rw [BitVec.testBit_toNat]; exact h i hi
/-- The highest bit of w. -/
def topB (w : Nat) : BitVec 64 := 1#64 <<< (w - 1)
theorem topB_bit {w : Nat} (hw : 1 ≤ w ∧ w ≤ 64) (i : Nat) : (topB w).getLsbD i = decide (i = w - 1) := by
  unfold topB
  rw [BitVec.getLsbD_shiftLeft, BitVec.getLsbD_one]
  by_cases h : i = w - 1
  · subst h
    have : w - 1 < 64 := by omega
    simp [this]
  · by_cases h2 : i < w - 1
    · simp [h2, h]
    · have : i - (w - 1) ≠ 0 := by omega
      simp [h2, h, this]
theorem topB_nat {w : Nat} (hw : 1 ≤ w ∧ w ≤ 64) : (topB w).toNat = 2 ^ (w - 1) := by
  unfold topB
  rw [BitVec.toNat_shiftLeft]
  simp only [BitVec.toNat_ofNat, Nat.shiftLeft_eq]
  have : 2 ^ (w - 1) < 2 ^ 64 := Nat.pow_lt_pow_right (by decide) (by omega)
  rw [show 1 % 2 ^ 64 = 1 from rfl, Nat.one_mul, Nat.mod_eq_of_lt this]
theorem pow_split {w : Nat} (hw : 1 ≤ w ∧ w ≤ 64) : 2 ^ w = 2 * 2 ^ (w - 1) ∧ 2 ^ 64 = 2 * 2 ^ (w - 1) * 2 ^ (64 - w) := by
  have h1 : 2 ^ w = 2 * 2 ^ (w - 1) := by
    rw [← Nat.pow_succ']
    congr 1
    omega
  refine ⟨h1, ?_⟩
  rw [← h1, ← Nat.pow_add]
  congr 1
  omega
/-- With the highest bit added. -/
theorem or_top {w : Nat} (hw : 1 ≤ w ∧ w ≤ 64) {u : BitVec 64} (h : ∀ i, w ≤ i → u.getLsbD i = false) (hb : u.getLsbD (w - 1) = false) : u.toNat < 2 ^ (w - 1) ∧ (u ||| topB w).toNat = u.toNat + 2 ^ (w - 1) := by
  have h1 : u.toNat < 2 ^ (w - 1) := nat_lt fun i hi => by
    rcases Nat.lt_or_ge i w with h2 | h2
    · obtain rfl : i = w - 1 := by omega
      exact hb
    · exact h i h2
  refine ⟨h1, ?_⟩
  have hand : u &&& topB w = 0#64 := by
    apply BitVec.eq_of_getLsbD_eq
    intro i hi
    rw [BitVec.getLsbD_and, topB_bit hw]
    by_cases e : i = w - 1
    · subst e; simp [hb]
    · simp [e]
  rw [← BitVec.add_eq_or_of_and_eq_zero _ _ hand, BitVec.toNat_add, topB_nat hw]
  have := (pow_split hw)
  have hp : 1 ≤ 2 ^ (64 - w) := Nat.one_le_two_pow
  have h3 : 2 * 2 ^ (w - 1) ≤ 2 ^ 64 := by
    rw [this.2]
    exact Nat.le_mul_of_pos_right _ hp
  exact Nat.mod_eq_of_lt (by omega)
theorem xor_top {w : Nat} (hw : 1 ≤ w ∧ w ≤ 64) {v : BitVec 64} (h : ∀ i, w ≤ i → v.getLsbD i = false) :
    v.toNat < 2 ^ (w - 1) ∧ (v ^^^ topB w).toNat = v.toNat + 2 ^ (w - 1) ∨ (v ^^^ topB w).toNat < 2 ^ (w - 1) ∧ v.toNat = (v ^^^ topB w).toNat + 2 ^ (w - 1) := by
  cases hb : v.getLsbD (w - 1) with
  | false =>
    obtain ⟨h1, h2⟩ := or_top hw h hb
    have e : v ^^^ topB w = v ||| topB w := by
      apply BitVec.eq_of_getLsbD_eq
      intro i hi
      rw [BitVec.getLsbD_xor, BitVec.getLsbD_or, topB_bit hw]
      by_cases e : i = w - 1
      · subst e; simp [hb]
      · simp [e]
    exact .inl ⟨h1, by rw [e, h2]⟩
  | true =>
    have hu : ∀ i, w ≤ i → (v ^^^ topB w).getLsbD i = false := by
      intro i hi
      have : i ≠ w - 1 := by omega
      rw [BitVec.getLsbD_xor, topB_bit hw, h i hi]
      simp [this]
    have hub : (v ^^^ topB w).getLsbD (w - 1) = false := by
      rw [BitVec.getLsbD_xor, topB_bit hw, hb]
      simp
    obtain ⟨h1, h2⟩ := or_top hw hu hub
    have e : (v ^^^ topB w) ||| topB w = v := by
      apply BitVec.eq_of_getLsbD_eq
      intro i hi
      rw [BitVec.getLsbD_or, BitVec.getLsbD_xor, topB_bit hw]
      by_cases e : i = w - 1
      · subst e; simp [hb]
      · simp [e]
    rw [e] at h2
    exact .inr ⟨h1, h2⟩
theorem sint_eq {w : Nat} (hw : 1 ≤ w ∧ w ≤ 64) {v : BitVec 64} (h : ∀ i, w ≤ i → v.getLsbD i = false) : sint w v = if v.toNat < 2 ^ (w - 1) then (v.toNat : Int) else (v.toNat : Int) - (2 ^ w : Nat) := by
  have hlt := nat_lt h
  obtain ⟨hp1, hp2⟩ := pow_split hw
  unfold sint
  rw [BitVec.toInt_eq_toNat_cond, BitVec.toNat_shiftLeft, Nat.shiftLeft_eq]
  have hP : 0 < 2 ^ (64 - w) := Nat.two_pow_pos _
  have hcast : ((2 : Int) ^ (64 - w)) = ((2 ^ (64 - w) : Nat) : Int) := by simp
  rw [hcast]
  rw [hp1] at hlt ⊢
  rw [hp2]
  generalize 2 ^ (w - 1) = m at *
  generalize 2 ^ (64 - w) = P at *
  generalize v.toNat = a at *
  have hlt2 : a * P < 2 * m * P := Nat.mul_lt_mul_of_pos_right hlt hP
  rw [Nat.mod_eq_of_lt hlt2]
  have hPi : (P : Int) ≠ 0 := by omega
  by_cases ha : a < m
  · have h2 : 2 * (a * P) < 2 * m * P := by
      rw [← Nat.mul_assoc]
      exact Nat.mul_lt_mul_of_pos_right (by omega) hP
    rw [if_pos h2, if_pos ha, Int.natCast_mul]
    exact Int.mul_fdiv_cancel _ hPi
  · have h2 : ¬ 2 * (a * P) < 2 * m * P := by
      rw [← Nat.mul_assoc]
      have := Nat.mul_le_mul_right P (show 2 * m ≤ 2 * a by omega)
      omega
    rw [if_neg h2, if_neg ha]
    have : ((a * P : Nat) : Int) - ((2 * m * P : Nat) : Int) = ((a : Int) - ((2 * m : Nat) : Int)) * (P : Int) := by
      rw [Int.sub_mul]
      simp
    rw [this]
    exact Int.mul_fdiv_cancel _ hPi
theorem less_top {w : Nat} (hw : 1 ≤ w ∧ w ≤ 64) {v v' : BitVec 64} (h : ∀ i, w ≤ i → v.getLsbD i = false) (h' : ∀ i, w ≤ i → v'.getLsbD i = false) : lessOf w v v' true = lessOf w (v ^^^ topB w) (v' ^^^ topB w) false := by
  have hlt := nat_lt h
  have hlt' := nat_lt h'
  obtain ⟨hp1, hp2⟩ := pow_split hw
  have e1 := sint_eq hw h
  have e2 := sint_eq hw h'
  have x1 := xor_top hw h
  have x2 := xor_top hw h'
  unfold lessOf
  simp only [if_true, Bool.false_eq_true, if_false, e1, e2]
  rw [Bool.eq_iff_iff]
  simp only [decide_eq_true_eq]
  rw [hp1] at *
  generalize 2 ^ (w - 1) = m at *
  generalize (v ^^^ topB w).toNat = c at *
  generalize (v' ^^^ topB w).toNat = d at *
  generalize v.toNat = a at *
  generalize v'.toNat = b at *
  rcases x1 with ⟨x1, x3⟩ | ⟨x1, x3⟩ <;> rcases x2 with ⟨x2, x4⟩ | ⟨x2, x4⟩
  · rw [if_pos x1, if_pos x2]; omega
  · rw [if_pos x1, if_neg (by omega)]; omega
  · rw [if_neg (by omega), if_pos x2]; omega
  · rw [if_neg (by omega), if_neg (by omega)]; omega
/-- '1' moved up to the highest bit. -/
theorem top_made {w : Nat} (hw : 1 ≤ w ∧ w ≤ 64) : (1#64 &&& bmask w) <<< (min (BitVec.ofInt 64 ((w : Int) - 1) &&& bmask 7).toNat 64) &&& bmask w = topB w := by
  have h1 : (BitVec.ofInt 64 ((w : Int) - 1) &&& bmask 7).toNat = w - 1 := by
    have : ∀ k : Fin 64, (BitVec.ofInt 64 ((k.val + 1 : Int) - 1) &&& bmask 7).toNat = k.val := by decide +kernel
    have h2 := this ⟨w - 1, by omega⟩
    rw [show (((⟨w - 1, by omega⟩ : Fin 64).val + 1 : Int)) = (w : Int) by simp; omega] at h2
    exact h2
  rw [h1, Nat.min_eq_left (by omega)]
  apply BitVec.eq_of_getLsbD_eq
  intro i hi
  rw [BitVec.getLsbD_and, BitVec.getLsbD_shiftLeft, BitVec.getLsbD_and, BitVec.getLsbD_one, bmask_bit, bmask_bit, topB_bit hw]
  by_cases h : i = w - 1
  · subst h
    have h3 : w - 1 < w := by omega
    have h4 : 0 < w := by omega
    simp [hi, h3, h4]
  · by_cases h2 : i < w - 1
    · simp [h2, h]
    · have : i - (w - 1) ≠ 0 := by omega
      simp [h2, h, this]
theorem xor_known {w : Nat} (hw : 1 ≤ w ∧ w ≤ 64) (v : BitVec 64) (h : ∀ i, w ≤ i → v.getLsbD i = false) : mk3 w ((v ^^^ topB w) &&& ~~~(0#64 ||| 0#64)) (0#64 ||| 0#64) = bv w (v ^^^ topB w) 0#64 := by
  have e : ((v ^^^ topB w) &&& ~~~(0#64 ||| 0#64) ||| (0#64 ||| 0#64)) &&& bmask w = v ^^^ topB w := by
    apply BitVec.eq_of_getLsbD_eq
    intro i hi
    simp only [BitVec.getLsbD_and, BitVec.getLsbD_or, BitVec.getLsbD_not, BitVec.getLsbD_xor, BitVec.getLsbD_zero, bmask_bit, topB_bit hw, hi, decide_true, Bool.true_and, Bool.or_false, Bool.not_false, Bool.and_true]
    by_cases h2 : i < w
    · simp [h2]
    · have h3 : i ≠ w - 1 := by omega
      simp [h2, h3, h i (by omega)]
  have e2 : (0#64 ||| 0#64) &&& bmask w = 0#64 := by simp
  unfold mk3
  rw [e, e2]
theorem xor_vec {w : Nat} (hw : 1 ≤ w ∧ w ≤ 64) {v : BitVec 64} (h : ∀ i, w ≤ i → v.getLsbD i = false) : Vec w (v ^^^ topB w) 0#64 := by
  refine ⟨hw.1, hw.2, fun i hi => ?_, fun i _ => by simp⟩
  have : i ≠ w - 1 := by omega
  rw [BitVec.getLsbD_xor, topB_bit hw, h i hi]
  simp [this]

theorem eqOf_known (v v' : BitVec 64) : eqOf v 0#64 v' 0#64 = if v = v' then 1 else 0 := by
  unfold eqOf
  have e : (v ^^^ v') &&& ~~~(0#64 ||| 0#64) = v ^^^ v' := by
    apply BitVec.eq_of_getLsbD_eq
    intro i hi
    simp only [BitVec.getLsbD_and, BitVec.getLsbD_not, BitVec.getLsbD_or, BitVec.getLsbD_zero, hi, decide_true, Bool.or_self, Bool.not_false, Bool.and_true]
  have e2 : (0#64 ||| 0#64 : BitVec 64) = 0#64 := by decide
  rw [e, e2, if_pos rfl]
  by_cases h : v = v'
  · subst h
    rw [if_pos rfl, if_pos (BitVec.xor_self)]
  · rw [if_neg h, if_neg]
    intro h2
    apply h
    have : v ^^^ v' ^^^ v' = 0#64 ^^^ v' := by rw [h2]
    rwa [BitVec.xor_assoc, BitVec.xor_self, BitVec.xor_zero, BitVec.zero_xor] at this
theorem bitsOrdered_vm (n : Nat) (hn : 1000 ≤ n) {H : VH} (hH : H.Ok) (a : Option (Nat × Nat)) (l : Nat) (c : Option Nat) (e : Nat) (hN : Nums H H.next a l) :
    ∃ H', vcall T ext promo n 8 [.slice a l c e] H = some (.bool true, H') := by
  obtain ⟨n, rfl⟩ : ∃ m, n = m + 1 := ⟨n - 1, by omega⟩
  obtain ⟨o0, s0⟩ := start hH c e hN
  obtain ⟨w, H1, e1, w1, w2, d1⟩ := width_ok n (by omega) o0 s0 (by omega)
  obtain ⟨v, H2, e2, hv, d2⟩ := known_ok n (by omega) d1.ok d1.st (by omega) w ⟨w1, w2⟩
  obtain ⟨v', H3, e3, hv', d3⟩ := known_ok n (by omega) d2.ok d2.st (by omega) w ⟨w1, w2⟩
  have hw : 1 ≤ w ∧ w ≤ 64 := ⟨w1, w2⟩
  obtain ⟨t1, ht1⟩ : ∃ t : Int, t = if lessOf w v v' false then 1 else 0 := ⟨_, rfl⟩
  obtain ⟨t2, ht2⟩ : ∃ t : Int, t = eqOf v 0#64 v' 0#64 := ⟨_, rfl⟩
  obtain ⟨t3, ht3⟩ : ∃ t : Int, t = if lessOf w v' v false then 1 else 0 := ⟨_, rfl⟩
  obtain ⟨t4, ht4⟩ : ∃ t : Int, t = if lessOf w v' v false then 0 else 1 := ⟨_, rfl⟩
  obtain ⟨t5, ht5⟩ : ∃ t : Int, t = if lessOf w v v' true then 1 else 0 := ⟨_, rfl⟩
  have l1 := lt_ok n (by omega) hv hv' false d3.ok
  have q1 := eq_ok n (by omega) hv hv' d3.ok
  have l2 := lt_ok n (by omega) hv' hv false d3.ok
  have l3 := le_ok n (by omega) hv hv' false d3.ok
  have l4 := lt_ok n (by omega) hv hv' true d3.ok
  rw [← ht1] at l1
  rw [← ht2] at q1
  rw [← ht3] at l2
  rw [← ht4] at l3
  rw [← ht5] at l4
  have c1 : t1 = 0 ∨ t1 = 1 ∨ t1 = -1 := by rw [ht1]; split <;> simp
  have c2 : t2 = 0 ∨ t2 = 1 ∨ t2 = -1 := by rw [ht2, eqOf_known]; split <;> simp
  have c3 : t3 = 0 ∨ t3 = 1 ∨ t3 = -1 := by rw [ht3]; split <;> simp
  have r1 := true_ok n (by omega) (truth_vec c1) d3.ok
  have r2 := true_ok n (by omega) (truth_vec c2) d3.ok
  have r3 := true_ok n (by omega) (truth_vec c3) d3.ok
  rw [trueOf_truth c1] at r1
  rw [trueOf_truth c2] at r2
  rw [trueOf_truth c3] at r3
  have hsum : t1 + t2 + t3 = 1 := by
    rw [ht1, ht2, ht3, eqOf_known]
    simp only [lessOf, Bool.false_eq_true, if_false, decide_eq_true_eq]
    by_cases h : v = v'
    · subst h
      simp
    · have : v.toNat ≠ v'.toNat := fun h2 => h (BitVec.eq_of_toNat_eq h2)
      rw [if_neg h]
      split <;> split <;> omega
  have ln := lnot_ok n (by omega) (truth_vec c3) d3.ok
  rw [trueOf_truth c3] at ln
  have h43 : (if t3 < 0 then (-1 : Int) else 1 - t3) = t4 := by
    rw [ht3, ht4]
    cases lessOf w v' v false <;> decide
  rw [h43] at ln
  have p1 : vcall T ext promo n 30 [.int .i64 (w : Int), .int .u64 1] H3 = some (bv w (1#64 &&& bmask w) 0#64, H3) := of_ok n (by omega) hw 1#64 H3
  have p2 : vcall T ext promo n 30 [.int .i64 7, .int .u64 (fwrap .u64 ((w : Int) - 1))] H3 = some (bv 7 (BitVec.ofInt 64 ((w : Int) - 1) &&& bmask 7) 0#64, H3) := by
    rw [fw_u64n]
    exact of_ok n (by omega) (w := 7) (by decide) _ H3
  have p3 := shl_ok n (by omega) (of_vec hw 1#64) (of_vec (w := 7) (by decide) (BitVec.ofInt 64 ((w : Int) - 1))) d3.ok
  rw [top_made hw, show (0#64 <<< (min (BitVec.ofInt 64 ((w : Int) - 1) &&& bmask 7).toNat 64) &&& bmask w) = 0#64 by simp] at p3
  have hT : Vec w (topB w) 0#64 := ⟨w1, w2, fun i hi => by rw [topB_bit hw]; simp; omega, fun i _ => by simp⟩
  have x1 := xor_ok n (by omega) hv hT d3.ok
  have x2 := xor_ok n (by omega) hv' hT d3.ok
  rw [xor_known hw v hv.v] at x1
  rw [xor_known hw v' hv'.v] at x2
  have l5 := lt_ok n (by omega) (xor_vec hw hv.v) (xor_vec hw hv'.v) false d3.ok
  rw [← less_top hw hv.v hv'.v, ← ht5] at l5
  refine ⟨_, ok8 _ _ _ _ _ _ (r := (.bool true, leave H H3 (.bool true))) ?_⟩
  unfold F8
  simp only [letH_mk, lo_next]
  rw [e1]
  simp only [letH_mk, bindC_mk, bindV_mk, bindL_mk, bindH_mk, bindJ_mk, asB_mk, asI_mk, asS_mk, asP_mk, asSl_mk, asA_mk, asTu_mk, asSome_mk, unc_mk, endL_mk, selC_eq, condT_eq, sel_eq, letN_mk, letB_mk, case_nn, case_nr, case_ne, case_rn, case_rr, case_re, case_en, case_er, case_ee, iand_u64, ior_u64, ixor_u64, iandn_u64, inot_u64, ieq_u64_0, ieq_u64, decide_eq_true_eq, Bool.not_true, Bool.not_false, Bool.false_eq_true, if_false, if_true, Bool.not_eq_true', decide_eq_false_iff_not, ilt_eq, ile_eq, reduceCtorEq, not_false_eq_true, not_true_eq_false]
  rw [e2]
  simp only [letH_mk, bindC_mk, bindV_mk, bindL_mk, bindH_mk, bindJ_mk, asB_mk, asI_mk, asS_mk, asP_mk, asSl_mk, asA_mk, asTu_mk, asSome_mk, unc_mk, endL_mk, selC_eq, condT_eq, sel_eq, letN_mk, letB_mk, case_nn, case_nr, case_ne, case_rn, case_rr, case_re, case_en, case_er, case_ee, iand_u64, ior_u64, ixor_u64, iandn_u64, inot_u64, ieq_u64_0, ieq_u64, decide_eq_true_eq, Bool.not_true, Bool.not_false, Bool.false_eq_true, if_false, if_true, Bool.not_eq_true', decide_eq_false_iff_not, ilt_eq, ile_eq, reduceCtorEq, not_false_eq_true, not_true_eq_false]
  rw [e3]
  simp only [letH_mk, bindC_mk, bindV_mk, bindL_mk, bindH_mk, bindJ_mk, asB_mk, asI_mk, asS_mk, asP_mk, asSl_mk, asA_mk, asTu_mk, asSome_mk, unc_mk, endL_mk, selC_eq, condT_eq, sel_eq, letN_mk, letB_mk, case_nn, case_nr, case_ne, case_rn, case_rr, case_re, case_en, case_er, case_ee, iand_u64, ior_u64, ixor_u64, iandn_u64, inot_u64, ieq_u64_0, ieq_u64, decide_eq_true_eq, Bool.not_true, Bool.not_false, Bool.false_eq_true, if_false, if_true, Bool.not_eq_true', decide_eq_false_iff_not, ilt_eq, ile_eq, reduceCtorEq, not_false_eq_true, not_true_eq_false]
  rw [l1]
  simp only [letH_mk, bindC_mk, bindV_mk, bindL_mk, bindH_mk, bindJ_mk, asB_mk, asI_mk, asS_mk, asP_mk, asSl_mk, asA_mk, asTu_mk, asSome_mk, unc_mk, endL_mk, selC_eq, condT_eq, sel_eq, letN_mk, letB_mk, case_nn, case_nr, case_ne, case_rn, case_rr, case_re, case_en, case_er, case_ee, iand_u64, ior_u64, ixor_u64, iandn_u64, inot_u64, ieq_u64_0, ieq_u64, decide_eq_true_eq, Bool.not_true, Bool.not_false, Bool.false_eq_true, if_false, if_true, Bool.not_eq_true', decide_eq_false_iff_not, ilt_eq, ile_eq, reduceCtorEq, not_false_eq_true, not_true_eq_false]
  rw [r1]
  simp only [letH_mk, bindC_mk, bindV_mk, bindL_mk, bindH_mk, bindJ_mk, asB_mk, asI_mk, asS_mk, asP_mk, asSl_mk, asA_mk, asTu_mk, asSome_mk, unc_mk, endL_mk, selC_eq, condT_eq, sel_eq, letN_mk, letB_mk, case_nn, case_nr, case_ne, case_rn, case_rr, case_re, case_en, case_er, case_ee, iand_u64, ior_u64, ixor_u64, iandn_u64, inot_u64, ieq_u64_0, ieq_u64, decide_eq_true_eq, Bool.not_true, Bool.not_false, Bool.false_eq_true, if_false, if_true, Bool.not_eq_true', decide_eq_false_iff_not, ilt_eq, ile_eq, reduceCtorEq, not_false_eq_true, not_true_eq_false]
  rw [q1]
  simp only [letH_mk, bindC_mk, bindV_mk, bindL_mk, bindH_mk, bindJ_mk, asB_mk, asI_mk, asS_mk, asP_mk, asSl_mk, asA_mk, asTu_mk, asSome_mk, unc_mk, endL_mk, selC_eq, condT_eq, sel_eq, letN_mk, letB_mk, case_nn, case_nr, case_ne, case_rn, case_rr, case_re, case_en, case_er, case_ee, iand_u64, ior_u64, ixor_u64, iandn_u64, inot_u64, ieq_u64_0, ieq_u64, decide_eq_true_eq, Bool.not_true, Bool.not_false, Bool.false_eq_true, if_false, if_true, Bool.not_eq_true', decide_eq_false_iff_not, ilt_eq, ile_eq, reduceCtorEq, not_false_eq_true, not_true_eq_false]
  rw [r2]
  simp only [letH_mk, bindC_mk, bindV_mk, bindL_mk, bindH_mk, bindJ_mk, asB_mk, asI_mk, asS_mk, asP_mk, asSl_mk, asA_mk, asTu_mk, asSome_mk, unc_mk, endL_mk, selC_eq, condT_eq, sel_eq, letN_mk, letB_mk, case_nn, case_nr, case_ne, case_rn, case_rr, case_re, case_en, case_er, case_ee, iand_u64, ior_u64, ixor_u64, iandn_u64, inot_u64, ieq_u64_0, ieq_u64, decide_eq_true_eq, Bool.not_true, Bool.not_false, Bool.false_eq_true, if_false, if_true, Bool.not_eq_true', decide_eq_false_iff_not, ilt_eq, ile_eq, reduceCtorEq, not_false_eq_true, not_true_eq_false]
  rw [l2]
  simp only [letH_mk, bindC_mk, bindV_mk, bindL_mk, bindH_mk, bindJ_mk, asB_mk, asI_mk, asS_mk, asP_mk, asSl_mk, asA_mk, asTu_mk, asSome_mk, unc_mk, endL_mk, selC_eq, condT_eq, sel_eq, letN_mk, letB_mk, case_nn, case_nr, case_ne, case_rn, case_rr, case_re, case_en, case_er, case_ee, iand_u64, ior_u64, ixor_u64, iandn_u64, inot_u64, ieq_u64_0, ieq_u64, decide_eq_true_eq, Bool.not_true, Bool.not_false, Bool.false_eq_true, if_false, if_true, Bool.not_eq_true', decide_eq_false_iff_not, ilt_eq, ile_eq, reduceCtorEq, not_false_eq_true, not_true_eq_false]
  rw [r3]
  simp only [letH_mk, bindC_mk, bindV_mk, bindL_mk, bindH_mk, bindJ_mk, asB_mk, asI_mk, asS_mk, asP_mk, asSl_mk, asA_mk, asTu_mk, asSome_mk, unc_mk, endL_mk, selC_eq, condT_eq, sel_eq, letN_mk, letB_mk, case_nn, case_nr, case_ne, case_rn, case_rr, case_re, case_en, case_er, case_ee, iand_u64, ior_u64, ixor_u64, iandn_u64, inot_u64, ieq_u64_0, ieq_u64, decide_eq_true_eq, Bool.not_true, Bool.not_false, Bool.false_eq_true, if_false, if_true, Bool.not_eq_true', decide_eq_false_iff_not, ilt_eq, ile_eq, reduceCtorEq, not_false_eq_true, not_true_eq_false]
  rw [p1]
  simp only [letH_mk, bindC_mk, bindV_mk, bindL_mk, bindH_mk, bindJ_mk, asB_mk, asI_mk, asS_mk, asP_mk, asSl_mk, asA_mk, asTu_mk, asSome_mk, unc_mk, endL_mk, selC_eq, condT_eq, sel_eq, letN_mk, letB_mk, case_nn, case_nr, case_ne, case_rn, case_rr, case_re, case_en, case_er, case_ee, iand_u64, ior_u64, ixor_u64, iandn_u64, inot_u64, ieq_u64_0, ieq_u64, decide_eq_true_eq, Bool.not_true, Bool.not_false, Bool.false_eq_true, if_false, if_true, Bool.not_eq_true', decide_eq_false_iff_not, ilt_eq, ile_eq, reduceCtorEq, not_false_eq_true, not_true_eq_false]
  rw [fw_i64 (n := (w : Int) - 1) (by omega) (by omega), p2]
  simp only [letH_mk, bindC_mk, bindV_mk, bindL_mk, bindH_mk, bindJ_mk, asB_mk, asI_mk, asS_mk, asP_mk, asSl_mk, asA_mk, asTu_mk, asSome_mk, unc_mk, endL_mk, selC_eq, condT_eq, sel_eq, letN_mk, letB_mk, case_nn, case_nr, case_ne, case_rn, case_rr, case_re, case_en, case_er, case_ee, iand_u64, ior_u64, ixor_u64, iandn_u64, inot_u64, ieq_u64_0, ieq_u64, decide_eq_true_eq, Bool.not_true, Bool.not_false, Bool.false_eq_true, if_false, if_true, Bool.not_eq_true', decide_eq_false_iff_not, ilt_eq, ile_eq, reduceCtorEq, not_false_eq_true, not_true_eq_false]
  rw [p3]
  simp only [letH_mk, bindC_mk, bindV_mk, bindL_mk, bindH_mk, bindJ_mk, asB_mk, asI_mk, asS_mk, asP_mk, asSl_mk, asA_mk, asTu_mk, asSome_mk, unc_mk, endL_mk, selC_eq, condT_eq, sel_eq, letN_mk, letB_mk, case_nn, case_nr, case_ne, case_rn, case_rr, case_re, case_en, case_er, case_ee, iand_u64, ior_u64, ixor_u64, iandn_u64, inot_u64, ieq_u64_0, ieq_u64, decide_eq_true_eq, Bool.not_true, Bool.not_false, Bool.false_eq_true, if_false, if_true, Bool.not_eq_true', decide_eq_false_iff_not, ilt_eq, ile_eq, reduceCtorEq, not_false_eq_true, not_true_eq_false]
  rw [joined_ok n (by omega) d3.ok]
  simp only [letH_mk, bindC_mk, bindV_mk, bindL_mk, bindH_mk, bindJ_mk, asB_mk, asI_mk, asS_mk, asP_mk, asSl_mk, asA_mk, asTu_mk, asSome_mk, unc_mk, endL_mk, selC_eq, condT_eq, sel_eq, letN_mk, letB_mk, case_nn, case_nr, case_ne, case_rn, case_rr, case_re, case_en, case_er, case_ee, iand_u64, ior_u64, ixor_u64, iandn_u64, inot_u64, ieq_u64_0, ieq_u64, decide_eq_true_eq, Bool.not_true, Bool.not_false, Bool.false_eq_true, if_false, if_true, Bool.not_eq_true', decide_eq_false_iff_not, ilt_eq, ile_eq, reduceCtorEq, not_false_eq_true, not_true_eq_false, ieq_dec]
  rw [fw_i64 (n := t1 + t2) (by omega) (by omega), fw_i64 (n := t1 + t2 + t3) (by omega) (by omega), if_pos hsum, l3]
  simp only [letH_mk, bindC_mk, bindV_mk, bindL_mk, bindH_mk, bindJ_mk, asB_mk, asI_mk, asS_mk, asP_mk, asSl_mk, asA_mk, asTu_mk, asSome_mk, unc_mk, endL_mk, selC_eq, condT_eq, sel_eq, letN_mk, letB_mk, case_nn, case_nr, case_ne, case_rn, case_rr, case_re, case_en, case_er, case_ee, iand_u64, ior_u64, ixor_u64, iandn_u64, inot_u64, ieq_u64_0, ieq_u64, decide_eq_true_eq, Bool.not_true, Bool.not_false, Bool.false_eq_true, if_false, if_true, Bool.not_eq_true', decide_eq_false_iff_not, ilt_eq, ile_eq, reduceCtorEq, not_false_eq_true, not_true_eq_false]
  rw [l2]
  simp only [letH_mk, bindC_mk, bindV_mk, bindL_mk, bindH_mk, bindJ_mk, asB_mk, asI_mk, asS_mk, asP_mk, asSl_mk, asA_mk, asTu_mk, asSome_mk, unc_mk, endL_mk, selC_eq, condT_eq, sel_eq, letN_mk, letB_mk, case_nn, case_nr, case_ne, case_rn, case_rr, case_re, case_en, case_er, case_ee, iand_u64, ior_u64, ixor_u64, iandn_u64, inot_u64, ieq_u64_0, ieq_u64, decide_eq_true_eq, Bool.not_true, Bool.not_false, Bool.false_eq_true, if_false, if_true, Bool.not_eq_true', decide_eq_false_iff_not, ilt_eq, ile_eq, reduceCtorEq, not_false_eq_true, not_true_eq_false]
  rw [ln]
  simp only [letH_mk, bindC_mk, bindV_mk, bindL_mk, bindH_mk, bindJ_mk, asB_mk, asI_mk, asS_mk, asP_mk, asSl_mk, asA_mk, asTu_mk, asSome_mk, unc_mk, endL_mk, selC_eq, condT_eq, sel_eq, letN_mk, letB_mk, case_nn, case_nr, case_ne, case_rn, case_rr, case_re, case_en, case_er, case_ee, iand_u64, ior_u64, ixor_u64, iandn_u64, inot_u64, ieq_u64_0, ieq_u64, decide_eq_true_eq, Bool.not_true, Bool.not_false, Bool.false_eq_true, if_false, if_true, Bool.not_eq_true', decide_eq_false_iff_not, ilt_eq, ile_eq, reduceCtorEq, not_false_eq_true, not_true_eq_false]
  rw [bv_eq]
  simp only [letH_mk, bindC_mk, bindV_mk, bindL_mk, bindH_mk, bindJ_mk, asB_mk, asI_mk, asS_mk, asP_mk, asSl_mk, asA_mk, asTu_mk, asSome_mk, unc_mk, endL_mk, selC_eq, condT_eq, sel_eq, letN_mk, letB_mk, case_nn, case_nr, case_ne, case_rn, case_rr, case_re, case_en, case_er, case_ee, iand_u64, ior_u64, ixor_u64, iandn_u64, inot_u64, ieq_u64_0, ieq_u64, decide_eq_true_eq, Bool.not_true, Bool.not_false, Bool.false_eq_true, if_false, if_true, Bool.not_eq_true', decide_eq_false_iff_not, ilt_eq, ile_eq, reduceCtorEq, not_false_eq_true, not_true_eq_false, and_self, decide_true]
  rw [l4]
  simp only [letH_mk, bindC_mk, bindV_mk, bindL_mk, bindH_mk, bindJ_mk, asB_mk, asI_mk, asS_mk, asP_mk, asSl_mk, asA_mk, asTu_mk, asSome_mk, unc_mk, endL_mk, selC_eq, condT_eq, sel_eq, letN_mk, letB_mk, case_nn, case_nr, case_ne, case_rn, case_rr, case_re, case_en, case_er, case_ee, iand_u64, ior_u64, ixor_u64, iandn_u64, inot_u64, ieq_u64_0, ieq_u64, decide_eq_true_eq, Bool.not_true, Bool.not_false, Bool.false_eq_true, if_false, if_true, Bool.not_eq_true', decide_eq_false_iff_not, ilt_eq, ile_eq, reduceCtorEq, not_false_eq_true, not_true_eq_false]
  rw [x1]
  simp only [letH_mk, bindC_mk, bindV_mk, bindL_mk, bindH_mk, bindJ_mk, asB_mk, asI_mk, asS_mk, asP_mk, asSl_mk, asA_mk, asTu_mk, asSome_mk, unc_mk, endL_mk, selC_eq, condT_eq, sel_eq, letN_mk, letB_mk, case_nn, case_nr, case_ne, case_rn, case_rr, case_re, case_en, case_er, case_ee, iand_u64, ior_u64, ixor_u64, iandn_u64, inot_u64, ieq_u64_0, ieq_u64, decide_eq_true_eq, Bool.not_true, Bool.not_false, Bool.false_eq_true, if_false, if_true, Bool.not_eq_true', decide_eq_false_iff_not, ilt_eq, ile_eq, reduceCtorEq, not_false_eq_true, not_true_eq_false]
  rw [x2]
  simp only [letH_mk, bindC_mk, bindV_mk, bindL_mk, bindH_mk, bindJ_mk, asB_mk, asI_mk, asS_mk, asP_mk, asSl_mk, asA_mk, asTu_mk, asSome_mk, unc_mk, endL_mk, selC_eq, condT_eq, sel_eq, letN_mk, letB_mk, case_nn, case_nr, case_ne, case_rn, case_rr, case_re, case_en, case_er, case_ee, iand_u64, ior_u64, ixor_u64, iandn_u64, inot_u64, ieq_u64_0, ieq_u64, decide_eq_true_eq, Bool.not_true, Bool.not_false, Bool.false_eq_true, if_false, if_true, Bool.not_eq_true', decide_eq_false_iff_not, ilt_eq, ile_eq, reduceCtorEq, not_false_eq_true, not_true_eq_false]
  rw [l5]
  simp only [letH_mk, bindC_mk, bindV_mk, bindL_mk, bindH_mk, bindJ_mk, asB_mk, asI_mk, asS_mk, asP_mk, asSl_mk, asA_mk, asTu_mk, asSome_mk, unc_mk, endL_mk, selC_eq, condT_eq, sel_eq, letN_mk, letB_mk, case_nn, case_nr, case_ne, case_rn, case_rr, case_re, case_en, case_er, case_ee, iand_u64, ior_u64, ixor_u64, iandn_u64, inot_u64, ieq_u64_0, ieq_u64, decide_eq_true_eq, Bool.not_true, Bool.not_false, Bool.false_eq_true, if_false, if_true, Bool.not_eq_true', decide_eq_false_iff_not, ilt_eq, ile_eq, reduceCtorEq, not_false_eq_true, not_true_eq_false]
  rw [bv_eq]
  simp only [letH_mk, bindC_mk, bindV_mk, bindL_mk, bindH_mk, bindJ_mk, asB_mk, asI_mk, asS_mk, asP_mk, asSl_mk, asA_mk, asTu_mk, asSome_mk, unc_mk, endL_mk, selC_eq, condT_eq, sel_eq, letN_mk, letB_mk, case_nn, case_nr, case_ne, case_rn, case_rr, case_re, case_en, case_er, case_ee, iand_u64, ior_u64, ixor_u64, iandn_u64, inot_u64, ieq_u64_0, ieq_u64, decide_eq_true_eq, Bool.not_true, Bool.not_false, Bool.false_eq_true, if_false, if_true, Bool.not_eq_true', decide_eq_false_iff_not, ilt_eq, ile_eq, reduceCtorEq, not_false_eq_true, not_true_eq_false, and_self, decide_true]
end Go.Vm.Tryd
