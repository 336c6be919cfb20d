/- The vectors' first functions: what they answer (by names; the machine with pure lists). -/
import Derived.Test.YtmlogeklbcgjnaaGreatDoorW0
import Derived.Test.YtmlogeklbcgjnaaGreatDoorW1
import Derived.Test.YtmlogeklbcgjnaaGreatDoorW2
import Derived.Test.YtmlogeklbcgjnaaGreatDoorVmK
namespace Go.Vm.Tryz
set_option linter.unusedSectionVars false
set_option linter.unusedSimpArgs false
set_option linter.unusedVariables false
/-- The lowest w bits. -/
def bmask (w : Nat) : BitVec 64 := (BitVec.allOnes w).setWidth 64
theorem bmask_bit (w i : Nat) : (bmask w).getLsbD i = (decide (i < 64) && decide (i < w)) := by
  simp [bmask]
theorem bmask_ge {w : Nat} (h : 64 ≤ w) : bmask w = BitVec.allOnes 64 := by
  apply BitVec.eq_of_getLsbD_eq
  intro i hi
  rw [bmask_bit, BitVec.getLsbD_allOnes]
  have : i < w := by omega
  simp [hi, this]
theorem bmask_lt {w : Nat} (h : w < 64) : bmask w = (1#64 <<< w) - 1#64 := by
  have h2 : 2 ^ w < 2 ^ 64 := Nat.pow_lt_pow_right (by decide) h
  have h1 : 1 ≤ 2 ^ w := Nat.one_le_two_pow
  apply BitVec.eq_of_toNat_eq
  rw [BitVec.toNat_sub, BitVec.toNat_shiftLeft]
  simp only [bmask, BitVec.toNat_setWidth, BitVec.toNat_allOnes, BitVec.toNat_ofNat, Nat.shiftLeft_eq]
  rw [show 1 % 2 ^ 64 = 1 from rfl, Nat.one_mul, Nat.mod_eq_of_lt h2, Nat.mod_eq_of_lt (by omega)]
  omega

theorem shl_one (w : Nat) : varith .shl .u64 1 .i64 (w : Int) = some (.int .u64 (u64 (1#64 <<< w))) := by
  simp only [varith, ilt_eq]
  rw [if_neg (by simp)]
  congr 2
  rw [ishl_eq, fw_u64]
  simp only [u64, BitVec.toNat_shiftLeft, BitVec.toNat_ofNat, Nat.shiftLeft_eq, IntKind.bits, Int.toNat_natCast]
  rcases Nat.lt_or_ge w 64 with h | h
  · rw [Nat.min_eq_left (by omega)]
    simp
  · rw [Nat.min_eq_right h]
    have : 2 ^ w % 2 ^ 64 = 0 := Nat.mod_eq_zero_of_dvd (Nat.pow_dvd_pow 2 h)
    simp [this]

theorem mask_ok (n : Nat) (hn : 1 ≤ n) (w : Nat) (H : VH) : vcall T ext promo n 23 [.int .i64 (w : Int)] H = some (.int .u64 (u64 (bmask w)), H) := by
  obtain ⟨n, rfl⟩ : ∃ m, n = m + 1 := ⟨n - 1, by omega⟩
  apply ok23
  unfold F23
  simp only [letH_mk, selC_eq, ile_eq, decide_eq_true_eq]
  by_cases h : 64 ≤ w
  · rw [if_pos (by omega), leave_flat rfl rfl, bmask_ge h]
    rfl
  · rw [if_neg (by omega), shl_one]
    simp only [bindV_mk, asI_mk, letN_mk]
    rw [leave_flat rfl rfl, bmask_lt (by omega)]
    have : (1 : Int) = u64 1#64 := rfl
    rw [this, sub_u64]

/-- A vector. -/
abbrev bv (w : Nat) (v x : BitVec 64) : AV := .agg [.int .i64 (w : Int), .int .u64 (u64 v), .int .u64 (u64 x)]
structure Vec (w : Nat) (v x : BitVec 64) : Prop where
  pos : 1 ≤ w
  le : w ≤ 64
  v : ∀ i, w ≤ i → v.getLsbD i = false
  x : ∀ i, w ≤ i → x.getLsbD i = false
theorem out_zero {w : Nat} {v : BitVec 64} : v &&& ~~~bmask w = 0#64 ↔ ∀ i, w ≤ i → v.getLsbD i = false := by
  constructor
  · intro h i hi
    rcases Nat.lt_or_ge i 64 with h64 | h64
    · have := congrArg (·.getLsbD i) h
      have hw : ¬ i < w := by omega
      simpa only [BitVec.getLsbD_and, BitVec.getLsbD_not, bmask_bit, h64, hw, decide_true, decide_false, Bool.and_false, Bool.not_false, Bool.and_true, BitVec.getLsbD_zero] using this
    · exact BitVec.getLsbD_of_ge _ _ h64
  · intro h
    apply BitVec.eq_of_getLsbD_eq
    intro i hi
    simp only [BitVec.getLsbD_and, BitVec.getLsbD_not, bmask_bit, hi, decide_true, Bool.true_and, BitVec.getLsbD_zero]
    rcases Nat.lt_or_ge i w with hw | hw
    · simp [hw]
    · simp [h i hw]
theorem Vec.or {w : Nat} {v x : BitVec 64} (h : Vec w v x) : (v ||| x) &&& ~~~bmask w = 0#64 :=
  out_zero.2 fun i hi => by simp only [BitVec.getLsbD_or, h.v i hi, h.x i hi, Bool.or_false]

theorem check_ok (n : Nat) (hn : 2 ≤ n) {w : Nat} {v x : BitVec 64} (hv : Vec w v x) (H : VH) : vcall T ext promo n 36 [bv w v x] H = some (.int .i64 0, H) := by
  obtain ⟨n, rfl⟩ : ∃ m, n = m + 1 := ⟨n - 1, by omega⟩
  apply ok36
  unfold F36
  have h1 := hv.pos
  have h2 := hv.le
  have h3 := hv.or
  simp only [letH_mk, selC_eq, ilt_eq, decide_eq_true_eq]
  rw [if_neg (by omega)]
  simp only [bindJ_mk, case_nn, unc_mk, asB_mk, endL_mk, decide_eq_true_eq]
  rw [if_neg (by omega)]
  simp only [ior_u64, letN_mk]
  rw [mask_ok n (by omega)]
  simp only [bindC_mk, asI_mk, iandn_u64, ieq_u64_0, h3]
  simp
  exact leave_flat rfl rfl

theorem valid_ok (n : Nat) {k : Nat} (hn : k + 10 ≤ n) (hk : k < 1000) {H : VH} {b : Bk} {o : Nat} {c : Option Nat} {e : Nat} (hb : ∀ (H : VH) i, i < k → ∃ w v x, Vec w v x ∧ H.cells b (o + i * 3) 3 = some [.int .i64 (w : Int), .int .u64 (u64 v), .int .u64 (u64 x)]) :
    vcall T ext promo n 24 [.slice (some (b, o)) k c e] H = some (.bool true, H) := by
  obtain ⟨n, rfl⟩ : ∃ m, n = m + 1 := ⟨n - 1, by omega⟩
  apply ok24
  unfold F24
  have loop : ∀ m i, i ≤ k → k - i < m → loopN (L24_0 (vcall T ext promo n) n (some (b, o)) k) m [.int .i64 (i : Int)] H.lo = some (.exit 0, [], H.lo) := by
    intro m
    induction m with
    | zero => intro i _ h; omega
    | succ m ih =>
      intro i hi hm
      rw [loopN_succ]
      generalize loopN (L24_0 (vcall T ext promo n) n (some (b, o)) k) m = lp at ih ⊢
      unfold L24_0
      simp only [unc_mk, asI_mk, endL_mk, selC_eq, ilt_eq, ile_eq, condT_eq, decide_eq_true_eq, asSome_mk, Bool.and_eq_true]
      by_cases h : i < k
      · obtain ⟨w, v, x, hv, hc⟩ := hb H.lo i h
        rw [if_pos (by omega), if_pos (by omega)]
        simp only [Int.toNat_natCast, hc, bindL_mk, asA_mk, unc_mk, asI_mk, endL_mk]
        rw [check_ok n (by omega) hv]
        simp only [bindC_mk, asI_mk, letN_mk]
        rw [if_neg (by decide), fw_i64 (by omega) (by omega)]
        exact ih (i + 1) (by omega) (by omega)
      · rw [if_neg (by omega)]
  have := loop n 0 (by omega) (by omega)
  simp only [letH_mk]
  rw [show (.int .i64 0 : AV) = .int .i64 ((0 : Nat) : Int) from rfl, this]
  simp only [bindJ_mk, case_ee, endL_mk]
  rw [leave_flat rfl rfl]
/-- Vectors in a list that is written down. -/
theorem valid1_ok (n : Nat) (hn : 20 ≤ n) {w : Nat} {v x : BitVec 64} (h : Vec w v x) (H : VH) : vcall T ext promo n 24 [.slice (some (.pur [.int .i64 (w : Int), .int .u64 (u64 v), .int .u64 (u64 x)], 0)) 1 (some 1) 3] H = some (.bool true, H) :=
  valid_ok n (k := 1) (by omega) (by omega) fun H i hi => by
    obtain rfl : i = 0 := by omega
    exact ⟨w, v, x, h, rfl⟩
theorem valid2_ok (n : Nat) (hn : 20 ≤ n) {w w' : Nat} {v x v' x' : BitVec 64} (h : Vec w v x) (h' : Vec w' v' x') (H : VH) : vcall T ext promo n 24 [.slice (some (.pur [.int .i64 (w : Int), .int .u64 (u64 v), .int .u64 (u64 x), .int .i64 (w' : Int), .int .u64 (u64 v'), .int .u64 (u64 x')], 0)) 2 (some 2) 3] H = some (.bool true, H) :=
  valid_ok n (k := 2) (by omega) (by omega) fun H i hi => by
    rcases Nat.lt_or_ge i 1 with h1 | h1
    · obtain rfl : i = 0 := by omega
      exact ⟨w, v, x, h, rfl⟩
    · obtain rfl : i = 1 := by omega
      exact ⟨w', v', x', h', rfl⟩
end Go.Vm.Tryz
