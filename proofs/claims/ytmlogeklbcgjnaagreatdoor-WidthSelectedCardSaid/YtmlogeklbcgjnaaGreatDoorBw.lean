/- Numbers as vectors: Of, Int, Resize, sums, differences, products (by names; the machine with pure lists). -/
import Derived.Test.YtmlogeklbcgjnaaGreatDoorBv
namespace Go.Vm.Tryz
set_option linter.unusedSectionVars false
set_option linter.unusedSimpArgs false
set_option linter.unusedVariables false
set_option maxRecDepth 10000
theorem fw_u64n (r : Int) : fwrap .u64 r = u64 (BitVec.ofInt 64 r) := by
  rw [fw_u64]
  simp only [u64, BitVec.toNat_ofInt]
  omega
theorem shl_u64n (x : BitVec 64) (k : Nat) : fwrap .u64 (ishl (u64 x) k) = u64 (x <<< k) := by
  rw [ishl_eq, fw_u64]
  simp only [u64, BitVec.toNat_shiftLeft, Nat.shiftLeft_eq]
  have : (x.toNat : Int) * 2 ^ k = ((x.toNat * 2 ^ k : Nat) : Int) := by simp
  rw [this]
  generalize x.toNat * 2 ^ k = m
  omega
theorem shl_var (x : BitVec 64) (r : Int) (h1 : 0 ≤ r) : varith .shl .u64 (u64 x) .i64 r = some (.int .u64 (u64 (x <<< (min r.toNat 64)))) := by
  simp only [varith, ilt_eq, decide_eq_true_eq]
  rw [if_neg (by omega)]
  show some (AV.int .u64 (fwrap .u64 (ishl (u64 x) (min r.toNat 64)))) = _
  rw [shl_u64n]
theorem mask_out (w : Nat) (v : BitVec 64) : ∀ i, w ≤ i → (v &&& bmask w).getLsbD i = false := by
  intro i hi
  rw [BitVec.getLsbD_and, bmask_bit]
  have : ¬ i < w := by omega
  simp [this]
theorem shl_var' (x : BitVec 64) (k : Nat) : varith .shl .u64 (u64 x) .i64 (k : Int) = some (.int .u64 (u64 (x <<< (min k 64)))) := shl_var x k (Int.natCast_nonneg k)
theorem fw_i64_u64 (y : BitVec 64) : fwrap .i64 (u64 y) = y.toInt := by
  rw [fwrap_eq]
  simp only [IntKind.wrap, IntKind.bits, IntKind.signed, Bool.true_and, decide_eq_true_eq, show (2 : Int) ^ 64 = 18446744073709551616 from rfl, show (2 : Int) ^ (64 - 1) = 9223372036854775808 from rfl]
  have := y.isLt
  rw [BitVec.toInt_eq_toNat_cond]
  unfold u64
  split <;> split <;> omega
theorem of_ok (n : Nat) (hn : 5 ≤ n) {w : Nat} (hw : 1 ≤ w ∧ w ≤ 64) (v : BitVec 64) (H : VH) : vcall T ext promo n 49 [.int .i64 (w : Int), .int .u64 (u64 v)] H = some (bv w (v &&& bmask w) 0#64, H) := by
  obtain ⟨n, rfl⟩ : ∃ m, n = m + 1 := ⟨n - 1, by omega⟩
  apply ok49
  unfold F49
  simp only [KA, KB, KD, KE, KU, iandn_u64, inot_u64, sel_eq, reduceCtorEq, if_false, if_true]
  rw [if_neg (by omega)]
  simp only [KA, KB, KD, KE, KU, iandn_u64, inot_u64, sel_eq, reduceCtorEq, if_false, if_true]
  rw [if_neg (by omega), mask_ok n (by omega)]
  simp only [KA, KB, KD, KE, KU, iandn_u64, inot_u64, sel_eq, reduceCtorEq, if_false, if_true]
  rw [leave_flat rfl rfl]
  rfl
theorem of_vec {w : Nat} (hw : 1 ≤ w ∧ w ≤ 64) (v : BitVec 64) : Vec w (v &&& bmask w) 0#64 := ⟨hw.1, hw.2, mask_out w v, fun _ _ => by simp⟩
theorem kno_ok (n : Nat) (hn : 25 ≤ n) {w : Nat} {v x : BitVec 64} (h : Vec w v x) {H : VH} : vcall T ext promo n 22 [bv w v x] H = some (.bool (decide (x = 0#64)), H) := by
  obtain ⟨n, rfl⟩ : ∃ m, n = m + 1 := ⟨n - 1, by omega⟩
  apply ok22
  unfold F22
  simp only [letH_mk]
  rw [valid1_ok n (by omega) h]
  simp only [KA, KB, KD, KE, KU, iandn_u64, inot_u64, sel_eq, reduceCtorEq, if_false, if_true]
  rw [leave_flat rfl rfl]
theorem alike_ok (n : Nat) (hn : 25 ≤ n) {w : Nat} {v x v' x' : BitVec 64} (h : Vec w v x) (h' : Vec w v' x') {H : VH} : vcall T ext promo n 166 [bv w v x, bv w v' x'] H = some (.bool true, H) := by
  obtain ⟨n, rfl⟩ : ∃ m, n = m + 1 := ⟨n - 1, by omega⟩
  apply ok166
  unfold F166
  simp only [letH_mk]
  rw [valid2_ok n (by omega) h h']
  simp only [KA, KB, KD, KE, KU, iandn_u64, inot_u64, sel_eq, reduceCtorEq, if_false, if_true, ieq_dec]
  rw [leave_flat rfl rfl]
  simp
/-- A signed number of w bits. -/
def sint (w : Nat) (v : BitVec 64) : Int := (v <<< (64 - w)).toInt.fdiv (2 ^ (64 - w))
theorem int_ok (n : Nat) (hn : 30 ≤ n) {w : Nat} {v : BitVec 64} (h : Vec w v 0#64) {H : VH} : vcall T ext promo n 11 [bv w v 0#64] H = some (.tuple [.int .i64 (sint w v), .bool true], H) := by
  obtain ⟨n, rfl⟩ : ∃ m, n = m + 1 := ⟨n - 1, by omega⟩
  apply ok11
  unfold F11
  have h1 := h.pos
  have h2 := h.le
  simp only [letH_mk]
  rw [kno_ok n (by omega) h]
  simp only [KA, KB, KD, KE, KU, iandn_u64, inot_u64, sel_eq, reduceCtorEq, if_false, if_true, decide_true]
  have e : fwrap .i64 (64 - (w : Int)) = ((64 - w : Nat) : Int) := by rw [fw_i64 (by omega) (by omega)]; omega
  rw [e, shl_var']
  simp only [KA, KB, KD, KE, KU, iandn_u64, inot_u64, sel_eq, reduceCtorEq, if_false, if_true]
  rw [fw_i64_u64, Nat.min_eq_left (by omega)]
  have e2 : varith .shr .i64 (v <<< (64 - w)).toInt .i64 ((64 - w : Nat) : Int) = some (.int .i64 (sint w v)) := by
    simp only [varith, ilt_eq, decide_eq_true_eq]
    rw [if_neg (by omega)]
    simp only [IntKind.bits, Int.toNat_natCast]
    rw [Nat.min_eq_left (by omega), ishr_eq]
    rfl
  rw [e2]
  simp only [KA, KB, KD, KE, KU, iandn_u64, inot_u64, sel_eq, reduceCtorEq, if_false, if_true]
  rw [leave_flat rfl rfl]
theorem sint_shr {w : Nat} (hw : 1 ≤ w ∧ w ≤ 64) (v : BitVec 64) : varith .shr .i64 (v <<< (64 - w)).toInt .i64 ((64 - w : Nat) : Int) = some (.int .i64 (sint w v)) := by
  simp only [varith, ilt_eq, decide_eq_true_eq]
  rw [if_neg (by omega)]
  simp only [IntKind.bits, Int.toNat_natCast]
  rw [Nat.min_eq_left (by omega), ishr_eq]
  rfl
/-- A vector's bits, on and on. -/
def wide (w : Nat) (v : BitVec 64) (s : Bool) : BitVec 64 := if s = true then BitVec.ofInt 64 (sint w v) else v
theorem resize_ok (n : Nat) (hn : 40 ≤ n) {w w' : Nat} {v x : BitVec 64} (h : Vec w v x) (hw' : 1 ≤ w' ∧ w' ≤ 64) (s : Bool) {H : VH} :
    vcall T ext promo n 89 [bv w v x, .int .i64 (w' : Int), .bool s] H = some (bv w' (wide w v s &&& bmask w') (wide w x s &&& bmask w'), H) := by
  obtain ⟨n, rfl⟩ : ∃ m, n = m + 1 := ⟨n - 1, by omega⟩
  apply ok89
  unfold F89
  have h1 := h.pos
  have h2 := h.le
  simp only [letH_mk]
  rw [valid1_ok n (by omega) h]
  simp only [KA, KB, KD, KE, KU, iandn_u64, inot_u64, sel_eq, reduceCtorEq, if_false, if_true]
  rw [if_neg (by omega)]
  simp only [KA, KB, KD, KE, KU, iandn_u64, inot_u64, sel_eq, reduceCtorEq, if_false, if_true]
  rw [if_neg (by omega)]
  cases s
  · simp only [KA, KB, KD, KE, KU, iandn_u64, inot_u64, sel_eq, reduceCtorEq, if_false, if_true]
    rw [mask_ok n (by omega)]
    simp only [KA, KB, KD, KE, KU, iandn_u64, inot_u64, sel_eq, reduceCtorEq, if_false, if_true]
    rw [mask_ok n (by omega)]
    simp only [KA, KB, KD, KE, KU, iandn_u64, inot_u64, sel_eq, reduceCtorEq, if_false, if_true]
    rw [leave_flat rfl rfl]
    rfl
  · have e : fwrap .i64 (64 - (w : Int)) = ((64 - w : Nat) : Int) := by rw [fw_i64 (by omega) (by omega)]; omega
    simp only [KA, KB, KD, KE, KU, iandn_u64, inot_u64, sel_eq, reduceCtorEq, if_false, if_true, e]
    rw [shl_var']
    simp only [KA, KB, KD, KE, KU, iandn_u64, inot_u64, sel_eq, reduceCtorEq, if_false, if_true]
    rw [fw_i64_u64, Nat.min_eq_left (by omega), sint_shr ⟨h1, h2⟩]
    simp only [KA, KB, KD, KE, KU, iandn_u64, inot_u64, sel_eq, reduceCtorEq, if_false, if_true]
    rw [shl_var']
    simp only [KA, KB, KD, KE, KU, iandn_u64, inot_u64, sel_eq, reduceCtorEq, if_false, if_true]
    rw [fw_i64_u64, Nat.min_eq_left (by omega), sint_shr ⟨h1, h2⟩]
    simp only [KA, KB, KD, KE, KU, iandn_u64, inot_u64, sel_eq, reduceCtorEq, if_false, if_true]
    rw [fw_u64n, fw_u64n, mask_ok n (by omega)]
    simp only [KA, KB, KD, KE, KU, iandn_u64, inot_u64, sel_eq, reduceCtorEq, if_false, if_true]
    rw [mask_ok n (by omega)]
    simp only [KA, KB, KD, KE, KU, iandn_u64, inot_u64, sel_eq, reduceCtorEq, if_false, if_true]
    rw [leave_flat rfl rfl]
    rfl
theorem number_ok (n : Nat) (hn : 40 ≤ n) {w : Nat} {v v' : BitVec 64} (h : Vec w v 0#64) (h' : Vec w v' 0#64) (f : Nat) (g : BitVec 64) {H : VH}
    (hf : ∀ H, vcall T ext promo (n - 1) f [.int .u64 (u64 v), .int .u64 (u64 v')] H = some (.int .u64 (u64 g), H)) :
    vcall T ext promo n 215 [bv w v 0#64, bv w v' 0#64, .func f [] []] H = some (bv w (g &&& bmask w) 0#64, H) := by
  obtain ⟨n, rfl⟩ : ∃ m, n = m + 1 := ⟨n - 1, by omega⟩
  apply ok215
  unfold F215
  simp only [letH_mk]
  rw [alike_ok n (by omega) h h']
  simp only [KA, KB, KD, KE, KU, iandn_u64, inot_u64, sel_eq, reduceCtorEq, if_false, if_true, BitVec.or_self, asFn_mk, List.nil_append, List.append_nil]
  rw [Nat.add_sub_cancel] at hf
  rw [hf]
  simp only [KA, KB, KD, KE, KU, iandn_u64, inot_u64, sel_eq, reduceCtorEq, if_false, if_true]
  rw [of_ok n (by omega) ⟨h.pos, h.le⟩]
  simp only [KA, KB, KD, KE, KU, iandn_u64, inot_u64, sel_eq, reduceCtorEq, if_false, if_true]
  rw [leave_flat rfl rfl]
theorem add_ok (n : Nat) (hn : 50 ≤ n) {w : Nat} {v v' : BitVec 64} (h : Vec w v 0#64) (h' : Vec w v' 0#64) {H : VH} : vcall T ext promo n 182 [bv w v 0#64, bv w v' 0#64] H = some (bv w ((v + v') &&& bmask w) 0#64, H) := by
  obtain ⟨n, rfl⟩ : ∃ m, n = m + 1 := ⟨n - 1, by omega⟩
  apply ok182
  unfold F182
  have hf : ∀ H, vcall T ext promo (n - 1) 218 [.int .u64 (u64 v), .int .u64 (u64 v')] H = some (.int .u64 (u64 (v + v')), H) := by
    intro H
    obtain ⟨m, hm⟩ : ∃ m, n - 1 = m + 1 := ⟨n - 2, by omega⟩
    rw [hm]
    apply ok218
    unfold F218
    simp only [KA, KB, KD, KE, KU, iandn_u64, inot_u64, sel_eq, reduceCtorEq, if_false, if_true, add_u64]
    rw [leave_flat rfl rfl]
  simp only [letH_mk]
  rw [number_ok n (by omega) h h' 218 (v + v') hf]
  simp only [KA, KB, KD, KE, KU, iandn_u64, inot_u64, sel_eq, reduceCtorEq, if_false, if_true]
  rw [leave_flat rfl rfl]
theorem sub_ok (n : Nat) (hn : 50 ≤ n) {w : Nat} {v v' : BitVec 64} (h : Vec w v 0#64) (h' : Vec w v' 0#64) {H : VH} : vcall T ext promo n 183 [bv w v 0#64, bv w v' 0#64] H = some (bv w ((v - v') &&& bmask w) 0#64, H) := by
  obtain ⟨n, rfl⟩ : ∃ m, n = m + 1 := ⟨n - 1, by omega⟩
  apply ok183
  unfold F183
  have hf : ∀ H, vcall T ext promo (n - 1) 219 [.int .u64 (u64 v), .int .u64 (u64 v')] H = some (.int .u64 (u64 (v - v')), H) := by
    intro H
    obtain ⟨m, hm⟩ : ∃ m, n - 1 = m + 1 := ⟨n - 2, by omega⟩
    rw [hm]
    apply ok219
    unfold F219
    simp only [KA, KB, KD, KE, KU, iandn_u64, inot_u64, sel_eq, reduceCtorEq, if_false, if_true, sub_u64]
    rw [leave_flat rfl rfl]
  simp only [letH_mk]
  rw [number_ok n (by omega) h h' 219 (v - v') hf]
  simp only [KA, KB, KD, KE, KU, iandn_u64, inot_u64, sel_eq, reduceCtorEq, if_false, if_true]
  rw [leave_flat rfl rfl]
theorem mul_ok (n : Nat) (hn : 50 ≤ n) {w : Nat} {v v' : BitVec 64} (h : Vec w v 0#64) (h' : Vec w v' 0#64) {H : VH} : vcall T ext promo n 184 [bv w v 0#64, bv w v' 0#64] H = some (bv w ((v * v') &&& bmask w) 0#64, H) := by
  obtain ⟨n, rfl⟩ : ∃ m, n = m + 1 := ⟨n - 1, by omega⟩
  apply ok184
  unfold F184
  have hf : ∀ H, vcall T ext promo (n - 1) 220 [.int .u64 (u64 v), .int .u64 (u64 v')] H = some (.int .u64 (u64 (v * v')), H) := by
    intro H
    obtain ⟨m, hm⟩ : ∃ m, n - 1 = m + 1 := ⟨n - 2, by omega⟩
    rw [hm]
    apply ok220
    unfold F220
    simp only [KA, KB, KD, KE, KU, iandn_u64, inot_u64, sel_eq, reduceCtorEq, if_false, if_true, mul_u64]
    rw [leave_flat rfl rfl]
  simp only [letH_mk]
  rw [number_ok n (by omega) h h' 220 (v * v') hf]
  simp only [KA, KB, KD, KE, KU, iandn_u64, inot_u64, sel_eq, reduceCtorEq, if_false, if_true]
  rw [leave_flat rfl rfl]
end Go.Vm.Tryz
