/- The preprocessor: a list of one name is sorted. -/
import Derived.Test.YtdpaokgemjfhlaaGreatDoorPi
namespace Go.Vm.Tryz
set_option linter.unusedSectionVars false
set_option linter.unusedSimpArgs false
set_option linter.unusedVariables false
set_option maxRecDepth 10000
theorem len1_ok (n : Nat) (hn : 1 ≤ n) (H : VH) : vcall T ext promo n 50 [.int .u64 1] H = some (.int .i64 1, H) := by
  obtain ⟨n, rfl⟩ : ∃ m, n = m + 1 := ⟨n - 1, by omega⟩
  exact call_ext (g := fun _ => xTab tab50) rfl rfl
theorem insert1_ok (n : Nat) (hn : 2 ≤ n) (a : Option (Nat × Nat)) (c : Option Nat) (e : Nat) (H : VH) : vcall T ext promo n 74 [.slice a 1 c e, .int .i64 0, .int .i64 1] H = some (.tuple [], H) := by
  obtain ⟨n, rfl⟩ : ∃ m, n = m + 2 := ⟨n - 2, by omega⟩
  apply ok74
  unfold F74
  simp only [KA, KB, KD, reduceCtorEq, if_false, if_true]
  rw [show fwrap .i64 (0 + 1) = 1 from rfl, loopN_succ]
  unfold L74_0
  simp only [KA, KB, KD, reduceCtorEq, if_false, if_true]
  rw [if_neg (by omega)]
  simp only [KA, KB, KD, reduceCtorEq, if_false, if_true]
  rw [leave_flat rfl rfl]
theorem pdq1_ok (n : Nat) (hn : 4 ≤ n) (a : Option (Nat × Nat)) (c : Option Nat) (e : Nat) (x : Int) (H : VH) : vcall T ext promo n 49 [.slice a 1 c e, .int .i64 0, .int .i64 1, .int .i64 x] H = some (.tuple [], H) := by
  obtain ⟨n, rfl⟩ : ∃ m, n = m + 2 := ⟨n - 2, by omega⟩
  apply ok49
  unfold F49
  simp only [letH_mk]
  rw [loopN_succ]
  unfold L49_0
  simp only [KA, KB, KD, reduceCtorEq, if_false, if_true]
  rw [show fwrap .i64 (1 - 0) = 1 from rfl, if_pos (by omega), insert1_ok _ (by omega)]
  simp only [KA, KB, KD, reduceCtorEq, if_false, if_true]
  rw [leave_flat rfl rfl]
theorem sort1_ok (n : Nat) (hn : 6 ≤ n) (a : Option (Nat × Nat)) (c : Option Nat) (e : Nat) (H : VH) : vcall T ext promo n 25 [.slice a 1 c e] H = some (.tuple [], H) := by
  obtain ⟨n, rfl⟩ : ∃ m, n = m + 1 := ⟨n - 1, by omega⟩
  apply ok25
  unfold F25
  simp only [KA, KB, KD, reduceCtorEq, if_false, if_true]
  rw [show fwrap .u64 (((1 : Nat) : Int)) = 1 from rfl, len1_ok n (by omega)]
  simp only [KA, KB, KD, reduceCtorEq, if_false, if_true]
  rw [show (((1 : Nat) : Int)) = 1 from rfl, pdq1_ok n (by omega)]
  simp only [KA, KB, KD, reduceCtorEq, if_false, if_true]
  rw [leave_flat rfl rfl]
end Go.Vm.Tryz
