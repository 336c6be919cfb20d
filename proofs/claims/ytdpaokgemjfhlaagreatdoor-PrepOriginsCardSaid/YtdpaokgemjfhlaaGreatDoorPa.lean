/- The preprocessor: prefixes, line ends, lines. -/
import Derived.Test.YtdpaokgemjfhlaaGreatDoorSi
import Derived.Test.YtdpaokgemjfhlaaGreatDoorSb
namespace Go.Vm.Tryz
set_option linter.unusedSectionVars false
set_option linter.unusedSimpArgs false
set_option linter.unusedVariables false
set_option maxRecDepth 10000
theorem litePrefix_ok (n : Nat) (hn : 1 ≤ n) (l p : List UInt8) (hl : l.length < 1000000) (H : VH) : vcall T ext promo n 44 [.str (PS.of l), .str (PS.of p)] H = some (.bool (decide (l.take p.length = p)), H) := by
  obtain ⟨n, rfl⟩ : ∃ m, n = m + 1 := ⟨n - 1, by omega⟩
  apply ok44
  unfold F44
  simp only [KA, KB, KD, reduceCtorEq, if_false, if_true, of_len]
  by_cases h : p.length ≤ l.length
  · rw [if_pos (by omega), slStrT _ _ _ h]
    simp only [KA, KB, KD, reduceCtorEq, if_false, if_true, str_eq]
    rw [leave_flat rfl rfl]
  · rw [if_neg (by omega), leave_flat rfl rfl]
    have : ¬ l.take p.length = p := fun e => by
      have := congrArg List.length e
      rw [List.length_take] at this
      omega
    simp [this]
theorem prefix_ok (n : Nat) (hn : 2 ≤ n) (l p : List UInt8) (hl : l.length < 1000000) (H : VH) : vcall T ext promo n 20 [.str (PS.of l), .str (PS.of p)] H = some (.bool (decide (l.take p.length = p)), H) := by
  obtain ⟨n, rfl⟩ : ∃ m, n = m + 1 := ⟨n - 1, by omega⟩
  apply ok20
  unfold F20
  simp only [letH_mk]
  rw [litePrefix_ok n (by omega) l p hl]
  simp only [KA, KB, KD, reduceCtorEq, if_false, if_true]
  rw [leave_flat rfl rfl]
theorem suffix1_ok (n : Nat) (hn : 1 ≤ n) (l : List UInt8) (c : UInt8) (hl : l.length < 1000000) (H : VH) : vcall T ext promo n 30 [.str (PS.of l), .str (PS.of [c])] H = some (.bool (decide (l.drop (l.length - 1) = [c])), H) := by
  obtain ⟨n, rfl⟩ : ∃ m, n = m + 1 := ⟨n - 1, by omega⟩
  apply ok30
  unfold F30
  simp only [KA, KB, KD, reduceCtorEq, if_false, if_true, of_len, List.length_singleton]
  by_cases h : 1 ≤ l.length
  · rw [if_pos (by omega), fw_i64 (by omega) (by omega), show (l.length : Int) - ((1 : Nat) : Int) = ((l.length - 1 : Nat) : Int) by omega, slStrF _ _ _ (by omega)]
    simp only [KA, KB, KD, reduceCtorEq, if_false, if_true, str_eq]
    rw [leave_flat rfl rfl]
  · rw [if_neg (by omega), leave_flat rfl rfl]
    obtain rfl : l = [] := List.eq_nil_of_length_eq_zero (by omega)
    rfl
/-- A text without a line feed at its end. -/
def chomp (l : List UInt8) : List UInt8 := if l.drop (l.length - 1) = [10] then l.take (l.length - 1) else l
theorem liteTrimSuffix_ok (n : Nat) (hn : 2 ≤ n) (l : List UInt8) (hl : l.length < 1000000) (H : VH) : vcall T ext promo n 118 [.str (PS.of l), .str (PS.of [10])] H = some (.str (PS.of (chomp l)), H) := by
  obtain ⟨n, rfl⟩ : ∃ m, n = m + 1 := ⟨n - 1, by omega⟩
  apply ok118
  unfold F118
  simp only [letH_mk]
  rw [suffix1_ok n (by omega) l 10 hl]
  simp only [KA, KB, KD, reduceCtorEq, if_false, if_true, of_len, List.length_singleton]
  unfold chomp
  by_cases h : l.drop (l.length - 1) = [10]
  · have hl1 : 1 ≤ l.length := by
      have := congrArg List.length h
      rw [List.length_drop] at this
      simp at this
      omega
    rw [if_pos h, if_pos h, fw_i64 (by omega) (by omega), show (l.length : Int) - ((1 : Nat) : Int) = ((l.length - 1 : Nat) : Int) by omega, slStrT _ _ _ (by omega)]
    simp only [KA, KB, KD, reduceCtorEq, if_false, if_true]
    rw [leave_flat rfl rfl]
  · rw [if_neg h, if_neg h, leave_flat rfl rfl]
theorem trimSuffix_ok (n : Nat) (hn : 3 ≤ n) (l : List UInt8) (hl : l.length < 1000000) (H : VH) : vcall T ext promo n 86 [.str (PS.of l), .str (PS.of [10])] H = some (.str (PS.of (chomp l)), H) := by
  obtain ⟨n, rfl⟩ : ∃ m, n = m + 1 := ⟨n - 1, by omega⟩
  apply ok86
  unfold F86
  simp only [letH_mk]
  rw [liteTrimSuffix_ok n (by omega) l hl]
  simp only [KA, KB, KD, reduceCtorEq, if_false, if_true]
  rw [leave_flat rfl rfl]
theorem chomp_len (l : List UInt8) : (chomp l).length ≤ l.length := by
  unfold chomp
  split
  · rw [List.length_take]; omega
  · exact Nat.le_refl _
theorem lines0_ok (n : Nat) (hn : 1 ≤ n) (H : VH) : vcall T ext promo n 54 [.str (PS.of [])] H = some (.slice none 0 (some 0) 0, H) := by
  obtain ⟨n, rfl⟩ : ∃ m, n = m + 1 := ⟨n - 1, by omega⟩
  apply ok54
  unfold F54
  simp only [KA, KB, KD, reduceCtorEq, if_false, if_true, str_eq, decide_true]
  rw [leave_flat rfl rfl]
theorem lines_ok (n : Nat) (l : List UInt8) (hn : l.length + 70 ≤ n) (hl : l.length < 100000) (h0 : l ≠ []) {H : VH} (hH : H.Ok) (hM : Mx H) :
    ∃ H', vcall T ext promo n 54 [.str (PS.of l)] H = some (.slice (some (H.next, 0)) ((chomp l).count 10 + 1) (some ((chomp l).count 10 + 1)) 1, H') ∧ Plain H' H.next (strCells (splits 10 (chomp l))) ∧ Eff (fun _ => False) H H' := by
  obtain ⟨n, rfl⟩ : ∃ m, n = m + 1 := ⟨n - 1, by omega⟩
  have hc := chomp_len l
  obtain ⟨H1, e1, p1, k1⟩ := split1_ok n (chomp l) (by omega) (by omega) 10 (lo_ok hH) hM.lo
  refine ⟨leave H H1 (.slice (some (H.next, 0)) ((chomp l).count 10 + 1) (some ((chomp l).count 10 + 1)) 1), ok54 _ _ _ ?_, ?_, k1.leave hH _⟩
  · unfold F54
    simp only [KA, KB, KD, reduceCtorEq, if_false, if_true, str_eq, h0, decide_false]
    rw [trimSuffix_ok n (by omega) l (by omega)]
    simp only [KA, KB, KD, reduceCtorEq, if_false, if_true]
    rw [e1]
    simp only [KA, KB, KD, reduceCtorEq, if_false, if_true]
    rfl
  · rw [leave_rest rfl]
    exact plain_low p1 _
end Go.Vm.Tryz
