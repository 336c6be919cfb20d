/- The preprocessor: a line that begins with no word is no directive. -/
import Derived.Test.YtdpaokgemjfhlaaGreatDoorPd
namespace Go.Vm.Tryz
set_option linter.unusedSectionVars false
set_option linter.unusedSimpArgs false
set_option linter.unusedVariables false
set_option maxRecDepth 10000
def dirs : List (List UInt8) := [[100, 101, 102, 105, 110, 101], [101, 108, 115, 101], [101, 108, 115, 105, 102], [101, 110, 100, 105, 102], [105, 102, 100, 101, 102], [105, 102, 110, 100, 101, 102], [105, 110, 99, 108, 117, 100, 101], [117, 110, 100, 101, 102]]
theorem dirs_ok (n : Nat) (hn : 1 ≤ n) {H : VH} (hH : H.Ok) : ∃ H', vcall T ext promo n 52 [] H = some (.slice (some (H.next, 0)) 8 (some 8) 1, H') ∧ Plain H' H.next (strCells dirs) ∧ Eff (fun _ => False) H H' := by
  obtain ⟨n, rfl⟩ : ∃ m, n = m + 1 := ⟨n - 1, by omega⟩
  refine ⟨leave H (H.lo.fresh (strCells dirs)) (.slice (some (H.next, 0)) 8 (some 8) 1), ok52 _ _ rfl, ?_, (Eff.fresh _ (lo_ok hH) _).leave hH _⟩
  rw [leave_rest rfl]
  exact plain_low (fresh_plain (lo_ok hH) _) _
theorem isNaN_ok (n : Nat) (hn : 1 ≤ n) (s : List UInt8) (H : VH) : vcall T ext promo n 117 [.str (PS.of s)] H = some (.bool false, H) := by
  obtain ⟨n, rfl⟩ : ∃ m, n = m + 1 := ⟨n - 1, by omega⟩
  apply ok117
  unfold F117
  simp only [KA, KB, KD, reduceCtorEq, if_false, if_true, str_eq, decide_true]
  rw [leave_flat rfl rfl]
theorem sisNaN_ok (n : Nat) (hn : 1 ≤ n) (s : List UInt8) (H : VH) : vcall T ext promo n 85 [.str (PS.of s)] H = some (.bool false, H) := by
  obtain ⟨n, rfl⟩ : ∃ m, n = m + 1 := ⟨n - 1, by omega⟩
  apply ok85
  unfold F85
  simp only [KA, KB, KD, reduceCtorEq, if_false, if_true, str_eq, decide_true]
  rw [leave_flat rfl rfl]
theorem less_ok (n : Nat) (hn : 2 ≤ n) (s t : List UInt8) (H : VH) : vcall T ext promo n 80 [.str (PS.of s), .str (PS.of t)] H = some (.bool ((PS.of s).less (PS.of t)), H) := by
  obtain ⟨n, rfl⟩ : ∃ m, n = m + 1 := ⟨n - 1, by omega⟩
  apply ok80
  unfold F80
  simp only [letH_mk]
  rw [isNaN_ok n (by omega)]
  simp only [KA, KB, KD, reduceCtorEq, if_false, if_true]
  rw [leave_flat rfl rfl]
theorem search_ok (n : Nat) (hn : 20 ≤ n) {H : VH} {p : Nat} (hp : Plain H p (strCells dirs)) : vcall T ext promo n 51 [.slice (some (p, 0)) 8 (some 8) 1, .str (PS.of [])] H = some (.tuple [.int .i64 0, .bool false], H) := by
  obtain ⟨n, rfl⟩ : ∃ m, n = m + 6 := ⟨n - 6, by omega⟩
  have hc : ∀ i, H.lo.cell p i = (strCells dirs)[i]? := fun i => hp.lo.cell i
  have step : ∀ (m : Nat) (j k : Nat), (j = 8 ∧ k = 4) ∨ (j = 4 ∧ k = 2) ∨ (j = 2 ∧ k = 1) ∨ (j = 1 ∧ k = 0) →
      loopN (L51_0 (vcall T ext promo (n + 5)) (n + 5) (some (p, 0)) 8 (PS.of [])) (m + 1) [.int .i64 0, .int .i64 (j : Int)] H.lo = loopN (L51_0 (vcall T ext promo (n + 5)) (n + 5) (some (p, 0)) 8 (PS.of [])) m [.int .i64 0, .int .i64 (k : Int)] H.lo := by
    intro m j k hj
    rw [loopN_succ]
    generalize hlp : loopN (L51_0 (vcall T ext promo (n + 5)) (n + 5) (some (p, 0)) 8 (PS.of [])) m = lp
    unfold L51_0
    simp only [KA, KB, KD, reduceCtorEq, if_false, if_true, Bool.and_eq_true]
    have hm : fwrap .i64 (ishr (fwrap .u64 (fwrap .i64 (0 + (j : Int)))) 1) = (k : Int) := by
      rcases hj with ⟨rfl, rfl⟩ | ⟨rfl, rfl⟩ | ⟨rfl, rfl⟩ | ⟨rfl, rfl⟩ <;> rfl
    obtain ⟨s, hs, hl⟩ : ∃ s, (strCells dirs)[0 + k * 1]? = some (.str (PS.of s)) ∧ (PS.of s).less (PS.of []) = false := by
      rcases hj with ⟨rfl, rfl⟩ | ⟨rfl, rfl⟩ | ⟨rfl, rfl⟩ | ⟨rfl, rfl⟩
      · exact ⟨_, rfl, by decide +kernel⟩
      · exact ⟨_, rfl, by decide +kernel⟩
      · exact ⟨_, rfl, by decide +kernel⟩
      · exact ⟨_, rfl, by decide +kernel⟩
    rw [if_pos (by omega), hm, if_pos (by omega)]
    simp only [KA, KB, KD, reduceCtorEq, if_false, if_true, Int.toNat_natCast]
    rw [hc, hs]
    simp only [KA, KB, KD, reduceCtorEq, if_false, if_true]
    rw [less_ok _ (by omega)]
    simp only [KA, KB, KD, reduceCtorEq, if_false, if_true, hl]
  apply ok51
  unfold F51
  simp only [letH_mk]
  rw [show n + 5 = (n + 4) + 1 from rfl]
  rw [show ((8 : Nat) : Int) = ((8 : Nat) : Int) from rfl, step (n + 4) 8 4 (by omega), step (n + 3) 4 2 (by omega), step (n + 2) 2 1 (by omega), step (n + 1) 1 0 (by omega), loopN_succ]
  generalize hlp : loopN (L51_0 (vcall T ext promo (n + 5)) (n + 5) (some (p, 0)) 8 (PS.of [])) n = lp
  unfold L51_0
  simp only [KA, KB, KD, reduceCtorEq, if_false, if_true, Bool.and_eq_true]
  rw [if_neg (by omega)]
  simp only [KA, KB, KD, reduceCtorEq, if_false, if_true]
  rw [if_pos (by omega), if_pos (by omega), Int.toNat_zero, hc]
  have e0 : (strCells dirs)[0 + 0 * 1]? = some (.str (PS.of [100, 101, 102, 105, 110, 101])) := rfl
  rw [e0]
  simp only [KA, KB, KD, reduceCtorEq, if_false, if_true, str_eq, show decide ([100, 101, 102, 105, 110, 101] = ([] : List UInt8)) = false from rfl]
  rw [if_pos (by omega), sisNaN_ok _ (by omega)]
  simp only [KA, KB, KD, reduceCtorEq, if_false, if_true]
  rw [leave_flat rfl rfl]
end Go.Vm.Tryz
