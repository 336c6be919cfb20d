/- Merged texts: WidthH WidthI WidthJ WidthK WidthL WidthM WidthN WidthP. -/
import Derived.Test.YtcpldhgpmbpjiaaGreatDoorWa
import Derived.Test.YtcpldhgpmbpjiaaGreatDoorW3
namespace Go.Vm.Tryz
/- The checks of an expression at a design without signals: its size, its weight; a machine for that design. -/
section
set_option linter.unusedSectionVars false
set_option linter.unusedSimpArgs false
set_option linter.unusedVariables false
set_option maxRecDepth 10000
/-- A design of its name alone. -/
abbrev dx : List AV := [.str (PS.of [120]), nilS, nilS, nilS, nilS]
theorem designCheck_ok (n : Nat) (hn : 1 ≤ n) (H : VH) : vcall T ext promo n 32 [.agg dx] H = some (.int .i64 0, H) := by
  obtain ⟨n, rfl⟩ : ∃ m, n = m + 1 := ⟨n - 1, by omega⟩
  exact call_ext (g := fun _ => xTab tab32) rfl (by kernel_rfl)
theorem evalNew_ok (n : Nat) (hn : 2 ≤ n) (H : VH) : vcall T ext promo n 19 [.agg dx] H = some (.tuple [.agg (dx ++ [.bool true]), .int .i64 0], H) := by
  obtain ⟨n, rfl⟩ : ∃ m, n = m + 1 := ⟨n - 1, by omega⟩
  apply ok19
  unfold F19
  simp only [letH_mk]
  rw [designCheck_ok n (by omega)]
  simp only [KA, KB, KD, reduceCtorEq, if_false, if_true, ieq_dec, decide_true]
  exact congrArg some (back_pure (fun _ => rfl) rfl)
theorem mCheck_ok (n : Nat) (hn : 2 ≤ n) (H : VH) : vcall T ext promo n 33 [.agg [.str (PS.of [120]), nilS, nilS, nilS, nilS, .bool true], .agg [nilS, .int .u64 0]] H = some (.int .i64 0, H) := by
  obtain ⟨n, rfl⟩ : ∃ m, n = m + 2 := ⟨n - 2, by omega⟩
  apply ok33
  unfold F33
  simp only [KA, KB, KD, reduceCtorEq, if_false, if_true, ieq_dec, decide_true]
  rw [loopN_succ]
  unfold L33_0
  simp only [KA, KB, KD, reduceCtorEq, if_false, if_true]
  rw [if_neg (by decide)]
  simp only [KA, KB, KD, reduceCtorEq, if_false, if_true]
  exact congrArg some (by rw [leave_flat rfl rfl])
theorem when_ok (n : Nat) (hn : 1 ≤ n) (b : Bool) (x : Int) (H : VH) : vcall T ext promo n 57 [.bool b, .int .i64 x] H = some (.int .i64 (if b then x else 0), H) := by
  obtain ⟨n, rfl⟩ : ∃ m, n = m + 1 := ⟨n - 1, by omega⟩
  apply ok57
  unfold F57
  cases b
  all_goals
    simp only [KA, KB, KD, reduceCtorEq, if_false, if_true]
    exact congrArg some (by rw [leave_flat rfl rfl])
theorem sizeN_ok (n : Nat) (hn : 5 ≤ n) (w : Nat) (v : BitVec 64) (s : Bool) (H : VH) : vcall T ext promo n 66 [.agg (ce w v 0#64 s)] H = some (.tuple [.int .i64 1, .int .i64 1], H) := by
  obtain ⟨n, rfl⟩ : ∃ m, n = m + 3 := ⟨n - 3, by omega⟩
  have e1 : vcall T ext promo (n + 2) 106 [.int .i64 1, .int .i64 1, nilS, .func 66 [] []] H.lo = some (.tuple [.int .i64 1, .int .i64 1], H.lo) := by
    apply ok106
    unfold F106
    simp only [letH_mk]
    rw [loopN_succ]
    unfold L106_0
    simp only [KA, KB, KD, reduceCtorEq, if_false, if_true]
    rw [if_neg (by decide)]
    simp only [KA, KB, KD, reduceCtorEq, if_false, if_true]
    exact congrArg some (by rw [leave_flat rfl rfl])
  apply ok66
  unfold F66
  simp only [letH_mk]
  rw [e1]
  simp only [KA, KB, KD, reduceCtorEq, if_false, if_true]
  exact congrArg some (by rw [leave_flat rfl rfl])
theorem weightN_ok (n : Nat) (hn : 5 ≤ n) (w : Nat) (v : BitVec 64) (s : Bool) (H : VH) : vcall T ext promo n 68 [nilS, .agg (ce w v 0#64 s)] H = some (.int .i64 1, H) := by
  obtain ⟨n, rfl⟩ : ∃ m, n = m + 2 := ⟨n - 2, by omega⟩
  apply ok68
  unfold F68
  simp only [KA, KB, KD, reduceCtorEq, if_false, if_true, ieq_dec, Int.reduceEq, decide_false]
  rw [loopN_succ]
  unfold L68_0
  simp only [KA, KB, KD, reduceCtorEq, if_false, if_true]
  rw [if_neg (by decide)]
  simp only [KA, KB, KD, reduceCtorEq, if_false, if_true]
  exact congrArg some (by rw [leave_flat rfl rfl])
theorem funcs_ok (n : Nat) (hn : 3 ≤ n) (H : VH) : vcall T ext promo n 69 [.agg dx] H = some (nilS, H) := by
  obtain ⟨n, rfl⟩ : ∃ m, n = m + 2 := ⟨n - 2, by omega⟩
  apply ok69
  unfold F69
  simp only [KA, KB, KD, reduceCtorEq, if_false, if_true]
  rw [loopN_succ]
  unfold L69_0
  simp only [KA, KB, KD, reduceCtorEq, if_false, if_true]
  rw [if_neg (by decide)]
  simp only [KA, KB, KD, reduceCtorEq, if_false, if_true]
  exact congrArg some (back_pure (fun _ => rfl) rfl)
end
/- The size and the weight of a sum. -/
section
set_option linter.unusedSectionVars false
set_option linter.unusedSimpArgs false
set_option linter.unusedVariables false
set_option maxRecDepth 10000
abbrev kidsE (W : Nat) (u u' : BitVec 64) (s : Bool) : AV := .slice (some (.pur (ce W u 0#64 s ++ ce W u' 0#64 s), 0)) 2 none 10
theorem overS_ok (n : Nat) (hn : 20 ≤ n) (W : Nat) (u u' : BitVec 64) (s : Bool) (H : VH) : vcall T ext promo n 106 [.int .i64 1, .int .i64 1, kidsE W u u' s, .func 66 [] []] H = some (.tuple [.int .i64 3, .int .i64 2], H) := by
  obtain ⟨n, rfl⟩ : ∃ m, n = m + 4 := ⟨n - 4, by omega⟩
  have c0 : ∀ H : VH, H.cells (.pur (ce W u 0#64 s ++ ce W u' 0#64 s)) (0 + (0 : Int).toNat * 10) 10 = some (ce W u 0#64 s) := fun _ => rfl
  have c1 : ∀ H : VH, H.cells (.pur (ce W u 0#64 s ++ ce W u' 0#64 s)) (0 + (1 : Int).toNat * 10) 10 = some (ce W u' 0#64 s) := fun _ => rfl
  apply ok106
  unfold F106
  simp only [letH_mk]
  rw [loopN_succ]
  generalize hlp : loopN (L106_0 (vcall T ext promo (n + 3)) (n + 3) _ _ _) (n + 2) = lp
  unfold L106_0
  simp only [KA, KB, KD, reduceCtorEq, if_false, if_true, Bool.and_eq_true]
  rw [if_pos (by omega), if_pos (by omega), c0]
  simp only [KA, KB, KD, reduceCtorEq, if_false, if_true, asFn_mk, List.nil_append, List.append_nil]
  rw [sizeN_ok _ (by omega)]
  simp only [KA, KB, KD, reduceCtorEq, if_false, if_true, show fwrap .i64 (1 + 1) = 2 from rfl, show fwrap .i64 (0 + 1) = 1 from rfl, show imax 1 2 = 2 from rfl]
  rw [← hlp, loopN_succ]
  generalize hlp2 : loopN (L106_0 (vcall T ext promo (n + 3)) (n + 3) _ _ _) (n + 1) = lp2
  unfold L106_0
  simp only [KA, KB, KD, reduceCtorEq, if_false, if_true, Bool.and_eq_true]
  rw [if_pos (by omega), if_pos (by omega), c1]
  simp only [KA, KB, KD, reduceCtorEq, if_false, if_true, asFn_mk, List.nil_append, List.append_nil]
  rw [sizeN_ok _ (by omega)]
  simp only [KA, KB, KD, reduceCtorEq, if_false, if_true, show fwrap .i64 (2 + 1) = 3 from rfl, show fwrap .i64 (1 + 1) = 2 from rfl, show imax 2 2 = 2 from rfl]
  rw [← hlp2, loopN_succ]
  unfold L106_0
  simp only [KA, KB, KD, reduceCtorEq, if_false, if_true]
  rw [if_neg (by omega)]
  simp only [KA, KB, KD, reduceCtorEq, if_false, if_true]
  exact congrArg some (by rw [leave_flat rfl rfl])
theorem sizeS_ok (n : Nat) (hn : 30 ≤ n) (op : Int) {W w w' : Nat} {v v' : BitVec 64} (s : Bool) (H : VH) : vcall T ext promo n 66 [.agg (exS op W w w' v v' s)] H = some (.tuple [.int .i64 3, .int .i64 2], H) := by
  obtain ⟨n, rfl⟩ : ∃ m, n = m + 1 := ⟨n - 1, by omega⟩
  apply ok66
  unfold F66
  simp only [letH_mk]
  rw [overS_ok n (by omega)]
  simp only [KA, KB, KD, reduceCtorEq, if_false, if_true]
  exact congrArg some (by rw [leave_flat rfl rfl])
theorem sum_ok (n : Nat) (hn : 1 ≤ n) (a b : Nat) (h : a + b < 1000) (H : VH) : vcall T ext promo n 111 [.int .i64 (a : Int), .int .i64 (b : Int)] H = some (.int .i64 ((a + b : Nat) : Int), H) := by
  obtain ⟨n, rfl⟩ : ∃ m, n = m + 1 := ⟨n - 1, by omega⟩
  apply ok111
  unfold F111
  simp only [KA, KB, KD, reduceCtorEq, if_false, if_true]
  rw [fw_i64 (n := 9223372036854775807 - (b : Int)) (by omega) (by omega), if_neg (by omega), fw_i64 (by omega) (by omega)]
  exact congrArg some (by rw [leave_flat rfl rfl]; rfl)
theorem weightS_ok (n : Nat) (hn : 30 ≤ n) {op : Int} (hop : op = 16 ∨ op = 17 ∨ op = 18) {W w w' : Nat} {v v' : BitVec 64} (s : Bool) (H : VH) : vcall T ext promo n 68 [nilS, .agg (exS op W w w' v v' s)] H = some (.int .i64 3, H) := by
  obtain ⟨n, rfl⟩ : ∃ m, n = m + 4 := ⟨n - 4, by omega⟩
  have c0 : ∀ H : VH, H.cells (.pur (ce W (rz w W v s) 0#64 s ++ ce W (rz w' W v' s) 0#64 s)) (0 + (0 : Int).toNat * 10) 10 = some (ce W (rz w W v s) 0#64 s) := fun _ => rfl
  have c1 : ∀ H : VH, H.cells (.pur (ce W (rz w W v s) 0#64 s ++ ce W (rz w' W v' s) 0#64 s)) (0 + (1 : Int).toNat * 10) 10 = some (ce W (rz w' W v' s) 0#64 s) := fun _ => rfl
  have s1 : ∀ H : VH, vcall T ext promo (n + 3) 111 [.int .i64 1, .int .i64 1] H = some (.int .i64 2, H) := fun H => sum_ok _ (by omega) 1 1 (by omega) H
  have s2 : ∀ H : VH, vcall T ext promo (n + 3) 111 [.int .i64 2, .int .i64 1] H = some (.int .i64 3, H) := fun H => sum_ok _ (by omega) 2 1 (by omega) H
  rcases hop with rfl | rfl | rfl
  all_goals
    apply ok68
    unfold F68
    simp only [KA, KB, KD, reduceCtorEq, if_false, if_true, ieq_dec, Int.reduceEq, decide_false]
    rw [loopN_succ]
    generalize hlp : loopN (L68_0 (vcall T ext promo (n + 3)) (n + 3) _ _ _ _ _ _) (n + 2) = lp
    unfold L68_0
    simp only [KA, KB, KD, reduceCtorEq, if_false, if_true, Bool.and_eq_true]
    rw [if_pos (by omega), if_pos (by omega), c0]
    simp only [KA, KB, KD, reduceCtorEq, if_false, if_true]
    rw [weightN_ok _ (by omega)]
    simp only [KA, KB, KD, reduceCtorEq, if_false, if_true, s1, show fwrap .i64 (0 + 1) = 1 from rfl]
    rw [← hlp, loopN_succ]
    generalize hlp2 : loopN (L68_0 (vcall T ext promo (n + 3)) (n + 3) _ _ _ _ _ _) (n + 1) = lp2
    unfold L68_0
    simp only [KA, KB, KD, reduceCtorEq, if_false, if_true, Bool.and_eq_true]
    rw [if_pos (by omega), if_pos (by omega), c1]
    simp only [KA, KB, KD, reduceCtorEq, if_false, if_true]
    rw [weightN_ok _ (by omega)]
    simp only [KA, KB, KD, reduceCtorEq, if_false, if_true, s2, show fwrap .i64 (1 + 1) = 2 from rfl]
    rw [← hlp2, loopN_succ]
    unfold L68_0
    simp only [KA, KB, KD, reduceCtorEq, if_false, if_true]
    rw [if_neg (by omega)]
    simp only [KA, KB, KD, reduceCtorEq, if_false, if_true]
    exact congrArg some (by rw [leave_flat rfl rfl])
end
/- The form of constants and sums. -/
section
set_option linter.unusedSectionVars false
set_option linter.unusedSimpArgs false
set_option linter.unusedVariables false
set_option maxRecDepth 10000
theorem arity_ok (n : Nat) (hn : 1 ≤ n) {op r : Int} (h : (op = 0 ∧ r = 0) ∨ (op = 16 ∧ r = 2) ∨ (op = 17 ∧ r = 2) ∨ (op = 18 ∧ r = 2)) (H : VH) : vcall T ext promo n 161 [.int .i64 op] H = some (.int .i64 r, H) := by
  obtain ⟨n, rfl⟩ : ∃ m, n = m + 1 := ⟨n - 1, by omega⟩
  rcases h with ⟨rfl, rfl⟩ | ⟨rfl, rfl⟩ | ⟨rfl, rfl⟩ | ⟨rfl, rfl⟩
  all_goals
    apply ok161
    unfold F161
    simp only [KA, KB, KD, reduceCtorEq, if_false, if_true, ieq_dec, Int.reduceEq, decide_false, decide_true]
    exact congrArg some (by rw [leave_flat rfl rfl])
theorem single_ok (n : Nat) (hn : 1 ≤ n) {op : Int} (h : op = 0 ∨ op = 16 ∨ op = 17 ∨ op = 18) (H : VH) : vcall T ext promo n 162 [.int .i64 op] H = some (.bool false, H) := by
  obtain ⟨n, rfl⟩ : ∃ m, n = m + 1 := ⟨n - 1, by omega⟩
  rcases h with rfl | rfl | rfl | rfl
  all_goals
    apply ok162
    unfold F162
    simp (config := { decide := true }) only [letH_mk, selC_eq, ile_eq, decide_eq_true_eq, if_false, if_true]
    exact congrArg some (by rw [leave_flat rfl rfl])
theorem formN_ok (n : Nat) (hn : 5 ≤ n) (w : Nat) (v : BitVec 64) (s : Bool) (H : VH) : vcall T ext promo n 107 [.agg (ce w v 0#64 s)] H = some (.bool true, H) := by
  obtain ⟨n, rfl⟩ : ∃ m, n = m + 1 := ⟨n - 1, by omega⟩
  apply ok107
  unfold F107
  simp only [letH_mk]
  rw [arity_ok n (by omega) (.inl ⟨rfl, rfl⟩)]
  simp (config := { decide := true }) only [KA, KB, KD, reduceCtorEq, if_false, if_true, ieq_dec, Int.reduceEq, decide_false, decide_true, ile_eq, decide_eq_true_eq]
  rw [single_ok n (by omega) (.inl rfl)]
  simp only [KA, KB, KD, reduceCtorEq, if_false, if_true]
  exact congrArg some (by rw [leave_flat rfl rfl])
theorem eq0 : vbinOp T .eql 29 (.agg [.int .i64 0, .int .u64 0, .int .u64 0]) (.agg [.int .i64 0, .int .u64 0, .int .u64 0]) = some (.bool true) := by kernel_rfl
theorem formS_ok (n : Nat) (hn : 5 ≤ n) {op : Int} (hop : op = 16 ∨ op = 17 ∨ op = 18) {W w w' : Nat} {v v' : BitVec 64} (s : Bool) (H : VH) : vcall T ext promo n 107 [.agg (exS op W w w' v v' s)] H = some (.bool true, H) := by
  obtain ⟨n, rfl⟩ : ∃ m, n = m + 1 := ⟨n - 1, by omega⟩
  have a1 := arity_ok n (by omega) (op := 16) (r := 2) (.inr (.inl ⟨rfl, rfl⟩)) H.lo
  have a2 := arity_ok n (by omega) (op := 17) (r := 2) (.inr (.inr (.inl ⟨rfl, rfl⟩))) H.lo
  have a3 := arity_ok n (by omega) (op := 18) (r := 2) (.inr (.inr (.inr ⟨rfl, rfl⟩))) H.lo
  have b1 := single_ok n (by omega) (op := 16) (.inr (.inl rfl)) H.lo
  have b2 := single_ok n (by omega) (op := 17) (.inr (.inr (.inl rfl))) H.lo
  have b3 := single_ok n (by omega) (op := 18) (.inr (.inr (.inr rfl))) H.lo
  rcases hop with rfl | rfl | rfl
  all_goals
    apply ok107
    unfold F107
    simp only [letH_mk]
    first | rw [a1] | rw [a2] | rw [a3]
    simp (config := { decide := true }) only [KA, KB, KD, reduceCtorEq, if_false, if_true, ieq_dec, Int.reduceEq, decide_false, decide_true, ile_eq, decide_eq_true_eq, eq0]
    first | rw [b1] | rw [b2] | rw [b3]
    simp only [KA, KB, KD, reduceCtorEq, if_false, if_true]
    exact congrArg some (by rw [leave_flat rfl rfl])
end
/- The check of a constant. -/
section
set_option linter.unusedSectionVars false
set_option linter.unusedSimpArgs false
set_option linter.unusedVariables false
set_option maxRecDepth 10000
/-- A checker at that design. -/
abbrev ck : List AV := [.str (PS.of [120]), nilS, nilS, nilS, nilS, .int .i64 (-1), .bool false, .bool false]
theorem checkN_ok (n : Nat) (hn : 20 ≤ n) {W : Nat} {u : BitVec 64} (s : Bool) (h : Vec W u 0#64) (H : VH) : vcall T ext promo n 67 [.agg ck, .agg (ce W u 0#64 s)] H = some (.int .i64 0, H) := by
  obtain ⟨n, rfl⟩ : ∃ m, n = m + 2 := ⟨n - 2, by omega⟩
  have h1 := h.pos
  have h2 := h.le
  apply ok67
  unfold F67
  simp only [letH_mk]
  rw [loopN_succ]
  unfold L67_0
  simp only [KA, KB, KD, reduceCtorEq, if_false, if_true]
  rw [if_neg (by decide)]
  simp only [KA, KB, KD, reduceCtorEq, if_false, if_true]
  rw [if_neg (by decide), if_neg (by decide), if_neg (by omega)]
  simp only [KA, KB, KD, reduceCtorEq, if_false, if_true]
  rw [if_neg (by omega), formN_ok _ (by omega)]
  simp only [KA, KB, KD, reduceCtorEq, if_false, if_true, ieq_dec, decide_true]
  rw [check_ok _ (by omega) h]
  simp only [KA, KB, KD, reduceCtorEq, if_false, if_true, ieq_dec, decide_true]
  rw [when_ok _ (by omega)]
  simp only [KA, KB, KD, reduceCtorEq, if_false, if_true]
  exact congrArg some (by rw [leave_flat rfl rfl])
theorem kidW_ok (n : Nat) (hn : 1 ≤ n) {b : Nat} {op : Int} {W : Nat} {u u' : BitVec 64} (s : Bool) {H : VH} (h : Plain H b [.int .i64 op, .int .i64 (W : Int), .bool s, .int .i64 0, .int .u64 0, .int .u64 0, .int .i64 0, .bool false, .int .i64 0, kidsE W u u' s]) :
    vcall T ext promo n 164 [.int .i64 0, .ptr (some (b, 0))] H = some (.int .i64 (W : Int), H) ∧ vcall T ext promo n 164 [.int .i64 1, .ptr (some (b, 0))] H = some (.int .i64 (W : Int), H) := by
  obtain ⟨n, rfl⟩ : ∃ m, n = m + 1 := ⟨n - 1, by omega⟩
  have c9 : H.lo.cell b (0 + 9) = some (kidsE W u u' s) := h.cell 9
  have k0 : ∀ H : VH, H.cell (.pur (ce W u 0#64 s ++ ce W u' 0#64 s)) ((0 + (0 : Int).toNat * 10) + 1) = some (.int .i64 (W : Int)) := fun _ => rfl
  have k1 : ∀ H : VH, H.cell (.pur (ce W u 0#64 s ++ ce W u' 0#64 s)) ((0 + (1 : Int).toNat * 10) + 1) = some (.int .i64 (W : Int)) := fun _ => rfl
  constructor
  · apply ok164
    unfold F164
    simp only [KA, KB, KD, reduceCtorEq, if_false, if_true, c9, Bool.and_eq_true]
    rw [if_pos (by omega), k0]
    simp only [KA, KB, KD, reduceCtorEq, if_false, if_true]
    exact congrArg some (by rw [leave_flat rfl rfl])
  · apply ok164
    unfold F164
    simp only [KA, KB, KD, reduceCtorEq, if_false, if_true, c9, Bool.and_eq_true]
    rw [if_pos (by omega), k1]
    simp only [KA, KB, KD, reduceCtorEq, if_false, if_true]
    exact congrArg some (by rw [leave_flat rfl rfl])
end
/- The widths of a sum fit. -/
section
set_option linter.unusedSectionVars false
set_option linter.unusedSimpArgs false
set_option linter.unusedVariables false
set_option maxRecDepth 10000
theorem fitsS_ok (n : Nat) (hn : 5 ≤ n) {op : Int} (hop : op = 16 ∨ op = 17 ∨ op = 18) {W w w' : Nat} {v v' : BitVec 64} (s : Bool) {H : VH} (hH : H.Ok) : vcall T ext promo n 110 [.agg (exS op W w w' v v' s)] H = some (.bool true, H) := by
  obtain ⟨n, rfl⟩ : ∃ m, n = m + 1 := ⟨n - 1, by omega⟩
  unfold exS
  generalize hu : rz w W v s = u
  generalize hu' : rz w' W v' s = u'
  generalize hcs : ([.int .i64 op, .int .i64 (W : Int), .bool s, .int .i64 0, .int .u64 0, .int .u64 0, .int .i64 0, .bool false, .int .i64 0, kidsE W u u' s] : List AV) = cs
  have o1 := fresh_ok (lo_ok hH) cs
  have p1 := fresh_plain (lo_ok hH) cs
  have p1' : Plain (H.lo.fresh cs) H.lo.next [.int .i64 op, .int .i64 (W : Int), .bool s, .int .i64 0, .int .u64 0, .int .u64 0, .int .i64 0, .bool false, .int .i64 0, kidsE W u u' s] := by rw [hcs]; exact p1
  obtain ⟨q0, q1⟩ := kidW_ok n (by omega) s p1'
  have c0 : (H.lo.fresh cs).cell (H.lo.next : Nat) 0 = some (.int .i64 op) := p1'.cell 0
  have c1 : (H.lo.fresh cs).cell (H.lo.next : Nat) 1 = some (.int .i64 (W : Int)) := p1'.cell 1
  have hs := same_keep p1 o1 (Keep.refl (fun _ => False) _) (fun h => h)
  have l2 : (H.lo.fresh cs).low = H.next := rfl
  have key : F110 (vcall T ext promo n) n op (W : Int) s 0 0 0 0 false 0 (some (.pur (ce W u 0#64 s ++ ce W u' 0#64 s), 0)) 2 none 10 H = some (.bool true, H) := by
    unfold F110
    simp only [letH_mk, hcs]
    generalize H.lo.fresh cs = H2 at *
    generalize H.lo.next = b at *
    have hs' : H2.same H2 b = true := by simpa [allSame] using hs
    have f1 : freeOf (.read [b] []) 4 3 [.idle, (.eff H2 H2), .idle] = true := by simp [freeOf, Tag.free, allSame, hs']
    have f2 : freeOf (.read [b] []) 319 9 [.idle, (.eff H2 H2), .idle, .idle, .idle, (.read [b] []), .idle, (.eff H2 H2), .idle] = true := by simp [freeOf, Tag.free, allSame, hs']
    rcases hop with rfl | rfl | rfl
    all_goals
      simp only [KA, KB, KD, reduceCtorEq, if_false, if_true, c0, c1, ieq_dec, Int.reduceEq, decide_false, decide_true, q0, q1, bkl, f1, f2]
      exact congrArg some (by rw [leave_flat l2 rfl])
  subst hcs
  exact ok110 _ _ _ _ _ _ _ _ _ _ _ _ _ _ _ key
end
/- The check of a sum. -/
section
set_option linter.unusedSectionVars false
set_option linter.unusedSimpArgs false
set_option linter.unusedVariables false
set_option maxRecDepth 10000
theorem checkS_ok (n : Nat) (hn : 40 ≤ n) {op : Int} (hop : op = 16 ∨ op = 17 ∨ op = 18) {W w w' : Nat} {v v' : BitVec 64} (s : Bool) (h : Vec w v 0#64) (h' : Vec w' v' 0#64) (hw : 1 ≤ W ∧ W ≤ 64) {H : VH} (hH : H.Ok) : vcall T ext promo n 67 [.agg ck, .agg (exS op W w w' v v' s)] H = some (.int .i64 0, H) := by
  obtain ⟨n, rfl⟩ : ∃ m, n = m + 4 := ⟨n - 4, by omega⟩
  have g := rz_vec s h hw
  have g' := rz_vec s h' hw
  have e1 := formS_ok (n + 3) (by omega) hop (W := W) (w := w) (w' := w') (v := v) (v' := v') s H.lo
  have e2 := fitsS_ok (n + 3) (by omega) hop (W := W) (w := w) (w' := w') (v := v) (v' := v') s (lo_ok hH)
  unfold exS at *
  generalize hu : rz w W v s = u at *
  generalize hu' : rz w' W v' s = u' at *
  have c0 : ∀ H : VH, H.cells (.pur (ce W u 0#64 s ++ ce W u' 0#64 s)) (0 + (0 : Int).toNat * 10) 10 = some (ce W u 0#64 s) := fun _ => rfl
  have c1 : ∀ H : VH, H.cells (.pur (ce W u 0#64 s ++ ce W u' 0#64 s)) (0 + (1 : Int).toNat * 10) 10 = some (ce W u' 0#64 s) := fun _ => rfl
  simp only [List.cons_append, List.nil_append] at c0 c1 e1 e2 ⊢
  rcases hop with rfl | rfl | rfl
  all_goals
    apply ok67
    unfold F67
    simp only [letH_mk]
    rw [loopN_succ]
    generalize hlp : loopN (L67_0 (vcall T ext promo (n + 3)) (n + 3) _ _ _ _ _ _ _ _ _ _ _ _ _ _ _ _ _ _ _ _ _ _) (n + 2) = lp
    unfold L67_0
    simp only [KA, KB, KD, reduceCtorEq, if_false, if_true, Bool.and_eq_true]
    rw [if_pos (by omega), if_pos (by omega), c0]
    simp only [KA, KB, KD, reduceCtorEq, if_false, if_true]
    rw [checkN_ok _ (by omega) s g]
    simp only [KA, KB, KD, reduceCtorEq, if_false, if_true, ieq_dec, decide_true, show fwrap .i64 (0 + 1) = 1 from rfl]
    rw [← hlp, loopN_succ]
    generalize hlp2 : loopN (L67_0 (vcall T ext promo (n + 3)) (n + 3) _ _ _ _ _ _ _ _ _ _ _ _ _ _ _ _ _ _ _ _ _ _) (n + 1) = lp2
    unfold L67_0
    simp only [KA, KB, KD, reduceCtorEq, if_false, if_true, Bool.and_eq_true]
    rw [if_pos (by omega), if_pos (by omega), c1]
    simp only [KA, KB, KD, reduceCtorEq, if_false, if_true]
    rw [checkN_ok _ (by omega) s g']
    simp only [KA, KB, KD, reduceCtorEq, if_false, if_true, ieq_dec, decide_true, show fwrap .i64 (1 + 1) = 2 from rfl]
    rw [← hlp2, loopN_succ]
    unfold L67_0
    simp only [KA, KB, KD, reduceCtorEq, if_false, if_true]
    rw [if_neg (by omega)]
    simp only [KA, KB, KD, reduceCtorEq, if_false, if_true]
    rw [if_neg (by decide), if_neg (by decide), if_neg (by omega)]
    simp only [KA, KB, KD, reduceCtorEq, if_false, if_true]
    rw [if_neg (by omega), e1]
    simp only [KA, KB, KD, reduceCtorEq, if_false, if_true, ieq_dec, Int.reduceEq, decide_false]
    rw [e2]
    simp only [KA, KB, KD, reduceCtorEq, if_false, if_true]
    rw [when_ok _ (by omega)]
    simp only [KA, KB, KD, reduceCtorEq, if_false, if_true]
    exact congrArg some (by rw [leave_flat rfl rfl])
theorem CheckExpr_ok (n : Nat) (hn : 50 ≤ n) {op : Int} (hop : op = 16 ∨ op = 17 ∨ op = 18) {W w w' : Nat} {v v' : BitVec 64} (s : Bool) (h : Vec w v 0#64) (h' : Vec w' v' 0#64) (hw : 1 ≤ W ∧ W ≤ 64) {H : VH} (hH : H.Ok) : vcall T ext promo n 34 [.agg dx, .agg (exS op W w w' v v' s)] H = some (.int .i64 0, H) := by
  obtain ⟨n, rfl⟩ : ∃ m, n = m + 1 := ⟨n - 1, by omega⟩
  have e1 := sizeS_ok n (by omega) op (W := W) (w := w) (w' := w') (v := v) (v' := v') s H.lo
  have e2 := checkS_ok n (by omega) hop s h h' hw (lo_ok hH)
  have e3 := weightS_ok n (by omega) hop (W := W) (w := w) (w' := w') (v := v) (v' := v') s H.lo
  apply ok34
  unfold F34
  simp only [List.cons_append, List.nil_append] at e1 e2 e3 ⊢
  simp only [letH_mk]
  rw [e1]
  simp only [KA, KB, KD, reduceCtorEq, if_false, if_true]
  rw [if_neg (by decide)]
  simp only [KA, KB, KD, reduceCtorEq, if_false, if_true]
  rw [if_neg (by decide), e2]
  simp only [KA, KB, KD, reduceCtorEq, if_false, if_true, ieq_dec, decide_true]
  rw [funcs_ok n (by omega)]
  simp only [KA, KB, KD, reduceCtorEq, if_false, if_true]
  rw [e3]
  simp only [KA, KB, KD, reduceCtorEq, if_false, if_true]
  rw [when_ok n (by omega)]
  simp only [KA, KB, KD, reduceCtorEq, if_false, if_true]
  exact congrArg some (by rw [leave_flat rfl rfl]; rfl)
end
/- eval.Expr at a sum. -/
section
set_option linter.unusedSectionVars false
set_option linter.unusedSimpArgs false
set_option linter.unusedVariables false
set_option maxRecDepth 10000
theorem mValue_ok (n : Nat) (hn : 100 ≤ n) {op : Int} (hop : op = 16 ∨ op = 17 ∨ op = 18) {W w w' : Nat} {v v' : BitVec 64} (s : Bool) (h : Vec w v 0#64) (h' : Vec w' v' 0#64) (hw : 1 ≤ W ∧ W ≤ 64) {H : VH} (hH : H.Ok) :
    vcall T ext promo n 20 [.agg [.str (PS.of [120]), nilS, nilS, nilS, nilS, .bool true], .agg [nilS, .int .u64 0], .agg (exS op W w w' v v' s)] H = some (.tuple [bv W (opv op (rz w W v s) (rz w' W v' s) &&& bmask W) 0#64, .int .i64 0], H) := by
  obtain ⟨n, rfl⟩ : ∃ m, n = m + 1 := ⟨n - 1, by omega⟩
  have e1 := CheckExpr_ok n (by omega) hop s h h' hw (lo_ok hH)
  have o2 := fresh_ok (lo_ok hH) [.str (PS.of [120]), nilS, nilS, nilS, nilS, .bool true, nilS, .int .u64 0, nilS, nilS, .int .i64 0, .int .i64 0]
  have p2 := fresh_plain (lo_ok hH) [.str (PS.of [120]), nilS, nilS, nilS, nilS, .bool true, nilS, .int .u64 0, nilS, nilS, .int .i64 0, .int .i64 0]
  have c11 := p2.cell 11
  have e2 := exprS_ok n (by omega) (some ((H.lo.next : Nat), 0)) hop s h h' hw o2
  apply ok20
  unfold F20
  simp only [List.cons_append, List.nil_append] at e1 e2 ⊢
  simp only [letH_mk]
  rw [mCheck_ok n (by omega)]
  simp only [KA, KB, KD, reduceCtorEq, if_false, if_true, ieq_dec, decide_true]
  rw [e1]
  simp only [KA, KB, KD, reduceCtorEq, if_false, if_true, ieq_dec, decide_true]
  rw [e2]
  simp only [KA, KB, KD, reduceCtorEq, if_false, if_true]
  rw [c11]
  simp only [KA, KB, KD, reduceCtorEq, if_false, if_true, List.getElem?_cons_succ, List.getElem?_cons_zero, ieq_dec, decide_true]
  exact congrArg some (by rw [leave_flat rfl rfl])
theorem evalExpr_ok (n : Nat) (hn : 110 ≤ n) {op : Int} (hop : op = 16 ∨ op = 17 ∨ op = 18) {W w w' : Nat} {v v' : BitVec 64} (s : Bool) (h : Vec w v 0#64) (h' : Vec w' v' 0#64) (hw : 1 ≤ W ∧ W ≤ 64) {H : VH} (hH : H.Ok) :
    vcall T ext promo n 9 [.agg dx, .agg [nilS, .int .u64 0], .agg (exS op W w w' v v' s)] H = some (.tuple [bv W (opv op (rz w W v s) (rz w' W v' s) &&& bmask W) 0#64, .int .i64 0], H) := by
  obtain ⟨n, rfl⟩ : ∃ m, n = m + 1 := ⟨n - 1, by omega⟩
  have e1 := evalNew_ok n (by omega) H.lo
  have e2 := mValue_ok n (by omega) hop s h h' hw (lo_ok hH)
  apply ok9
  unfold F9
  simp only [List.cons_append, List.nil_append] at e1 e2 ⊢
  simp only [letH_mk]
  rw [e1]
  simp only [KA, KB, KD, reduceCtorEq, if_false, if_true, ieq_dec, decide_true]
  rw [e2]
  simp only [KA, KB, KD, reduceCtorEq, if_false, if_true]
  exact congrArg some (by rw [leave_flat rfl rfl])
end
/- Widths: the plain law of sums. -/
section
set_option linter.unusedSectionVars false
set_option linter.unusedSimpArgs false
set_option linter.unusedVariables false
set_option maxRecDepth 10000
theorem bmask_toNat {w : Nat} (h : w ≤ 64) : (bmask w).toNat = 2 ^ w - 1 := by
  unfold bmask
  have h1 := Nat.pow_le_pow_right (show 0 < 2 by omega) h
  have h2 := Nat.two_pow_pos w
  rw [BitVec.toNat_setWidth, BitVec.toNat_allOnes, Nat.mod_eq_of_lt (by omega)]
theorem and_mask_toNat {w : Nat} (h : w ≤ 64) (x : BitVec 64) : (x &&& bmask w).toNat = x.toNat % 2 ^ w := by
  rw [BitVec.toNat_and, bmask_toNat h, Nat.and_two_pow_sub_one_eq_mod]
theorem mask_iff {w : Nat} (h : w ≤ 64) (x y : BitVec 64) : x &&& bmask w = y &&& bmask w ↔ x.toNat % 2 ^ w = y.toNat % 2 ^ w := by
  constructor
  · intro e
    rw [← and_mask_toNat h, e, and_mask_toNat h]
  · intro e
    apply BitVec.eq_of_toNat_eq
    rw [and_mask_toNat h, and_mask_toNat h, e]
theorem dvd64 {w : Nat} (h : w ≤ 64) : 2 ^ w ∣ 2 ^ 64 := Nat.pow_dvd_pow 2 h
theorem add_mask {w : Nat} (h : w ≤ 64) {a b a' b' : BitVec 64} (ha : a &&& bmask w = a' &&& bmask w) (hb : b &&& bmask w = b' &&& bmask w) : (a + b) &&& bmask w = (a' + b') &&& bmask w := by
  rw [mask_iff h] at ha hb ⊢
  rw [BitVec.toNat_add, BitVec.toNat_add, Nat.mod_mod_of_dvd _ (dvd64 h), Nat.mod_mod_of_dvd _ (dvd64 h), Nat.add_mod, ha, hb, ← Nat.add_mod]
theorem mul_mask {w : Nat} (h : w ≤ 64) {a b a' b' : BitVec 64} (ha : a &&& bmask w = a' &&& bmask w) (hb : b &&& bmask w = b' &&& bmask w) : (a * b) &&& bmask w = (a' * b') &&& bmask w := by
  rw [mask_iff h] at ha hb ⊢
  rw [BitVec.toNat_mul, BitVec.toNat_mul, Nat.mod_mod_of_dvd _ (dvd64 h), Nat.mod_mod_of_dvd _ (dvd64 h), Nat.mul_mod, ha, hb, ← Nat.mul_mod]
theorem not_mask {w : Nat} {b b' : BitVec 64} (hb : b &&& bmask w = b' &&& bmask w) : ~~~b &&& bmask w = ~~~b' &&& bmask w := by
  apply BitVec.eq_of_getLsbD_eq
  intro i hi
  have h := congrArg (fun z : BitVec 64 => z.getLsbD i) hb
  simp only [BitVec.getLsbD_and, bmask_bit, BitVec.getLsbD_not] at h ⊢
  by_cases hw : i < w
  · simp only [hi, hw, decide_true, Bool.and_true, Bool.true_and] at h ⊢
    rw [h]
  · simp [hw]
theorem sub_mask {w : Nat} (h : w ≤ 64) {a b a' b' : BitVec 64} (ha : a &&& bmask w = a' &&& bmask w) (hb : b &&& bmask w = b' &&& bmask w) : (a - b) &&& bmask w = (a' - b') &&& bmask w := by
  have e : ∀ x y : BitVec 64, x - y = x + (~~~y + 1#64) := fun x y => by
    rw [← BitVec.neg_eq_not_add, BitVec.sub_eq_add_neg]
  rw [e, e]
  exact add_mask h ha (add_mask h (not_mask hb) rfl)
theorem opv_mask {w : Nat} (h : w ≤ 64) (op : Int) {a b a' b' : BitVec 64} (ha : a &&& bmask w = a' &&& bmask w) (hb : b &&& bmask w = b' &&& bmask w) : opv op a b &&& bmask w = opv op a' b' &&& bmask w := by
  unfold opv
  split
  · exact add_mask h ha hb
  · split
    · exact sub_mask h ha hb
    · exact mul_mask h ha hb
theorem sint_shift {w : Nat} (hw : 1 ≤ w ∧ w ≤ 64) (v : BitVec 64) : BitVec.ofInt 64 (sint w v) = (v <<< (64 - w)).sshiftRight (64 - w) := by
  have : sint w v = ((v <<< (64 - w)).sshiftRight (64 - w)).toInt := by
    rw [BitVec.toInt_sshiftRight, Int.shiftRight_eq_div_pow]
    unfold sint
    rw [Int.fdiv_eq_ediv_of_nonneg _ (by exact Int.le_of_lt (Int.pow_pos (by decide)))]
    norm_cast
  rw [this, BitVec.ofInt_toInt]
theorem wide_mask {w : Nat} (hw : 1 ≤ w ∧ w ≤ 64) (v : BitVec 64) (s : Bool) : wide w v s &&& bmask w = v &&& bmask w := by
  unfold wide
  cases s
  · rfl
  · simp only [if_true]
    rw [sint_shift hw]
    apply BitVec.eq_of_getLsbD_eq
    intro i hi
    simp only [BitVec.getLsbD_and, bmask_bit, BitVec.getLsbD_sshiftRight, BitVec.getLsbD_shiftLeft]
    by_cases h : i < w
    · have h1 : 64 - w + i < 64 := by omega
      have h2 : ¬ (64 - w + i < 64 - w) := by omega
      have h3 : 64 - w + i - (64 - w) = i := by omega
      have h4 : ¬ (64 ≤ i) := by omega
      simp [h1, h2, h3, h4]
    · simp [h]
theorem rz_mask {w W : Nat} (hw : 1 ≤ w ∧ w ≤ 64) (v : BitVec 64) (s : Bool) : rz w W v s &&& bmask W = wide w v s &&& bmask W := by
  unfold rz
  split
  · rename_i e
    subst e
    exact (wide_mask hw v s).symm
  · rw [BitVec.and_assoc, BitVec.and_self]
/-- The sum in W bits is the sum of the numbers, cut. -/
theorem sum_mask {W w w' : Nat} (hW : W ≤ 64) (h : 1 ≤ w ∧ w ≤ 64) (h' : 1 ≤ w' ∧ w' ≤ 64) (op : Int) (v v' : BitVec 64) (s : Bool) :
    opv op (rz w W v s) (rz w' W v' s) &&& bmask W = opv op (wide w v s) (wide w' v' s) &&& bmask W := opv_mask hW op (rz_mask h v s) (rz_mask h' v' s)
end
end Go.Vm.Tryz
