/- Merged texts: WidthA WidthB WidthC WidthD WidthE WidthF WidthG. -/
import Derived.Test.YtcpldhgpmbpjiaaGreatDoorSw
import Derived.Test.YtcpldhgpmbpjiaaGreatDoorFz
namespace Go.Vm.Tryz
/- Widths: numbers and sums of two numbers, with their types. -/
section
set_option linter.unusedSectionVars false
set_option linter.unusedSimpArgs false
set_option linter.unusedVariables false
set_option maxRecDepth 10000
abbrev nilS : AV := .slice none 0 (some 0) 0
/-- A constant. -/
abbrev ce (w : Nat) (v x : BitVec 64) (s : Bool) : List AV := [.int .i64 0, .int .i64 (w : Int), .bool s, .int .i64 (w : Int), .int .u64 (u64 v), .int .u64 (u64 x), .int .i64 0, .bool false, .int .i64 0, nilS]
/-- A constant with its type. -/
abbrev tyN (w : Nat) (v : BitVec 64) (s : Bool) : List AV := [.int .i64 (-1), .int .i64 (w : Int), .int .i64 0, .bool s, nilS, nilS, .int .i64 0, .int .i64 (w : Int), .bool s, .int .i64 (w : Int), .int .u64 (u64 v), .int .u64 (u64 0#64), .int .i64 0, .bool false, .int .i64 0, nilS]
/-- A number, as a tree. -/
abbrev ndN (w : Nat) (v : BitVec 64) (s : Bool) : List AV := [.int .i64 78, .int .i64 0, .int .i64 0, .str (PS.of []), .str (PS.of []), .int .i64 (w : Int), .int .u64 (u64 v), .int .u64 (u64 0#64), .bool s, nilS]
abbrev fault0 : List AV := [.int .i64 0, .int .i64 0, .int .i64 0, .str (PS.of [])]
abbrev env0 : AV := .agg [.map none, nilS]
theorem constant_ok (n : Nat) (hn : 1 ≤ n) (w : Nat) (v x : BitVec 64) (s : Bool) (H : VH) : vcall T ext promo n 45 [bv w v x, .bool s] H = some (.agg (ce w v x s), H) := by
  obtain ⟨n, rfl⟩ : ∃ m, n = m + 1 := ⟨n - 1, by omega⟩
  apply ok45
  unfold F45
  simp only [letH_mk]
  rw [back_pure (fun _ => rfl) rfl]
theorem isN_ok (n : Nat) (hn : 1 ≤ n) (w : Nat) (v : BitVec 64) (s : Bool) (H : VH) : vcall T ext promo n 44 [.agg (ce w v 0#64 s), .agg [.int .i64 (w : Int), .int .i64 0, .bool s, nilS]] H = some (.agg (tyN w v s), H) := by
  obtain ⟨n, rfl⟩ : ∃ m, n = m + 1 := ⟨n - 1, by omega⟩
  apply ok44
  unfold F44
  simp only [letH_mk]
  rw [back_pure (fun _ => rfl) rfl]
theorem alone_ok (n : Nat) (hn : 3 ≤ n) (w : Nat) (v : BitVec 64) (s : Bool) (H : VH) : vcall T ext promo n 28 [.agg (ndN w v s), env0] H = some (.tuple [.agg (tyN w v s), .agg fault0], H) := by
  obtain ⟨n, rfl⟩ : ∃ m, n = m + 1 := ⟨n - 1, by omega⟩
  apply ok28
  unfold F28
  simp only [KA, KB, KD, reduceCtorEq, if_false, if_true, ieq_dec, decide_true]
  rw [constant_ok n (by omega)]
  simp only [KA, KB, KD, reduceCtorEq, if_false, if_true]
  rw [isN_ok n (by omega)]
  simp only [KA, KB, KD, reduceCtorEq, if_false, if_true]
  rw [back_pure (fun _ => rfl) rfl]
theorem operation_ok (n : Nat) (hn : 1 ≤ n) (H : VH) : vcall T ext promo n 27 [.int .i64 78] H = some (.int .i64 (-1), H) ∧ vcall T ext promo n 27 [.int .i64 95] H = some (.int .i64 16, H) ∧ vcall T ext promo n 27 [.int .i64 96] H = some (.int .i64 17, H) ∧ vcall T ext promo n 27 [.int .i64 92] H = some (.int .i64 18, H) := by
  obtain ⟨n, rfl⟩ : ∃ m, n = m + 1 := ⟨n - 1, by omega⟩
  refine ⟨?_, ?_, ?_, ?_⟩
  all_goals
    apply ok27
    unfold F27
    simp only [letH_mk, selC_eq, ieq_dec, show ((78 : Int) = 92) = False by simp, show ((78 : Int) = 93) = False by simp]
    simp
    exact leave_flat rfl rfl
theorem typedN_ok (n : Nat) (hn : 5 ≤ n) (w : Nat) (v : BitVec 64) (s : Bool) (H : VH) : vcall T ext promo n 17 [.agg (ndN w v s), env0] H = some (.tuple [.agg (tyN w v s), .agg fault0], H) := by
  obtain ⟨n, rfl⟩ : ∃ m, n = m + 1 := ⟨n - 1, by omega⟩
  apply ok17
  unfold F17
  simp only [KA, KB, KD, reduceCtorEq, if_false, if_true, ieq_dec]
  rw [if_neg (by decide), (operation_ok n (by omega) _).1]
  simp only [KA, KB, KD, reduceCtorEq, if_false, if_true]
  rw [if_pos (by decide), alone_ok n (by omega)]
  simp only [KA, KB, KD, reduceCtorEq, if_false, if_true]
  rw [back_pure (fun _ => rfl) rfl]
end
/- Widths: two numbers with their types; a sum of two. -/
section
set_option linter.unusedSectionVars false
set_option linter.unusedSimpArgs false
set_option linter.unusedVariables false
set_option maxRecDepth 10000
theorem sltT : SlT 71 73 16 := ⟨by kernel_rfl, ⟨Go.Proofs.Tryz.t73, by kernel_rfl, by kernel_rfl, by decide +kernel⟩, by kernel_rfl, by decide⟩
theorem typedAll_ok (n : Nat) (hn : 10 ≤ n) (w w' : Nat) (v v' : BitVec 64) (s s' : Bool) (c : Option Nat) {H : VH} (hH : H.Ok) : vcall T ext promo n 29 [.slice (some (.pur (ndN w v s ++ ndN w' v' s'), 0)) 2 c 10, env0] H = some (.tuple [.slice (some (.pur (tyN w v s ++ tyN w' v' s'), 0)) 2 none 16, .agg fault0], H) := by
  obtain ⟨n, rfl⟩ : ∃ m, n = m + 1 := ⟨n - 1, by omega⟩
  have a0 : vbuiltin T H.lo .append [71, 71] [nilS, .slice (some (.pur (tyN w v s), 0)) 1 (some 1) 16] = some (.slice (some (H.lo.next, 0)) 1 none 16, H.lo.freshT (tyN w v s) 73) :=
    app_slt sltT (len := 0) (n := 1) (new := tyN w v s) rfl rfl (by omega) (by omega) rfl rfl
  have o1 := freshT_ok (lo_ok hH) (tyN w v s) 73
  have t1 := freshT_tip (lo_ok hH) (tyN w v s) 73
  obtain ⟨H2, e2, t2, k2, o2, l2, n2⟩ := t1.append o1 16 1 1 (tyN w' v' s') rfl rfl
  have a1 : vbuiltin T (H.lo.freshT (tyN w v s) 73) .append [71, 71] [.slice (some (H.lo.next, 0)) 1 none 16, .slice (some (.pur (tyN w' v' s'), 0)) 1 (some 1) 16] = some (.slice (some ((H.lo.freshT (tyN w v s) 73).next, 0)) 2 none 16, H2) :=
    (app_slt sltT (len := 1) (n := 1) (new := tyN w' v' s') rfl rfl (by omega) (by omega) rfl rfl).trans e2
  apply ok29
  unfold F29
  simp only [letH_mk]
  obtain ⟨n, rfl⟩ : ∃ m, n = m + 3 := ⟨n - 3, by omega⟩
  have c0 : ∀ H : VH, H.cells (.pur (ndN w v s ++ ndN w' v' s')) (0 + (0 : Int).toNat * 10) 10 = some (ndN w v s) := fun _ => rfl
  have c1 : ∀ H : VH, H.cells (.pur (ndN w v s ++ ndN w' v' s')) (0 + (1 : Int).toNat * 10) 10 = some (ndN w' v' s') := fun _ => rfl
  rw [loopN_succ]
  generalize hlp : loopN (L29_0 (vcall T ext promo (n + 3)) (n + 3) _ _ _ _ _ _ _) (n + 2) = lp
  unfold L29_0
  simp only [KA, KB, KD, reduceCtorEq, if_false, if_true, Bool.and_eq_true]
  rw [if_pos (by omega), if_pos (by omega), c0]
  simp only [KA, KB, KD, reduceCtorEq, if_false, if_true]
  rw [typedN_ok _ (by omega)]
  simp only [KA, KB, KD, reduceCtorEq, if_false, if_true, ieq_dec]
  rw [a0]
  simp only [KA, KB, KD, reduceCtorEq, if_false, if_true, show fwrap .i64 (0 + 1) = 1 from rfl]
  rw [← hlp, loopN_succ]
  generalize hlp2 : loopN (L29_0 (vcall T ext promo (n + 3)) (n + 3) _ _ _ _ _ _ _) (n + 1) = lp2
  unfold L29_0
  simp only [KA, KB, KD, reduceCtorEq, if_false, if_true, Bool.and_eq_true]
  rw [if_pos (by omega), if_pos (by omega), c1]
  simp only [KA, KB, KD, reduceCtorEq, if_false, if_true]
  rw [typedN_ok _ (by omega)]
  simp only [KA, KB, KD, reduceCtorEq, if_false, if_true, ieq_dec]
  rw [a1]
  simp only [KA, KB, KD, reduceCtorEq, if_false, if_true, show fwrap .i64 (1 + 1) = 2 from rfl]
  rw [← hlp2, loopN_succ]
  generalize hlp3 : loopN (L29_0 (vcall T ext promo (n + 3)) (n + 3) _ _ _ _ _ _ _) n = lp3
  unfold L29_0
  simp only [KA, KB, KD, reduceCtorEq, if_false, if_true]
  rw [if_neg (by omega)]
  simp only [KA, KB, KD, reduceCtorEq, if_false, if_true]
  rw [back_row t2 o2 (by show H.next ≤ H.next + 1; omega) (by rw [l2]; show min H.next H.next = H.next; omega) (fun _ => rfl) (fun _ => rfl) rfl rfl]
end
/- Widths: a sum of two numbers. -/
section
set_option linter.unusedSectionVars false
set_option linter.unusedSimpArgs false
set_option linter.unusedVariables false
set_option maxRecDepth 10000
/-- The kinds of trees, and their operations. -/
def KindOp (k op : Int) : Prop := (k = 95 ∧ op = 16) ∨ (k = 96 ∧ op = 17) ∨ (k = 92 ∧ op = 18)
abbrev kids2 (w w' : Nat) (v v' : BitVec 64) (s : Bool) : AV := .slice (some (.pur (ndN w v s ++ ndN w' v' s), 0)) 2 (some 2) 10
/-- A sum, as a tree. -/
abbrev ndS (k : Int) (w w' : Nat) (v v' : BitVec 64) (s : Bool) : List AV := [.int .i64 k, .int .i64 0, .int .i64 0, .str (PS.of []), .str (PS.of []), .int .i64 0, .int .u64 0, .int .u64 0, .bool false, kids2 w w' v v' s]
abbrev tyS (op : Int) (w w' : Nat) (v v' : BitVec 64) (s : Bool) : List AV := [.int .i64 op, .int .i64 ((max w w' : Nat) : Int), .int .i64 0, .bool s, nilS, .slice (some (.pur (tyN w v s ++ tyN w' v' s), 0)) 2 none 16, .int .i64 0, .int .i64 0, .bool false, .int .i64 0, .int .u64 0, .int .u64 0, .int .i64 0, .bool false, .int .i64 0, nilS]
theorem imax_nat (w w' : Nat) : imax (w : Int) (w' : Int) = ((max w w' : Nat) : Int) := by
  unfold imax
  simp only [ilt_eq, decide_eq_true_eq]
  split <;> omega
theorem typedS_ok (n : Nat) (hn : 20 ≤ n) {k op : Int} (hk : KindOp k op) (w w' : Nat) (v v' : BitVec 64) (s : Bool) {H : VH} (hH : H.Ok) : vcall T ext promo n 17 [.agg (ndS k w w' v v' s), env0] H = some (.tuple [.agg (tyS op w w' v v' s), .agg fault0], H) := by
  obtain ⟨n, rfl⟩ : ∃ m, n = m + 1 := ⟨n - 1, by omega⟩
  obtain ⟨_, q1, q2, q3⟩ := operation_ok n (by omega) H.lo
  have c0 : ∀ H : VH, H.cells (.pur (tyN w v s ++ tyN w' v' s)) (0 + 1) 4 = some [.int .i64 (w : Int), .int .i64 0, .bool s, nilS] := fun _ => rfl
  have c1 : ∀ H : VH, H.cells (.pur (tyN w v s ++ tyN w' v' s)) (0 + (fwrap .i64 (((2 : Nat) : Int) - 1)).toNat * 16 + 1) 4 = some [.int .i64 (w' : Int), .int .i64 0, .bool s, nilS] := fun _ => rfl
  have f1 : fwrap .i64 (((2 : Nat) : Int) - 1) = 1 := rfl
  rcases hk with ⟨rfl, rfl⟩ | ⟨rfl, rfl⟩ | ⟨rfl, rfl⟩
  all_goals
    apply ok17
    unfold F17
    simp only [KA, KB, KD, reduceCtorEq, if_false, if_true, ieq_dec]
    rw [if_neg (by decide)]
    first | rw [q1] | rw [q2] | rw [q3]
    simp only [KA, KB, KD, reduceCtorEq, if_false, if_true]
    rw [if_neg (by decide), typedAll_ok n (by omega) w w' v v' s s (some 2) (lo_ok hH)]
    simp only [KA, KB, KD, reduceCtorEq, if_false, if_true, ieq_dec]
    rw [if_pos (by simp), c0]
    simp only [KA, KB, KD, reduceCtorEq, if_false, if_true]
    rw [if_pos (by rw [f1]; simp), c1]
    simp only [KA, KB, KD, reduceCtorEq, if_false, if_true, imax_nat]
    cases s
    all_goals
      simp only [KA, KB, KD, reduceCtorEq, if_false, if_true, ieq_dec]
      simp (config := { decide := true }) only [if_false, if_true, KA, KB, KD, reduceCtorEq, if_false, if_true]
      rw [back_pure (fun _ => rfl) rfl]
end
/- Widths: numbers and sums with other widths. -/
section
set_option linter.unusedSectionVars false
set_option linter.unusedSimpArgs false
set_option linter.unusedVariables false
set_option maxRecDepth 10000
/-- A number in w' bits. -/
def rz (w w' : Nat) (v : BitVec 64) (s : Bool) : BitVec 64 := if w = w' then v else wide w v s &&& bmask w'
theorem wide_zero (w : Nat) (s : Bool) : wide w 0#64 s = 0#64 := by
  unfold wide sint
  cases s <;> simp
theorem resizedN_ok (n : Nat) (hn : 50 ≤ n) {w w' : Nat} {v : BitVec 64} (s : Bool) (h : Vec w v 0#64) (hw : 1 ≤ w' ∧ w' ≤ 64) (H : VH) : vcall T ext promo n 30 [.agg (ce w v 0#64 s), .int .i64 (w' : Int), .bool s] H = some (.agg (ce w' (rz w w' v s) 0#64 s), H) := by
  obtain ⟨n, rfl⟩ : ∃ m, n = m + 1 := ⟨n - 1, by omega⟩
  apply ok30
  unfold F30
  simp only [KA, KB, KD, reduceCtorEq, if_false, if_true, ieq_dec]
  unfold rz
  by_cases e : w = w'
  · subst e
    rw [if_pos (show ((w : Int) = (w : Int)) from rfl), if_pos (show w = w from rfl), back_pure (fun _ => rfl) rfl]
  · rw [if_neg (show ¬ ((w : Int) = (w' : Int)) by omega), if_neg e]
    rw [resize_ok n (by omega) h hw s]
    simp only [KA, KB, KD, reduceCtorEq, if_false, if_true, wide_zero, BitVec.zero_and]
    rw [constant_ok n (by omega)]
    simp only [KA, KB, KD, reduceCtorEq, if_false, if_true]
    rw [back_pure (fun _ => rfl) rfl]
theorem inN_ok (n : Nat) (hn : 60 ≤ n) {w w' : Nat} {v : BitVec 64} (s : Bool) (h : Vec w v 0#64) (hw : 1 ≤ w' ∧ w' ≤ 64) (H : VH) : vcall T ext promo n 31 [.agg (tyN w v s), .int .i64 (w' : Int), .bool s] H = some (.agg (ce w' (rz w w' v s) 0#64 s), H) := by
  obtain ⟨n, rfl⟩ : ∃ m, n = m + 1 := ⟨n - 1, by omega⟩
  apply ok31
  unfold F31
  simp only [KA, KB, KD, reduceCtorEq, if_false, if_true]
  rw [if_pos (by decide), resizedN_ok n (by omega) s h hw]
  simp only [KA, KB, KD, reduceCtorEq, if_false, if_true]
  rw [back_pure (fun _ => rfl) rfl]
/-- A sum, as an expression. -/
abbrev exS (op : Int) (W w w' : Nat) (v v' : BitVec 64) (s : Bool) : List AV := [.int .i64 op, .int .i64 (W : Int), .bool s, .int .i64 0, .int .u64 0, .int .u64 0, .int .i64 0, .bool false, .int .i64 0] ++ [.slice (some (.pur (ce W (rz w W v s) 0#64 s ++ ce W (rz w' W v' s) 0#64 s), 0)) 2 none 10]
theorem sltE : SlT 36 38 10 := ⟨by kernel_rfl, ⟨Go.Proofs.Tryz.t38, by kernel_rfl, by kernel_rfl, by decide +kernel⟩, by kernel_rfl, by decide⟩
theorem inS_ok (n : Nat) (hn : 80 ≤ n) {op : Int} (hop : op = 16 ∨ op = 17 ∨ op = 18) {W w w' : Nat} {v v' : BitVec 64} (s : Bool) (h : Vec w v 0#64) (h' : Vec w' v' 0#64) (hw : 1 ≤ W ∧ W ≤ 64) {H : VH} (hH : H.Ok) :
    vcall T ext promo n 31 [.agg (tyS op w w' v v' s), .int .i64 (W : Int), .bool s] H = some (.agg (exS op W w w' v v' s), H) := by
  obtain ⟨n, rfl⟩ : ∃ m, n = m + 1 := ⟨n - 1, by omega⟩
  have a0 : vbuiltin T H.lo .append [36, 36] [nilS, .slice (some (.pur (ce W (rz w W v s) 0#64 s), 0)) 1 (some 1) 10] = some (.slice (some (H.lo.next, 0)) 1 none 10, H.lo.freshT (ce W (rz w W v s) 0#64 s) 38) :=
    app_slt sltE (len := 0) (n := 1) (new := ce W (rz w W v s) 0#64 s) rfl rfl (by omega) (by omega) rfl rfl
  have o1 := freshT_ok (lo_ok hH) (ce W (rz w W v s) 0#64 s) 38
  have t1 := freshT_tip (lo_ok hH) (ce W (rz w W v s) 0#64 s) 38
  obtain ⟨H2, e2, t2, k2, o2, l2, n2⟩ := t1.append o1 10 1 1 (ce W (rz w' W v' s) 0#64 s) rfl rfl
  have a1 : vbuiltin T (H.lo.freshT (ce W (rz w W v s) 0#64 s) 38) .append [36, 36] [.slice (some (H.lo.next, 0)) 1 none 10, .slice (some (.pur (ce W (rz w' W v' s) 0#64 s), 0)) 1 (some 1) 10] = some (.slice (some ((H.lo.freshT (ce W (rz w W v s) 0#64 s) 38).next, 0)) 2 none 10, H2) :=
    (app_slt sltE (len := 1) (n := 1) (new := ce W (rz w' W v' s) 0#64 s) rfl rfl (by omega) (by omega) rfl rfl).trans e2
  have c0 : ∀ H : VH, H.cells (.pur (tyN w v s ++ tyN w' v' s)) (0 + (0 : Int).toNat * 16) 16 = some (tyN w v s) := fun _ => rfl
  have c1 : ∀ H : VH, H.cells (.pur (tyN w v s ++ tyN w' v' s)) (0 + (1 : Int).toNat * 16) 16 = some (tyN w' v' s) := fun _ => rfl
  obtain ⟨n, rfl⟩ : ∃ m, n = m + 3 := ⟨n - 3, by omega⟩
  have hb := back_agg (H := H) (pre := [.int .i64 op, .int .i64 (W : Int), .bool s, .int .i64 0, .int .u64 0, .int .u64 0, .int .i64 0, .bool false, .int .i64 0]) (len := 2) (cap := none) (sz := 10) t2 (by show H.next ≤ H.next + 1; omega) (by rw [l2]; show min H.next H.next = H.next; omega) (fun _ => rfl) (fun x hx => by
    simp only [List.mem_cons, List.not_mem_nil, or_false] at hx
    rcases hx with rfl | rfl | rfl | rfl | rfl | rfl | rfl | rfl | rfl <;> exact fun _ => rfl) rfl rfl
  rcases hop with rfl | rfl | rfl
  all_goals
    apply ok31
    unfold F31
    simp only [KA, KB, KD, reduceCtorEq, if_false, if_true]
    rw [if_neg (by decide), loopN_succ]
    generalize hlp : loopN (L31_0 (vcall T ext promo (n + 3)) (n + 3) _ _ _ _ _) (n + 2) = lp
    unfold L31_0
    simp only [KA, KB, KD, reduceCtorEq, if_false, if_true, Bool.and_eq_true]
    rw [if_pos (by omega), if_pos (by omega), c0]
    simp only [KA, KB, KD, reduceCtorEq, if_false, if_true, ieq_dec]
    rw [if_neg (by decide), if_neg (by decide), if_neg (by decide), if_neg (by decide)]
    simp only [KA, KB, KD, reduceCtorEq, if_false, if_true]
    rw [inN_ok _ (by omega) s h hw]
    simp only [KA, KB, KD, reduceCtorEq, if_false, if_true]
    rw [a0]
    simp only [KA, KB, KD, reduceCtorEq, if_false, if_true, show fwrap .i64 (0 + 1) = 1 from rfl]
    rw [← hlp, loopN_succ]
    generalize hlp2 : loopN (L31_0 (vcall T ext promo (n + 3)) (n + 3) _ _ _ _ _) (n + 1) = lp2
    unfold L31_0
    simp only [KA, KB, KD, reduceCtorEq, if_false, if_true, Bool.and_eq_true]
    rw [if_pos (by omega), if_pos (by omega), c1]
    simp only [KA, KB, KD, reduceCtorEq, if_false, if_true, ieq_dec]
    rw [if_neg (by decide), if_neg (by decide), if_neg (by decide), if_neg (by decide)]
    simp only [KA, KB, KD, reduceCtorEq, if_false, if_true]
    rw [inN_ok _ (by omega) s h' hw]
    simp only [KA, KB, KD, reduceCtorEq, if_false, if_true]
    rw [a1]
    simp only [KA, KB, KD, reduceCtorEq, if_false, if_true, show fwrap .i64 (1 + 1) = 2 from rfl]
    rw [← hlp2, loopN_succ]
    generalize hlp3 : loopN (L31_0 (vcall T ext promo (n + 3)) (n + 3) _ _ _ _ _) n = lp3
    unfold L31_0
    simp only [KA, KB, KD, reduceCtorEq, if_false, if_true]
    rw [if_neg (by omega)]
    simp only [KA, KB, KD, reduceCtorEq, if_false, if_true, ieq_dec]
    rw [if_neg (by decide)]
    simp only [KA, KB, KD, reduceCtorEq, if_false, if_true]
    exact congrArg some hb
end
/- Widths: Assigned; the value of a sum. -/
section
set_option linter.unusedSectionVars false
set_option linter.unusedSimpArgs false
set_option linter.unusedVariables false
set_option maxRecDepth 10000
theorem assignedS_ok (n : Nat) (hn : 90 ≤ n) {op : Int} (hop : op = 16 ∨ op = 17 ∨ op = 18) {w w' : Nat} {v v' : BitVec 64} (s : Bool) (h : Vec w v 0#64) (h' : Vec w' v' 0#64) (h8 : w ≤ 20 ∧ w' ≤ 20) {H : VH} (hH : H.Ok) :
    vcall T ext promo n 18 [.agg (tyS op w w' v v' s), .int .i64 20] H = some (.agg (exS op 20 w w' v v' s), H) := by
  obtain ⟨n, rfl⟩ : ∃ m, n = m + 1 := ⟨n - 1, by omega⟩
  apply ok18
  unfold F18
  have hm : imax ((max w w' : Nat) : Int) 20 = ((20 : Nat) : Int) := by
    rw [show (20 : Int) = ((20 : Nat) : Int) from rfl, imax_nat]
    omega
  have e1 := inS_ok n (by omega) hop (W := 20) s h h' (by omega) (lo_ok hH)
  have e2 : vcall T ext promo n 30 [.agg (exS op 20 w w' v v' s), .int .i64 20, .bool s] H.lo = some (.agg (exS op 20 w w' v v' s), H.lo) := by
    obtain ⟨n, rfl⟩ : ∃ m, n = m + 1 := ⟨n - 1, by omega⟩
    apply ok30
    unfold F30
    simp only [KA, KB, KD, reduceCtorEq, if_false, if_true, ieq_dec]
    rw [if_pos (by decide)]
    exact congrArg some (back_pure (fun _ => rfl) rfl)
  simp only [letH_mk, hm]
  rw [e1]
  simp only [KA, KB, KD, reduceCtorEq, if_false, if_true, List.cons_append, List.nil_append]
  have e2' := e2
  simp only [exS, List.cons_append, List.nil_append] at e2'
  rw [e2']
  simp only [KA, KB, KD, reduceCtorEq, if_false, if_true]
  exact congrArg some (back_pure (fun _ => rfl) rfl)
theorem Assigned_ok (n : Nat) (hn : 100 ≤ n) {k op : Int} (hk : KindOp k op) {w w' : Nat} {v v' : BitVec 64} (s : Bool) (h : Vec w v 0#64) (h' : Vec w' v' 0#64) (h8 : w ≤ 20 ∧ w' ≤ 20) {H : VH} (hH : H.Ok) :
    vcall T ext promo n 8 [.agg (ndS k w w' v v' s), env0, .int .i64 20] H = some (.tuple [.agg (exS op 20 w w' v v' s), .agg fault0], H) := by
  obtain ⟨n, rfl⟩ : ∃ m, n = m + 1 := ⟨n - 1, by omega⟩
  have hop : op = 16 ∨ op = 17 ∨ op = 18 := by rcases hk with ⟨_, h⟩ | ⟨_, h⟩ | ⟨_, h⟩ <;> simp [h]
  apply ok8
  unfold F8
  simp only [letH_mk]
  rw [typedS_ok n (by omega) hk w w' v v' s (lo_ok hH)]
  have e := assignedS_ok n (by omega) hop s h h' h8 (lo_ok hH)
  simp only [exS, List.cons_append, List.nil_append] at e
  simp only [KA, KB, KD, reduceCtorEq, if_false, if_true, ieq_dec]
  rw [e]
  simp only [KA, KB, KD, reduceCtorEq, if_false, if_true]
  exact congrArg some (back_pure (fun _ => rfl) rfl)
end
/- Evaluation: the value of a sum of two constants. -/
section
set_option linter.unusedSectionVars false
set_option linter.unusedSimpArgs false
set_option linter.unusedVariables false
set_option maxRecDepth 10000
def opv (op : Int) (v v' : BitVec 64) : BitVec 64 := if op = 16 then v + v' else if op = 17 then v - v' else v * v'
theorem two_ok (n : Nat) (hn : 60 ≤ n) {op : Int} (hop : op = 16 ∨ op = 17 ∨ op = 18) {w : Nat} {v v' : BitVec 64} (h : Vec w v 0#64) (h' : Vec w v' 0#64) (H : VH) :
    vcall T ext promo n 125 [.int .i64 op, bv w v 0#64, bv w v' 0#64] H = some (bv w (opv op v v' &&& bmask w) 0#64, H) := by
  obtain ⟨n, rfl⟩ : ∃ m, n = m + 1 := ⟨n - 1, by omega⟩
  rcases hop with rfl | rfl | rfl
  all_goals
    apply ok125
    unfold F125
    simp only [KA, KB, KD, reduceCtorEq, if_false, if_true, ieq_dec, Int.reduceEq, decide_false, decide_true]
    first | rw [add_ok n (by omega) h h'] | rw [sub_ok n (by omega) h h'] | rw [mul_ok n (by omega) h h']
    simp only [KA, KB, KD, reduceCtorEq, if_false, if_true]
    rw [leave_flat rfl rfl]
    rfl
theorem apply_ok (n : Nat) (hn : 70 ≤ n) {op : Int} (hop : op = 16 ∨ op = 17 ∨ op = 18) {W w w' : Nat} {u u' v v' : BitVec 64} (s : Bool) (h : Vec W u 0#64) (h' : Vec W u' 0#64) {H : VH} {b : Nat} {kd : AV} {ka : Option (Bk × Nat)} {kk : Nat} {kc : Option Nat} {ke : Nat}
    (h0 : H.cells b 0 3 = some [.int .i64 (W : Int), .int .u64 (u64 u), .int .u64 (u64 0#64)]) (h3 : H.cells b (0 + 3) 3 = some [.int .i64 (W : Int), .int .u64 (u64 u'), .int .u64 (u64 0#64)]) :
    vcall T ext promo n 74 [.agg [.int .i64 op, .int .i64 (W : Int), .bool s, .int .i64 0, .int .u64 0, .int .u64 0, .int .i64 0, .bool false, .int .i64 0, .slice ka kk kc ke], .slice (some (b, 0)) 2 none 3] H = some (bv W (opv op u u' &&& bmask W) 0#64, H) := by
  obtain ⟨n, rfl⟩ : ∃ m, n = m + 1 := ⟨n - 1, by omega⟩
  have g0 : H.lo.cells b 0 3 = some [.int .i64 (W : Int), .int .u64 (u64 u), .int .u64 (u64 0#64)] := h0
  have g3 : H.lo.cells b (0 + 3) 3 = some [.int .i64 (W : Int), .int .u64 (u64 u'), .int .u64 (u64 0#64)] := h3
  rcases hop with rfl | rfl | rfl
  all_goals
    apply ok74
    unfold F74
    simp only [KA, KB, KD, reduceCtorEq, if_false, if_true, ieq_dec, Int.reduceEq, decide_false, decide_true]
    rw [if_neg (by decide), if_pos (by decide), g0]
    simp only [KA, KB, KD, reduceCtorEq, if_false, if_true]
    rw [if_pos (by decide), g3]
    simp only [KA, KB, KD, reduceCtorEq, if_false, if_true]
    first | rw [two_ok n (by omega) (.inl rfl) h h'] | rw [two_ok n (by omega) (.inr (.inl rfl)) h h'] | rw [two_ok n (by omega) (.inr (.inr rfl)) h h']
    simp only [KA, KB, KD, reduceCtorEq, if_false, if_true]
    rw [leave_flat rfl rfl]
theorem exprN_ok (n : Nat) (hn : 1 ≤ n) (p : Option (Bk × Nat)) (w : Nat) (v : BitVec 64) (s : Bool) (H : VH) : vcall T ext promo n 35 [.ptr p, .agg (ce w v 0#64 s)] H = some (bv w v 0#64, H) := by
  obtain ⟨n, rfl⟩ : ∃ m, n = m + 1 := ⟨n - 1, by omega⟩
  apply ok35
  unfold F35
  simp only [KA, KB, KD, reduceCtorEq, if_false, if_true, ieq_dec, decide_true]
  exact congrArg some (by rw [leave_flat rfl rfl])
end
/- Evaluation: the value of a sum in a wider context. -/
section
set_option linter.unusedSectionVars false
set_option linter.unusedSimpArgs false
set_option linter.unusedVariables false
set_option maxRecDepth 10000
theorem sltB : SlT 140 29 3 := ⟨by kernel_rfl, ⟨Go.Proofs.Tryz.t29, by kernel_rfl, by kernel_rfl, by decide +kernel⟩, by kernel_rfl, by decide⟩
theorem rz_vec {w W : Nat} {v : BitVec 64} (s : Bool) (h : Vec w v 0#64) (hw : 1 ≤ W ∧ W ≤ 64) : Vec W (rz w W v s) 0#64 := by
  unfold rz
  split
  · rename_i e
    subst e
    exact h
  · exact of_vec hw _
abbrev bl (w : Nat) (v : BitVec 64) : List AV := [.int .i64 (w : Int), .int .u64 (u64 v), .int .u64 (u64 0#64)]
theorem exprS_ok (n : Nat) (hn : 90 ≤ n) (p : Option (Bk × Nat)) {op : Int} (hop : op = 16 ∨ op = 17 ∨ op = 18) {W w w' : Nat} {v v' : BitVec 64} (s : Bool) (h : Vec w v 0#64) (h' : Vec w' v' 0#64) (hw : 1 ≤ W ∧ W ≤ 64) {H : VH} (hH : H.Ok) :
    vcall T ext promo n 35 [.ptr p, .agg (exS op W w w' v v' s)] H = some (bv W (opv op (rz w W v s) (rz w' W v' s) &&& bmask W) 0#64, H) := by
  obtain ⟨n, rfl⟩ : ∃ m, n = m + 1 := ⟨n - 1, by omega⟩
  have g := rz_vec s h hw
  have g' := rz_vec s h' hw
  unfold exS
  generalize hu : rz w W v s = u at *
  generalize hu' : rz w' W v' s = u' at *
  have a0 : vbuiltin T H.lo .append [140, 140] [nilS, .slice (some (.pur (bl W u), 0)) 1 (some 1) 3] = some (.slice (some (H.lo.next, 0)) 1 none 3, H.lo.freshT (bl W u) 29) :=
    app_slt sltB (len := 0) (n := 1) (new := bl W u) rfl rfl (by omega) (by omega) rfl rfl
  have o1 := freshT_ok (lo_ok hH) (bl W u) 29
  have t1 := freshT_tip (lo_ok hH) (bl W u) 29
  obtain ⟨H2, e2, t2, k2, o2, l2, n2⟩ := t1.append o1 3 1 1 (bl W u') rfl rfl
  have a1 : vbuiltin T (H.lo.freshT (bl W u) 29) .append [140, 140] [.slice (some (H.lo.next, 0)) 1 none 3, .slice (some (.pur (bl W u'), 0)) 1 (some 1) 3] = some (.slice (some ((H.lo.freshT (bl W u) 29).next, 0)) 2 none 3, H2) :=
    (app_slt sltB (len := 1) (n := 1) (new := bl W u') rfl rfl (by omega) (by omega) rfl rfl).trans e2
  have c0 : ∀ H : VH, H.cells (.pur (ce W u 0#64 s ++ ce W u' 0#64 s)) (0 + (0 : Int).toNat * 10) 10 = some (ce W u 0#64 s) := fun _ => rfl
  have c1 : ∀ H : VH, H.cells (.pur (ce W u 0#64 s ++ ce W u' 0#64 s)) (0 + (1 : Int).toNat * 10) 10 = some (ce W u' 0#64 s) := fun _ => rfl
  have q0 : H2.cells ((H.lo.freshT (bl W u) 29).next : Nat) 0 3 = some (bl W u) := t2.cells 0 3 (by simp)
  have q3 : H2.cells ((H.lo.freshT (bl W u) 29).next : Nat) (0 + 3) 3 = some (bl W u') := t2.cells (0 + 3) 3 (by simp)
  obtain ⟨n, rfl⟩ : ∃ m, n = m + 3 := ⟨n - 3, by omega⟩
  have e3 := apply_ok (n + 3) (by omega) hop (w := w) (w' := w') (v := v) (v' := v') s g g' (kd := nilS) (ka := some (.pur (ce W u 0#64 s ++ ce W u' 0#64 s), 0)) (kk := 2) (kc := none) (ke := 10) q0 q3
  rcases hop with rfl | rfl | rfl
  all_goals
    apply ok35
    unfold F35
    simp only [KA, KB, KD, reduceCtorEq, if_false, if_true, ieq_dec, Int.reduceEq, decide_false, decide_true]
    rw [loopN_succ]
    generalize hlp : loopN (L35_0 (vcall T ext promo (n + 3)) (n + 3) _ _ _) (n + 2) = lp
    unfold L35_0
    simp only [KA, KB, KD, reduceCtorEq, if_false, if_true, Bool.and_eq_true]
    rw [if_pos (by omega), if_pos (by omega), c0]
    simp only [KA, KB, KD, reduceCtorEq, if_false, if_true]
    rw [exprN_ok _ (by omega)]
    simp only [KA, KB, KD, reduceCtorEq, if_false, if_true]
    rw [a0]
    simp only [KA, KB, KD, reduceCtorEq, if_false, if_true, show fwrap .i64 (0 + 1) = 1 from rfl]
    rw [← hlp, loopN_succ]
    generalize hlp2 : loopN (L35_0 (vcall T ext promo (n + 3)) (n + 3) _ _ _) (n + 1) = lp2
    unfold L35_0
    simp only [KA, KB, KD, reduceCtorEq, if_false, if_true, Bool.and_eq_true]
    rw [if_pos (by omega), if_pos (by omega), c1]
    simp only [KA, KB, KD, reduceCtorEq, if_false, if_true]
    rw [exprN_ok _ (by omega)]
    simp only [KA, KB, KD, reduceCtorEq, if_false, if_true]
    rw [a1]
    simp only [KA, KB, KD, reduceCtorEq, if_false, if_true, show fwrap .i64 (1 + 1) = 2 from rfl]
    rw [← hlp2, loopN_succ]
    generalize hlp3 : loopN (L35_0 (vcall T ext promo (n + 3)) (n + 3) _ _ _) n = lp3
    unfold L35_0
    simp only [KA, KB, KD, reduceCtorEq, if_false, if_true]
    rw [if_neg (by omega)]
    simp only [KA, KB, KD, reduceCtorEq, if_false, if_true]
    rw [e3]
    simp only [KA, KB, KD, reduceCtorEq, if_false, if_true]
    rw [leave_flat (by rw [l2]; show min H.next H.next = H.next; omega) rfl]
end
end Go.Vm.Tryz
