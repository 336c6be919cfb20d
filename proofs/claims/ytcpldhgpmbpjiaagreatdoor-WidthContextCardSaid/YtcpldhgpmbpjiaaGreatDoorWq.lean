/- Merged texts: WidthQ WidthR WidthS WidthT WidthU WidthV. -/
import Derived.Test.YtcpldhgpmbpjiaaGreatDoorWh
import Derived.Test.YtcpldhgpmbpjiaaGreatDoorW4
namespace Go.Vm.Tryz
/- fold.Value at a sum: the tree is valid. -/
section
set_option linter.unusedSectionVars false
set_option linter.unusedSimpArgs false
set_option linter.unusedVariables false
set_option maxRecDepth 10000
/-- The variable MaxLen holds a number. -/
def Mx (H : VH) : Prop := 0 < H.next ∧ ∃ m, H.cell (.blk 0) 0 = some (.int .i64 m)
theorem Mx.keep {S : Nat → Prop} {H H' : VH} (h : Mx H) (hH : H.Ok) (k : Keep S H H') (hs : ¬ S 0) : Mx H' := by
  obtain ⟨h1, m, h2⟩ := h
  exact ⟨Nat.lt_of_lt_of_le h1 k.next, m, by rw [keep_cell k hH h1 hs]; exact h2⟩
theorem Mx.lo {H : VH} (h : Mx H) : Mx H.lo := h
theorem slite_ok (n : Nat) (hn : 1 ≤ n) (l p : List UInt8) (hl : l.length < 100000) {H : VH} (hm : Mx H) : vcall T ext promo n 200 [.str (PS.of l), .str (PS.of p)] H = some (.int .i64 (Lib.index l p), H) := by
  obtain ⟨n, rfl⟩ : ∃ m, n = m + 1 := ⟨n - 1, by omega⟩
  obtain ⟨_, m, hm⟩ := hm
  refine call_ext (g := xIndexS 0) rfl ?_
  have : Nat.blt (PS.of l).len 4294967281 = true := by rw [blt_eq]; exact decide_eq_true (by rw [of_len]; omega)
  simp only [xIndexS, hm, this, bytes_back]
theorem sindex_ok (n : Nat) (hn : 5 ≤ n) (l p : List UInt8) (hl : l.length < 100000) {H : VH} (hm : Mx H) : vcall T ext promo n 134 [.str (PS.of l), .str (PS.of p)] H = some (.int .i64 (Lib.index l p), H) := by
  obtain ⟨n, rfl⟩ : ∃ m, n = m + 1 := ⟨n - 1, by omega⟩
  apply ok134
  unfold F134
  simp only [letH_mk]
  rw [slite_ok n (by omega) l p hl hm.lo]
  simp only [KA, KB, KD, reduceCtorEq, if_false, if_true]
  rw [leave_flat rfl rfl]
theorem contains_ok (n : Nat) (hn : 6 ≤ n) (l p : List UInt8) (hl : l.length < 100000) {H : VH} (hm : Mx H) : vcall T ext promo n 197 [.str (PS.of l), .str (PS.of p)] H = some (.bool (ile 0 (Lib.index l p)), H) := by
  obtain ⟨n, rfl⟩ : ∃ m, n = m + 1 := ⟨n - 1, by omega⟩
  apply ok197
  unfold F197
  simp only [letH_mk]
  rw [sindex_ok n (by omega) l p hl hm.lo]
  simp only [bindC_mk, asI_mk]
  rw [leave_flat rfl rfl]
theorem sIndexByte_ok (n : Nat) (hn : 3 ≤ n) (s : PS) (c : Int) (H : VH) : vcall T ext promo n 94 [.str s, .int .u8 c] H = some (.int .i64 (idxN s.bytes (c.toNat % 256)), H) := by
  obtain ⟨n, rfl⟩ : ∃ m, n = m + 3 := ⟨n - 3, by omega⟩
  have e0 : ∀ H, vcall T ext promo (n + 1) 206 [.str s, .int .u8 c] H = some (.int .i64 (idxN s.bytes (c.toNat % 256)), H) := fun H => call_ext (g := fun _ => xIndexByte) rfl rfl
  have e1 : ∀ H, vcall T ext promo (n + 2) 149 [.str s, .int .u8 c] H = some (.int .i64 (idxN s.bytes (c.toNat % 256)), H) := fun H => by
    apply ok149
    unfold F149
    simp only [letH_mk, e0, bindC_mk, asI_mk]
    rw [leave_flat rfl rfl]
  apply ok94
  unfold F94
  simp only [letH_mk, e1, bindC_mk, asI_mk]
  rw [leave_flat rfl rfl]
/-- What the shapes say of numbers and sums. -/
structure Shp (cs : List AV) : Prop where
  n0 : cs[0 + 78 * 3]? = some (.str (PS.of [69, 117]))
  n1 : cs[0 + 78 * 3 + 1]? = some (.str (PS.of []))
  n2 : cs[0 + 78 * 3 + 2]? = some (.str (PS.of [86]))
  s0 : ∀ k : Nat, k = 95 ∨ k = 96 ∨ k = 92 → cs[0 + k * 3]? = some (.str (PS.of [69, 117]))
  s1 : ∀ k : Nat, k = 95 ∨ k = 96 ∨ k = 92 → cs[0 + k * 3 + 1]? = some (.str (PS.of [69, 69]))
  s2 : ∀ k : Nat, k = 95 ∨ k = 96 ∨ k = 92 → cs[0 + k * 3 + 2]? = some (.str (PS.of []))
/-- All shapes. -/
def shp : List AV := [.str (PS.of [45]), .str (PS.of []), .str (PS.of []), .str (PS.of [70]), .str (PS.of [73, 42]), .str (PS.of []), .str (PS.of [73]), .str (PS.of [112, 113, 98]), .str (PS.of [78]), .str (PS.of [73]), .str (PS.of [112, 105]), .str (PS.of [78]), .str (PS.of [112]), .str (PS.of [80, 42]), .str (PS.of []), .str (PS.of [80]), .str (PS.of [69]), .str (PS.of [78]), .str (PS.of [113]), .str (PS.of [81, 42]), .str (PS.of []), .str (PS.of [81]), .str (PS.of [84]), .str (PS.of [78]), .str (PS.of [81]), .str (PS.of [84]), .str (PS.of [78]), .str (PS.of [81]), .str (PS.of [84, 69, 63]), .str (PS.of [78]), .str (PS.of [81]), .str (PS.of [110, 110]), .str (PS.of [78]), .str (PS.of [98]), .str (PS.of [77, 42]), .str (PS.of []), .str (PS.of [105]), .str (PS.of [86, 42]), .str (PS.of []), .str (PS.of [110]), .str (PS.of []), .str (PS.of [78]), .str (PS.of [84]), .str (PS.of [82, 63]), .str (PS.of [83]), .str (PS.of [84]), .str (PS.of []), .str (PS.of [78]), .str (PS.of [82]), .str (PS.of [69, 69]), .str (PS.of []), .str (PS.of [77, 86]), .str (PS.of [84, 68, 43]), .str (PS.of []), .str (PS.of [77, 118]), .str (PS.of [84, 68, 43]), .str (PS.of []), .str (PS.of [68]), .str (PS.of [82, 63, 69, 63]), .str (PS.of [78]), .str (PS.of [73, 77]), .str (PS.of [69]), .str (PS.of [78]), .str (PS.of [73, 77]), .str (PS.of [82, 109, 43]), .str (PS.of [78]), .str (PS.of [109]), .str (PS.of [69, 63]), .str (PS.of [78]), .str (PS.of [73, 77]), .str (PS.of [102, 43]), .str (PS.of [78]), .str (PS.of [102]), .str (PS.of [84]), .str (PS.of [78]), .str (PS.of [86]), .str (PS.of [100, 43]), .str (PS.of [78]), .str (PS.of [100]), .str (PS.of []), .str (PS.of [78]), .str (PS.of [100]), .str (PS.of []), .str (PS.of [78]), .str (PS.of [73, 77]), .str (PS.of [84, 97, 104]), .str (PS.of [78]), .str (PS.of [97]), .str (PS.of [103, 42]), .str (PS.of []), .str (PS.of [103]), .str (PS.of [84]), .str (PS.of [78]), .str (PS.of [104]), .str (PS.of [118, 42, 83, 42]), .str (PS.of []), .str (PS.of [77]), .str (PS.of [116, 69]), .str (PS.of []), .str (PS.of [77]), .str (PS.of [83]), .str (PS.of []), .str (PS.of [77]), .str (PS.of [101, 83]), .str (PS.of []), .str (PS.of [77]), .str (PS.of [83]), .str (PS.of []), .str (PS.of [77]), .str (PS.of [83]), .str (PS.of []), .str (PS.of [101]), .str (PS.of [71, 43]), .str (PS.of []), .str (PS.of [71]), .str (PS.of [116]), .str (PS.of []), .str (PS.of [71]), .str (PS.of [116]), .str (PS.of []), .str (PS.of [71]), .str (PS.of [116]), .str (PS.of []), .str (PS.of [77]), .str (PS.of [110, 120, 120]), .str (PS.of [78]), .str (PS.of [77]), .str (PS.of [110, 120]), .str (PS.of [78]), .str (PS.of [120]), .str (PS.of [66, 42]), .str (PS.of []), .str (PS.of [66]), .str (PS.of [69]), .str (PS.of [78]), .str (PS.of [77]), .str (PS.of [110, 69, 69, 98]), .str (PS.of [78]), .str (PS.of [77, 119]), .str (PS.of [69, 98, 119, 63]), .str (PS.of [78]), .str (PS.of [119]), .str (PS.of [98]), .str (PS.of [78]), .str (PS.of [77]), .str (PS.of [116, 88, 88]), .str (PS.of [78]), .str (PS.of [77]), .str (PS.of [116, 88, 88]), .str (PS.of [78]), .str (PS.of [88]), .str (PS.of [69]), .str (PS.of []), .str (PS.of [88]), .str (PS.of [88, 69, 117, 63, 88]), .str (PS.of []), .str (PS.of [88]), .str (PS.of [88, 43]), .str (PS.of []), .str (PS.of [88]), .str (PS.of [88, 88]), .str (PS.of []), .str (PS.of [88]), .str (PS.of [88, 69, 117, 63]), .str (PS.of []), .str (PS.of [117]), .str (PS.of []), .str (PS.of []), .str (PS.of [83]), .str (PS.of [83, 42]), .str (PS.of []), .str (PS.of [83]), .str (PS.of [69, 83, 83, 63]), .str (PS.of []), .str (PS.of [83]), .str (PS.of [69, 67, 42]), .str (PS.of []), .str (PS.of [83]), .str (PS.of [69, 67, 42]), .str (PS.of []), .str (PS.of [83]), .str (PS.of [69, 67, 42]), .str (PS.of []), .str (PS.of [67]), .str (PS.of [69, 42, 83]), .str (PS.of []), .str (PS.of [83]), .str (PS.of [69, 83]), .str (PS.of []), .str (PS.of [83]), .str (PS.of [69, 83]), .str (PS.of []), .str (PS.of [83]), .str (PS.of [69, 69, 83]), .str (PS.of [78]), .str (PS.of [83]), .str (PS.of [69, 69, 83]), .str (PS.of [78]), .str (PS.of [83]), .str (PS.of [116, 69, 69, 63]), .str (PS.of []), .str (PS.of [83]), .str (PS.of [116, 69, 69, 63]), .str (PS.of []), .str (PS.of [83]), .str (PS.of [69]), .str (PS.of []), .str (PS.of [83]), .str (PS.of [101]), .str (PS.of []), .str (PS.of [83]), .str (PS.of [69]), .str (PS.of []), .str (PS.of [83]), .str (PS.of [69, 42]), .str (PS.of [88]), .str (PS.of [83]), .str (PS.of [69, 42]), .str (PS.of [88]), .str (PS.of [83]), .str (PS.of [69, 42]), .str (PS.of [88]), .str (PS.of [83]), .str (PS.of [69, 42]), .str (PS.of [88]), .str (PS.of [83]), .str (PS.of [69]), .str (PS.of [88]), .str (PS.of [83]), .str (PS.of []), .str (PS.of []), .str (PS.of [83]), .str (PS.of []), .str (PS.of []), .str (PS.of [69, 117]), .str (PS.of []), .str (PS.of [86]), .str (PS.of [69, 117, 116]), .str (PS.of []), .str (PS.of [78]), .str (PS.of [69, 117, 116]), .str (PS.of [69]), .str (PS.of [78]), .str (PS.of [69, 117, 116]), .str (PS.of [69, 69]), .str (PS.of []), .str (PS.of [69, 117, 116]), .str (PS.of [69, 69, 69]), .str (PS.of []), .str (PS.of [69, 117, 116]), .str (PS.of [69, 69, 69]), .str (PS.of []), .str (PS.of [69, 117]), .str (PS.of [69, 42]), .str (PS.of [78]), .str (PS.of [69, 117]), .str (PS.of [69]), .str (PS.of []), .str (PS.of [69, 117]), .str (PS.of [69]), .str (PS.of []), .str (PS.of [69, 117]), .str (PS.of [69]), .str (PS.of []), .str (PS.of [69, 117]), .str (PS.of [69]), .str (PS.of []), .str (PS.of [69, 117]), .str (PS.of [69]), .str (PS.of []), .str (PS.of [69, 117]), .str (PS.of [69]), .str (PS.of []), .str (PS.of [69, 117]), .str (PS.of [69]), .str (PS.of []), .str (PS.of [69, 117]), .str (PS.of [69, 69]), .str (PS.of []), .str (PS.of [69, 117]), .str (PS.of [69, 69]), .str (PS.of []), .str (PS.of [69, 117]), .str (PS.of [69, 69]), .str (PS.of []), .str (PS.of [69, 117]), .str (PS.of [69, 69]), .str (PS.of []), .str (PS.of [69, 117]), .str (PS.of [69, 69]), .str (PS.of []), .str (PS.of [69, 117]), .str (PS.of [69, 69]), .str (PS.of []), .str (PS.of [69, 117]), .str (PS.of [69, 69]), .str (PS.of []), .str (PS.of [69, 117]), .str (PS.of [69, 69]), .str (PS.of []), .str (PS.of [69, 117]), .str (PS.of [69, 69]), .str (PS.of []), .str (PS.of [69, 117]), .str (PS.of [69, 69]), .str (PS.of []), .str (PS.of [69, 117]), .str (PS.of [69, 69]), .str (PS.of []), .str (PS.of [69, 117]), .str (PS.of [69, 69]), .str (PS.of []), .str (PS.of [69, 117]), .str (PS.of [69, 69]), .str (PS.of []), .str (PS.of [69, 117]), .str (PS.of [69, 69]), .str (PS.of []), .str (PS.of [69, 117]), .str (PS.of [69, 69]), .str (PS.of []), .str (PS.of [69, 117]), .str (PS.of [69, 69]), .str (PS.of []), .str (PS.of [69, 117]), .str (PS.of [69, 69]), .str (PS.of []), .str (PS.of [69, 117]), .str (PS.of [69, 69]), .str (PS.of []), .str (PS.of [69, 117]), .str (PS.of [69, 69]), .str (PS.of []), .str (PS.of [69, 117]), .str (PS.of [69, 69]), .str (PS.of []), .str (PS.of [69, 117]), .str (PS.of [69, 69]), .str (PS.of []), .str (PS.of [69, 117]), .str (PS.of [69, 69, 69]), .str (PS.of []), .str (PS.of [69, 117, 116]), .str (PS.of [69, 43]), .str (PS.of []), .str (PS.of [69, 117]), .str (PS.of [69, 69]), .str (PS.of []), .str (PS.of [69, 117]), .str (PS.of [69]), .str (PS.of []), .str (PS.of [69, 117]), .str (PS.of [69]), .str (PS.of []), .str (PS.of [69, 117]), .str (PS.of [69, 69]), .str (PS.of []), .str (PS.of [69, 117]), .str (PS.of [69]), .str (PS.of []), .str (PS.of [69, 117]), .str (PS.of [69]), .str (PS.of []), .str (PS.of [69, 117]), .str (PS.of []), .str (PS.of [])]
theorem shp_ok : Shp shp := by
  refine ⟨rfl, rfl, rfl, fun k hk => ?_, fun k hk => ?_, fun k hk => ?_⟩
  all_goals rcases hk with rfl | rfl | rfl <;> rfl
theorem shapes_ok (n : Nat) (hn : 1 ≤ n) (H : VH) : vcall T ext promo n 77 [] H = some (.slice (some (.pur shp, 0)) 122 (some 122) 3, H) := by
  obtain ⟨n, rfl⟩ : ∃ m, n = m + 1 := ⟨n - 1, by omega⟩
  apply ok77
  unfold F77
  simp only [letH_mk]
  exact congrArg some (back_pure (v := .slice (some (.pur shp, 0)) 122 (some 122) 3) (fun _ => rfl) rfl)
end
/- fold.Value at a sum: the tree is valid. -/
section
set_option linter.unusedSectionVars false
set_option linter.unusedSimpArgs false
set_option linter.unusedVariables false
set_option maxRecDepth 10000
theorem hasN_ok (n : Nat) (hn : 4 ≤ n) (H : VH) : vcall T ext promo n 126 [.slice (some (.pur shp, 0)) 122 (some 122) 3, .int .i64 78, .int .u8 69] H = some (.bool true, H) := by
  obtain ⟨n, rfl⟩ : ∃ m, n = m + 1 := ⟨n - 1, by omega⟩
  have c0 : ∀ H : VH, H.cell (.pur shp) (0 + (78 : Int).toNat * 3) = some (.str (PS.of [69, 117])) := fun _ => shp_ok.n0
  apply ok126
  unfold F126
  simp only [KA, KB, KD, reduceCtorEq, if_false, if_true, Bool.and_eq_true]
  rw [if_pos (by decide), if_pos (by decide), if_pos (by decide), c0]
  simp only [KA, KB, KD, reduceCtorEq, if_false, if_true]
  rw [sIndexByte_ok n (by omega)]
  simp only [bindC_mk, asI_mk]
  rw [leave_flat rfl rfl]
  rfl
theorem hasS_ok (n : Nat) (hn : 4 ≤ n) {k op : Int} (hk : KindOp k op) (H : VH) : vcall T ext promo n 126 [.slice (some (.pur shp, 0)) 122 (some 122) 3, .int .i64 k, .int .u8 69] H = some (.bool true, H) := by
  obtain ⟨n, rfl⟩ : ∃ m, n = m + 1 := ⟨n - 1, by omega⟩
  have c0 : ∀ k : Nat, k = 95 ∨ k = 96 ∨ k = 92 → ∀ H : VH, H.cell (.pur shp) (0 + (k : Int).toNat * 3) = some (.str (PS.of [69, 117])) := fun k hk _ => shp_ok.s0 k hk
  rcases hk with ⟨rfl, _⟩ | ⟨rfl, _⟩ | ⟨rfl, _⟩
  all_goals
    have d0 : ∀ H : VH, H.cell (.pur shp) (0 + (95 : Int).toNat * 3) = some (.str (PS.of [69, 117])) := c0 95 (.inl rfl)
    have d1 : ∀ H : VH, H.cell (.pur shp) (0 + (96 : Int).toNat * 3) = some (.str (PS.of [69, 117])) := c0 96 (.inr (.inl rfl))
    have d2 : ∀ H : VH, H.cell (.pur shp) (0 + (92 : Int).toNat * 3) = some (.str (PS.of [69, 117])) := c0 92 (.inr (.inr rfl))
    apply ok126
    unfold F126
    simp only [KA, KB, KD, reduceCtorEq, if_false, if_true, Bool.and_eq_true]
    rw [if_pos (by decide), if_pos (by decide), if_pos (by decide)]
    first | rw [d0] | rw [d1] | rw [d2]
    simp only [KA, KB, KD, reduceCtorEq, if_false, if_true]
    rw [sIndexByte_ok n (by omega)]
    simp only [bindC_mk, asI_mk]
    rw [leave_flat rfl rfl]
    rfl
theorem measureN_ok (n : Nat) (hn : 4 ≤ n) (w : Nat) (v : BitVec 64) (s : Bool) (H : VH) : vcall T ext promo n 75 [.agg (ndN w v s)] H = some (.tuple [.int .i64 1, .int .i64 1], H) := by
  obtain ⟨n, rfl⟩ : ∃ m, n = m + 2 := ⟨n - 2, by omega⟩
  apply ok75
  unfold F75
  simp only [letH_mk]
  rw [loopN_succ]
  unfold L75_0
  simp only [KA, KB, KD, reduceCtorEq, if_false, if_true]
  rw [if_neg (by omega)]
  simp only [KA, KB, KD, reduceCtorEq, if_false, if_true]
  rw [leave_flat rfl rfl]
theorem measureS_ok (n : Nat) (hn : 10 ≤ n) (k : Int) (w w' : Nat) (v v' : BitVec 64) (s : Bool) (H : VH) : vcall T ext promo n 75 [.agg (ndS k w w' v v' s)] H = some (.tuple [.int .i64 3, .int .i64 2], H) := by
  obtain ⟨n, rfl⟩ : ∃ m, n = m + 4 := ⟨n - 4, by omega⟩
  have c0 : ∀ H : VH, H.cells (.pur (ndN w v s ++ ndN w' v' s)) (0 + (0 : Int).toNat * 10) 10 = some (ndN w v s) := fun _ => rfl
  have c1 : ∀ H : VH, H.cells (.pur (ndN w v s ++ ndN w' v' s)) (0 + (1 : Int).toNat * 10) 10 = some (ndN w' v' s) := fun _ => rfl
  apply ok75
  unfold F75
  simp only [letH_mk]
  rw [loopN_succ]
  generalize hlp : loopN (L75_0 (vcall T ext promo (n + 3)) (n + 3) _ _) (n + 2) = lp
  unfold L75_0
  simp only [KA, KB, KD, reduceCtorEq, if_false, if_true, Bool.and_eq_true]
  rw [if_pos (by omega), if_pos (by omega), c0]
  simp only [KA, KB, KD, reduceCtorEq, if_false, if_true]
  rw [measureN_ok _ (by omega)]
  simp only [KA, KB, KD, reduceCtorEq, if_false, if_true, show fwrap .i64 (1 + 1) = 2 from rfl, show fwrap .i64 (0 + 1) = 1 from rfl, show imax 1 2 = 2 from rfl]
  rw [← hlp, loopN_succ]
  generalize hlp2 : loopN (L75_0 (vcall T ext promo (n + 3)) (n + 3) _ _) (n + 1) = lp2
  unfold L75_0
  simp only [KA, KB, KD, reduceCtorEq, if_false, if_true, Bool.and_eq_true]
  rw [if_pos (by omega), if_pos (by omega), c1]
  simp only [KA, KB, KD, reduceCtorEq, if_false, if_true]
  rw [measureN_ok _ (by omega)]
  simp only [KA, KB, KD, reduceCtorEq, if_false, if_true, show fwrap .i64 (2 + 1) = 3 from rfl, show fwrap .i64 (1 + 1) = 2 from rfl, show imax 2 2 = 2 from rfl]
  rw [← hlp2, loopN_succ]
  unfold L75_0
  simp only [KA, KB, KD, reduceCtorEq, if_false, if_true]
  rw [if_neg (by omega)]
  simp only [KA, KB, KD, reduceCtorEq, if_false, if_true]
  rw [leave_flat rfl rfl]
theorem ixx : ile 0 (Lib.index ([] : List UInt8) [78]) = false ∧ ile 0 (Lib.index ([] : List UInt8) [86]) = false ∧ ile 0 (Lib.index ([86] : List UInt8) [78]) = false ∧ ile 0 (Lib.index ([86] : List UInt8) [86]) = true := by
  refine ⟨?_, ?_, ?_, ?_⟩ <;> decide +kernel
theorem fieldsN_ok (n : Nat) (hn : 10 ≤ n) {w : Nat} {v : BitVec 64} (s : Bool) (h : Vec w v 0#64) {H : VH} (hM : Mx H) : vcall T ext promo n 127 [.str (PS.of [86]), .agg (ndN w v s)] H = some (.int .i64 0, H) := by
  obtain ⟨n, rfl⟩ : ∃ m, n = m + 2 := ⟨n - 2, by omega⟩
  obtain ⟨i0, i1, i2, i3⟩ := ixx
  have e1 := contains_ok (n + 1) (by omega) [86] [78] (by decide) hM.lo
  have e2 := contains_ok (n + 1) (by omega) [86] [86] (by decide) hM.lo
  rw [i2] at e1
  rw [i3] at e2
  cases s
  all_goals
    apply ok127
    unfold F127
    simp only [letH_mk]
    rw [e1]
    simp only [KA, KB, KD, reduceCtorEq, if_false, if_true]
    rw [e2]
    simp only [KA, KB, KD, reduceCtorEq, if_false, if_true, str_eq, decide_true, Bool.not_true, Bool.not_false, BEq.rfl]
    rw [check_ok _ (by omega) h]
    simp only [KA, KB, KD, reduceCtorEq, if_false, if_true, ieq_dec, decide_true, of_len, List.length_nil, show ((200 : Int) < ((0 : Nat) : Int)) = False by simp]
    rw [loopN_succ]
    unfold L127_0
    simp only [KA, KB, KD, reduceCtorEq, if_false, if_true, of_len, List.length_nil, show ((0 : Int) < ((0 : Nat) : Int)) = False by simp]
    rw [leave_flat rfl rfl]
theorem fieldsS_ok (n : Nat) (hn : 10 ≤ n) (k : Int) (w w' : Nat) (v v' : BitVec 64) (s : Bool) {H : VH} (hM : Mx H) : vcall T ext promo n 127 [.str (PS.of []), .agg (ndS k w w' v v' s)] H = some (.int .i64 0, H) := by
  obtain ⟨n, rfl⟩ : ∃ m, n = m + 2 := ⟨n - 2, by omega⟩
  obtain ⟨i0, i1, i2, i3⟩ := ixx
  have e1 := contains_ok (n + 1) (by omega) [] [78] (by decide) hM.lo
  have e2 := contains_ok (n + 1) (by omega) [] [86] (by decide) hM.lo
  rw [i0] at e1
  rw [i1] at e2
  have e3 : vbinOp T .neq 29 (.agg [.int .i64 0, .int .u64 0, .int .u64 0]) (.agg [.int .i64 0, .int .u64 0, .int .u64 0]) = some (.bool false) := by kernel_rfl
  apply ok127
  unfold F127
  simp only [letH_mk]
  rw [e1]
  simp only [KA, KB, KD, reduceCtorEq, if_false, if_true]
  rw [e2]
  simp only [KA, KB, KD, reduceCtorEq, if_false, if_true, str_eq, decide_true, Bool.not_true, Bool.not_false, BEq.rfl]
  rw [e3]
  simp only [KA, KB, KD, reduceCtorEq, if_false, if_true, ieq_dec, decide_true, of_len, List.length_nil, show ((200 : Int) < ((0 : Nat) : Int)) = False by simp]
  rw [loopN_succ]
  unfold L127_0
  simp only [KA, KB, KD, reduceCtorEq, if_false, if_true, of_len, List.length_nil, show ((0 : Int) < ((0 : Nat) : Int)) = False by simp]
  rw [leave_flat rfl rfl]
end
/- fold.Value at a sum: the kids' places. -/
section
set_option linter.unusedSectionVars false
set_option linter.unusedSimpArgs false
set_option linter.unusedVariables false
set_option maxRecDepth 10000
theorem match0_ok (n : Nat) (hn : 3 ≤ n) (H : VH) : vcall T ext promo n 128 [.slice (some (.pur shp, 0)) 122 (some 122) 3, .str (PS.of []), nilS] H = some (.tuple [nilS, .bool true], H) := by
  obtain ⟨n, rfl⟩ : ∃ m, n = m + 2 := ⟨n - 2, by omega⟩
  apply ok128
  unfold F128
  simp only [letH_mk]
  rw [loopN_succ]
  unfold L128_0
  simp only [KA, KB, KD, reduceCtorEq, if_false, if_true, of_len, List.length_nil, show ((0 : Int) < ((0 : Nat) : Int)) = False by simp, ieq_dec, decide_true]
  exact congrArg some (back_pure (fun _ => rfl) rfl)
theorem sltU : SlT 225 5 1 := ⟨by kernel_rfl, ⟨Go.Proofs.Tryz.t5, by kernel_rfl, by kernel_rfl, by decide +kernel⟩, by kernel_rfl, by decide⟩
theorem match2_ok (n : Nat) (hn : 10 ≤ n) (w w' : Nat) (v v' : BitVec 64) (s : Bool) {H : VH} (hH : H.Ok) : vcall T ext promo n 128 [.slice (some (.pur shp, 0)) 122 (some 122) 3, .str (PS.of [69, 69]), kids2 w w' v v' s] H = some (.tuple [.slice (some (.pur [.int .u8 69, .int .u8 69], 0)) 2 none 1, .bool true], H) := by
  obtain ⟨n, rfl⟩ : ∃ m, n = m + 4 := ⟨n - 4, by omega⟩
  have a0 : vbuiltin T H.lo .append [225, 225] [nilS, .slice (some (.pur [.int .u8 69], 0)) 1 (some 1) 1] = some (.slice (some (H.lo.next, 0)) 1 none 1, H.lo.freshT [.int .u8 69] 5) :=
    app_slt sltU (len := 0) (n := 1) (new := [.int .u8 69]) rfl rfl (by omega) (by omega) rfl rfl
  have o1 := freshT_ok (lo_ok hH) [.int .u8 69] 5
  have t1 := freshT_tip (lo_ok hH) [.int .u8 69] 5
  obtain ⟨H2, e2, t2, k2, o2, l2, n2⟩ := t1.append o1 1 1 1 [.int .u8 69] rfl rfl
  have a1 : vbuiltin T (H.lo.freshT [.int .u8 69] 5) .append [225, 225] [.slice (some (H.lo.next, 0)) 1 none 1, .slice (some (.pur [.int .u8 69], 0)) 1 (some 1) 1] = some (.slice (some ((H.lo.freshT [.int .u8 69] 5).next, 0)) 2 none 1, H2) :=
    (app_slt sltU (len := 1) (n := 1) (new := [.int .u8 69]) rfl rfl (by omega) (by omega) rfl rfl).trans e2
  have c0 : ∀ H : VH, H.cells (.pur (ndN w v s ++ ndN w' v' s)) (0 + ((0 : Nat) : Int).toNat * 10) 10 = some (ndN w v s) := fun _ => rfl
  have c1 : ∀ H : VH, H.cells (.pur (ndN w v s ++ ndN w' v' s)) (0 + ((1 : Nat) : Int).toNat * 10) 10 = some (ndN w' v' s) := fun _ => rfl
  have hl : (PS.of [69, 69]).len = 2 := rfl
  have b0 : (PS.of [69, 69]).byte (0 : Int).toNat = 69 := rfl
  have b1 : (PS.of [69, 69]).byte (1 : Int).toNat = 69 := rfl
  have ib : ∀ H, vcall T ext promo (n + 3) 94 [.str (PS.of [42, 43, 63]), .int .u8 69] H = some (.int .i64 (-1), H) := fun H => sIndexByte_ok _ (by omega) _ _ _
  have hb := back_row (H := H) (len := 2) (cap := none) (sz := 1) (vs := [.bool true]) t2 o2 (by show H.next ≤ H.next + 1; omega) (by rw [l2]; show min H.next H.next = H.next; omega) (fun _ => rfl) (fun _ => rfl) rfl rfl
  apply ok128
  unfold F128
  simp only [letH_mk]
  rw [loopN_succ]
  generalize hlp : loopN (L128_0 (vcall T ext promo (n + 3)) (n + 3) _ _ _ _ _ _ _) (n + 2) = lp
  unfold L128_0
  simp (config := { decide := true }) only [KA, KB, KD, reduceCtorEq, if_false, if_true, ieq_dec, hl, b0, b1, Bool.and_eq_true, if_true, if_false, show fwrap .i64 (0 + 1) = 1 from rfl, show ((69 : Nat) : Int) = 69 from rfl]
  rw [ib]
  simp (config := { decide := true }) only [KA, KB, KD, reduceCtorEq, if_false, if_true, ieq_dec, hl, b0, b1, Bool.and_eq_true, if_true, if_false, not_false_eq_true, not_true_eq_false, show fwrap .i64 (0 + 1) = 1 from rfl, show fwrap .i64 (1 + 1) = 2 from rfl, show ((69 : Nat) : Int) = 69 from rfl]
  rw [loopN_succ]
  generalize hlq : loopN (L128_1 (vcall T ext promo (n + 3)) (n + 3) _ _ _ _ _ _ _ _ _) (n + 2) = lq
  unfold L128_1
  simp (config := { decide := true }) only [KA, KB, KD, reduceCtorEq, if_false, if_true, ieq_dec, hl, b0, b1, Bool.and_eq_true, if_true, if_false, not_false_eq_true, not_true_eq_false, show fwrap .i64 (0 + 1) = 1 from rfl, show fwrap .i64 (1 + 1) = 2 from rfl, show ((69 : Nat) : Int) = 69 from rfl]
  rw [c0]
  simp (config := { decide := true }) only [KA, KB, KD, reduceCtorEq, if_false, if_true, ieq_dec, hl, b0, b1, Bool.and_eq_true, if_true, if_false, not_false_eq_true, not_true_eq_false, show fwrap .i64 (0 + 1) = 1 from rfl, show fwrap .i64 (1 + 1) = 2 from rfl, show ((69 : Nat) : Int) = 69 from rfl]
  rw [a0]
  simp (config := { decide := true }) only [KA, KB, KD, reduceCtorEq, if_false, if_true, ieq_dec, hl, b0, b1, Bool.and_eq_true, if_true, if_false, not_false_eq_true, not_true_eq_false, show fwrap .i64 (0 + 1) = 1 from rfl, show fwrap .i64 (1 + 1) = 2 from rfl, show ((69 : Nat) : Int) = 69 from rfl]
  rw [← hlq, loopN_succ]
  unfold L128_1
  simp (config := { decide := true }) only [KA, KB, KD, reduceCtorEq, if_false, if_true, ieq_dec, hl, b0, b1, Bool.and_eq_true, if_true, if_false, not_false_eq_true, not_true_eq_false, show fwrap .i64 (0 + 1) = 1 from rfl, show fwrap .i64 (1 + 1) = 2 from rfl, show ((69 : Nat) : Int) = 69 from rfl]
  rw [← hlp, loopN_succ]
  generalize hlp2 : loopN (L128_0 (vcall T ext promo (n + 3)) (n + 3) _ _ _ _ _ _ _) (n + 1) = lp2
  unfold L128_0
  simp (config := { decide := true }) only [KA, KB, KD, reduceCtorEq, if_false, if_true, ieq_dec, hl, b0, b1, Bool.and_eq_true, if_true, if_false, not_false_eq_true, not_true_eq_false, show fwrap .i64 (0 + 1) = 1 from rfl, show fwrap .i64 (1 + 1) = 2 from rfl, show ((69 : Nat) : Int) = 69 from rfl]
  rw [loopN_succ]
  generalize hlq2 : loopN (L128_1 (vcall T ext promo (n + 3)) (n + 3) _ _ _ _ _ _ _ _ _) (n + 2) = lq2
  unfold L128_1
  simp (config := { decide := true }) only [KA, KB, KD, reduceCtorEq, if_false, if_true, ieq_dec, hl, b0, b1, Bool.and_eq_true, if_true, if_false, not_false_eq_true, not_true_eq_false, show fwrap .i64 (0 + 1) = 1 from rfl, show fwrap .i64 (1 + 1) = 2 from rfl, show ((69 : Nat) : Int) = 69 from rfl]
  rw [c1]
  simp (config := { decide := true }) only [KA, KB, KD, reduceCtorEq, if_false, if_true, ieq_dec, hl, b0, b1, Bool.and_eq_true, if_true, if_false, not_false_eq_true, not_true_eq_false, show fwrap .i64 (0 + 1) = 1 from rfl, show fwrap .i64 (1 + 1) = 2 from rfl, show ((69 : Nat) : Int) = 69 from rfl]
  rw [a1]
  simp (config := { decide := true }) only [KA, KB, KD, reduceCtorEq, if_false, if_true, ieq_dec, hl, b0, b1, Bool.and_eq_true, if_true, if_false, not_false_eq_true, not_true_eq_false, show fwrap .i64 (0 + 1) = 1 from rfl, show fwrap .i64 (1 + 1) = 2 from rfl, show ((69 : Nat) : Int) = 69 from rfl]
  rw [← hlq2, loopN_succ]
  unfold L128_1
  simp (config := { decide := true }) only [KA, KB, KD, reduceCtorEq, if_false, if_true, ieq_dec, hl, b0, b1, Bool.and_eq_true, if_true, if_false, not_false_eq_true, not_true_eq_false, show fwrap .i64 (0 + 1) = 1 from rfl, show fwrap .i64 (1 + 1) = 2 from rfl, show ((69 : Nat) : Int) = 69 from rfl]
  rw [← hlp2, loopN_succ]
  unfold L128_0
  simp (config := { decide := true }) only [KA, KB, KD, reduceCtorEq, if_false, if_true, ieq_dec, hl, b0, b1, Bool.and_eq_true, if_true, if_false, not_false_eq_true, not_true_eq_false, show fwrap .i64 (0 + 1) = 1 from rfl, show fwrap .i64 (1 + 1) = 2 from rfl, show ((69 : Nat) : Int) = 69 from rfl]
  exact congrArg some hb
end
/- fold.Value at a sum: the tree is valid. -/
section
set_option linter.unusedSectionVars false
set_option linter.unusedSimpArgs false
set_option linter.unusedVariables false
set_option maxRecDepth 10000
theorem nodeN_ok (n : Nat) (hn : 20 ≤ n) {w : Nat} {v : BitVec 64} (s : Bool) (h : Vec w v 0#64) {H : VH} (hM : Mx H) : vcall T ext promo n 76 [.slice (some (.pur shp, 0)) 122 (some 122) 3, .agg (ndN w v s), .int .u8 69] H = some (.int .i64 0, H) := by
  obtain ⟨n, rfl⟩ : ∃ m, n = m + 2 := ⟨n - 2, by omega⟩
  have c1 : ∀ H : VH, H.cell (.pur shp) (0 + (78 : Int).toNat * 3 + 1) = some (.str (PS.of [])) := fun _ => shp_ok.n1
  have c2 : ∀ H : VH, H.cell (.pur shp) (0 + (78 : Int).toNat * 3 + 2) = some (.str (PS.of [86])) := fun _ => shp_ok.n2
  apply ok76
  unfold F76
  simp (config := { decide := true }) only [KA, KB, KD, reduceCtorEq, if_false, if_true, ieq_dec, Bool.and_eq_true, if_true, if_false, not_false_eq_true, not_true_eq_false]
  rw [hasN_ok _ (by omega)]
  simp (config := { decide := true }) only [KA, KB, KD, reduceCtorEq, if_false, if_true, ieq_dec, Bool.and_eq_true, if_true, if_false, not_false_eq_true, not_true_eq_false]
  rw [c2]
  simp only [KA, KB, KD, reduceCtorEq, if_false, if_true]
  rw [fieldsN_ok _ (by omega) s h hM.lo]
  simp (config := { decide := true }) only [KA, KB, KD, reduceCtorEq, if_false, if_true, ieq_dec, Bool.and_eq_true, if_true, if_false, not_false_eq_true, not_true_eq_false]
  rw [c1]
  simp only [KA, KB, KD, reduceCtorEq, if_false, if_true]
  rw [match0_ok _ (by omega)]
  simp (config := { decide := true }) only [KA, KB, KD, reduceCtorEq, if_false, if_true, ieq_dec, Bool.and_eq_true, if_true, if_false, not_false_eq_true, not_true_eq_false]
  rw [loopN_succ]
  unfold L76_0
  simp (config := { decide := true }) only [KA, KB, KD, reduceCtorEq, if_false, if_true, ieq_dec, Bool.and_eq_true, if_true, if_false, not_false_eq_true, not_true_eq_false]
  rw [leave_flat rfl rfl]
theorem nodeS_ok (n : Nat) (hn : 30 ≤ n) {k op : Int} (hk : KindOp k op) {w w' : Nat} {v v' : BitVec 64} (s : Bool) (h : Vec w v 0#64) (h' : Vec w' v' 0#64) {H : VH} (hH : H.Ok) (hM : Mx H) : vcall T ext promo n 76 [.slice (some (.pur shp, 0)) 122 (some 122) 3, .agg (ndS k w w' v v' s), .int .u8 69] H = some (.int .i64 0, H) := by
  obtain ⟨n, rfl⟩ : ∃ m, n = m + 4 := ⟨n - 4, by omega⟩
  have e1 := hasS_ok (n + 3) (by omega) hk H.lo
  have g1 : ∀ q : Nat, q = 95 ∨ q = 96 ∨ q = 92 → ∀ H : VH, H.cell (.pur shp) (0 + (q : Int).toNat * 3 + 1) = some (.str (PS.of [69, 69])) := fun q hq _ => shp_ok.s1 q hq
  have g2 : ∀ q : Nat, q = 95 ∨ q = 96 ∨ q = 92 → ∀ H : VH, H.cell (.pur shp) (0 + (q : Int).toNat * 3 + 2) = some (.str (PS.of [])) := fun q hq _ => shp_ok.s2 q hq
  have d1 : ∀ H : VH, H.cell (.pur shp) (0 + k.toNat * 3 + 1) = some (.str (PS.of [69, 69])) := by
    rcases hk with ⟨rfl, _⟩ | ⟨rfl, _⟩ | ⟨rfl, _⟩
    · exact g1 95 (by decide)
    · exact g1 96 (by decide)
    · exact g1 92 (by decide)
  have d2 : ∀ H : VH, H.cell (.pur shp) (0 + k.toNat * 3 + 2) = some (.str (PS.of [])) := by
    rcases hk with ⟨rfl, _⟩ | ⟨rfl, _⟩ | ⟨rfl, _⟩
    · exact g2 95 (by decide)
    · exact g2 96 (by decide)
    · exact g2 92 (by decide)
  have e2 := fieldsS_ok (n + 3) (by omega) k w w' v v' s hM.lo
  have e3 := match2_ok (n + 3) (by omega) w w' v v' s (lo_ok hH)
  have c0 : ∀ H : VH, H.cells (.pur (ndN w v s ++ ndN w' v' s)) (0 + (0 : Int).toNat * 10) 10 = some (ndN w v s) := fun _ => rfl
  have c1 : ∀ H : VH, H.cells (.pur (ndN w v s ++ ndN w' v' s)) (0 + (1 : Int).toNat * 10) 10 = some (ndN w' v' s) := fun _ => rfl
  have p0 : ∀ H : VH, H.cell (.pur [.int .u8 69, .int .u8 69]) (0 + (0 : Int).toNat * 1) = some (.int .u8 69) := fun _ => rfl
  have p1 : ∀ H : VH, H.cell (.pur [.int .u8 69, .int .u8 69]) (0 + (1 : Int).toNat * 1) = some (.int .u8 69) := fun _ => rfl
  have r1 := nodeN_ok (n + 3) (by omega) s h hM.lo
  have r2 := nodeN_ok (n + 3) (by omega) s h' hM.lo
  apply ok76
  unfold F76
  rcases hk with ⟨rfl, rfl⟩ | ⟨rfl, rfl⟩ | ⟨rfl, rfl⟩
  all_goals
    simp (config := { decide := true }) only [KA, KB, KD, reduceCtorEq, if_false, if_true, ieq_dec, Bool.and_eq_true, if_true, if_false, not_false_eq_true, not_true_eq_false]
    rw [e1]
    simp (config := { decide := true }) only [KA, KB, KD, reduceCtorEq, if_false, if_true, ieq_dec, Bool.and_eq_true, if_true, if_false, not_false_eq_true, not_true_eq_false]
    rw [d2]
    simp only [KA, KB, KD, reduceCtorEq, if_false, if_true]
    rw [e2]
    simp (config := { decide := true }) only [KA, KB, KD, reduceCtorEq, if_false, if_true, ieq_dec, Bool.and_eq_true, if_true, if_false, not_false_eq_true, not_true_eq_false]
    rw [d1]
    simp only [KA, KB, KD, reduceCtorEq, if_false, if_true]
    rw [e3]
    simp (config := { decide := true }) only [KA, KB, KD, reduceCtorEq, if_false, if_true, ieq_dec, Bool.and_eq_true, if_true, if_false, not_false_eq_true, not_true_eq_false]
    rw [loopN_succ]
    generalize hlp : loopN (L76_0 (vcall T ext promo (n + 3)) (n + 3) _ _ _ _ _ _ _ _ _ _) (n + 2) = lp
    unfold L76_0
    simp (config := { decide := true }) only [KA, KB, KD, reduceCtorEq, if_false, if_true, ieq_dec, Bool.and_eq_true, if_true, if_false, not_false_eq_true, not_true_eq_false]
    rw [c0]
    simp (config := { decide := true }) only [KA, KB, KD, reduceCtorEq, if_false, if_true, ieq_dec, Bool.and_eq_true, if_true, if_false, not_false_eq_true, not_true_eq_false]
    rw [p0]
    simp only [KA, KB, KD, reduceCtorEq, if_false, if_true]
    rw [r1]
    simp (config := { decide := true }) only [KA, KB, KD, reduceCtorEq, if_false, if_true, ieq_dec, Bool.and_eq_true, if_true, if_false, not_false_eq_true, not_true_eq_false, show fwrap .i64 (0 + 1) = 1 from rfl]
    rw [← hlp, loopN_succ]
    generalize hlp2 : loopN (L76_0 (vcall T ext promo (n + 3)) (n + 3) _ _ _ _ _ _ _ _ _ _) (n + 1) = lp2
    unfold L76_0
    simp (config := { decide := true }) only [KA, KB, KD, reduceCtorEq, if_false, if_true, ieq_dec, Bool.and_eq_true, if_true, if_false, not_false_eq_true, not_true_eq_false]
    rw [c1]
    simp (config := { decide := true }) only [KA, KB, KD, reduceCtorEq, if_false, if_true, ieq_dec, Bool.and_eq_true, if_true, if_false, not_false_eq_true, not_true_eq_false]
    rw [p1]
    simp only [KA, KB, KD, reduceCtorEq, if_false, if_true]
    rw [r2]
    simp (config := { decide := true }) only [KA, KB, KD, reduceCtorEq, if_false, if_true, ieq_dec, Bool.and_eq_true, if_true, if_false, not_false_eq_true, not_true_eq_false, show fwrap .i64 (1 + 1) = 2 from rfl]
    rw [← hlp2, loopN_succ]
    unfold L76_0
    simp (config := { decide := true }) only [KA, KB, KD, reduceCtorEq, if_false, if_true, ieq_dec, Bool.and_eq_true, if_true, if_false, not_false_eq_true, not_true_eq_false]
    rw [leave_flat rfl rfl]
theorem sCheckExpr_ok (n : Nat) (hn : 40 ≤ n) {k op : Int} (hk : KindOp k op) {w w' : Nat} {v v' : BitVec 64} (s : Bool) (h : Vec w v 0#64) (h' : Vec w' v' 0#64) {H : VH} (hH : H.Ok) (hM : Mx H) : vcall T ext promo n 21 [.agg (ndS k w w' v v' s)] H = some (.int .i64 0, H) := by
  obtain ⟨n, rfl⟩ : ∃ m, n = m + 2 := ⟨n - 2, by omega⟩
  have r := nodeS_ok n (by omega) hk s h h' (lo_ok (lo_ok hH)) hM.lo.lo
  have e : vcall T ext promo (n + 1) 36 [.agg (ndS k w w' v v' s), .int .u8 69] H.lo = some (.int .i64 0, H.lo) := by
    apply ok36
    unfold F36
    simp only [letH_mk]
    rw [measureS_ok n (by omega)]
    simp (config := { decide := true }) only [KA, KB, KD, reduceCtorEq, if_false, if_true, ieq_dec, Bool.and_eq_true, if_true, if_false, not_false_eq_true, not_true_eq_false]
    rw [shapes_ok n (by omega)]
    simp only [KA, KB, KD, reduceCtorEq, if_false, if_true]
    rw [r]
    simp only [KA, KB, KD, reduceCtorEq, if_false, if_true]
    rw [leave_flat rfl rfl]
  apply ok21
  unfold F21
  simp only [letH_mk]
  rw [e]
  simp only [KA, KB, KD, reduceCtorEq, if_false, if_true]
  rw [leave_flat rfl rfl]
end
/- fold.Value at a sum: its value. -/
section
set_option linter.unusedSectionVars false
set_option linter.unusedSimpArgs false
set_option linter.unusedVariables false
set_option maxRecDepth 10000
theorem fixedN_ok (n : Nat) (hn : 3 ≤ n) (w : Nat) (v : BitVec 64) (s : Bool) (H : VH) : vcall T ext promo n 78 [.agg (ce w v 0#64 s)] H = some (.bool true, H) := by
  obtain ⟨n, rfl⟩ : ∃ m, n = m + 2 := ⟨n - 2, by omega⟩
  apply ok78
  unfold F78
  simp (config := { decide := true }) only [KA, KB, KD, reduceCtorEq, if_false, if_true, ieq_dec, Bool.and_eq_true, if_true, if_false, not_false_eq_true, not_true_eq_false]
  rw [loopN_succ]
  unfold L78_0
  simp (config := { decide := true }) only [KA, KB, KD, reduceCtorEq, if_false, if_true, ieq_dec, Bool.and_eq_true, if_true, if_false, not_false_eq_true, not_true_eq_false]
  rw [leave_flat rfl rfl]
theorem fixedS_ok (n : Nat) (hn : 10 ≤ n) {op : Int} (hop : op = 16 ∨ op = 17 ∨ op = 18) (W w w' : Nat) (v v' : BitVec 64) (s : Bool) (H : VH) : vcall T ext promo n 78 [.agg (exS op W w w' v v' s)] H = some (.bool true, H) := by
  obtain ⟨n, rfl⟩ : ∃ m, n = m + 4 := ⟨n - 4, by omega⟩
  unfold exS
  generalize rz w W v s = u
  generalize rz w' W v' s = u'
  have c0 : ∀ H : VH, H.cells (.pur (ce W u 0#64 s ++ ce W u' 0#64 s)) (0 + (0 : Int).toNat * 10) 10 = some (ce W u 0#64 s) := fun _ => rfl
  have c1 : ∀ H : VH, H.cells (.pur (ce W u 0#64 s ++ ce W u' 0#64 s)) (0 + (1 : Int).toNat * 10) 10 = some (ce W u' 0#64 s) := fun _ => rfl
  simp only [List.cons_append, List.nil_append] at c0 c1 ⊢
  rcases hop with rfl | rfl | rfl
  all_goals
    apply ok78
    unfold F78
    simp (config := { decide := true }) only [KA, KB, KD, reduceCtorEq, if_false, if_true, ieq_dec, Bool.and_eq_true, if_true, if_false, not_false_eq_true, not_true_eq_false]
    rw [loopN_succ]
    generalize hlp : loopN (L78_0 (vcall T ext promo (n + 3)) (n + 3) _ _) (n + 2) = lp
    unfold L78_0
    simp (config := { decide := true }) only [KA, KB, KD, reduceCtorEq, if_false, if_true, ieq_dec, Bool.and_eq_true, if_true, if_false, not_false_eq_true, not_true_eq_false]
    rw [c0]
    simp only [KA, KB, KD, reduceCtorEq, if_false, if_true]
    rw [fixedN_ok _ (by omega)]
    simp only [KA, KB, KD, reduceCtorEq, if_false, if_true, show fwrap .i64 (0 + 1) = 1 from rfl]
    rw [← hlp, loopN_succ]
    generalize hlp2 : loopN (L78_0 (vcall T ext promo (n + 3)) (n + 3) _ _) (n + 1) = lp2
    unfold L78_0
    simp (config := { decide := true }) only [KA, KB, KD, reduceCtorEq, if_false, if_true, ieq_dec, Bool.and_eq_true, if_true, if_false, not_false_eq_true, not_true_eq_false]
    rw [c1]
    simp only [KA, KB, KD, reduceCtorEq, if_false, if_true]
    rw [fixedN_ok _ (by omega)]
    simp only [KA, KB, KD, reduceCtorEq, if_false, if_true, show fwrap .i64 (1 + 1) = 2 from rfl]
    rw [← hlp2, loopN_succ]
    unfold L78_0
    simp (config := { decide := true }) only [KA, KB, KD, reduceCtorEq, if_false, if_true, ieq_dec, Bool.and_eq_true, if_true, if_false, not_false_eq_true, not_true_eq_false]
    rw [leave_flat rfl rfl]
theorem valueS_ok (n : Nat) (hn : 120 ≤ n) (k : Int) {op : Int} (hop : op = 16 ∨ op = 17 ∨ op = 18) {W w w' : Nat} {v v' : BitVec 64} (s : Bool) (h : Vec w v 0#64) (h' : Vec w' v' 0#64) (hw : 1 ≤ W ∧ W ≤ 64) {H : VH} (hH : H.Ok) :
    vcall T ext promo n 38 [.agg (ndS k w w' v v' s), env0, .agg (exS op W w w' v v' s)] H = some (.tuple [bv W (opv op (rz w W v s) (rz w' W v' s) &&& bmask W) 0#64, .agg fault0], H) := by
  obtain ⟨n, rfl⟩ : ∃ m, n = m + 1 := ⟨n - 1, by omega⟩
  have e1 := fixedS_ok n (by omega) hop W w w' v v' s H.lo
  have e2 := evalExpr_ok n (by omega) hop s h h' hw (lo_ok hH)
  have hne : ¬ (op = 0) := by omega
  generalize hR : opv op (rz w W v s) (rz w' W v' s) &&& bmask W = R at e2 ⊢
  clear hR
  unfold exS at *
  generalize rz w W v s = u at *
  generalize rz w' W v' s = u' at *
  simp only [List.cons_append, List.nil_append] at e1 e2 ⊢
  apply ok38
  unfold F38
  simp only [letH_mk]
  rw [e1]
  simp only [KA, KB, KD, reduceCtorEq, if_false, if_true, ieq_dec]
  rw [if_neg (by simpa using hne), e2]
  simp (config := { decide := true }) only [KA, KB, KD, reduceCtorEq, if_false, if_true, ieq_dec, Bool.and_eq_true, if_true, if_false, not_false_eq_true, not_true_eq_false]
  rw [leave_flat rfl rfl]
theorem own0_ok (n : Nat) (hn : 90 ≤ n) {op : Int} (hop : op = 16 ∨ op = 17 ∨ op = 18) {w w' : Nat} {v v' : BitVec 64} (s : Bool) (h : Vec w v 0#64) (h' : Vec w' v' 0#64) {H : VH} (hH : H.Ok) :
    vcall T ext promo n 49 [.agg (tyS op w w' v v' s)] H = some (.agg (exS op (max w w') w w' v v' s), H) := by
  obtain ⟨n, rfl⟩ : ∃ m, n = m + 1 := ⟨n - 1, by omega⟩
  have h1 := h.pos
  have h2 := h.le
  have h3 := h'.le
  have e1 := inS_ok n (by omega) hop (W := max w w') s h h' (by omega) (lo_ok hH)
  unfold exS at *
  generalize rz w (max w w') v s = u at *
  generalize rz w' (max w w') v' s = u' at *
  simp only [List.cons_append, List.nil_append] at e1 ⊢
  apply ok49
  unfold F49
  simp only [letH_mk]
  rw [e1]
  simp only [KA, KB, KD, reduceCtorEq, if_false, if_true]
  exact congrArg some (back_pure (fun _ => rfl) rfl)
theorem Own_ok (n : Nat) (hn : 100 ≤ n) {k op : Int} (hk : KindOp k op) {w w' : Nat} {v v' : BitVec 64} (s : Bool) (h : Vec w v 0#64) (h' : Vec w' v' 0#64) {H : VH} (hH : H.Ok) :
    vcall T ext promo n 37 [.agg (ndS k w w' v v' s), env0] H = some (.tuple [.agg (exS op (max w w') w w' v v' s), .agg [.int .i64 ((max w w' : Nat) : Int), .int .i64 0, .bool s, nilS], .agg fault0], H) := by
  obtain ⟨n, rfl⟩ : ∃ m, n = m + 1 := ⟨n - 1, by omega⟩
  have hop : op = 16 ∨ op = 17 ∨ op = 18 := by rcases hk with ⟨_, h⟩ | ⟨_, h⟩ | ⟨_, h⟩ <;> simp [h]
  have e0 := typedS_ok n (by omega) hk w w' v v' s (lo_ok hH)
  have e1 := own0_ok n (by omega) hop s h h' (lo_ok hH)
  unfold exS at *
  generalize rz w (max w w') v s = u at *
  generalize rz w' (max w w') v' s = u' at *
  simp only [List.cons_append, List.nil_append] at e1 ⊢
  apply ok37
  unfold F37
  simp only [letH_mk]
  rw [e0]
  simp (config := { decide := true }) only [KA, KB, KD, reduceCtorEq, if_false, if_true, ieq_dec, Bool.and_eq_true, if_true, if_false, not_false_eq_true, not_true_eq_false]
  rw [e1]
  simp only [KA, KB, KD, reduceCtorEq, if_false, if_true]
  exact congrArg some (back_pure (fun _ => rfl) rfl)
theorem Number_ok (n : Nat) (hn : 130 ≤ n) {k op : Int} (hk : KindOp k op) {w w' : Nat} {v v' : BitVec 64} (s : Bool) (h : Vec w v 0#64) (h' : Vec w' v' 0#64) {H : VH} (hH : H.Ok) :
    vcall T ext promo n 22 [.agg (ndS k w w' v v' s), env0] H = some (.tuple [bv (max w w') (opv op (rz w (max w w') v s) (rz w' (max w w') v' s) &&& bmask (max w w')) 0#64, .bool s, .agg fault0], H) := by
  obtain ⟨n, rfl⟩ : ∃ m, n = m + 1 := ⟨n - 1, by omega⟩
  have hop : op = 16 ∨ op = 17 ∨ op = 18 := by rcases hk with ⟨_, h⟩ | ⟨_, h⟩ | ⟨_, h⟩ <;> simp [h]
  have h1 := h.pos
  have h2 := h.le
  have h3 := h'.le
  have e0 := Own_ok n (by omega) hk s h h' (lo_ok hH)
  have e1 := valueS_ok n (by omega) k hop (W := max w w') s h h' (by omega) (lo_ok hH)
  generalize opv op (rz w (max w w') v s) (rz w' (max w w') v' s) &&& bmask (max w w') = R at e1 ⊢
  unfold exS at *
  generalize rz w (max w w') v s = u at *
  generalize rz w' (max w w') v' s = u' at *
  simp only [List.cons_append, List.nil_append] at e0 e1 ⊢
  apply ok22
  unfold F22
  simp only [letH_mk]
  rw [e0]
  simp (config := { decide := true }) only [KA, KB, KD, reduceCtorEq, if_false, if_true, ieq_dec, Bool.and_eq_true, if_true, if_false, not_false_eq_true, not_true_eq_false]
  rw [e1]
  cases s
  all_goals
    simp (config := { decide := true }) only [KA, KB, KD, reduceCtorEq, if_false, if_true, ieq_dec, Bool.and_eq_true, if_true, if_false, not_false_eq_true, not_true_eq_false]
    rw [leave_flat rfl rfl]
    try simp only [decide_true]
theorem foldValue_ok (n : Nat) (hn : 140 ≤ n) {k op : Int} (hk : KindOp k op) {w w' : Nat} {v v' : BitVec 64} (s : Bool) (h : Vec w v 0#64) (h' : Vec w' v' 0#64) {H : VH} (hH : H.Ok) (hM : Mx H) :
    vcall T ext promo n 10 [.agg (ndS k w w' v v' s), env0] H = some (.tuple [bv (max w w') (opv op (rz w (max w w') v s) (rz w' (max w w') v' s) &&& bmask (max w w')) 0#64, .bool s, .int .i64 0], H) := by
  obtain ⟨n, rfl⟩ : ∃ m, n = m + 1 := ⟨n - 1, by omega⟩
  have e0 := sCheckExpr_ok n (by omega) hk s h h' (lo_ok hH) hM.lo
  have e1 := Number_ok n (by omega) hk s h h' (lo_ok hH)
  apply ok10
  unfold F10
  simp only [letH_mk]
  rw [e0]
  simp (config := { decide := true }) only [KA, KB, KD, reduceCtorEq, if_false, if_true, ieq_dec, Bool.and_eq_true, if_true, if_false, not_false_eq_true, not_true_eq_false]
  rw [e1]
  simp (config := { decide := true }) only [KA, KB, KD, reduceCtorEq, if_false, if_true, ieq_dec, Bool.and_eq_true, if_true, if_false, not_false_eq_true, not_true_eq_false]
  rw [leave_flat rfl rfl]
end
/- WidthContext: the law, on the machine. -/
section
set_option linter.unusedSectionVars false
set_option linter.unusedSimpArgs false
set_option linter.unusedVariables false
set_option maxRecDepth 10000
theorem counted_ok (n : Nat) (hn : 1 ≤ n) {H : VH} (hM : Mx H) : vcall T ext promo n 11 [] H = some (.bool true, H) := by
  obtain ⟨n, rfl⟩ : ∃ m, n = m + 1 := ⟨n - 1, by omega⟩
  obtain ⟨_, m, hm⟩ := hM
  refine call_ext (g := xTabM 0 tab11) rfl ?_
  simp only [xTabM, hm]
  rfl
theorem ofInt_i64 (r : Int) : BitVec.ofInt 64 (fwrap .i64 r) = BitVec.ofInt 64 r := by
  apply BitVec.eq_of_toNat_eq
  rw [BitVec.toNat_ofInt, BitVec.toNat_ofInt, fwrap_eq]
  simp only [IntKind.wrap, IntKind.bits, IntKind.signed, Bool.true_and, decide_eq_true_eq, show (2 : Int) ^ 64 = 18446744073709551616 from rfl, show (2 : Int) ^ (64 - 1) = 9223372036854775808 from rfl, show (2 : Nat) ^ 64 = 18446744073709551616 from rfl]
  split <;> omega
theorem want_add (x y : Int) : fwrap .u64 (fwrap .i64 (x + y)) = u64 (BitVec.ofInt 64 x + BitVec.ofInt 64 y) := by
  rw [fw_u64n, ofInt_i64, BitVec.ofInt_add]
theorem want_mul (x y : Int) : fwrap .u64 (fwrap .i64 (x * y)) = u64 (BitVec.ofInt 64 x * BitVec.ofInt 64 y) := by
  rw [fw_u64n, ofInt_i64, BitVec.ofInt_mul]
theorem want_sub (x y : Int) : fwrap .u64 (fwrap .i64 (x - y)) = u64 (BitVec.ofInt 64 x - BitVec.ofInt 64 y) := by
  rw [fw_u64n, ofInt_i64, Int.sub_eq_add_neg, BitVec.ofInt_add, BitVec.ofInt_neg, ← BitVec.sub_eq_add_neg]
/-- The number of a vector, as a law reads it. -/
def numv (w : Nat) (v : BitVec 64) (s : Bool) : Int := if s = true then sint w v else v.toInt
theorem numv_wide (w : Nat) (v : BitVec 64) (s : Bool) : BitVec.ofInt 64 (numv w v s) = wide w v s := by
  unfold numv wide
  cases s
  · exact BitVec.ofInt_toInt
  · rfl
theorem veqBits (x y a b c d : Int) : veq T 60 29 (.agg [.int .i64 x, .int .u64 a, .int .u64 c]) (.agg [.int .i64 y, .int .u64 b, .int .u64 d]) =
    (match (if kindEq .i64 .i64 then some (ieq x y) else none : Option Bool) with
      | some true => (match (if kindEq .u64 .u64 then some (ieq a b) else none : Option Bool) with
        | some true => (match (if kindEq .u64 .u64 then some (ieq c d) else none : Option Bool) with
          | some true => some true
          | r => r)
        | r => r)
      | r => r) := by kernel_rfl
theorem eqBits (x a c : Int) : vbinOp T .eql 29 (.agg [.int .i64 x, .int .u64 a, .int .u64 c]) (.agg [.int .i64 x, .int .u64 a, .int .u64 c]) = some (.bool true) := by
  have h : veq T 60 29 (.agg [.int .i64 x, .int .u64 a, .int .u64 c]) (.agg [.int .i64 x, .int .u64 a, .int .u64 c]) = some true := by
    rw [veqBits]
    simp [ieq_dec, show kindEq .i64 .i64 = true from rfl, show kindEq .u64 .u64 = true from rfl]
  show (veq T 60 29 _ _).map AV.bool = _
  rw [h]
  rfl
theorem widthContext_vm (n : Nat) (hn : 301 ≤ n) {H : VH} (hH : H.Ok) {m : Int} (hmx : 0 < H.next ∧ H.cell (.blk 0) 0 = some (.int .i64 m)) (a : Option (Bk × Nat)) (l : Nat) (c : Option Nat) (e : Nat) (hN : Nums H H.next a l) :
    ∃ H', vcall T ext promo n 3 [.slice a l c e] H = some (.bool true, H') := by
  obtain ⟨n, rfl⟩ : ∃ m, n = m + 1 := ⟨n - 1, by omega⟩
  have hM : Mx H := ⟨hmx.1, m, hmx.2⟩
  have h0 := hM.1
  obtain ⟨o0, s0⟩ := start hH c e hN
  have M0 : Mx (H.lo.fresh [.slice a l c e, .int .i64 0]) := hM.lo.keep (lo_ok hH) (Keep.fresh (fun _ => False) H.lo _) (fun h => h)
  obtain ⟨s, H1, e1, d1⟩ := flip_ok n (by omega) o0 s0 (by omega) 2 (by omega)
  have M1 := M0.keep o0 d1.keep (by omega)
  obtain ⟨r2, H2, e2, l2, u2, d2⟩ := range_ok n (by omega) d1.ok d1.st (by omega) 1 8 (by omega) (by omega) (by omega)
  have M2 := M1.keep d1.ok d2.keep (by omega)
  obtain ⟨w, rfl⟩ := Int.eq_ofNat_of_zero_le (show 0 ≤ r2 by omega)
  obtain ⟨v, H3, e3, v3, d3⟩ := known_ok n (by omega) d2.ok d2.st (by omega) w (by omega)
  have M3 := M2.keep d2.ok d3.keep (by omega)
  obtain ⟨r4, H4, e4, l4, u4, d4⟩ := range_ok n (by omega) d3.ok d3.st (by omega) 1 8 (by omega) (by omega) (by omega)
  have M4 := M3.keep d3.ok d4.keep (by omega)
  obtain ⟨w', rfl⟩ := Int.eq_ofNat_of_zero_le (show 0 ≤ r4 by omega)
  obtain ⟨v', H5, e5, v5, d5⟩ := known_ok n (by omega) d4.ok d4.st (by omega) w' (by omega)
  have M5 := M4.keep d4.ok d5.keep (by omega)
  obtain ⟨k, H6, e6, hk, d6⟩ := pick3_ok n (by omega) d5.ok d5.st (by omega) 95 96 92
  have M6 := M5.keep d5.ok d6.keep (by omega)
  obtain ⟨op, hko⟩ : ∃ op, KindOp k op := by
    rcases hk with rfl | rfl | rfl
    · exact ⟨16, .inl ⟨rfl, rfl⟩⟩
    · exact ⟨17, .inr (.inl ⟨rfl, rfl⟩)⟩
    · exact ⟨18, .inr (.inr ⟨rfl, rfl⟩)⟩
  have hop : op = 16 ∨ op = 17 ∨ op = 18 := by rcases hko with ⟨_, h⟩ | ⟨_, h⟩ | ⟨_, h⟩ <;> simp [h]
  have e7 := Assigned_ok n (by omega) hko s v3 v5 (by omega) d6.ok
  have e8 := evalExpr_ok n (by omega) hop (W := 20) s v3 v5 (by omega) d6.ok
  have e9 := foldValue_ok n (by omega) hko s v3 v5 d6.ok M6
  have e10 := counted_ok n (by omega) M6
  have p3 := v3.pos
  have q3 := v3.le
  have p5 := v5.pos
  have q5 := v5.le
  rw [sum_mask (by omega) ⟨p3, q3⟩ ⟨p5, q5⟩] at e8 e9
  have e11 := int_ok n (by omega) v3 (H := H6)
  have e12 := int_ok n (by omega) v5 (H := H6)
  have hZ : opv op (wide w v s) (wide w' v' s) = opv op (BitVec.ofInt 64 (numv w v s)) (BitVec.ofInt 64 (numv w' v' s)) := by rw [numv_wide, numv_wide]
  rw [hZ] at e8 e9
  have e13 : vcall T ext promo n 13 [.int .i64 20, .int .u64 (u64 (opv op (BitVec.ofInt 64 (numv w v s)) (BitVec.ofInt 64 (numv w' v' s))))] H6 = some (bv 20 (opv op (BitVec.ofInt 64 (numv w v s)) (BitVec.ofInt 64 (numv w' v' s)) &&& bmask 20) 0#64, H6) := of_ok n (by omega) (w := 20) (by omega) (opv op (BitVec.ofInt 64 (numv w v s)) (BitVec.ofInt 64 (numv w' v' s))) H6
  have e14 := of_ok n (by omega) (w := max w w') (by omega) (opv op (BitVec.ofInt 64 (numv w v s)) (BitVec.ofInt 64 (numv w' v' s))) H6
  have hx : ∀ (w : Nat) (v : BitVec 64), numv w v true = sint w v := fun _ _ => rfl
  have hy : ∀ (w : Nat) (v : BitVec 64), numv w v false = v.toInt := fun _ _ => rfl
  unfold exS at e7 e8
  generalize rz w 20 v s = u at *
  generalize rz w' 20 v' s = u' at *
  simp only [List.cons_append, List.nil_append] at e7 e8 e9
  suffices hg : ∃ H', F3 (vcall T ext promo n) n a l c e H = some (.bool true, H') from hg.imp fun H' h => ok3 _ _ _ _ _ _ h
  unfold F3
  have hln : H.lo.next = H.next := rfl
  have hnd : ndS k w w' v v' s = [.int .i64 k, .int .i64 0, .int .i64 0, .str (PS.of []), .str (PS.of []), .int .i64 0, .int .u64 0, .int .u64 0, .bool false, .slice (some (.pur [.int .i64 78, .int .i64 0, .int .i64 0, .str (PS.of []), .str (PS.of []), .int .i64 (w : Int), .int .u64 (u64 v), .int .u64 (u64 0#64), .bool s, .slice none 0 (some 0) 0, .int .i64 78, .int .i64 0, .int .i64 0, .str (PS.of []), .str (PS.of []), .int .i64 (w' : Int), .int .u64 (u64 v'), .int .u64 (u64 0#64), .bool s, .slice none 0 (some 0) 0], 0)) 2 (some 2) 10] := rfl
  rw [hnd] at e7 e9
  simp only [letH_mk, hln]
  rw [e1]
  simp only [bindC_mk, asB_mk]
  rw [e2]
  simp only [bindC_mk, asI_mk]
  rw [e3]
  simp only [bindC_mk, asI_mk, asA_mk, unc_mk, endL_mk]
  rw [e4]
  simp only [bindC_mk, asI_mk]
  rw [e5]
  simp only [bindC_mk, asI_mk, asA_mk, unc_mk, endL_mk]
  rw [e6]
  simp only [bindC_mk, asI_mk]
  rw [e7]
  simp only [KA, KB, KD, reduceCtorEq, if_false, if_true]
  rw [e8]
  simp only [KA, KB, KD, reduceCtorEq, if_false, if_true]
  rw [e9]
  simp only [KA, KB, KD, reduceCtorEq, if_false, if_true]
  rw [e10]
  simp (config := { decide := true }) only [KA, KB, KD, reduceCtorEq, if_false, if_true, ieq_dec, if_true, if_false, not_false_eq_true, not_true_eq_false, BEq.rfl, Bool.not_true]
  cases s
  · have hxv : fwrap .i64 (u64 v) = numv w v false := fw_i64_u64 v
    have hyv : fwrap .i64 (u64 v') = numv w' v' false := fw_i64_u64 v'
    simp only [KA, KB, KD, reduceCtorEq, if_false, if_true, hxv, hyv]
    generalize numv w v false = X at *
    generalize numv w' v' false = Y at *
    rcases hko with ⟨rfl, rfl⟩ | ⟨rfl, rfl⟩ | ⟨rfl, rfl⟩
    · have hz : opv 16 (BitVec.ofInt 64 X) (BitVec.ofInt 64 Y) = BitVec.ofInt 64 X + BitVec.ofInt 64 Y := rfl
      rw [if_neg (by decide), if_neg (by decide)]
      simp only [KA, KB, KD, reduceCtorEq, if_false, if_true]
      rw [want_add, ← hz, e13]
      simp only [KA, KB, KD, reduceCtorEq, if_false, if_true]
      rw [eqBits]
      simp only [KA, KB, KD, reduceCtorEq, if_false, if_true]
      rw [imax_nat, e14]
      simp only [KA, KB, KD, reduceCtorEq, if_false, if_true]
      rw [eqBits]
      simp only [KA, KB, KD, reduceCtorEq, if_false, if_true]
      exact ⟨_, rfl⟩
    · have hz : opv 17 (BitVec.ofInt 64 X) (BitVec.ofInt 64 Y) = BitVec.ofInt 64 X - BitVec.ofInt 64 Y := rfl
      rw [if_pos (by decide)]
      simp only [KA, KB, KD, reduceCtorEq, if_false, if_true]
      rw [want_sub, ← hz, e13]
      simp only [KA, KB, KD, reduceCtorEq, if_false, if_true]
      rw [eqBits]
      simp only [KA, KB, KD, reduceCtorEq, if_false, if_true]
      rw [imax_nat, e14]
      simp only [KA, KB, KD, reduceCtorEq, if_false, if_true]
      rw [eqBits]
      simp only [KA, KB, KD, reduceCtorEq, if_false, if_true]
      exact ⟨_, rfl⟩
    · have hz : opv 18 (BitVec.ofInt 64 X) (BitVec.ofInt 64 Y) = BitVec.ofInt 64 X * BitVec.ofInt 64 Y := rfl
      rw [if_neg (by decide), if_pos (by decide)]
      simp only [KA, KB, KD, reduceCtorEq, if_false, if_true]
      rw [want_mul, ← hz, e13]
      simp only [KA, KB, KD, reduceCtorEq, if_false, if_true]
      rw [eqBits]
      simp only [KA, KB, KD, reduceCtorEq, if_false, if_true]
      rw [imax_nat, e14]
      simp only [KA, KB, KD, reduceCtorEq, if_false, if_true]
      rw [eqBits]
      simp only [KA, KB, KD, reduceCtorEq, if_false, if_true]
      exact ⟨_, rfl⟩
  · simp only [KA, KB, KD, reduceCtorEq, if_false, if_true]
    rw [e11]
    simp only [KA, KB, KD, reduceCtorEq, if_false, if_true]
    rw [e12]
    simp only [KA, KB, KD, reduceCtorEq, if_false, if_true, ← hx]
    generalize numv w v true = X at *
    generalize numv w' v' true = Y at *
    rcases hko with ⟨rfl, rfl⟩ | ⟨rfl, rfl⟩ | ⟨rfl, rfl⟩
    · have hz : opv 16 (BitVec.ofInt 64 X) (BitVec.ofInt 64 Y) = BitVec.ofInt 64 X + BitVec.ofInt 64 Y := rfl
      rw [if_neg (by decide), if_neg (by decide)]
      simp only [KA, KB, KD, reduceCtorEq, if_false, if_true]
      rw [want_add, ← hz, e13]
      simp only [KA, KB, KD, reduceCtorEq, if_false, if_true]
      rw [eqBits]
      simp only [KA, KB, KD, reduceCtorEq, if_false, if_true]
      rw [imax_nat, e14]
      simp only [KA, KB, KD, reduceCtorEq, if_false, if_true]
      rw [eqBits]
      simp only [KA, KB, KD, reduceCtorEq, if_false, if_true]
      exact ⟨_, rfl⟩
    · have hz : opv 17 (BitVec.ofInt 64 X) (BitVec.ofInt 64 Y) = BitVec.ofInt 64 X - BitVec.ofInt 64 Y := rfl
      rw [if_pos (by decide)]
      simp only [KA, KB, KD, reduceCtorEq, if_false, if_true]
      rw [want_sub, ← hz, e13]
      simp only [KA, KB, KD, reduceCtorEq, if_false, if_true]
      rw [eqBits]
      simp only [KA, KB, KD, reduceCtorEq, if_false, if_true]
      rw [imax_nat, e14]
      simp only [KA, KB, KD, reduceCtorEq, if_false, if_true]
      rw [eqBits]
      simp only [KA, KB, KD, reduceCtorEq, if_false, if_true]
      exact ⟨_, rfl⟩
    · have hz : opv 18 (BitVec.ofInt 64 X) (BitVec.ofInt 64 Y) = BitVec.ofInt 64 X * BitVec.ofInt 64 Y := rfl
      rw [if_neg (by decide), if_pos (by decide)]
      simp only [KA, KB, KD, reduceCtorEq, if_false, if_true]
      rw [want_mul, ← hz, e13]
      simp only [KA, KB, KD, reduceCtorEq, if_false, if_true]
      rw [eqBits]
      simp only [KA, KB, KD, reduceCtorEq, if_false, if_true]
      rw [imax_nat, e14]
      simp only [KA, KB, KD, reduceCtorEq, if_false, if_true]
      rw [eqBits]
      simp only [KA, KB, KD, reduceCtorEq, if_false, if_true]
      exact ⟨_, rfl⟩
end
end Go.Vm.Tryz
