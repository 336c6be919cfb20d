/- Picked from WidthAA.lean. -/
import Derived.Test.YtmlogeklbcgjnaaGreatDoorSw
import Derived.Test.YtmlogeklbcgjnaaGreatDoorFz
namespace Go.Vm.Tryz
set_option linter.unusedSectionVars false
set_option linter.unusedSimpArgs false
set_option linter.unusedVariables false
set_option maxRecDepth 10000
abbrev nilS : AV := .slice none 0 (some 0) 0
/-- A constant. -/
abbrev ce (w : Nat) (v x : BitVec 64) (s : Bool) : List AV := [.int .i64 0, .int .i64 (w : Int), .bool s, .int .i64 (w : Int), .int .u64 (u64 v), .int .u64 (u64 x), .int .i64 0, .bool false, .int .i64 0, nilS]
abbrev fault0 : List AV := [.int .i64 0, .int .i64 0, .int .i64 0, .str (PS.of [])]
theorem constant_ok (n : Nat) (hn : 1 ≤ n) (w : Nat) (v x : BitVec 64) (s : Bool) (H : VH) : vcall T ext promo n 45 [bv w v x, .bool s] H = some (.agg (ce w v x s), H) := by
  obtain ⟨n, rfl⟩ : ∃ m, n = m + 1 := ⟨n - 1, by omega⟩
  apply ok45
  unfold F45
  simp only [letH_mk]
  rw [back_pure (fun _ => rfl) rfl]
/-- A number in w' bits. -/
def rz (w w' : Nat) (v : BitVec 64) (s : Bool) : BitVec 64 := if w = w' then v else wide w v s &&& bmask w'
theorem wide_zero (w : Nat) (s : Bool) : wide w 0#64 s = 0#64 := by
  unfold wide sint
  cases s <;> simp
def opv (op : Int) (v v' : BitVec 64) : BitVec 64 := if op = 16 then v + v' else if op = 17 then v - v' else v * v'
theorem two_ok (n : Nat) (hn : 60 ≤ n) {op : Int} (hop : op = 16 ∨ op = 17 ∨ op = 18) {w : Nat} {v v' : BitVec 64} (h : Vec w v 0#64) (h' : Vec w v' 0#64) (H : VH) :
    vcall T ext promo n 121 [.int .i64 op, bv w v 0#64, bv w v' 0#64] H = some (bv w (opv op v v' &&& bmask w) 0#64, H) := by
  obtain ⟨n, rfl⟩ : ∃ m, n = m + 1 := ⟨n - 1, by omega⟩
  rcases hop with rfl | rfl | rfl
  all_goals
    apply ok121
    unfold F121
    simp only [KA, KB, KD, KE,  reduceCtorEq, if_false, if_true, ieq_dec, Int.reduceEq, decide_false, decide_true]
    first | rw [add_ok n (by omega) h h'] | rw [sub_ok n (by omega) h h'] | rw [mul_ok n (by omega) h h']
    simp only [KA, KB, KD, KE,  reduceCtorEq, if_false, if_true]
    rw [leave_flat rfl rfl]
    rfl
theorem apply_ok (n : Nat) (hn : 70 ≤ n) {op : Int} (hop : op = 16 ∨ op = 17 ∨ op = 18) {W w w' : Nat} {u u' v v' : BitVec 64} (s : Bool) (h : Vec W u 0#64) (h' : Vec W u' 0#64) {H : VH} {b : Nat} {kd : AV} {ka : Option (Bk × Nat)} {kk : Nat} {kc : Option Nat} {ke : Nat}
    (h0 : H.cells b 0 3 = some [.int .i64 (W : Int), .int .u64 (u64 u), .int .u64 (u64 0#64)]) (h3 : H.cells b (0 + 3) 3 = some [.int .i64 (W : Int), .int .u64 (u64 u'), .int .u64 (u64 0#64)]) :
    vcall T ext promo n 71 [.agg [.int .i64 op, .int .i64 (W : Int), .bool s, .int .i64 0, .int .u64 0, .int .u64 0, .int .i64 0, .bool false, .int .i64 0, .slice ka kk kc ke], .slice (some (b, 0)) 2 none 3] H = some (bv W (opv op u u' &&& bmask W) 0#64, H) := by
  obtain ⟨n, rfl⟩ : ∃ m, n = m + 1 := ⟨n - 1, by omega⟩
  have g0 : H.lo.cells b 0 3 = some [.int .i64 (W : Int), .int .u64 (u64 u), .int .u64 (u64 0#64)] := h0
  have g3 : H.lo.cells b (0 + 3) 3 = some [.int .i64 (W : Int), .int .u64 (u64 u'), .int .u64 (u64 0#64)] := h3
  rcases hop with rfl | rfl | rfl
  all_goals
    apply ok71
    unfold F71
    simp only [KA, KB, KD, KE,  reduceCtorEq, if_false, if_true, ieq_dec, Int.reduceEq, decide_false, decide_true]
    rw [if_neg (by decide), if_pos (by decide), g0]
    simp only [KA, KB, KD, KE,  reduceCtorEq, if_false, if_true]
    rw [if_pos (by decide), g3]
    simp only [KA, KB, KD, KE,  reduceCtorEq, if_false, if_true]
    first | rw [two_ok n (by omega) (.inl rfl) h h'] | rw [two_ok n (by omega) (.inr (.inl rfl)) h h'] | rw [two_ok n (by omega) (.inr (.inr rfl)) h h']
    simp only [KA, KB, KD, KE,  reduceCtorEq, if_false, if_true]
    rw [leave_flat rfl rfl]
theorem rz_vec {w W : Nat} {v : BitVec 64} (s : Bool) (h : Vec w v 0#64) (hw : 1 ≤ W ∧ W ≤ 64) : Vec W (rz w W v s) 0#64 := by
  unfold rz
  split
  · rename_i e
    subst e
    exact h
  · exact of_vec hw _
end Go.Vm.Tryz
