/- Words and signs; tokens. -/
import Derived.Test.YtieocmaaloaoaaaDoorXb
namespace Go.Vm.Tryd
set_option linter.unusedSectionVars false
set_option linter.unusedSimpArgs false
set_option linter.unusedVariables false
set_option maxRecDepth 10000
def strCells (ls : List (List UInt8)) : List AV := ls.map fun l => AV.str (PS.of l)
theorem strCells_get (ls : List (List UInt8)) (i : Nat) (h : i < ls.length) : (strCells ls)[i]? = some (.str (PS.of ls[i])) := by
  unfold strCells
  rw [List.getElem?_map, List.getElem?_eq_getElem h]
  rfl
def signs : List (List UInt8) := [[33, 61, 61], [61, 61, 61], [62, 62, 62], [33, 61], [38, 38], [43, 58], [45, 62], [60, 60], [60, 61], [61, 61], [61, 62], [62, 61], [62, 62], [124, 124], [33], [35], [37], [38], [40], [41], [42], [43], [44], [45], [46], [47], [58], [59], [60], [61], [62], [63], [91], [93], [94], [123], [124], [125], [126]]
def words : List (List UInt8) := [[97, 102, 116, 101, 114], [97, 108, 119, 97, 121, 115], [97, 110, 100], [97, 115, 115, 105, 103, 110], [99, 97, 115, 101], [99, 97, 115, 101, 120], [99, 97, 115, 101, 122], [99, 97, 116], [99, 104, 101, 99, 107], [99, 111, 109, 98], [99, 111, 110, 115, 116], [100, 101, 102, 97, 117, 108, 116], [100, 101, 108, 97, 121], [100, 111, 119, 110, 116, 111], [101, 108, 115, 101], [101, 110, 117, 109], [102, 97, 108, 108], [102, 111, 114], [102, 117, 110, 99, 116, 105, 111, 110], [105, 102], [105, 110], [105, 110, 105, 116, 105, 97, 108], [105, 110, 115, 116], [105, 110, 116, 101, 114, 102, 97, 99, 101], [108, 105, 110, 107], [108, 111, 103], [109, 111, 100, 117, 108, 101], [109, 111, 110, 105, 116, 111, 114], [110, 111, 119], [111, 110], [111, 114], [111, 117, 116], [112, 114, 111, 112, 101, 114, 116, 121], [114, 101, 112], [114, 101, 112, 101, 97, 116], [114, 105, 115, 101], [115, 101, 113], [115, 104, 111, 119], [115, 105, 103, 110, 101, 100], [115, 105, 122, 101], [115, 116, 111, 112], [115, 116, 114, 111, 98, 101], [115, 116, 114, 117, 99, 116], [116, 104, 101, 110], [116, 105, 109, 101, 115], [116, 111], [117, 110, 115, 105, 103, 110, 101, 100], [118, 97, 114], [118, 105, 101, 119], [119, 97, 105, 116], [119, 104, 105, 108, 101], [119, 105, 100, 116, 104], [119, 105, 114, 101], [119, 114, 105, 116, 101]]
theorem signs_ok (n : Nat) (hn : 1 ≤ n) {H : VH} (hH : H.Ok) : ∃ H', vcall T ext promo n 94 [] H = some (.slice (some (H.next, 0)) 39 (some 39) 1, H') ∧ Plain H' H.next (strCells signs) ∧ Eff (fun _ => False) H H' := by
  obtain ⟨n, rfl⟩ : ∃ m, n = m + 1 := ⟨n - 1, by omega⟩
  refine ⟨_, ok94 _ _ (r := (.slice (some (H.next, 0)) 39 (some 39) 1, leave H (H.lo.fresh (strCells signs)) (.slice (some (H.next, 0)) 39 (some 39) 1))) ?_, ?_, (Eff.fresh _ (lo_ok hH) _).leave hH _⟩
  · unfold F94
    simp only [letH_mk]
    rfl
  · rw [leave_rest rfl]
    exact plain_low (fresh_plain (lo_ok hH) _) _
theorem words_ok (n : Nat) (hn : 1 ≤ n) {H : VH} (hH : H.Ok) : ∃ H', vcall T ext promo n 95 [] H = some (.slice (some (H.next, 0)) 54 (some 54) 1, H') ∧ Plain H' H.next (strCells words) ∧ Eff (fun _ => False) H H' := by
  obtain ⟨n, rfl⟩ : ∃ m, n = m + 1 := ⟨n - 1, by omega⟩
  refine ⟨_, ok95 _ _ (r := (.slice (some (H.next, 0)) 54 (some 54) 1, leave H (H.lo.fresh (strCells words)) (.slice (some (H.next, 0)) 54 (some 54) 1))) ?_, ?_, (Eff.fresh _ (lo_ok hH) _).leave hH _⟩
  · unfold F95
    simp only [letH_mk]
    rfl
  · rw [leave_rest rfl]
    exact plain_low (fresh_plain (lo_ok hH) _) _
theorem less_str_ok (n : Nat) (hn : 3 ≤ n) (a b : List UInt8) (H : VH) : vcall T ext promo n 158 [.str (PS.of a), .str (PS.of b)] H = some (.bool ((PS.of a).less (PS.of b)), H) := by
  obtain ⟨n, rfl⟩ : ∃ m, n = m + 1 := ⟨n - 1, by omega⟩
  have e : ∀ H, vcall T ext promo n 147 [.str (PS.of a)] H = some (.bool false, H) := by
    intro H
    obtain ⟨n, rfl⟩ : ∃ m, n = m + 1 := ⟨n - 1, by omega⟩
    apply ok147
    unfold F147
    simp only [KA, KB, KD, reduceCtorEq, if_false, if_true, str_eq, decide_true]
    rw [leave_flat rfl rfl]
  apply ok158
  unfold F158
  simp only [KA, KB, KD, reduceCtorEq, if_false, if_true, e]
  rw [leave_flat rfl rfl]
def bsL (ws : List (List UInt8)) (x : List UInt8) : Nat → Nat → Nat → Nat
  | 0, i, _ => i
  | f + 1, i, j => if i < j then (if (PS.of (ws.getD ((i + j) / 2) [])).less (PS.of x) then bsL ws x f ((i + j) / 2 + 1) j else bsL ws x f i ((i + j) / 2)) else i
theorem bsL_le (ws : List (List UInt8)) (x : List UInt8) : ∀ (f i j : Nat), i ≤ j → bsL ws x f i j ≤ j
  | 0, i, j, h => h
  | f + 1, i, j, h => by
    unfold bsL
    split
    · split
      · exact bsL_le ws x f _ j (by omega)
      · exact Nat.le_trans (bsL_le ws x f _ _ (by omega)) (by omega)
    · exact h
theorem half_ok (i j : Nat) (h : i + j < 1000000) : ishr (fwrap .u64 ((i + j : Nat) : Int)) 1 = (((i + j) / 2 : Nat) : Int) := by
  rw [fw_u64]
  rw [show ((i + j : Nat) : Int) % 18446744073709551616 = ((i + j : Nat) : Int) by omega]
  show Int.ofNat ((i + j) / 2 ^ 1) = _
  rfl
theorem bs_loop (n : Nat) (hn : 5 ≤ n) (ws : List (List UInt8)) (x : List UInt8) (hw : ws.length < 1000) (q : Nat) (H : VH) (hq : Plain H q (strCells ws)) : ∀ (f m i j : Nat), j - i < f → f ≤ m → i ≤ j → j ≤ ws.length →
    loopN (L140_0 (vcall T ext promo n) n (some (q, 0)) ws.length (PS.of x)) m [.int .i64 (i : Int), .int .i64 (j : Int)] H = some (.exit 0, [.int .i64 ((bsL ws x f i j : Nat) : Int)], H) := by
  intro f
  induction f with
  | zero => intro m i j h; omega
  | succ f ih =>
    intro m i j h1 h2 h3 h4
    obtain ⟨m, rfl⟩ : ∃ m', m = m' + 1 := ⟨m - 1, by omega⟩
    rw [loopN_succ]
    generalize hlp : loopN (L140_0 (vcall T ext promo n) n (some (q, 0)) ws.length (PS.of x)) m = lp
    unfold L140_0 bsL
    by_cases h : i < j
    · have h' : (i : Int) < (j : Int) := by omega
      have hh : (i + j) / 2 < ws.length := by omega
      have hh' : (((i + j) / 2 : Nat) : Int) < (ws.length : Int) := by omega
      have h0 : (0 : Int) ≤ (((i + j) / 2 : Nat) : Int) := Int.natCast_nonneg _
      have hg : ws.getD ((i + j) / 2) [] = ws[(i + j) / 2] := by rw [List.getD_eq_getElem?_getD, List.getElem?_eq_getElem hh]; rfl
      have hcell : H.cell q (0 + (i + j) / 2 * 1) = some (.str (PS.of ws[(i + j) / 2])) := by rw [Nat.zero_add, Nat.mul_one, hq.cell, strCells_get _ _ hh]
      have f2 : fwrap .i64 (((i + j) / 2 : Nat) : Int) = (((i + j) / 2 : Nat) : Int) := fw_i64 (by omega) (by omega)
      simp only [KA, KB, KD, reduceCtorEq, if_false, if_true, h', fw_addn i j (by omega), half_ok i j (by omega), f2, h0, hh', and_self, Bool.and_eq_true, Int.toNat_natCast, hcell, less_str_ok n (by omega), hg, fw_add1 ((i + j) / 2) (by omega), h]
      rw [← hlp]
      split
      · exact ih m _ j (by omega) (by omega) (by omega) h4
      · exact ih m i _ (by omega) (by omega) (by omega) (by omega)
    · have h' : ¬ (i : Int) < (j : Int) := by omega
      simp only [KA, KB, KD, reduceCtorEq, if_false, if_true, h', h]
def bsF (ws : List (List UInt8)) (x : List UInt8) : Bool := decide (ws[bsL ws x (ws.length + 1) 0 ws.length]? = some x)
theorem bs_ok (n : Nat) (ws : List (List UInt8)) (x : List UInt8) (hw : ws.length < 1000) (hn : ws.length + 10 ≤ n) (q : Nat) (c : Option Nat) (e : Nat) {H : VH} (hq : Plain H q (strCells ws)) :
    ∃ i : Int, vcall T ext promo n 140 [.slice (some (q, 0)) ws.length c e, .str (PS.of x)] H = some (.tuple [.int .i64 i, .bool (bsF ws x)], H) := by
  obtain ⟨n, rfl⟩ : ∃ m, n = m + 1 := ⟨n - 1, by omega⟩
  refine ⟨((bsL ws x (ws.length + 1) 0 ws.length : Nat) : Int), ?_⟩
  have hle := bsL_le ws x (ws.length + 1) 0 ws.length (by omega)
  have e0 := bs_loop n (by omega) ws x hw q H.lo hq.lo (ws.length + 1) n 0 ws.length (by omega) (by omega) (by omega) (Nat.le_refl _)
  unfold bsF
  generalize bsL ws x (ws.length + 1) 0 ws.length = i at *
  have hnan : ∀ (y : List UInt8) H, vcall T ext promo n 159 [.str (PS.of y)] H = some (.bool false, H) := by
    intro y H
    obtain ⟨n, rfl⟩ : ∃ m, n = m + 1 := ⟨n - 1, by omega⟩
    apply ok159
    unfold F159
    simp only [KA, KB, KD, reduceCtorEq, if_false, if_true, str_eq, decide_true]
    rw [leave_flat rfl rfl]
  have key : ∀ (z : Int) (y : Bool), leave H H.lo (.tuple [.int .i64 z, .bool y]) = H := fun _ _ => leave_flat rfl rfl
  apply ok140
  unfold F140
  simp only [letH_mk]
  rw [show (.int .i64 0 : AV) = .int .i64 ((0 : Nat) : Int) from rfl, e0]
  by_cases h : i < ws.length
  · have h' : (i : Int) < (ws.length : Int) := by omega
    have h0 : (0 : Int) ≤ (i : Int) := Int.natCast_nonneg _
    have hcell : H.lo.cell q (0 + i * 1) = some (.str (PS.of ws[i])) := by rw [Nat.zero_add, Nat.mul_one, hq.lo.cell, strCells_get _ _ h]
    rw [List.getElem?_eq_getElem h]
    simp only [KA, KB, KD, reduceCtorEq, if_false, if_true, h', h0, and_self, Bool.and_eq_true, Int.toNat_natCast, hcell, str_eq, hnan, key, Option.some.injEq]
    by_cases hx : ws[i] = x
    · simp only [hx, decide_true, if_true]
    · simp only [hx, decide_false, if_false, Bool.false_eq_true]
  · have h' : ¬ (i : Int) < (ws.length : Int) := by omega
    rw [List.getElem?_eq_none (by omega)]
    simp only [KA, KB, KD, reduceCtorEq, if_false, if_true, h', key, reduceCtorEq, decide_false]
end Go.Vm.Tryd
