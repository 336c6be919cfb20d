/- Merged texts: SelA SelB SelC SelD SelE SelF SelG PlainW SelH MapsA SelJ. -/
import Derived.Test.YtmlogeklbcgjnaaGreatDoorXa
import Derived.Test.YtmlogeklbcgjnaaGreatDoorW5
import Derived.Test.YtmlogeklbcgjnaaGreatDoorWa
namespace Go.Vm.Tryz
/- width.Own at a name and at an indexed name, in an environment of signals. -/
section
set_option linter.unusedSectionVars false
set_option linter.unusedSimpArgs false
set_option linter.unusedVariables false
set_option maxRecDepth 10000
/-- A signal, as an expression. -/
abbrev refL (w : Int) (s : Bool) (i : Int) : List AV := [.int .i64 1, .int .i64 w, .bool s, .int .i64 0, .int .u64 0, .int .u64 0, .int .i64 i, .bool false, .int .i64 0, nilS]
/-- A signal, as a thing of an environment. -/
abbrev thL (w lsb : Int) (s : Bool) (i : Int) : List AV := [.int .i64 1, .int .i64 0, .int .u64 0, .int .u64 0, .int .i64 i, .bool false, .int .i64 w, .int .i64 lsb, .bool s, nilS, .bool false, .int .i64 0, .int .i64 1, nilS]
/-- Its place. -/
abbrev spL (nm : PS) (w lsb : Int) (s : Bool) (i : Int) : List AV := [.str nm, .int .i64 1, .int .i64 w, .bool s, .int .i64 0, .int .u64 0, .int .u64 0, .int .i64 i, .bool false, .int .i64 0, nilS, .int .i64 1, .int .i64 w, .bool s, .int .i64 0, .int .u64 0, .int .u64 0, .int .i64 i, .bool false, .int .i64 0, nilS, .int .i64 0, .int .i64 w, .int .i64 w, .int .i64 lsb, .bool s, nilS, .int .i64 1, .int .i64 0, .int .u64 0, .int .u64 0, .int .i64 i, .bool false, .int .i64 w, .int .i64 lsb, .bool s, nilS, .bool false, .int .i64 0, .int .i64 1, nilS, .bool false, .bool false]
/-- A name, as a tree. -/
abbrev ndNm (nm : PS) : List AV := [.int .i64 79, .int .i64 0, .int .i64 0, .str nm, .str (PS.of []), .int .i64 0, .int .u64 0, .int .u64 0, .bool false, nilS]
abbrev tyR (w lsb : Int) (s : Bool) (i : Int) : List AV := [.int .i64 (-1), .int .i64 w, .int .i64 lsb, .bool s, nilS, nilS, .int .i64 1, .int .i64 w, .bool s, .int .i64 0, .int .u64 0, .int .u64 0, .int .i64 i, .bool false, .int .i64 0, nilS]
theorem undEnv : T.und 48 = some (.map 9 47) := by kernel_rfl
theorem fitStr (k : PS) : keyFit T 9 (.str k) = true := by
  unfold keyFit
  rw [show T.und 9 = some .string by kernel_rfl]
/-- What a name stands for. -/
def Look (H : VH) (m : Nat) (nm : PS) (th : List AV) : Prop := vlookup T H 48 (.map (some m)) (.str nm) true = some (.tuple [.agg th, .bool true])
theorem Look.lo {H : VH} {m : Nat} {nm : PS} {th : List AV} (h : Look H m nm th) : Look H.lo m nm th := h
theorem widNamed_ok (n : Nat) (hn : 2 ≤ n) {H : VH} {m : Nat} {nm : PS} {w lsb : Int} {s : Bool} {i : Int} (hl : Look H m nm (thL w lsb s i)) : vcall T ext promo n 81 [.agg (ndNm nm), .str nm, .agg [.map (some m), nilS]] H = some (.tuple [.agg (spL nm w lsb s i), .agg fault0], H) := by
  obtain ⟨n, rfl⟩ : ∃ m, n = m + 1 := ⟨n - 1, by omega⟩
  have h1 : vlookup T H.lo 48 (.map (some m)) (.str nm) true = some (.tuple [.agg (thL w lsb s i), .bool true]) := hl
  apply ok81
  unfold F81
  simp only [letH_mk]
  rw [h1]
  simp only [KA, KB, KD, KE,  reduceCtorEq, if_false, if_true, ieq_dec, Int.reduceEq, decide_true, decide_false]
  exact congrArg some (back_pure (fun _ => rfl) rfl)
theorem placeNm_ok (n : Nat) (hn : 3 ≤ n) {H : VH} {m : Nat} {nm : PS} {w lsb : Int} {s : Bool} {i : Int} (hl : Look H m nm (thL w lsb s i)) : vcall T ext promo n 46 [.agg (ndNm nm), .agg [.map (some m), nilS]] H = some (.tuple [.agg (spL nm w lsb s i), .agg fault0], H) := by
  obtain ⟨n, rfl⟩ : ∃ m, n = m + 1 := ⟨n - 1, by omega⟩
  apply ok46
  unfold F46
  rw [letH_mk, selC_eq, if_pos (by decide)]
  rw [widNamed_ok n (by omega) hl.lo]
  simp only [KA, KB, KD, KE,  reduceCtorEq, if_false, if_true]
  exact congrArg some (back_pure (fun _ => rfl) rfl)
theorem operationNm_ok (n : Nat) (hn : 1 ≤ n) (H : VH) : vcall T ext promo n 28 [.int .i64 79] H = some (.int .i64 (-1), H) ∧ vcall T ext promo n 28 [.int .i64 81] H = some (.int .i64 (-1), H) := by
  obtain ⟨n, rfl⟩ : ∃ m, n = m + 1 := ⟨n - 1, by omega⟩
  refine ⟨?_, ?_⟩
  all_goals
    apply ok28
    unfold F28
    simp only [KA, KB, KD, KE,  reduceCtorEq, if_false, if_true, ieq_dec, Int.reduceEq, decide_false, decide_true]
    exact congrArg some (by rw [leave_flat rfl rfl])
theorem isR_ok (n : Nat) (hn : 1 ≤ n) (w lsb : Int) (s : Bool) (i : Int) (H : VH) : vcall T ext promo n 44 [.agg (refL w s i), .agg [.int .i64 w, .int .i64 lsb, .bool s, nilS]] H = some (.agg (tyR w lsb s i), H) := by
  obtain ⟨n, rfl⟩ : ∃ m, n = m + 1 := ⟨n - 1, by omega⟩
  apply ok44
  unfold F44
  simp only [letH_mk]
  rw [back_pure (fun _ => rfl) rfl]
theorem aloneNm_ok (n : Nat) (hn : 5 ≤ n) {H : VH} {m : Nat} {nm : PS} {w lsb : Int} {s : Bool} {i : Int} (hl : Look H m nm (thL w lsb s i)) : vcall T ext promo n 29 [.agg (ndNm nm), .agg [.map (some m), nilS]] H = some (.tuple [.agg (tyR w 0 s i), .agg fault0], H) := by
  obtain ⟨n, rfl⟩ : ∃ m, n = m + 1 := ⟨n - 1, by omega⟩
  apply ok29
  unfold F29
  simp only [KA, KB, KD, KE,  reduceCtorEq, if_false, if_true, ieq_dec, Int.reduceEq, decide_false, decide_true]
  rw [placeNm_ok n (by omega) hl.lo]
  simp only [KA, KB, KD, KE,  reduceCtorEq, if_false, if_true, ieq_dec, Int.reduceEq, decide_false, decide_true]
  rw [isR_ok n (by omega)]
  simp only [KA, KB, KD, KE,  reduceCtorEq, if_false, if_true]
  exact congrArg some (back_pure (fun _ => rfl) rfl)
theorem typedNm_ok (n : Nat) (hn : 7 ≤ n) {H : VH} {m : Nat} {nm : PS} {w lsb : Int} {s : Bool} {i : Int} (hl : Look H m nm (thL w lsb s i)) : vcall T ext promo n 18 [.agg (ndNm nm), .agg [.map (some m), nilS]] H = some (.tuple [.agg (tyR w 0 s i), .agg fault0], H) := by
  obtain ⟨n, rfl⟩ : ∃ m, n = m + 1 := ⟨n - 1, by omega⟩
  apply ok18
  unfold F18
  simp only [KA, KB, KD, KE,  reduceCtorEq, if_false, if_true, ieq_dec, Int.reduceEq, decide_false, decide_true]
  rw [(operationNm_ok n (by omega) _).1]
  simp only [KA, KB, KD, KE,  reduceCtorEq, if_false, if_true]
  rw [if_pos (by decide), aloneNm_ok n (by omega) hl.lo]
  simp only [KA, KB, KD, KE,  reduceCtorEq, if_false, if_true]
  exact congrArg some (back_pure (fun _ => rfl) rfl)
/-- A typed expression in its own width. -/
theorem inR_ok (n : Nat) (hn : 3 ≤ n) (w lsb : Int) (s : Bool) (i : Int) (H : VH) : vcall T ext promo n 31 [.agg (tyR w lsb s i), .int .i64 w, .bool s] H = some (.agg (refL w s i), H) := by
  obtain ⟨n, rfl⟩ : ∃ m, n = m + 2 := ⟨n - 2, by omega⟩
  have e1 : vcall T ext promo (n + 1) 52 [.agg (refL w s i), .int .i64 w, .bool s] H.lo = some (.agg (refL w s i), H.lo) := by
    apply ok52
    unfold F52
    simp only [KA, KB, KD, KE,  reduceCtorEq, if_false, if_true, ieq_dec, decide_true]
    exact congrArg some (back_pure (fun _ => rfl) rfl)
  apply ok31
  unfold F31
  simp only [KA, KB, KD, KE,  reduceCtorEq, if_false, if_true]
  rw [if_pos (by decide), e1]
  simp only [KA, KB, KD, KE,  reduceCtorEq, if_false, if_true]
  exact congrArg some (back_pure (fun _ => rfl) rfl)
theorem ownNm_ok (n : Nat) (hn : 9 ≤ n) {H : VH} {m : Nat} {nm : PS} {w lsb : Int} {s : Bool} {i : Int} (hl : Look H m nm (thL w lsb s i)) : vcall T ext promo n 9 [.agg (ndNm nm), .agg [.map (some m), nilS]] H = some (.tuple [.agg (refL w s i),   .agg [.int .i64 w, .int .i64 0, .bool s, nilS], .agg fault0], H) := by
  obtain ⟨n, rfl⟩ : ∃ m, n = m + 2 := ⟨n - 2, by omega⟩
  have e1 : vcall T ext promo (n + 1) 19 [.agg (tyR w 0 s i)] H.lo = some (.agg (refL w s i), H.lo) := by
    apply ok19
    unfold F19
    simp only [letH_mk]
    rw [inR_ok n (by omega)]
    simp only [KA, KB, KD, KE,  reduceCtorEq, if_false, if_true]
    exact congrArg some (back_pure (fun _ => rfl) rfl)
  apply ok9
  unfold F9
  simp only [letH_mk]
  rw [typedNm_ok (n + 1) (by omega) hl.lo]
  simp only [KA, KB, KD, KE,  reduceCtorEq, if_false, if_true, ieq_dec, decide_true]
  rw [e1]
  simp only [KA, KB, KD, KE,  reduceCtorEq, if_false, if_true]
  exact congrArg some (back_pure (fun _ => rfl) rfl)
end
/- width.index at a signal: the number of a bit, as an expression without a sign. -/
section
set_option linter.unusedSectionVars false
set_option linter.unusedSimpArgs false
set_option linter.unusedVariables false
set_option maxRecDepth 10000
/-- The bits of a small number. -/
def blen (n : Nat) : Nat := if n = 0 then 0 else if n < 2 then 1 else if n < 4 then 2 else if n < 8 then 3 else 4
theorem small_cases {n : Nat} (h : n ≤ 15) : n = 0 ∨ n = 1 ∨ n = 2 ∨ n = 3 ∨ n = 4 ∨ n = 5 ∨ n = 6 ∨ n = 7 ∨ n = 8 ∨ n = 9 ∨ n = 10 ∨ n = 11 ∨ n = 12 ∨ n = 13 ∨ n = 14 ∨ n = 15 := by omega
theorem len64_ok (k : Nat) (hk : 1 ≤ k) {n : Nat} (h : n ≤ 15) (H : VH) : vcall T ext promo k 87 [.int .u64 (n : Int)] H = some (.int .i64 (blen n : Int), H) := by
  obtain ⟨k, rfl⟩ : ∃ m, k = m + 1 := ⟨k - 1, by omega⟩
  rcases small_cases h with rfl | rfl | rfl | rfl | rfl | rfl | rfl | rfl | rfl | rfl | rfl | rfl | rfl | rfl | rfl | rfl
  all_goals
    apply ok87
    unfold F87
    simp only [KA, KB, KD, KE,  reduceCtorEq, if_false, if_true]
    rw [if_neg (by decide)]
    simp only [KA, KB, KD, KE,  reduceCtorEq, if_false, if_true]
    rw [if_neg (by decide)]
    simp only [KA, KB, KD, KE,  reduceCtorEq, if_false, if_true]
    rw [if_neg (by decide)]
    simp only [KA, KB, KD, KE,  reduceCtorEq, if_false, if_true]
    rw [if_pos (by decide)]
    exact congrArg some (by rw [leave_flat rfl rfl]; rfl)
/-- The width of an index. -/
def idxW (kw : Nat) (s : Bool) (lsb w : Nat) : Nat := max (blen (lsb + w - 1) + if s = true then 1 else 0) kw
def idx0 (kw : Nat) (s : Bool) : X := .mk 1 kw s 0 0 0 1 false 0 none []
def idx1 (kw : Nat) (s : Bool) (W : Nat) : X := if kw = W then idx0 kw s else .mk 33 W s 0 0 0 0 false 0 (some 1) [idx0 kw s]
def idx2 (kw : Nat) (s : Bool) (W : Nat) : X := if s = true then .mk 3 W false 0 0 0 0 false 0 (some 1) [idx1 kw s W] else idx1 kw s W
def idxC (W lsb : Nat) : X := .mk 0 W false W (u64 (BitVec.ofNat 64 lsb &&& bmask W)) (u64 0#64) 0 false 0 none []
def idx3 (kw : Nat) (s : Bool) (W lsb : Nat) : X := if 0 < lsb then .mk 17 W false 0 0 0 0 false 0 (some 2) [idx2 kw s W, idxC W lsb] else idx2 kw s W
theorem resizedR_ok (n : Nat) (hn : 1 ≤ n) (kw W : Nat) (h : kw ≤ W) (s : Bool) (H : VH) : vcall T ext promo n 52 [.agg (refL kw s 1), .int .i64 (W : Int), .bool s] H = some (.agg (idx1 kw s W).enc, H) := by
  obtain ⟨n, rfl⟩ : ∃ m, n = m + 1 := ⟨n - 1, by omega⟩
  apply ok52
  unfold F52
  simp only [KA, KB, KD, KE,  reduceCtorEq, if_false, if_true, ieq_dec, Int.reduceEq, decide_false]
  unfold idx1 idx0
  by_cases e : kw = W
  · subst e
    rw [if_pos rfl, if_pos rfl]
    exact congrArg some (back_pure (fun _ => rfl) rfl)
  · rw [if_neg (by omega), if_neg e, if_neg (by omega)]
    exact congrArg some (back_pure (fun _ => rfl) rfl)
theorem fixedR_ok (n : Nat) (hn : 1 ≤ n) (w : Int) (s : Bool) (i : Int) (H : VH) : vcall T ext promo n 141 [.agg (refL w s i)] H = some (.bool false, H) := by
  obtain ⟨n, rfl⟩ : ∃ m, n = m + 1 := ⟨n - 1, by omega⟩
  apply ok141
  unfold F141
  simp only [KA, KB, KD, KE,  reduceCtorEq, if_false, if_true, ieq_dec, decide_true]
  exact congrArg some (by rw [leave_flat rfl rfl])
theorem max3 (H : VH) (a b : Nat) (hb : 1 ≤ b) : vbuiltin T H .max [3, 3, 3] [.int .i64 (a : Int), .int .i64 (b : Int), .int .i64 1] = some (.int .i64 ((max a b : Nat) : Int), H) := by
  have e1 : imax (a : Int) (b : Int) = ((max a b : Nat) : Int) := imaxn a b
  have e2 : imax ((max a b : Nat) : Int) 1 = ((max a b : Nat) : Int) := by
    have := imaxn (max a b) 1
    rw [show ((1 : Nat) : Int) = 1 from rfl] at this
    rw [this]
    congr 1
    omega
  have : vbuiltin T H .max [3, 3, 3] [.int .i64 (a : Int), .int .i64 (b : Int), .int .i64 1] = some (.int .i64 (imax (imax (a : Int) (b : Int)) 1), H) := by kernel_rfl
  rw [this, e1, e2]
end
/- width.index at a signal. -/
section
set_option linter.unusedSectionVars false
set_option linter.unusedSimpArgs false
set_option linter.unusedVariables false
set_option maxRecDepth 10000
theorem idx1_sh (kw : Nat) (s : Bool) (W : Nat) : ∃ op sg kc ks, idx1 kw s W = .mk op W s 0 0 0 sg false 0 kc ks := by
  unfold idx1 idx0
  by_cases e : kw = W
  · subst e
    rw [if_pos rfl]
    exact ⟨_, _, _, _, rfl⟩
  · rw [if_neg e]
    exact ⟨_, _, _, _, rfl⟩
theorem idx2_sh (kw : Nat) (s : Bool) (W : Nat) : ∃ op sg kc ks, idx2 kw s W = .mk op W false 0 0 0 sg false 0 kc ks := by
  unfold idx2
  cases s
  · exact idx1_sh kw false W
  · exact ⟨_, _, _, _, rfl⟩
theorem blen_le (n : Nat) : blen n ≤ 4 := by
  unfold blen
  split
  · omega
  · split
    · omega
    · split
      · omega
      · split <;> omega
theorem index_ok (n : Nat) (hn : 20 ≤ n) {H : VH} {m : Nat} {nm : PS} {kw lsb w : Nat} {s : Bool} (hl : Look H m nm (thL kw 0 s 1)) (hk : 1 ≤ kw ∧ kw ≤ 8) (h3 : lsb ≤ 3) (h8 : 1 ≤ w ∧ w ≤ 8) :
    vcall T ext promo n 142 [.agg (ndNm nm), .agg [.map (some m), nilS], .int .i64 (lsb : Int), .int .i64 (w : Int)] H = some (.tuple [.agg (idx3 kw s (idxW kw s lsb w) lsb).enc, .bool false, .agg fault0], H) := by
  obtain ⟨n, rfl⟩ : ∃ m, n = m + 1 := ⟨n - 1, by omega⟩
  have hb : blen (lsb + w - 1) ≤ 4 := blen_le _
  have f1 : fwrap .i64 ((lsb : Int) + (w : Int)) = ((lsb + w : Nat) : Int) := by rw [fw_i64 (by omega) (by omega)]; omega
  have f2 : fwrap .i64 (((lsb + w : Nat) : Int) - 1) = ((lsb + w - 1 : Nat) : Int) := by rw [fw_i64 (by omega) (by omega)]; omega
  have f3 : fwrap .u64 ((lsb + w - 1 : Nat) : Int) = ((lsb + w - 1 : Nat) : Int) := by rw [fw_u64]; omega
  have f4 : fwrap .i64 ((blen (lsb + w - 1) : Int) + 1) = ((blen (lsb + w - 1) + 1 : Nat) : Int) := by rw [fw_i64 (by omega) (by omega)]; omega
  have f5 : fwrap .u64 (lsb : Int) = u64 (BitVec.ofNat 64 lsb) := by
    rw [fw_u64]
    simp only [u64, BitVec.toNat_ofNat]
    omega
  have hW : kw ≤ idxW kw s lsb w := by unfold idxW; omega
  have hW2 : 1 ≤ idxW kw s lsb w ∧ idxW kw s lsb w ≤ 64 := by
    unfold idxW
    have : (if s = true then 1 else 0) ≤ 1 := by split <;> omega
    omega
  have hWe : idxW kw s lsb w = max (blen (lsb + w - 1) + if s = true then 1 else 0) kw := rfl
  have e1 := resizedR_ok n (by omega) kw (idxW kw s lsb w) hW s H.lo
  have e2 := of_ok n (by omega) hW2 (BitVec.ofNat 64 lsb) H.lo
  have e3 := constant_ok n (by omega) (idxW kw s lsb w) (BitVec.ofNat 64 lsb &&& bmask (idxW kw s lsb w)) 0#64 false H.lo
  have m1 := max3 H.lo (blen (lsb + w - 1)) kw hk.1
  have m2 := max3 H.lo (blen (lsb + w - 1) + 1) kw hk.1
  apply ok142
  unfold F142
  rw [letH_mk, ownNm_ok n (by omega) hl.lo]
  simp only [KA, KB, KD, KE,  reduceCtorEq, if_false, if_true, ieq_dec, decide_true]
  rw [fixedR_ok n (by omega)]
  simp only [KA, KB, KD, KE,  reduceCtorEq, if_false, if_true, f1, f2, f3]
  rw [len64_ok n (by omega) (by omega)]
  simp only [KA, KB, KD, KE,  reduceCtorEq, if_false, if_true]
  obtain ⟨op1, sg1, kc1, ks1, hx1⟩ := idx1_sh kw s (idxW kw s lsb w)
  obtain ⟨op2, sg2, kc2, ks2, hx2⟩ := idx2_sh kw s (idxW kw s lsb w)
  have hx2' := hx2
  unfold idx2 at hx2'
  have hj : ∀ (K : Ex → List AV → VH → Option (AV × VH)), bindJ (if s = true then some (Ex.normal, [AV.int .i64 (fwrap .i64 ((blen (lsb + w - 1) : Int) + 1))], H.lo) else some (Ex.normal, [AV.int .i64 (blen (lsb + w - 1) : Int)], H.lo)) K = K .normal [.int .i64 ((blen (lsb + w - 1) + if s = true then 1 else 0 : Nat) : Int)] H.lo := fun K => by
    cases s
    · rfl
    · rw [if_pos rfl, if_pos rfl, f4]
      rfl
  have m3 : vbuiltin T H.lo .max [3, 3, 3] [.int .i64 ((blen (lsb + w - 1) + if s = true then 1 else 0 : Nat) : Int), .int .i64 (kw : Int), .int .i64 1] = some (.int .i64 (idxW kw s lsb w : Int), H.lo) := max3 H.lo _ kw hk.1
  rw [hj]
  simp only [KA, KB, KD, KE,  reduceCtorEq, if_false, if_true]
  rw [m3]
  simp only [KA, KB, KD, KE,  reduceCtorEq, if_false, if_true]
  rw [e1]
  generalize idxW kw s lsb w = W at *
  have hfin : ∀ H' : VH, H' = H.lo → back true H H' (.tuple [.agg (idx3 kw s W lsb).enc, .bool false, .agg fault0]) = (.tuple [.agg (idx3 kw s W lsb).enc, .bool false, .agg fault0], H) := fun H' e => by
    subst e
    refine back_pure (FrzId.tuple (n := 4) (.cons (FrzId.agg (n := 3) (X.frzs 3 _)) (.cons (fun _ => rfl) (.cons (fun _ => rfl) (.nil _))))) ?_
    show (flats (X.enc _) && (true && (true && true))) = true
    rw [X.flats_enc]
    rfl
  -- no sign
  have hj2 : ∀ (K : Ex → List AV → VH → Option (AV × VH)), bindJ (if s = true then some (Ex.normal, [AV.agg [.int .i64 3, .int .i64 (W : Int), .bool false, .int .i64 0, .int .u64 0, .int .u64 0, .int .i64 0, .bool false, .int .i64 0, .slice (some (.pur (idx1 kw s W).enc, 0)) 1 (some 1) 10]], H.lo) else some (Ex.normal, [AV.agg (idx1 kw s W).enc], H.lo)) K = K .normal [.agg (idx2 kw s W).enc] H.lo := fun K => by
    unfold idx2
    cases s
    · rfl
    · rw [if_pos rfl, if_pos rfl]
      simp only [X.enc_mk, X.encs, List.append_nil, bindJ_mk]
      rfl
  rw [hx1] at hj2 ⊢
  rw [X.enc_mk] at hj2 ⊢
  simp only [KA, KB, KD, KE,  reduceCtorEq, if_false, if_true]
  have hfin' := hfin H.lo rfl
  unfold idx3 at hfin' ⊢
  rw [hj2]
  rw [hx2] at hfin' ⊢
  rw [X.enc_mk]
  simp only [KA, KB, KD, KE,  reduceCtorEq, if_false, if_true]
  by_cases h0 : 0 < lsb
  · rw [if_pos (by omega), f5, e2]
    rw [if_pos h0] at hfin' ⊢
    simp only [KA, KB, KD, KE,  reduceCtorEq, if_false, if_true]
    rw [e3]
    simp only [KA, KB, KD, KE,  reduceCtorEq, if_false, if_true]
    unfold idxC at hfin' ⊢
    simp only [X.enc_mk, X.encs, List.append_nil] at hfin' ⊢
    exact congrArg some hfin'
  · rw [if_neg (by omega)]
    rw [if_neg h0] at hfin' ⊢
    simp only [KA, KB, KD, KE,  reduceCtorEq, if_false, if_true]
    rw [X.enc_mk] at hfin' ⊢
    exact congrArg some hfin'
end
/- width.Own at an indexed signal. -/
section
set_option linter.unusedSectionVars false
set_option linter.unusedSimpArgs false
set_option linter.unusedVariables false
set_option maxRecDepth 10000
theorem idx3_sh (kw : Nat) (s : Bool) (W lsb : Nat) : ∃ op sg kc ks, idx3 kw s W lsb = .mk op W false 0 0 0 sg false 0 kc ks := by
  unfold idx3
  by_cases h : 0 < lsb
  · rw [if_pos h]
    exact ⟨_, _, _, _, rfl⟩
  · rw [if_neg h]
    exact idx2_sh kw s W
/-- The place of a bit. -/
abbrev spP (nm : PS) (w lsb : Int) (k : X) : List AV := [.str nm, .int .i64 4, .int .i64 1, .bool false, .int .i64 0, .int .u64 0, .int .u64 0, .int .i64 0, .bool false, .int .i64 0, .slice (some (.pur (refL w false 0 ++ k.enc), 0)) 2 (some 2) 10, .int .i64 1, .int .i64 w, .bool false, .int .i64 0, .int .u64 0, .int .u64 0, .int .i64 0, .bool false, .int .i64 0, nilS, .int .i64 (-1), .int .i64 w, .int .i64 1, .int .i64 0, .bool false, nilS, .int .i64 1, .int .i64 0, .int .u64 0, .int .u64 0, .int .i64 0, .bool false, .int .i64 w, .int .i64 lsb, .bool false, nilS, .bool false, .int .i64 0, .int .i64 1, nilS, .bool false, .bool false]
/-- An indexed name, as a tree. -/
abbrev ndIx (nm nm2 : PS) : List AV := [.int .i64 81, .int .i64 0, .int .i64 0, .str (PS.of []), .str (PS.of []), .int .i64 0, .int .u64 0, .int .u64 0, .bool false, .slice (some (.pur (ndNm nm ++ ndNm nm2), 0)) 2 (some 2) 10]
theorem frz_spP (nm : PS) (w lsb : Int) (k : X) : FrzId 5 (.tuple [.agg (spP nm w lsb k), .agg fault0]) ∧ flat (.tuple [.agg (spP nm w lsb k), .agg fault0]) = true := by
  have hp : FrzId 3 (.slice (some (.pur (refL w false 0 ++ k.enc), 0)) 2 (some 2) 10) := FrzId.pur (n := 2) (frzs_all fun v hv => by
    rcases List.mem_append.1 hv with h | h
    · simp only [List.mem_cons, List.not_mem_nil, or_false] at h
      rcases h with rfl | rfl | rfl | rfl | rfl | rfl | rfl | rfl | rfl | rfl <;> first | exact frz_int _ _ _ | exact frz_bool _ _ | exact frz_nil _ _ _ _
    · exact X.frz 2 k v h)
  have hq : flat (.slice (some (.pur (refL w false 0 ++ k.enc), 0)) 2 (some 2) 10) = true := by
    show flats (refL w false 0 ++ k.enc) = true
    rw [flats_append, X.flats_enc]
    rfl
  constructor
  · refine FrzId.tuple (n := 4) (.cons (FrzId.agg (n := 3) (frzs_all fun v hv => ?_)) (.cons (fun _ => rfl) (.nil _)))
    simp only [spP, List.mem_cons, List.not_mem_nil, or_false] at hv
    rcases hv with rfl | rfl | rfl | rfl | rfl | rfl | rfl | rfl | rfl | rfl | rfl | rfl | rfl | rfl | rfl | rfl | rfl | rfl | rfl | rfl | rfl | rfl | rfl | rfl | rfl | rfl | rfl | rfl | rfl | rfl | rfl | rfl | rfl | rfl | rfl | rfl | rfl | rfl | rfl | rfl | rfl | rfl | rfl
    all_goals first | exact hp | exact frz_int _ _ _ | exact frz_bool _ _ | exact frz_str _ _ | exact frz_nil _ _ _ _
  · show ((true && (true && (true && (true && (true && (true && (true && (true && (true && (true && (flat (.slice (some (.pur (refL w false 0 ++ k.enc), 0)) 2 (some 2) 10) && (true && (true && (true && (true && (true && (true && (true && (true && (true && (true && (true && (true && (true && (true && (true && (true && (true && (true && (true && (true && (true && (true && (true && (true && (true && (true && (true && (true && (true && (true && (true && (true && true))))))))))))))))))))))))))))))))))))))))))) && (true && true)) = true
    rw [hq]
    rfl
set_option maxHeartbeats 4000000 in
theorem partOf_ok (n : Nat) (hn : 25 ≤ n) {H : VH} {m : Nat} {nm nm2 : PS} {kw lsb w : Nat} {s : Bool} (hl : Look H m nm2 (thL kw 0 s 1)) (hk : 1 ≤ kw ∧ kw ≤ 8) (h3 : lsb ≤ 3) (h8 : 1 ≤ w ∧ w ≤ 8) :
    vcall T ext promo n 85 [.agg (ndIx nm nm2), .agg (spL nm w lsb false 0), .agg [.map (some m), nilS]] H = some (.tuple [.agg (spP nm w lsb (idx3 kw s (idxW kw s lsb w) lsb)), .agg fault0], H) := by
  obtain ⟨n, rfl⟩ : ∃ m, n = m + 1 := ⟨n - 1, by omega⟩
  have e1 := index_ok n (by omega) hl.lo hk h3 h8
  have c1 : ∀ H : VH, H.cells (.pur (ndNm nm ++ ndNm nm2)) (0 + 10) 10 = some (ndNm nm2) := fun _ => rfl
  have hf := frz_spP nm w lsb (idx3 kw s (idxW kw s lsb w) lsb)
  obtain ⟨op, sg, kc, ks, hx⟩ := idx3_sh kw s (idxW kw s lsb w) lsb
  rw [hx] at e1 hf ⊢
  generalize idxW kw s lsb w = W at *
  unfold spP at hf ⊢
  rw [X.enc_mk] at e1 hf ⊢
  apply ok85
  unfold F85
  simp (config := { maxSteps := 4000000 }) only [KA, KB, KD, KE,  reduceCtorEq, if_false, if_true, Bool.and_eq_true]
  rw [if_pos (by decide), c1]
  simp (config := { maxSteps := 4000000 }) only [KA, KB, KD, KE,  reduceCtorEq, if_false, if_true]
  rw [e1]
  simp (config := { maxSteps := 4000000 }) only [KA, KB, KD, KE,  reduceCtorEq, if_false, if_true, ieq_dec, Int.reduceEq, decide_true, decide_false]
  exact congrArg some (back_pure hf.1 hf.2)
end
/- width.Own at an indexed signal. -/
section
set_option linter.unusedSectionVars false
set_option linter.unusedSimpArgs false
set_option linter.unusedVariables false
set_option maxRecDepth 10000
set_option maxHeartbeats 4000000 in
theorem placeIx_ok (n : Nat) (hn : 30 ≤ n) {H : VH} {m : Nat} {nm nm2 : PS} {kw lsb w : Nat} {s : Bool} (hl : Look H m nm2 (thL kw 0 s 1)) (hl0 : Look H m nm (thL w lsb false 0)) (hk : 1 ≤ kw ∧ kw ≤ 8) (h3 : lsb ≤ 3) (h8 : 1 ≤ w ∧ w ≤ 8) :
    vcall T ext promo n 46 [.agg (ndIx nm nm2), .agg [.map (some m), nilS]] H = some (.tuple [.agg (spP nm w lsb (idx3 kw s (idxW kw s lsb w) lsb)), .agg fault0], H) := by
  obtain ⟨n, rfl⟩ : ∃ m, n = m + 1 := ⟨n - 1, by omega⟩
  have e1 := partOf_ok n (by omega) (nm := nm) hl.lo hk h3 h8
  have e0 := placeNm_ok n (by omega) hl0.lo
  have c0 : ∀ H : VH, H.cells (.pur (ndNm nm ++ ndNm nm2)) 0 10 = some (ndNm nm) := fun _ => rfl
  have hf := frz_spP nm w lsb (idx3 kw s (idxW kw s lsb w) lsb)
  apply ok46
  unfold F46
  rw [letH_mk, selC_eq, if_neg (by decide)]
  simp (config := { maxSteps := 4000000 }) only [KA, KB, KD, KE,  reduceCtorEq, if_false, if_true, ieq_dec, Int.reduceEq, decide_true, decide_false, Bool.and_eq_true]
  rw [if_pos (by decide), c0]
  simp (config := { maxSteps := 4000000 }) only [KA, KB, KD, KE,  reduceCtorEq, if_false, if_true, ieq_dec, Int.reduceEq, decide_true, decide_false, Bool.and_eq_true]
  rw [e0]
  simp (config := { maxSteps := 4000000 }) only [KA, KB, KD, KE,  reduceCtorEq, if_false, if_true, ieq_dec, Int.reduceEq, decide_true, decide_false, Bool.and_eq_true]
  rw [e1]
  simp (config := { maxSteps := 4000000 }) only [KA, KB, KD, KE,  reduceCtorEq, if_false, if_true, ieq_dec, Int.reduceEq, decide_true, decide_false, Bool.and_eq_true]
  exact congrArg some (back_pure hf.1 hf.2)
end
/- width.Own at an indexed signal. -/
section
set_option linter.unusedSectionVars false
set_option linter.unusedSimpArgs false
set_option linter.unusedVariables false
set_option maxRecDepth 10000
/-- A bit of a signal, as an expression. -/
abbrev ptL (w : Int) (k : X) : List AV := [.int .i64 4, .int .i64 1, .bool false, .int .i64 0, .int .u64 0, .int .u64 0, .int .i64 0, .bool false, .int .i64 0, .slice (some (.pur (refL w false 0 ++ k.enc), 0)) 2 (some 2) 10]
abbrev tyP (w : Int) (k : X) : List AV := [.int .i64 (-1), .int .i64 1, .int .i64 0, .bool false, nilS, nilS, .int .i64 4, .int .i64 1, .bool false, .int .i64 0, .int .u64 0, .int .u64 0, .int .i64 0, .bool false, .int .i64 0, .slice (some (.pur (refL w false 0 ++ k.enc), 0)) 2 (some 2) 10]
theorem frz_pt (n : Nat) (w : Int) (k : X) : FrzId n (.slice (some (.pur (refL w false 0 ++ k.enc), 0)) 2 (some 2) 10) := by
  cases n with
  | zero => exact frz_zero _
  | succ n =>
    exact FrzId.pur (frzs_all fun v hv => by
      rcases List.mem_append.1 hv with h | h
      · simp only [List.mem_cons, List.not_mem_nil, or_false] at h
        rcases h with rfl | rfl | rfl | rfl | rfl | rfl | rfl | rfl | rfl | rfl <;> first | exact frz_int _ _ _ | exact frz_bool _ _ | exact frz_nil _ _ _ _
      · exact X.frz n k v h)
theorem flat_pt (w : Int) (k : X) : flat (.slice (some (.pur (refL w false 0 ++ k.enc), 0)) 2 (some 2) 10) = true := by
  show flats (refL w false 0 ++ k.enc) = true
  rw [flats_append, X.flats_enc]
  rfl
theorem frzs_ptL (n : Nat) (w : Int) (k : X) : FrzIds n (ptL w k) := frzs_all fun v hv => by
  simp only [ptL, List.mem_cons, List.not_mem_nil, or_false] at hv
  rcases hv with rfl | rfl | rfl | rfl | rfl | rfl | rfl | rfl | rfl | rfl
  all_goals first | exact frz_pt _ _ _ | exact frz_int _ _ _ | exact frz_bool _ _
theorem frzs_tyP (n : Nat) (w : Int) (k : X) : FrzIds n (tyP w k) := frzs_all fun v hv => by
  simp only [tyP, List.mem_cons, List.not_mem_nil, or_false] at hv
  rcases hv with rfl | rfl | rfl | rfl | rfl | rfl | rfl | rfl | rfl | rfl | rfl | rfl | rfl | rfl | rfl | rfl
  all_goals first | exact frz_pt _ _ _ | exact frz_int _ _ _ | exact frz_bool _ _ | exact frz_nil _ _ _ _
theorem flats_ptL (w : Int) (k : X) : flats (ptL w k) = true := by
  show (true && (true && (true && (true && (true && (true && (true && (true && (true && (flat (.slice (some (.pur (refL w false 0 ++ k.enc), 0)) 2 (some 2) 10) && true)))))))))) = true
  rw [flat_pt]
  rfl
theorem flats_tyP (w : Int) (k : X) : flats (tyP w k) = true := by
  show (true && (true && (true && (true && (true && (true && flats (ptL w k))))))) = true
  rw [flats_ptL]
  rfl
theorem isP_ok (n : Nat) (hn : 1 ≤ n) (w : Int) (k : X) (H : VH) : vcall T ext promo n 44 [.agg (ptL w k), .agg [.int .i64 1, .int .i64 0, .bool false, nilS]] H = some (.agg (tyP w k), H) := by
  obtain ⟨n, rfl⟩ : ∃ m, n = m + 1 := ⟨n - 1, by omega⟩
  apply ok44
  unfold F44
  simp only [letH_mk]
  exact congrArg some (back_pure (FrzId.agg (n := 4) (frzs_tyP 4 w k)) (flats_tyP w k))
theorem frz_tyT (w : Int) (k : X) : FrzId 5 (.tuple [.agg (tyP w k), .agg fault0]) ∧ flat (.tuple [.agg (tyP w k), .agg fault0]) = true := by
  constructor
  · exact FrzId.tuple (n := 4) (.cons (FrzId.agg (n := 3) (frzs_tyP 3 w k)) (.cons (fun _ => rfl) (.nil _)))
  · show (flats (tyP w k) && (true && true)) = true
    rw [flats_tyP]
    rfl
set_option maxHeartbeats 2000000 in
theorem aloneIx_ok (n : Nat) (hn : 32 ≤ n) {H : VH} {m : Nat} {nm nm2 : PS} {kw lsb w : Nat} {s : Bool} (hl : Look H m nm2 (thL kw 0 s 1)) (hl0 : Look H m nm (thL w lsb false 0)) (hk : 1 ≤ kw ∧ kw ≤ 8) (h3 : lsb ≤ 3) (h8 : 1 ≤ w ∧ w ≤ 8) :
    vcall T ext promo n 29 [.agg (ndIx nm nm2), .agg [.map (some m), nilS]] H = some (.tuple [.agg (tyP w (idx3 kw s (idxW kw s lsb w) lsb)), .agg fault0], H) := by
  obtain ⟨n, rfl⟩ : ∃ m, n = m + 1 := ⟨n - 1, by omega⟩
  have e0 := placeIx_ok n (by omega) (nm := nm) hl.lo hl0.lo hk h3 h8
  have e1 := isP_ok n (by omega) (w : Int) (idx3 kw s (idxW kw s lsb w) lsb) H.lo
  have hf := frz_tyT (w : Int) (idx3 kw s (idxW kw s lsb w) lsb)
  apply ok29
  unfold F29
  simp only [KA, KB, KD, KE,  reduceCtorEq, if_false, if_true, ieq_dec, Int.reduceEq, decide_false, decide_true]
  rw [e0]
  simp only [KA, KB, KD, KE,  reduceCtorEq, if_false, if_true, ieq_dec, Int.reduceEq, decide_false, decide_true]
  rw [e1]
  simp only [KA, KB, KD, KE,  reduceCtorEq, if_false, if_true]
  exact congrArg some (back_pure hf.1 hf.2)
theorem typedIx_ok (n : Nat) (hn : 34 ≤ n) {H : VH} {m : Nat} {nm nm2 : PS} {kw lsb w : Nat} {s : Bool} (hl : Look H m nm2 (thL kw 0 s 1)) (hl0 : Look H m nm (thL w lsb false 0)) (hk : 1 ≤ kw ∧ kw ≤ 8) (h3 : lsb ≤ 3) (h8 : 1 ≤ w ∧ w ≤ 8) :
    vcall T ext promo n 18 [.agg (ndIx nm nm2), .agg [.map (some m), nilS]] H = some (.tuple [.agg (tyP w (idx3 kw s (idxW kw s lsb w) lsb)), .agg fault0], H) := by
  obtain ⟨n, rfl⟩ : ∃ m, n = m + 1 := ⟨n - 1, by omega⟩
  have e0 := aloneIx_ok n (by omega) (nm := nm) hl.lo hl0.lo hk h3 h8
  have hf := frz_tyT (w : Int) (idx3 kw s (idxW kw s lsb w) lsb)
  apply ok18
  unfold F18
  simp only [KA, KB, KD, KE,  reduceCtorEq, if_false, if_true, ieq_dec, Int.reduceEq, decide_false, decide_true]
  rw [(operationNm_ok n (by omega) _).2]
  simp only [KA, KB, KD, KE,  reduceCtorEq, if_false, if_true]
  rw [if_pos (by decide), e0]
  simp only [KA, KB, KD, KE,  reduceCtorEq, if_false, if_true]
  exact congrArg some (back_pure hf.1 hf.2)
theorem ownIx_ok (n : Nat) (hn : 40 ≤ n) {H : VH} {m : Nat} {nm nm2 : PS} {kw lsb w : Nat} {s : Bool} (hl : Look H m nm2 (thL kw 0 s 1)) (hl0 : Look H m nm (thL w lsb false 0)) (hk : 1 ≤ kw ∧ kw ≤ 8) (h3 : lsb ≤ 3) (h8 : 1 ≤ w ∧ w ≤ 8) :
    vcall T ext promo n 9 [.agg (ndIx nm nm2), .agg [.map (some m), nilS]] H = some (.tuple [.agg (ptL w (idx3 kw s (idxW kw s lsb w) lsb)), .agg [.int .i64 1, .int .i64 0, .bool false, nilS], .agg fault0], H) := by
  obtain ⟨n, rfl⟩ : ∃ m, n = m + 4 := ⟨n - 4, by omega⟩
  have e0 := typedIx_ok (n + 3) (by omega) (nm := nm) hl.lo hl0.lo hk h3 h8
  generalize idx3 kw s (idxW kw s lsb w) lsb = k at *
  have e1 : ∀ H : VH, vcall T ext promo (n + 1) 52 [.agg (ptL w k), .int .i64 1, .bool false] H = some (.agg (ptL w k), H) := fun H => by
    apply ok52
    unfold F52
    simp only [KA, KB, KD, KE,  reduceCtorEq, if_false, if_true, ieq_dec, decide_true]
    exact congrArg some (back_pure (FrzId.agg (n := 4) (frzs_ptL 4 w k)) (flats_ptL w k))
  have e2 : ∀ H : VH, vcall T ext promo (n + 2) 31 [.agg (tyP w k), .int .i64 1, .bool false] H = some (.agg (ptL w k), H) := fun H => by
    apply ok31
    unfold F31
    simp only [KA, KB, KD, KE,  reduceCtorEq, if_false, if_true]
    rw [if_pos (by decide), e1]
    simp only [KA, KB, KD, KE,  reduceCtorEq, if_false, if_true]
    exact congrArg some (back_pure (FrzId.agg (n := 4) (frzs_ptL 4 w k)) (flats_ptL w k))
  have e3 : ∀ H : VH, vcall T ext promo (n + 3) 19 [.agg (tyP w k)] H = some (.agg (ptL w k), H) := fun H => by
    apply ok19
    unfold F19
    simp only [letH_mk]
    rw [e2]
    simp only [KA, KB, KD, KE,  reduceCtorEq, if_false, if_true]
    exact congrArg some (back_pure (FrzId.agg (n := 4) (frzs_ptL 4 w k)) (flats_ptL w k))
  apply ok9
  unfold F9
  simp only [letH_mk]
  rw [e0]
  simp only [KA, KB, KD, KE,  reduceCtorEq, if_false, if_true, ieq_dec, decide_true]
  rw [e3]
  simp only [KA, KB, KD, KE,  reduceCtorEq, if_false, if_true]
  refine congrArg some (back_pure (FrzId.tuple (n := 4) (.cons (FrzId.agg (n := 3) (frzs_ptL 3 w k)) (.cons (fun _ => rfl) (.cons (fun _ => rfl) (.nil _))))) ?_)
  show (flats (ptL w k) && (true && (true && true))) = true
  rw [flats_ptL]
  rfl
end
/- The value of an indexed signal. -/
section
set_option linter.unusedSectionVars false
set_option linter.unusedSimpArgs false
set_option linter.unusedVariables false
set_option maxRecDepth 10000
/-- The two signals. -/
abbrev sgA (w : Nat) : Sg := ⟨PS.of [97], 0, 0, (w : Int), false, 1, none, 0, some 0, 0⟩
abbrev sgI (k : Nat) : Sg := ⟨PS.of [105], 0, 0, (k : Int), false, 1, none, 0, some 0, 0⟩
abbrev gs2 (w k : Nat) : List Sg := [sgA w, sgI k]
theorem gs2_cx (w k : Nat) : Cx (gs2 w k) (some 2) := ⟨fun _ => rfl, rfl⟩
abbrev refX (w : Nat) : X := .mk 1 w false 0 0 0 0 false 0 none []
/-- A bit, as an expression. -/
def ptX (w : Nat) (k : X) : X := .mk 4 1 false 0 0 0 0 false 0 (some 2) [refX w, k]
theorem ptX_enc (w : Nat) (k : X) : (ptX w k).enc = ptL w k := by
  unfold ptX
  rw [X.enc_mk]
  simp only [X.encs, X.enc_mk, List.append_nil]
  rfl
theorem idx1_ok (w : Nat) {kw W : Nat} (hk : 1 ≤ kw ∧ kw ≤ 64) (hW : kw ≤ W ∧ W ≤ 64) (s : Bool) : XV (gs2 w kw) (idx1 kw s W) ∧ (idx1 kw s W).w = W ∧ (idx1 kw s W).size ≤ 2 := by
  unfold idx1 idx0
  have h0 : XV (gs2 w kw) (.mk 1 kw s 0 0 0 1 false 0 none []) := XV.ref (i := 1) (g := sgI kw) rfl rfl rfl (by omega) (by omega)
  by_cases e : kw = W
  · subst e
    rw [if_pos rfl]
    exact ⟨h0, rfl, by simp [X.size, X.sizes]⟩
  · rw [if_neg e]
    refine ⟨XV.oper Fit.resize (by omega) (by omega) (fun h => by simp [singX] at h) (fun k hm => ?_), rfl, by simp [X.size, X.sizes]⟩
    obtain rfl : k = _ := by simpa using hm
    exact h0
theorem idx2_ok (w : Nat) {kw W : Nat} (hk : 1 ≤ kw ∧ kw ≤ 64) (hW : kw ≤ W ∧ W ≤ 64) (s : Bool) : XV (gs2 w kw) (idx2 kw s W) ∧ (idx2 kw s W).w = W ∧ (idx2 kw s W).size ≤ 3 := by
  obtain ⟨h1, h2, h3⟩ := idx1_ok w hk hW s
  unfold idx2
  cases s
  · exact ⟨h1, h2, by simpa using Nat.le_succ_of_le h3⟩
  · rw [if_pos rfl]
    refine ⟨XV.oper (Fit.slice (x := (idx1 kw true W).w) (by omega) (by rw [h2]; omega) (by rw [h2]; omega)) (by omega) (by omega) (fun _ => rfl) (fun k hm => ?_), rfl, ?_⟩
    · obtain rfl : k = _ := by simpa using hm
      exact h1
    · simp only [X.size, X.sizes]
      omega
theorem idx3_ok (w : Nat) {kw W : Nat} (lsb : Nat) (hk : 1 ≤ kw ∧ kw ≤ 64) (hW : kw ≤ W ∧ W ≤ 64) (s : Bool) : XV (gs2 w kw) (idx3 kw s W lsb) ∧ (idx3 kw s W lsb).w = W ∧ (idx3 kw s W lsb).size ≤ 5 := by
  obtain ⟨h1, h2, h3⟩ := idx2_ok w hk hW s
  have hc : XV (gs2 w kw) (idxC W lsb) := XV.const (of_vec (by omega) _)
  have hcw : (idxC W lsb).w = W := rfl
  unfold idx3
  by_cases h0 : 0 < lsb
  · rw [if_pos h0]
    refine ⟨XV.oper ?_ (by omega) (by omega) (fun h => by simp [singX] at h) (fun k hm => ?_), rfl, ?_⟩
    · show Fit 17 W 0 [(idx2 kw s W).w, (idxC W lsb).w]
      rw [h2, hcw]
      exact Fit.bin (by omega)
    · rcases List.mem_cons.1 hm with rfl | hm
      · exact h1
      · obtain rfl : k = _ := by simpa using hm
        exact hc
    · simp only [X.size, X.sizes, idxC]
      omega
  · rw [if_neg h0]
    exact ⟨h1, h2, by omega⟩
theorem ptX_ok {w : Nat} {kw W : Nat} (lsb : Nat) (hw : 1 ≤ w ∧ w ≤ 64) (hk : 1 ≤ kw ∧ kw ≤ 64) (hW : kw ≤ W ∧ W ≤ 64) (s : Bool) : XV (gs2 w kw) (ptX w (idx3 kw s W lsb)) ∧ (ptX w (idx3 kw s W lsb)).size ≤ 7 := by
  obtain ⟨h1, h2, h3⟩ := idx3_ok w lsb hk hW s
  unfold ptX
  refine ⟨XV.oper Fit.part (by omega) (by omega) (fun _ => rfl) (fun k hm => ?_), ?_⟩
  · rcases List.mem_cons.1 hm with rfl | hm
    · exact XV.ref (i := 0) (g := sgA w) rfl rfl rfl (by omega) (by omega)
    · obtain rfl : k = _ := by simpa using hm
      exact h1
  · simp only [X.size, X.sizes]
    omega
/-- The state. -/
abbrev rs2 (w kw : Nat) (v x kv : BitVec 64) : List AV := [.slice (some (.pur (vb w v x), 0)) 1 (some 1) 3, .slice (some (.pur (vb kw kv 0#64), 0)) 1 (some 1) 3]
/-- The value of an index. -/
def ixv (kw : Nat) (s : Bool) (W lsb : Nat) (kv : BitVec 64) : BitVec 64 := if 0 < lsb then opv 17 (rz kw W kv s) (BitVec.ofNat 64 lsb &&& bmask W) &&& bmask W else rz kw W kv s
theorem ev_idx1 (b w : Nat) {kw W : Nat} {v x kv : BitVec 64} (hv : Vec kw kv 0#64) (hW : kw ≤ W ∧ W ≤ 64) (s : Bool) : EvOk b (rs2 w kw v x kv) 101 (idx1 kw s W) (vb W (rz kw W kv s) 0#64) := by
  have hk := hv.pos
  have h0 : EvOk b (rs2 w kw v x kv) 100 (.mk 1 kw s 0 0 0 1 false 0 none []) (vb kw kv 0#64) := (eval_ref (kw : Int) s 1 none rfl).up (by omega)
  unfold idx1 idx0
  by_cases e : kw = W
  · subst e
    rw [if_pos rfl]
    unfold rz
    rw [if_pos rfl]
    exact h0.up (by omega)
  · rw [if_neg e]
    have := ev_resize (by omega) h0 hv (m := W) (by omega) s (some 1)
    rw [wide_zero, BitVec.zero_and] at this
    unfold rz
    rw [if_neg e]
    exact this
theorem ev_idx2 (b w : Nat) {kw W : Nat} {v x kv : BitVec 64} (hv : Vec kw kv 0#64) (hW : kw ≤ W ∧ W ≤ 64) (s : Bool) : EvOk b (rs2 w kw v x kv) 102 (idx2 kw s W) (vb W (rz kw W kv s) 0#64) := by
  have hk := hv.pos
  have h1 := ev_idx1 b w (v := v) (x := x) hv hW s
  have hr := rz_vec s hv (W := W) (by omega)
  unfold idx2
  cases s
  · exact h1.up (by omega)
  · rw [if_pos rfl]
    have := ev_slice (by omega) h1 hr (m := W) (a := 0) (by omega) (by omega) false (some 1)
    rw [BitVec.ushiftRight_zero, BitVec.ushiftRight_zero, (vec_mask hr).1, (vec_mask hr).2] at this
    exact this
theorem ev_idx3 (b w : Nat) {kw W : Nat} {v x kv : BitVec 64} (hv : Vec kw kv 0#64) (hW : kw ≤ W ∧ W ≤ 64) (s : Bool) (lsb : Nat) : EvOk b (rs2 w kw v x kv) 103 (idx3 kw s W lsb) (vb W (ixv kw s W lsb kv) 0#64) := by
  have hk := hv.pos
  have h1 := ev_idx2 b w (v := v) (x := x) hv hW s
  have hr := rz_vec s hv (W := W) (by omega)
  unfold idx3 ixv
  by_cases h0 : 0 < lsb
  · rw [if_pos h0, if_pos h0]
    have hc : EvOk b (rs2 w kw v x kv) 102 (idxC W lsb) (vb W (BitVec.ofNat 64 lsb &&& bmask W) 0#64) := (eval_const (W : Int) false (W : Int) (u64 (BitVec.ofNat 64 lsb &&& bmask W)) (u64 0#64) none).up (by omega)
    exact ev_bin (by omega) (.inr (.inl rfl)) h1 hc hr (of_vec (by omega) _) false (some 2)
  · rw [if_neg h0, if_neg h0]
    exact h1.up (by omega)
theorem ixv_vec {kw W : Nat} {kv : BitVec 64} (hv : Vec kw kv 0#64) (hW : kw ≤ W ∧ W ≤ 64) (s : Bool) (lsb : Nat) : Vec W (ixv kw s W lsb kv) 0#64 := by
  have hk := hv.pos
  unfold ixv
  split
  · exact of_vec (by omega) _
  · exact rz_vec s hv (by omega)
theorem bitAt_sh (w : Nat) (v x : BitVec 64) (i : Nat) : ∃ v' x' : BitVec 64, bitAt w v x i = .agg (vb 1 v' x') := by
  unfold bitAt
  split
  · exact ⟨_, _, rfl⟩
  · exact ⟨_, _, rfl⟩
theorem ev_ptX (b : Nat) {w kw W : Nat} {v x kv : BitVec 64} (hx : Vec w v x) (hv : Vec kw kv 0#64) (hW : kw ≤ W ∧ W ≤ 64) (s : Bool) (lsb : Nat) {v' x' : BitVec 64} (hb : bitAt w v x (min (ixv kw s W lsb kv).toNat 64) = .agg (vb 1 v' x')) :
    EvOk b (rs2 w kw v x kv) 104 (ptX w (idx3 kw s W lsb)) (vb 1 v' x') := by
  have h1 := ev_idx3 b w (v := v) (x := x) hv hW s lsb
  have h0 : EvOk b (rs2 w kw v x kv) 103 (refX w) (vb w v x) := (eval_ref (w : Int) false 0 none rfl).up (by omega)
  obtain ⟨op, sg, kc, ks, hsh⟩ := idx3_sh kw s W lsb
  exact ev_part1 (by omega) h0 h1 hx (ixv_vec hv hW s lsb) (by rw [hsh]; rfl) (some 2) hb
end
/- The last bits of sums, differences and products. -/
section
set_option linter.unusedSectionVars false
set_option linter.unusedSimpArgs false
set_option linter.unusedVariables false
set_option maxRecDepth 10000
theorem bmask_toNat {w : Nat} (h : w ≤ 64) : (bmask w).toNat = 2 ^ w - 1 := by
  unfold bmask
  have h1 := Nat.pow_le_pow_right (show 0 < 2 by omega) h
  have h2 := Nat.two_pow_pos w
  rw [BitVec.toNat_setWidth, BitVec.toNat_allOnes, Nat.mod_eq_of_lt (by omega)]
theorem and_mask_toNat {w : Nat} (h : w ≤ 64) (x : BitVec 64) : (x &&& bmask w).toNat = x.toNat % 2 ^ w := by
  rw [BitVec.toNat_and, bmask_toNat h, Nat.and_two_pow_sub_one_eq_mod]
theorem mask_iff {w : Nat} (h : w ≤ 64) (x y : BitVec 64) : x &&& bmask w = y &&& bmask w ↔ x.toNat % 2 ^ w = y.toNat % 2 ^ w := by
  constructor
  · intro e
    rw [← and_mask_toNat h, e, and_mask_toNat h]
  · intro e
    apply BitVec.eq_of_toNat_eq
    rw [and_mask_toNat h, and_mask_toNat h, e]
theorem dvd64 {w : Nat} (h : w ≤ 64) : 2 ^ w ∣ 2 ^ 64 := Nat.pow_dvd_pow 2 h
theorem add_mask {w : Nat} (h : w ≤ 64) {a b a' b' : BitVec 64} (ha : a &&& bmask w = a' &&& bmask w) (hb : b &&& bmask w = b' &&& bmask w) : (a + b) &&& bmask w = (a' + b') &&& bmask w := by
  rw [mask_iff h] at ha hb ⊢
  rw [BitVec.toNat_add, BitVec.toNat_add, Nat.mod_mod_of_dvd _ (dvd64 h), Nat.mod_mod_of_dvd _ (dvd64 h), Nat.add_mod, ha, hb, ← Nat.add_mod]
theorem mul_mask {w : Nat} (h : w ≤ 64) {a b a' b' : BitVec 64} (ha : a &&& bmask w = a' &&& bmask w) (hb : b &&& bmask w = b' &&& bmask w) : (a * b) &&& bmask w = (a' * b') &&& bmask w := by
  rw [mask_iff h] at ha hb ⊢
  rw [BitVec.toNat_mul, BitVec.toNat_mul, Nat.mod_mod_of_dvd _ (dvd64 h), Nat.mod_mod_of_dvd _ (dvd64 h), Nat.mul_mod, ha, hb, ← Nat.mul_mod]
theorem not_mask {w : Nat} {b b' : BitVec 64} (hb : b &&& bmask w = b' &&& bmask w) : ~~~b &&& bmask w = ~~~b' &&& bmask w := by
  apply BitVec.eq_of_getLsbD_eq
  intro i hi
  have h := congrArg (fun z : BitVec 64 => z.getLsbD i) hb
  simp only [BitVec.getLsbD_and, bmask_bit, BitVec.getLsbD_not] at h ⊢
  by_cases hw : i < w
  · simp only [hi, hw, decide_true, Bool.and_true, Bool.true_and] at h ⊢
    rw [h]
  · simp [hw]
theorem sub_mask {w : Nat} (h : w ≤ 64) {a b a' b' : BitVec 64} (ha : a &&& bmask w = a' &&& bmask w) (hb : b &&& bmask w = b' &&& bmask w) : (a - b) &&& bmask w = (a' - b') &&& bmask w := by
  have e : ∀ x y : BitVec 64, x - y = x + (~~~y + 1#64) := fun x y => by
    rw [← BitVec.neg_eq_not_add, BitVec.sub_eq_add_neg]
  rw [e, e]
  exact add_mask h ha (add_mask h (not_mask hb) rfl)
theorem opv_mask {w : Nat} (h : w ≤ 64) (op : Int) {a b a' b' : BitVec 64} (ha : a &&& bmask w = a' &&& bmask w) (hb : b &&& bmask w = b' &&& bmask w) : opv op a b &&& bmask w = opv op a' b' &&& bmask w := by
  unfold opv
  split
  · exact add_mask h ha hb
  · split
    · exact sub_mask h ha hb
    · exact mul_mask h ha hb
theorem sint_shift {w : Nat} (hw : 1 ≤ w ∧ w ≤ 64) (v : BitVec 64) : BitVec.ofInt 64 (sint w v) = (v <<< (64 - w)).sshiftRight (64 - w) := by
  have : sint w v = ((v <<< (64 - w)).sshiftRight (64 - w)).toInt := by
    rw [BitVec.toInt_sshiftRight, Int.shiftRight_eq_div_pow]
    unfold sint
    rw [Int.fdiv_eq_ediv_of_nonneg _ (by exact Int.le_of_lt (Int.pow_pos (by decide)))]
    norm_cast
  rw [this, BitVec.ofInt_toInt]
theorem wide_mask {w : Nat} (hw : 1 ≤ w ∧ w ≤ 64) (v : BitVec 64) (s : Bool) : wide w v s &&& bmask w = v &&& bmask w := by
  unfold wide
  cases s
  · rfl
  · simp only [if_true]
    rw [sint_shift hw]
    apply BitVec.eq_of_getLsbD_eq
    intro i hi
    simp only [BitVec.getLsbD_and, bmask_bit, BitVec.getLsbD_sshiftRight, BitVec.getLsbD_shiftLeft]
    by_cases h : i < w
    · have h1 : 64 - w + i < 64 := by omega
      have h2 : ¬ (64 - w + i < 64 - w) := by omega
      have h3 : 64 - w + i - (64 - w) = i := by omega
      have h4 : ¬ (64 ≤ i) := by omega
      simp [h1, h2, h3, h4]
    · simp [h]
theorem rz_mask {w W : Nat} (hw : 1 ≤ w ∧ w ≤ 64) (v : BitVec 64) (s : Bool) : rz w W v s &&& bmask W = wide w v s &&& bmask W := by
  unfold rz
  split
  · rename_i e
    subst e
    exact (wide_mask hw v s).symm
  · rw [BitVec.and_assoc, BitVec.and_self]
/-- The sum in W bits is the sum of the numbers, cut. -/
theorem sum_mask {W w w' : Nat} (hW : W ≤ 64) (h : 1 ≤ w ∧ w ≤ 64) (h' : 1 ≤ w' ∧ w' ≤ 64) (op : Int) (v v' : BitVec 64) (s : Bool) :
    opv op (rz w W v s) (rz w' W v' s) &&& bmask W = opv op (wide w v s) (wide w' v' s) &&& bmask W := opv_mask hW op (rz_mask h v s) (rz_mask h' v' s)
end
/- WidthSelected: the plain law of an index. -/
section
set_option linter.unusedSectionVars false
set_option linter.unusedSimpArgs false
set_option linter.unusedVariables false
set_option maxRecDepth 10000
/-- The number of a vector, as a law reads it. -/
def numv (w : Nat) (v : BitVec 64) (s : Bool) : Int := if s = true then sint w v else v.toInt
theorem numv_wide (w : Nat) (v : BitVec 64) (s : Bool) : BitVec.ofInt 64 (numv w v s) = wide w v s := by
  unfold numv wide
  cases s
  · exact BitVec.ofInt_toInt
  · rfl
theorem blen_lt (n : Nat) (h : n ≤ 15) : n < 2 ^ blen n := by
  rcases small_cases h with rfl | rfl | rfl | rfl | rfl | rfl | rfl | rfl | rfl | rfl | rfl | rfl | rfl | rfl | rfl | rfl <;> decide
theorem sint_range {w : Nat} (hw : w = 1 ∨ w = 2 ∨ w = 3 ∨ w = 4 ∨ w = 5) (v : BitVec 64) : -(((2 ^ w : Nat) : Int)) ≤ 2 * sint w v ∧ 2 * sint w v < ((2 ^ w : Nat) : Int) := by
  have h1 := BitVec.toInt_lt (x := v <<< (64 - w))
  have h2 := BitVec.le_toInt (x := v <<< (64 - w))
  rw [show (2 : Int) ^ (64 - 1) = 9223372036854775808 from rfl] at h1 h2
  unfold sint
  generalize (v <<< (64 - w)).toInt = t at *
  rw [Int.fdiv_eq_ediv_of_nonneg _ (Int.le_of_lt (Int.pow_pos (by decide)))]
  rcases hw with rfl | rfl | rfl | rfl | rfl
  · rw [show (2 : Int) ^ (64 - 1) = 9223372036854775808 from rfl, show (2 : Nat) ^ 1 = 2 from rfl]
    omega
  · rw [show (2 : Int) ^ (64 - 2) = 4611686018427387904 from rfl, show (2 : Nat) ^ 2 = 4 from rfl]
    omega
  · rw [show (2 : Int) ^ (64 - 3) = 2305843009213693952 from rfl, show (2 : Nat) ^ 3 = 8 from rfl]
    omega
  · rw [show (2 : Int) ^ (64 - 4) = 1152921504606846976 from rfl, show (2 : Nat) ^ 4 = 16 from rfl]
    omega
  · rw [show (2 : Int) ^ (64 - 5) = 576460752303423488 from rfl, show (2 : Nat) ^ 5 = 32 from rfl]
    omega
theorem toInt_range {w : Nat} (hw : w ≤ 5) {v : BitVec 64} (h : Vec w v 0#64) : 0 ≤ v.toInt ∧ v.toInt < ((2 ^ w : Nat) : Int) := by
  have h1 := (vec_mask h).1
  have h2 := and_mask_toNat (w := w) (by omega) v
  rw [h1] at h2
  have h3 : v.toNat < 2 ^ w := by rw [h2]; exact Nat.mod_lt _ (Nat.two_pow_pos w)
  have h4 : 2 ^ w ≤ 2 ^ 5 := Nat.pow_le_pow_right (by omega) hw
  have h5 : v.toInt = (v.toNat : Int) := by
    rw [BitVec.toInt_eq_toNat_cond]
    split <;> omega
  omega
theorem ixv_eq {kw W : Nat} {kv : BitVec 64} (hv : Vec kw kv 0#64) (hW : kw ≤ W ∧ W ≤ 64) (s : Bool) (lsb : Nat) : ixv kw s W lsb kv = (wide kw kv s - BitVec.ofNat 64 lsb) &&& bmask W := by
  have hk := hv.pos
  have hk2 := hv.le
  have hr := rz_mask (W := W) ⟨hk, hk2⟩ kv s
  unfold ixv
  by_cases h0 : 0 < lsb
  · rw [if_pos h0]
    have e : opv 17 (wide kw kv s) (BitVec.ofNat 64 lsb) = wide kw kv s - BitVec.ofNat 64 lsb := rfl
    rw [← e]
    exact opv_mask hW.2 17 hr (by rw [BitVec.and_assoc, BitVec.and_self])
  · rw [if_neg h0]
    obtain rfl : lsb = 0 := by omega
    have e : wide kw kv s - BitVec.ofNat 64 0 = wide kw kv s := by simp
    rw [e, ← hr, (vec_mask (rz_vec s hv (W := W) (by omega))).1]
theorem ixv_nat {kw W : Nat} {kv : BitVec 64} (hv : Vec kw kv 0#64) (hW : kw ≤ W ∧ W ≤ 64) (s : Bool) (lsb : Nat) : ((ixv kw s W lsb kv).toNat : Int) = ((numv kw kv s - (lsb : Int)) % 18446744073709551616) % ((2 ^ W : Nat) : Int) := by
  have e : wide kw kv s - BitVec.ofNat 64 lsb = BitVec.ofInt 64 (numv kw kv s - (lsb : Int)) := by
    rw [Int.sub_eq_add_neg, BitVec.ofInt_add, BitVec.ofInt_neg, ← BitVec.sub_eq_add_neg, numv_wide, BitVec.ofInt_natCast]
  rw [ixv_eq hv hW, e, and_mask_toNat hW.2, BitVec.toNat_ofInt]
  have h : 0 ≤ (numv kw kv s - (lsb : Int)) % ((2 ^ 64 : Nat) : Int) := Int.emod_nonneg _ (by decide)
  rw [Int.natCast_emod, Int.toNat_of_nonneg h]
  rfl
theorem idx_cases (s : Bool) (q kw : Nat) (hq : q ≤ 4) (hk : 1 ≤ kw ∧ kw ≤ 5) (w lsb : Nat) (hw : 1 ≤ w) (hql : lsb + w - 1 < 2 ^ q) (A : Int) (hA : if s = true then -(((2 ^ kw : Nat) : Int)) ≤ 2 * A ∧ 2 * A < ((2 ^ kw : Nat) : Int) else 0 ≤ A ∧ A < ((2 ^ kw : Nat) : Int)) (j : Nat)
    (hj : (j : Int) = ((A - (lsb : Int)) % 18446744073709551616) % ((2 ^ (max (q + if s = true then 1 else 0) kw) : Nat) : Int)) :
    (0 ≤ A - (lsb : Int) ∧ A - (lsb : Int) < (w : Int) → j = (A - (lsb : Int)).toNat) ∧ (¬ (0 ≤ A - (lsb : Int) ∧ A - (lsb : Int) < (w : Int)) → w ≤ j) := by
  have hq' : q = 0 ∨ q = 1 ∨ q = 2 ∨ q = 3 ∨ q = 4 := by omega
  have hk' : kw = 1 ∨ kw = 2 ∨ kw = 3 ∨ kw = 4 ∨ kw = 5 := by omega
  cases s <;> rcases hq' with rfl | rfl | rfl | rfl | rfl <;> rcases hk' with rfl | rfl | rfl | rfl | rfl
  all_goals
    simp only [Bool.false_eq_true, if_false, if_true, Nat.add_zero, Nat.reduceAdd, Nat.max_def] at hA hj hql
    simp only [Nat.reduceLeDiff, Nat.zero_le, Nat.le_refl, Nat.not_lt_zero, if_false, if_true, Nat.reducePow] at hA hj hql
    omega
theorem idx_plain {w kw lsb : Nat} (hw : 1 ≤ w ∧ w ≤ 8) (hk : 1 ≤ kw ∧ kw ≤ 5) (h3 : lsb ≤ 3) {kv : BitVec 64} (hv : Vec kw kv 0#64) (s : Bool) :
    (0 ≤ numv kw kv s - (lsb : Int) ∧ numv kw kv s - (lsb : Int) < (w : Int) → (ixv kw s (idxW kw s lsb w) lsb kv).toNat = (numv kw kv s - (lsb : Int)).toNat) ∧
      (¬ (0 ≤ numv kw kv s - (lsb : Int) ∧ numv kw kv s - (lsb : Int) < (w : Int)) → w ≤ (ixv kw s (idxW kw s lsb w) lsb kv).toNat) := by
  have hb := blen_le (lsb + w - 1)
  have hW : kw ≤ idxW kw s lsb w ∧ idxW kw s lsb w ≤ 64 := by
    unfold idxW
    have : (if s = true then 1 else 0) ≤ 1 := by split <;> omega
    omega
  refine idx_cases s (blen (lsb + w - 1)) kw hb hk w lsb hw.1 (blen_lt _ (by omega)) (numv kw kv s) ?_ _ (ixv_nat hv hW s lsb)
  unfold numv
  cases s
  · exact toInt_range hk.2 hv
  · exact sint_range (by omega) kv
end
/- Maps that are made and filled; an environment of two signals. -/
section
set_option linter.unusedSectionVars false
set_option linter.unusedSimpArgs false
set_option linter.unusedVariables false
set_option maxRecDepth 10000
theorem newMap_get (H : VH) (es : List ME) (c b : Nat) : (H.newMap es c).get b = if b = H.next then some (.map es c 0) else H.get b := Tr.get_set _ _ _ _
theorem newMap_ok {H : VH} (h : H.Ok) (es : List ME) (c : Nat) : (H.newMap es c).Ok := by
  refine ⟨fun b x hb => ?_, fun l g hl => Nat.lt_succ_of_lt (h.wg l g hl), fun b r hr => ?_⟩
  · rw [newMap_get] at hb
    split at hb
    · rename_i e
      rw [e]
      exact Nat.lt_succ_self _
    · exact Nat.lt_succ_of_lt (h.get b x hb)
  · unfold VH.row? at hr
    rw [newMap_get] at hr
    by_cases e : b = H.next
    · simp only [if_pos e] at hr
      cases hr
    · simp only [if_neg e] at hr
      exact Nat.lt_succ_of_lt (h.lin b r hr)
theorem newMap_keep {H : VH} (h : H.Ok) (S : Nat → Prop) (es : List ME) (c : Nat) : Keep S H (H.newMap es c) :=
  ⟨Nat.le_succ _, fun b hb _ => by rw [newMap_get, if_neg (Nat.ne_of_lt hb)], fun _ _ => rfl⟩
theorem newMap_eff (S : Nat → Prop) {H : VH} (h : H.Ok) (es : List ME) (c : Nat) : Eff S H (H.newMap es c) :=
  ⟨newMap_keep h S es c, newMap_ok h es c, Nat.le_refl _, fun _ h _ _ => h⟩
theorem setMap_get (H : VH) (b : Nat) (es : List ME) (c v k : Nat) : (H.setMap b es c v).get k = if k = b then some (.map es c (v + 1)) else H.get k := get_vset _ _ _ _
theorem setMap_ok {H : VH} (h : H.Ok) {b : Nat} (hb : b < H.next) (es : List ME) (c v : Nat) : (H.setMap b es c v).Ok := by
  refine ⟨fun k x hk => ?_, h.wg, fun k r hr => ?_⟩
  · rw [setMap_get] at hk
    split at hk
    · rename_i e
      rw [e]
      exact hb
    · exact h.get k x hk
  · unfold VH.row? at hr
    rw [setMap_get] at hr
    by_cases e : k = b
    · simp only [if_pos e] at hr
      cases hr
    · simp only [if_neg e] at hr
      exact h.lin k r hr
theorem setMap_eff {H : VH} (h : H.Ok) {b : Nat} (hb : b < H.next) (es : List ME) (c v : Nat) : Eff (· = b) H (H.setMap b es c v) :=
  .of_low ⟨Nat.le_refl _, fun k _ hk => by rw [setMap_get, if_neg hk], fun _ _ => rfl⟩ (setMap_ok h hb es c v) rfl hb
theorem map?_of {H : VH} {b : Nat} {es : List ME} {c v : Nat} (h : H.get b = some (.map es c v)) (hi : isIt es = false) : H.map? b = some (es, c, v) := by
  unfold VH.map?
  rw [h]
  simp only [hi]
theorem map?_keep {S : Nat → Prop} {H H' : VH} {m : Nat} {x : List ME × Nat × Nat} (h : H.map? m = some x) (hm : m < H.next) (k : Keep S H H') (hs : ¬ S m) : H'.map? m = some x := by
  unfold VH.map? at h ⊢
  rw [k.get m hm hs]
  exact h
/-- A new entry. -/
theorem putNew {H : VH} {m t e : Nat} {es : List ME} {c ver : Nat} (h : H.map? m = some (es, c, ver)) (k : PS) (v : AV) (hu : T.und t = some (.map 9 e)) (hf : mfind (.str k) es 0 = some none) : vmapUpdate T H t (.map (some m)) (.str k) v = some (H.setMap m (es ++ [⟨.str k, v, c⟩]) (c + 1) ver) := by
  unfold vmapUpdate
  rw [hu]
  simp only [fitStr, h, hf]
theorem mkMap (H : VH) (t e : Nat) (hu : T.und t = some (.map 9 e)) : vmakeMap T H t none = some (.map (some H.next), H.newMap) := by
  unfold vmakeMap
  rw [hu]
theorem zeroThing : zeroOf T 47 = some (.agg [.int .i64 0, .int .i64 0, .int .u64 0, .int .u64 0, .int .i64 0, .bool false, .int .i64 0, .int .i64 0, .bool false, nilS, .bool false, .int .i64 0, .int .i64 0, nilS]) := by kernel_rfl
/-- Two entries. -/
def Env2 (H : VH) (m : Nat) (a i : List AV) : Prop := ∃ c v b b', H.map? m = some ([⟨.str (PS.of [97]), .agg a, b⟩, ⟨.str (PS.of [105]), .agg i, b'⟩], c, v)
theorem Env2.lt {H : VH} {m : Nat} {a i : List AV} (h : Env2 H m a i) (hH : H.Ok) : m < H.next := by
  obtain ⟨c, v, b, b', h⟩ := h
  exact hH.get m _ (Go.Vm.map?_get h)
theorem Env2.keep {S : Nat → Prop} {H H' : VH} {m : Nat} {a i : List AV} (h : Env2 H m a i) (hH : H.Ok) (k : Keep S H H') (hs : ¬ S m) : Env2 H' m a i := by
  have hlt := h.lt hH
  obtain ⟨c, v, b, b', h⟩ := h
  exact ⟨c, v, b, b', map?_keep h hlt k hs⟩
theorem Env2.lookA {H : VH} {m : Nat} {a i : List AV} (h : Env2 H m a i) : Look H m (PS.of [97]) a := by
  obtain ⟨c, v, b, b', h⟩ := h
  have hf : mfind (.str (PS.of [97])) [⟨.str (PS.of [97]), .agg a, b⟩, ⟨.str (PS.of [105]), .agg i, b'⟩] 0 = some (some (0, ⟨.str (PS.of [97]), .agg a, b⟩)) := rfl
  unfold Look vlookup
  rw [undEnv]
  simp only [fitStr, ments, h, hf, zeroThing]
theorem Env2.lookI {H : VH} {m : Nat} {a i : List AV} (h : Env2 H m a i) : Look H m (PS.of [105]) i := by
  obtain ⟨c, v, b, b', h⟩ := h
  have hf : mfind (.str (PS.of [105])) [⟨.str (PS.of [97]), .agg a, b⟩, ⟨.str (PS.of [105]), .agg i, b'⟩] 0 = some (some (1, ⟨.str (PS.of [105]), .agg i, b'⟩)) := rfl
  unfold Look vlookup
  rw [undEnv]
  simp only [fitStr, ments, h, hf, zeroThing]
/-- How the two entries come into a new map. -/
theorem env2_make {H : VH} (hH : H.Ok) (a i : List AV) :
    ∃ H1 H2 : VH, vmakeMap T H 48 none = some (.map (some H.next), H.newMap) ∧ vmapUpdate T H.newMap 48 (.map (some H.next)) (.str (PS.of [97])) (.agg a) = some H1 ∧
      vmapUpdate T H1 48 (.map (some H.next)) (.str (PS.of [105])) (.agg i) = some H2 ∧ Env2 H2 H.next a i ∧ H2.Ok ∧ Keep (fun _ => False) H H2 := by
  have o1 := newMap_ok hH [] 0
  have m1 : (H.newMap).map? H.next = some ([], 0, 0) := map?_of ((newMap_get H [] 0 H.next).trans (if_pos rfl)) rfl
  have u1 := putNew m1 (PS.of [97]) (.agg a) undEnv rfl
  have k1 := setMap_eff o1 (b := H.next) (Nat.lt_succ_self _) ([] ++ [⟨.str (PS.of [97]), .agg a, 0⟩]) 1 0
  have m2 : ((H.newMap).setMap H.next ([] ++ [⟨.str (PS.of [97]), .agg a, 0⟩]) 1 0).map? H.next = some ([⟨.str (PS.of [97]), .agg a, 0⟩], 1, 1) := map?_of ((setMap_get _ _ _ _ _ _).trans (if_pos rfl)) rfl
  have u2 := putNew m2 (PS.of [105]) (.agg i) undEnv rfl
  have k2 := setMap_eff k1.ok (b := H.next) (Nat.lt_succ_self _) ([⟨.str (PS.of [97]), .agg a, 0⟩] ++ [⟨.str (PS.of [105]), .agg i, 1⟩]) 2 1
  have m3 : (((H.newMap).setMap H.next ([] ++ [⟨.str (PS.of [97]), .agg a, 0⟩]) 1 0).setMap H.next ([⟨.str (PS.of [97]), .agg a, 0⟩] ++ [⟨.str (PS.of [105]), .agg i, 1⟩]) 2 1).map? H.next = some ([⟨.str (PS.of [97]), .agg a, 0⟩, ⟨.str (PS.of [105]), .agg i, 1⟩], 2, 2) := map?_of ((setMap_get _ _ _ _ _ _).trans (if_pos rfl)) rfl
  refine ⟨_, _, mkMap H _ _ undEnv, u1, u2, ⟨_, _, _, _, m3⟩, k2.ok, ⟨Nat.le_succ _, fun b hb _ => ?_, fun _ _ => rfl⟩⟩
  rw [setMap_get, if_neg (Nat.ne_of_lt hb), setMap_get, if_neg (Nat.ne_of_lt hb), newMap_get, if_neg (Nat.ne_of_lt hb)]
end
/- WidthSelected: the facts, and the design. -/
section
set_option linter.unusedSectionVars false
set_option linter.unusedSimpArgs false
set_option linter.unusedVariables false
set_option maxRecDepth 10000
/-- The variable MaxLen holds a number. -/
def Mx (H : VH) : Prop := 0 < H.next ∧ ∃ m, H.cell (.blk 0) 0 = some (.int .i64 m)
theorem Mx.keep {S : Nat → Prop} {H H' : VH} (h : Mx H) (hH : H.Ok) (k : Keep S H H') (hs : ¬ S 0) : Mx H' := by
  obtain ⟨h1, m, h2⟩ := h
  exact ⟨Nat.lt_of_lt_of_le h1 k.next, m, by rw [keep_cell k hH h1 hs]; exact h2⟩
theorem Mx.lo {H : VH} (h : Mx H) : Mx H.lo := h
theorem counted_ok (n : Nat) (hn : 1 ≤ n) {H : VH} (hM : Mx H) : vcall T ext promo n 14 [] H = some (.bool true, H) := by
  obtain ⟨n, rfl⟩ : ∃ m, n = m + 1 := ⟨n - 1, by omega⟩
  obtain ⟨_, m, hm⟩ := hM
  refine call_ext (g := xTabM 0 tab14) rfl ?_
  simp only [xTabM, hm]
  rfl
theorem dc11 : xTab tab32 [.agg [.str (PS.of [120]), sigsV (gs2 1 1) (some 2), nilV, nilV, nilV]] = some (.val (.int .i64 0)) := by kernel_rfl
theorem dc12 : xTab tab32 [.agg [.str (PS.of [120]), sigsV (gs2 1 2) (some 2), nilV, nilV, nilV]] = some (.val (.int .i64 0)) := by kernel_rfl
theorem dc13 : xTab tab32 [.agg [.str (PS.of [120]), sigsV (gs2 1 3) (some 2), nilV, nilV, nilV]] = some (.val (.int .i64 0)) := by kernel_rfl
theorem dc14 : xTab tab32 [.agg [.str (PS.of [120]), sigsV (gs2 1 4) (some 2), nilV, nilV, nilV]] = some (.val (.int .i64 0)) := by kernel_rfl
theorem dc15 : xTab tab32 [.agg [.str (PS.of [120]), sigsV (gs2 1 5) (some 2), nilV, nilV, nilV]] = some (.val (.int .i64 0)) := by kernel_rfl
theorem dc21 : xTab tab32 [.agg [.str (PS.of [120]), sigsV (gs2 2 1) (some 2), nilV, nilV, nilV]] = some (.val (.int .i64 0)) := by kernel_rfl
theorem dc22 : xTab tab32 [.agg [.str (PS.of [120]), sigsV (gs2 2 2) (some 2), nilV, nilV, nilV]] = some (.val (.int .i64 0)) := by kernel_rfl
theorem dc23 : xTab tab32 [.agg [.str (PS.of [120]), sigsV (gs2 2 3) (some 2), nilV, nilV, nilV]] = some (.val (.int .i64 0)) := by kernel_rfl
theorem dc24 : xTab tab32 [.agg [.str (PS.of [120]), sigsV (gs2 2 4) (some 2), nilV, nilV, nilV]] = some (.val (.int .i64 0)) := by kernel_rfl
theorem dc25 : xTab tab32 [.agg [.str (PS.of [120]), sigsV (gs2 2 5) (some 2), nilV, nilV, nilV]] = some (.val (.int .i64 0)) := by kernel_rfl
theorem dc31 : xTab tab32 [.agg [.str (PS.of [120]), sigsV (gs2 3 1) (some 2), nilV, nilV, nilV]] = some (.val (.int .i64 0)) := by kernel_rfl
theorem dc32 : xTab tab32 [.agg [.str (PS.of [120]), sigsV (gs2 3 2) (some 2), nilV, nilV, nilV]] = some (.val (.int .i64 0)) := by kernel_rfl
theorem dc33 : xTab tab32 [.agg [.str (PS.of [120]), sigsV (gs2 3 3) (some 2), nilV, nilV, nilV]] = some (.val (.int .i64 0)) := by kernel_rfl
theorem dc34 : xTab tab32 [.agg [.str (PS.of [120]), sigsV (gs2 3 4) (some 2), nilV, nilV, nilV]] = some (.val (.int .i64 0)) := by kernel_rfl
theorem dc35 : xTab tab32 [.agg [.str (PS.of [120]), sigsV (gs2 3 5) (some 2), nilV, nilV, nilV]] = some (.val (.int .i64 0)) := by kernel_rfl
theorem dc41 : xTab tab32 [.agg [.str (PS.of [120]), sigsV (gs2 4 1) (some 2), nilV, nilV, nilV]] = some (.val (.int .i64 0)) := by kernel_rfl
theorem dc42 : xTab tab32 [.agg [.str (PS.of [120]), sigsV (gs2 4 2) (some 2), nilV, nilV, nilV]] = some (.val (.int .i64 0)) := by kernel_rfl
theorem dc43 : xTab tab32 [.agg [.str (PS.of [120]), sigsV (gs2 4 3) (some 2), nilV, nilV, nilV]] = some (.val (.int .i64 0)) := by kernel_rfl
theorem dc44 : xTab tab32 [.agg [.str (PS.of [120]), sigsV (gs2 4 4) (some 2), nilV, nilV, nilV]] = some (.val (.int .i64 0)) := by kernel_rfl
theorem dc45 : xTab tab32 [.agg [.str (PS.of [120]), sigsV (gs2 4 5) (some 2), nilV, nilV, nilV]] = some (.val (.int .i64 0)) := by kernel_rfl
theorem dc51 : xTab tab32 [.agg [.str (PS.of [120]), sigsV (gs2 5 1) (some 2), nilV, nilV, nilV]] = some (.val (.int .i64 0)) := by kernel_rfl
theorem dc52 : xTab tab32 [.agg [.str (PS.of [120]), sigsV (gs2 5 2) (some 2), nilV, nilV, nilV]] = some (.val (.int .i64 0)) := by kernel_rfl
theorem dc53 : xTab tab32 [.agg [.str (PS.of [120]), sigsV (gs2 5 3) (some 2), nilV, nilV, nilV]] = some (.val (.int .i64 0)) := by kernel_rfl
theorem dc54 : xTab tab32 [.agg [.str (PS.of [120]), sigsV (gs2 5 4) (some 2), nilV, nilV, nilV]] = some (.val (.int .i64 0)) := by kernel_rfl
theorem dc55 : xTab tab32 [.agg [.str (PS.of [120]), sigsV (gs2 5 5) (some 2), nilV, nilV, nilV]] = some (.val (.int .i64 0)) := by kernel_rfl
theorem dc61 : xTab tab32 [.agg [.str (PS.of [120]), sigsV (gs2 6 1) (some 2), nilV, nilV, nilV]] = some (.val (.int .i64 0)) := by kernel_rfl
theorem dc62 : xTab tab32 [.agg [.str (PS.of [120]), sigsV (gs2 6 2) (some 2), nilV, nilV, nilV]] = some (.val (.int .i64 0)) := by kernel_rfl
theorem dc63 : xTab tab32 [.agg [.str (PS.of [120]), sigsV (gs2 6 3) (some 2), nilV, nilV, nilV]] = some (.val (.int .i64 0)) := by kernel_rfl
theorem dc64 : xTab tab32 [.agg [.str (PS.of [120]), sigsV (gs2 6 4) (some 2), nilV, nilV, nilV]] = some (.val (.int .i64 0)) := by kernel_rfl
theorem dc65 : xTab tab32 [.agg [.str (PS.of [120]), sigsV (gs2 6 5) (some 2), nilV, nilV, nilV]] = some (.val (.int .i64 0)) := by kernel_rfl
theorem dc71 : xTab tab32 [.agg [.str (PS.of [120]), sigsV (gs2 7 1) (some 2), nilV, nilV, nilV]] = some (.val (.int .i64 0)) := by kernel_rfl
theorem dc72 : xTab tab32 [.agg [.str (PS.of [120]), sigsV (gs2 7 2) (some 2), nilV, nilV, nilV]] = some (.val (.int .i64 0)) := by kernel_rfl
theorem dc73 : xTab tab32 [.agg [.str (PS.of [120]), sigsV (gs2 7 3) (some 2), nilV, nilV, nilV]] = some (.val (.int .i64 0)) := by kernel_rfl
theorem dc74 : xTab tab32 [.agg [.str (PS.of [120]), sigsV (gs2 7 4) (some 2), nilV, nilV, nilV]] = some (.val (.int .i64 0)) := by kernel_rfl
theorem dc75 : xTab tab32 [.agg [.str (PS.of [120]), sigsV (gs2 7 5) (some 2), nilV, nilV, nilV]] = some (.val (.int .i64 0)) := by kernel_rfl
theorem dc81 : xTab tab32 [.agg [.str (PS.of [120]), sigsV (gs2 8 1) (some 2), nilV, nilV, nilV]] = some (.val (.int .i64 0)) := by kernel_rfl
theorem dc82 : xTab tab32 [.agg [.str (PS.of [120]), sigsV (gs2 8 2) (some 2), nilV, nilV, nilV]] = some (.val (.int .i64 0)) := by kernel_rfl
theorem dc83 : xTab tab32 [.agg [.str (PS.of [120]), sigsV (gs2 8 3) (some 2), nilV, nilV, nilV]] = some (.val (.int .i64 0)) := by kernel_rfl
theorem dc84 : xTab tab32 [.agg [.str (PS.of [120]), sigsV (gs2 8 4) (some 2), nilV, nilV, nilV]] = some (.val (.int .i64 0)) := by kernel_rfl
theorem dc85 : xTab tab32 [.agg [.str (PS.of [120]), sigsV (gs2 8 5) (some 2), nilV, nilV, nilV]] = some (.val (.int .i64 0)) := by kernel_rfl
theorem dc_row (w k : Nat) (hw : 1 ≤ w ∧ w ≤ 8) (hk : 1 ≤ k ∧ k ≤ 5) : xTab tab32 [.agg [.str (PS.of [120]), sigsV (gs2 w k) (some 2), nilV, nilV, nilV]] = some (.val (.int .i64 0)) := by
  have hw' : w = 1 ∨ w = 2 ∨ w = 3 ∨ w = 4 ∨ w = 5 ∨ w = 6 ∨ w = 7 ∨ w = 8 := by omega
  have hk' : k = 1 ∨ k = 2 ∨ k = 3 ∨ k = 4 ∨ k = 5 := by omega
  rcases hw' with rfl | rfl | rfl | rfl | rfl | rfl | rfl | rfl <;> rcases hk' with rfl | rfl | rfl | rfl | rfl
  · exact dc11
  · exact dc12
  · exact dc13
  · exact dc14
  · exact dc15
  · exact dc21
  · exact dc22
  · exact dc23
  · exact dc24
  · exact dc25
  · exact dc31
  · exact dc32
  · exact dc33
  · exact dc34
  · exact dc35
  · exact dc41
  · exact dc42
  · exact dc43
  · exact dc44
  · exact dc45
  · exact dc51
  · exact dc52
  · exact dc53
  · exact dc54
  · exact dc55
  · exact dc61
  · exact dc62
  · exact dc63
  · exact dc64
  · exact dc65
  · exact dc71
  · exact dc72
  · exact dc73
  · exact dc74
  · exact dc75
  · exact dc81
  · exact dc82
  · exact dc83
  · exact dc84
  · exact dc85
theorem designCheck2_ok (n : Nat) (hn : 1 ≤ n) {H : VH} (hM : Mx H) {w k : Nat} (hw : 1 ≤ w ∧ w ≤ 8) (hk : 1 ≤ k ∧ k ≤ 5) : vcall T ext promo n 32 [.agg [.str (PS.of [120]), sigsV (gs2 w k) (some 2), nilV, nilV, nilV]] H = some (.int .i64 0, H) := by
  obtain ⟨n, rfl⟩ : ∃ m, n = m + 1 := ⟨n - 1, by omega⟩
  obtain ⟨_, m, hm⟩ := hM
  have key := dc_row w k hw hk
  refine call_ext (g := xTabM 0 tab32) rfl ?_
  simp only [xTabM, hm]
  rw [key]
end
end Go.Vm.Tryz
