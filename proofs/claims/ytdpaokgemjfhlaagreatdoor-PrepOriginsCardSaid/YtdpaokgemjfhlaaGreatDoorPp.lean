/- PrepPlain's texts: pieces without a backquote. -/
import Derived.Test.YtdpaokgemjfhlaaGreatDoorPf
namespace Go.Vm.Tryz
set_option linter.unusedSectionVars false
set_option linter.unusedSimpArgs false
set_option linter.unusedVariables false
set_option maxRecDepth 10000
def pcs : List (List UInt8) := [[97], [98, 49, 32], [47, 47], [47, 42], [42, 47], [34], [92], [10], [10], [40], [44], [56, 39, 104, 102], [9]]
theorem pcs_ok : ∀ i, i < 13 → ∃ s, (strCells pcs)[i]? = some (.str (PS.of s)) ∧ s.length ≤ 4 ∧ ∀ x ∈ s, x ≠ 96 := by
  intro i hi
  have h : ∀ s ∈ pcs, s.length ≤ 4 ∧ ∀ x ∈ s, x ≠ 96 := by decide
  have hi' : i < pcs.length := hi
  refine ⟨pcs[i], ?_, h _ (List.getElem_mem hi')⟩
  rw [strCells, List.getElem?_map, List.getElem?_eq_getElem hi']
  rfl
theorem plain_loop (n : Nat) (hn : 20 ≤ n) (b N : Nat) (hN : N ≤ 40) :
    ∀ (m i : Nat) (t : List UInt8) (H0 H : VH) (K : Nat), i ≤ N → N - i < m → K + N < 900000000 + i → t.length ≤ 4 * i → (∀ x ∈ t, x ≠ 96) → H0.Ok → Drawn H0 H b K →
      ∃ t' H', loopN (L8_0 (vcall T ext promo n) n (some (b, 0)) (N : Int)) m [.str (PS.of t), .int .i64 (i : Int)] H = some (.exit 0, [.str (PS.of t')], H') ∧ t'.length ≤ 4 * N ∧ (∀ x ∈ t', x ≠ 96) ∧ Drawn H0 H' b (K + (N - i)) := by
  intro m
  induction m with
  | zero => intro i t H0 H K _ h; omega
  | succ m ih =>
    intro i t H0 H K hi hm hK ht hno hH0 hD
    rw [loopN_succ]
    generalize hlp : loopN (L8_0 (vcall T ext promo n) n (some (b, 0)) (N : Int)) m = lp at ih ⊢
    unfold L8_0
    simp only [KA, KB, KD, reduceCtorEq, if_false, if_true, Bool.and_eq_true]
    by_cases h : i < N
    · rw [if_pos (by omega)]
      have hH := hD.ok
      have o1 := fresh_ok hH (strCells pcs)
      have p1 := fresh_plain hH (strCells pcs)
      have D1 : Drawn H0 (H.fresh (strCells pcs)) b K := ⟨hD.st.fresh hH _, hD.keep.trans (Keep.fresh _ _ _), o1, hD.low⟩
      obtain ⟨r, H2, e1, h1, h2, D2⟩ := next_ok n (by omega) o1 D1.st (by omega) 13 (by omega)
      have hbn := hD.st.lt hH
      have p2 := p1.keep o1 D2.keep (by omega)
      have D3 := D1.trans D2
      obtain ⟨s, hs, hs4, hs96⟩ := pcs_ok r.toNat (by omega)
      have e1' : vcall T ext promo n 16 [.ptr (some (b, 0)), .int .i64 13] (H.fresh [.str (PS.of [97]), .str (PS.of [98, 49, 32]), .str (PS.of [47, 47]), .str (PS.of [47, 42]), .str (PS.of [42, 47]), .str (PS.of [34]), .str (PS.of [92]), .str (PS.of [10]), .str (PS.of [10]), .str (PS.of [40]), .str (PS.of [44]), .str (PS.of [56, 39, 104, 102]), .str (PS.of [9])]) = some (.int .i64 r, H2) := e1
      rw [e1']
      simp only [KA, KB, KD, reduceCtorEq, if_false, if_true]
      rw [if_pos (by omega), Nat.zero_add, Nat.mul_one, p2.cell, hs]
      simp only [KA, KB, KD, reduceCtorEq, if_false, if_true]
      rw [str_add _ _ (by omega)]
      simp only [KA, KB, KD, reduceCtorEq, if_false, if_true]
      rw [fw_i64 (by omega) (by omega), show (i : Int) + 1 = ((i + 1 : Nat) : Int) by omega]
      obtain ⟨t', H', r1, r2, r3, r4⟩ := ih (i + 1) (t ++ s) H0 H2 (K + 1) (by omega) (by omega) (by omega) (by rw [List.length_append]; omega) (fun x hx => by
        rcases List.mem_append.1 hx with hx | hx
        · exact hno x hx
        · exact hs96 x hx) hH0 D3
      exact ⟨t', H', r1, r2, r3, by rw [show K + (N - i) = K + 1 + (N - (i + 1)) by omega]; exact r4⟩
    · rw [if_neg (by omega)]
      have : i = N := by omega
      subst this
      exact ⟨t, H, rfl, ht, hno, by rw [Nat.sub_self]; exact hD⟩
theorem plain_ok (n : Nat) (hn : 50 ≤ n) {H : VH} {b k : Nat} (hH : H.Ok) (hs : StB H b k) (hk : k < 800000000) :
    ∃ t H', vcall T ext promo n 8 [.ptr (some (b, 0))] H = some (.str (PS.of t), H') ∧ t.length ≤ 160 ∧ (∀ x ∈ t, x ≠ 96) ∧ Drawn H H' b (k + 41) := by
  obtain ⟨n, rfl⟩ : ∃ m, n = m + 1 := ⟨n - 1, by omega⟩
  obtain ⟨r, H1, e1, h1, h2, D1⟩ := range_ok n (by omega) (lo_ok hH) hs.lo (by omega) 0 40 (by omega) (by omega) (by omega)
  obtain ⟨N, rfl⟩ : ∃ N : Nat, r = (N : Int) := ⟨r.toNat, by omega⟩
  obtain ⟨t, H2, r1, r2, r3, D2⟩ := plain_loop n (by omega) b N (by omega) n 0 [] H.lo H1 (k + 1) (by omega) (by omega) (by omega) (by simp) (fun x hx => by cases hx) (lo_ok hH) D1
  refine ⟨t, leave H H2 (.str (PS.of t)), ok8 _ _ _ ?_, by omega, r3, (D2.up (by omega)).leave hH (hs.lt hH) _⟩
  unfold F8
  simp only [letH_mk]
  rw [e1]
  simp only [KA, KB, KD, reduceCtorEq, if_false, if_true]
  rw [show (.int .i64 0 : AV) = .int .i64 ((0 : Nat) : Int) from rfl, r1]
  simp only [KA, KB, KD, reduceCtorEq, if_false, if_true]
end Go.Vm.Tryz
