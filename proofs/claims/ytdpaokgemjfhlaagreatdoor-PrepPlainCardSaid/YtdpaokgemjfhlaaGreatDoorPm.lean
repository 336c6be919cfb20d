/- PrepPlain: the law. -/
import Derived.Test.YtdpaokgemjfhlaaGreatDoorPl
import Derived.Test.YtdpaokgemjfhlaaGreatDoorPp
namespace Go.Vm.Tryz
set_option linter.unusedSectionVars false
set_option linter.unusedSimpArgs false
set_option linter.unusedVariables false
set_option maxRecDepth 10000
theorem included_ok (n : Nat) (hn : 1 ≤ n) {H : VH} (hM : Mx H) : vcall T ext promo n 11 [] H = some (.bool true, H) := by
  obtain ⟨n, rfl⟩ : ∃ m, n = m + 1 := ⟨n - 1, by omega⟩
  obtain ⟨_, m, hm⟩ := hM
  refine call_ext (g := xTabM 0 tab11) rfl ?_
  simp only [xTabM, hm]
  rfl
theorem hasSuffix_ok (n : Nat) (hn : 2 ≤ n) (l : List UInt8) (hl : l.length < 1000000) (H : VH) : vcall T ext promo n 10 [.str (PS.of l), .str (PS.of [10])] H = some (.bool (decide (l.drop (l.length - 1) = [10])), H) := by
  obtain ⟨n, rfl⟩ : ∃ m, n = m + 1 := ⟨n - 1, by omega⟩
  apply ok10
  unfold F10
  simp only [letH_mk]
  rw [suffix1_ok n (by omega) l 10 hl]
  simp only [KA, KB, KD, reduceCtorEq, if_false, if_true]
  rw [leave_flat rfl rfl]
theorem oc_len (f : List UInt8) : ∀ k, (oc f k).length = k * 3
  | 0 => rfl
  | k + 1 => by show (oc f k ++ _).length = _; rw [List.length_append, oc_len f k]; simp; omega
theorem oc_get (f : List UInt8) : ∀ (k i : Nat), i < k → (oc f k)[i * 3]? = some (.str (PS.of f)) ∧ (oc f k)[i * 3 + 1]? = some (.int .i64 ((i + 1 : Nat) : Int)) ∧ (oc f k)[i * 3 + 2]? = some (.bool true)
  | 0, i, h => by omega
  | k + 1, i, h => by
    show (oc f k ++ _)[i * 3]? = _ ∧ (oc f k ++ _)[i * 3 + 1]? = _ ∧ (oc f k ++ _)[i * 3 + 2]? = _
    have hl := oc_len f k
    by_cases e : i < k
    · obtain ⟨h1, h2, h3⟩ := oc_get f k i e
      rw [List.getElem?_append_left (by omega), List.getElem?_append_left (by omega), List.getElem?_append_left (by omega)]
      exact ⟨h1, h2, h3⟩
    · obtain rfl : i = k := by omega
      rw [List.getElem?_append_right (by omega), List.getElem?_append_right (by omega), List.getElem?_append_right (by omega), hl, Nat.sub_self, show i * 3 + 1 - i * 3 = 1 by omega, show i * 3 + 2 - i * 3 = 2 by omega]
      exact ⟨rfl, rfl, rfl⟩
theorem oc_cells {H : VH} {q : Nat} {f : List UInt8} {k : Nat} (h : ∀ o, H.cell q o = (oc f k)[o]?) (i : Nat) (hi : i < k) : H.cells q (0 + (i : Int).toNat * 3) 3 = some [.str (PS.of f), .int .i64 ((i + 1 : Nat) : Int), .bool true] := by
  obtain ⟨h1, h2, h3⟩ := oc_get f k i hi
  rw [Int.toNat_natCast, Nat.zero_add]
  simp only [VH.cells, h, h1, h2, h3]
theorem where_ok (n : Nat) (hn : 1 ≤ n) (s : PS) {H : VH} {q : Nat} {f : List UInt8} {k : Nat} (c : Option Nat) (e : Nat) (hk : k < 100000) (h : ∀ o, H.cell q o = (oc f k)[o]?) (i : Nat) (hi : i < k) :
    vcall T ext promo n 13 [.agg [.str s, .slice (some (q, 0)) k c e], .int .i64 ((i + 1 : Nat) : Int), .int .i64 3] H = some (.tuple [.str (PS.of f), .int .i64 ((i + 1 : Nat) : Int), .int .i64 3, .bool true], H) := by
  obtain ⟨n, rfl⟩ : ∃ m, n = m + 1 := ⟨n - 1, by omega⟩
  apply ok13
  unfold F13
  have hc : H.lo.cells q (0 + (i : Int).toNat * 3) 3 = some [.str (PS.of f), .int .i64 ((i + 1 : Nat) : Int), .bool true] := oc_cells (H := H.lo) h i hi
  simp only [KA, KB, KD, reduceCtorEq, if_false, if_true, Bool.and_eq_true]
  rw [if_neg (by omega)]
  simp only [KA, KB, KD, reduceCtorEq, if_false, if_true]
  rw [if_neg (by simp; omega)]
  rw [fw_sub1 (i + 1) (by omega) (by omega), Nat.add_sub_cancel, if_pos (by omega), hc]
  simp only [KA, KB, KD, reduceCtorEq, if_false, if_true]
  rw [leave_flat rfl rfl]
theorem eqOrigin (s t : PS) (x y : Int) (p q : Bool) : veq T 60 39 (.agg [.str s, .int .i64 x, .bool p]) (.agg [.str t, .int .i64 y, .bool q]) =
    (match (some (s.eq t) : Option Bool) with
      | some true => (match (if kindEq .i64 .i64 then some (ieq x y) else none : Option Bool) with
        | some true => (match (some (p == q) : Option Bool) with
          | some true => some true
          | r => r)
        | r => r)
      | r => r) := by kernel_rfl
theorem neOrigin (f : List UInt8) (x y : Int) (hxy : x = y) : vbinOp T .neq 39 (.agg [.str (PS.of f), .int .i64 x, .bool true]) (.agg [.str (PS.of f), .int .i64 y, .bool true]) = some (.bool false) := by
  subst hxy
  have h : veq T 60 39 (.agg [.str (PS.of f), .int .i64 x, .bool true]) (.agg [.str (PS.of f), .int .i64 x, .bool true]) = some true := by
    rw [eqOrigin]
    simp [str_eq, ieq_dec, show kindEq .i64 .i64 = true from rfl]
  show (veq T 60 39 _ _).map (fun b => AV.bool (!b)) = _
  rw [h]
  rfl
theorem plain_rows (n : Nat) (hn : 50 ≤ n) (s : PS) {H : VH} {q k : Nat} (c : Option Nat) (e : Nat) (hk : k < 1000) (h : ∀ o, H.cell q o = (oc [102] k)[o]?) : ∀ (m i : Nat), i ≤ k → k - i < m →
    loopN (L3_0 (vcall T ext promo n) n s (some (q, 0)) k c e) m [.int .i64 (i : Int)] H = some (.exit 0, [], H) := by
  intro m
  induction m with
  | zero => intro i _ h; omega
  | succ m ih =>
    intro i hi hm
    rw [loopN_succ]
    generalize hlp : loopN (L3_0 (vcall T ext promo n) n s (some (q, 0)) k c e) m = lp at ih ⊢
    unfold L3_0
    simp only [KA, KB, KD, reduceCtorEq, if_false, if_true, Bool.and_eq_true]
    by_cases hik : i < k
    · rw [if_pos (by omega), if_pos (by omega), oc_cells h i hik]
      simp only [KA, KB, KD, reduceCtorEq, if_false, if_true]
      rw [fw_add1 i (by omega), where_ok n (by omega) s c e (by omega) h i hik]
      simp only [KA, KB, KD, reduceCtorEq, if_false, if_true]
      rw [neOrigin _ _ _ rfl]
      simp only [KA, KB, KD, reduceCtorEq, if_false, if_true, str_eq, decide_true, ieq_dec]
      exact ih (i + 1) (by omega) (by omega)
    · rw [if_neg (by omega)]
theorem prepPlain_vm (n : Nat) (hn : 6001 ≤ n) {H : VH} (hH : H.Ok) {m : Int} (hmx : 0 < H.next ∧ H.cell 0 0 = some (.int .i64 m)) (a : Option (Nat × Nat)) (l : Nat) (c : Option Nat) (e : Nat) (hN : Nums H H.next a l) :
    ∃ H', vcall T ext promo n 3 [.slice a l c e] H = some (.bool true, H') := by
  obtain ⟨n, rfl⟩ : ∃ m, n = m + 1 := ⟨n - 1, by omega⟩
  have hM : Mx H := ⟨hmx.1, m, hmx.2⟩
  obtain ⟨o2, s2⟩ := start hH c e hN
  have M2 : Mx (H.lo.fresh [.slice a l c e, .int .i64 0]) := hM.lo.keep (lo_ok hH) (Keep.fresh (fun _ => False) H.lo _) (fun h => h)
  obtain ⟨txt, H3, e3, hl, hno, D3⟩ := plain_ok n (by omega) o2 s2 (by omega)
  have hM0 := hM.1
  have M3 : Mx H3 := M2.keep o2 D3.keep (by omega)
  -- the files
  have o4 := newMap_ok D3.ok [] 0
  have m4 : (H3.newMap).map? H3.next = some ([], 0, 0) := map?_get ((newMap_get H3 [] 0 H3.next).trans (if_pos rfl)) rfl
  have u5 := put1 m4 [102] (.str (PS.of txt)) undMap
  have k5 := setMap_eff o4 (b := H3.next) (Nat.lt_succ_self _) [⟨.str (PS.of [102]), .str (PS.of txt), 0⟩] 1 0
  have f5 : Map1 (H3.newMap.setMap H3.next [⟨.str (PS.of [102]), .str (PS.of txt), 0⟩] 1 0) H3.next [102] (.str (PS.of txt)) := ⟨1, map?_get ((setMap_get _ _ _ _ _ _).trans (if_pos rfl)) rfl⟩
  have n5 : (H3.newMap.setMap H3.next [⟨.str (PS.of [102]), .str (PS.of txt), 0⟩] 1 0).next = H3.next + 1 := rfl
  generalize hH5 : H3.newMap.setMap H3.next [⟨.str (PS.of [102]), .str (PS.of txt), 0⟩] 1 0 = H5 at k5 f5 n5
  -- what is defined
  have o6 := newMap_ok k5.ok [] 0
  have m6 : (H5.newMap).map? H5.next = some ([], 0, 0) := map?_get ((newMap_get H5 [] 0 H5.next).trans (if_pos rfl)) rfl
  have u7 := put1 m6 [98, 49] (.str (PS.of [120])) undMap
  have k7 := setMap_eff o6 (b := H5.next) (Nat.lt_succ_self _) [⟨.str (PS.of [98, 49]), .str (PS.of [120]), 0⟩] 1 0
  have d7 : Map1 (H5.newMap.setMap H5.next [⟨.str (PS.of [98, 49]), .str (PS.of [120]), 0⟩] 1 0) H5.next [98, 49] (.str (PS.of [120])) := ⟨1, map?_get ((setMap_get _ _ _ _ _ _).trans (if_pos rfl)) rfl⟩
  have f7 := (f5.keep k5.ok (newMap_keep k5.ok (fun _ => False) [] 0) (fun h => h)).keep o6 k7.keep (by omega)
  have M7 := (((M3.keep D3.ok (newMap_keep D3.ok (fun _ => False) [] 0) (fun h => h)).keep o4 k5.keep (by have := M3.1; omega)).keep k5.ok (newMap_keep k5.ok (fun _ => False) [] 0) (fun h => h)).keep o6 k7.keep (by omega)
  generalize hH7 : H5.newMap.setMap H5.next [⟨.str (PS.of [98, 49]), .str (PS.of [120]), 0⟩] 1 0 = H7 at k7 f7 M7 d7
  -- the run
  obtain ⟨v, g, H8, e8, g8, k8⟩ := run_ok n (by omega) k7.ok M7 (by omega) hno f7 d7
  have M8 := M7.keep k7.ok k8.keep (fun h => h)
  have hrl := rowsLen txt
  obtain ⟨va, vk, vc, ve, rfl, hvk, hva⟩ : ∃ a k c e, v = .slice a k c e ∧ k = rowsOf txt ∧ (0 < k → ∃ q, a = some (q, 0) ∧ ∀ o, H8.cell q o = (oc [102] (rowsOf txt))[o]?) := by
    rcases g8 with ⟨_, h | ⟨q, h, _, ht, _⟩⟩
    · exact ⟨_, _, _, _, h.1, h.2.symm, fun h => by omega⟩
    · exact ⟨_, _, _, _, h, rfl, fun _ => ⟨q, rfl, ht.cell⟩⟩
  subst hvk
  have hloop : loopN (L3_0 (vcall T ext promo n) n (PS.of (outOf txt)) va (rowsOf txt) vc ve) n [.int .i64 0] H8 = some (.exit 0, [], H8) := by
    rcases Nat.eq_zero_or_pos (rowsOf txt) with h0 | h0
    · obtain ⟨n, rfl⟩ : ∃ m, n = m + 1 := ⟨n - 1, by omega⟩
      rw [loopN_succ]
      unfold L3_0
      simp only [KA, KB, KD, reduceCtorEq, if_false, if_true]
      rw [if_neg (by omega)]
    · obtain ⟨q, rfl, hq⟩ := hva h0
      exact plain_rows n (by omega) (PS.of (outOf txt)) vc ve (by omega) hq n 0 (by omega) (by omega)
  have want : (if txt = [] then [] else if txt.drop (txt.length - 1) = [10] then txt else txt ++ [10]) = outOf txt := by
    unfold outOf
    rw [chomp_nl]
  have hcount : (outOf txt).count 10 = rowsOf txt := by
    unfold outOf rowsOf
    split
    · rfl
    · rw [List.count_append]; rfl
  have e3' : vcall T ext promo n 8 [.ptr (some (H.lo.next, 0))] (H.lo.fresh [.slice a l c e, .int .i64 0]) = some (.str (PS.of txt), H3) := e3
  refine ⟨_, ok3 _ _ _ _ _ _ (r := (.bool true, leave H H8 (.bool true))) ?_⟩
  unfold F3
  simp only [KA, KB, KD, reduceCtorEq, if_false, if_true, e3']
  rw [mk1 _ _ _ undMap]
  simp only [KA, KB, KD, reduceCtorEq, if_false, if_true, u5, hH5]
  rw [mk1 _ _ _ undMap]
  simp only [KA, KB, KD, reduceCtorEq, if_false, if_true, u7, hH7]
  rw [e8]
  simp only [bindC_mk, asTu_mk, unc_mk, asA_mk, asS_mk, asSl_mk, endL_mk, asI_mk]
  by_cases h0 : txt = []
  · subst h0
    have hw : outOf [] = [] := rfl
    rw [hw] at hloop hcount
    simp only [KA, KB, KD, reduceCtorEq, if_false, if_true, str_eq, decide_true]
    rw [included_ok n (by omega) M8]
    simp only [KA, KB, KD, reduceCtorEq, if_false, if_true, str_eq, decide_true, ieq_dec, hw]
    rw [if_neg (by omega), count1_ok n (by omega), hcount]
    simp only [KA, KB, KD, reduceCtorEq, if_false, if_true, hloop, decide_true]
  · simp only [KA, KB, KD, reduceCtorEq, if_false, if_true, str_eq, h0, decide_false]
    rw [hasSuffix_ok n (by omega) txt (by omega)]
    by_cases hs : txt.drop (txt.length - 1) = [10]
    · have hw : outOf txt = txt := by unfold outOf; rw [if_neg h0, chomp_nl, if_pos hs]
      rw [hw] at hloop hcount
      simp only [KA, KB, KD, reduceCtorEq, if_false, if_true, hs, decide_true]
      rw [included_ok n (by omega) M8]
      simp only [KA, KB, KD, reduceCtorEq, if_false, if_true, str_eq, decide_true, ieq_dec, hw]
      rw [if_neg (by omega), count1_ok n (by omega), hcount]
      simp only [KA, KB, KD, reduceCtorEq, if_false, if_true, hloop, decide_true]
    · have hw : outOf txt = txt ++ [10] := by unfold outOf; rw [if_neg h0, chomp_nl, if_neg hs]
      rw [hw] at hloop hcount
      simp only [KA, KB, KD, reduceCtorEq, if_false, if_true, hs, decide_false]
      rw [str_add _ _ (by simp; omega)]
      simp only [KA, KB, KD, reduceCtorEq, if_false, if_true]
      rw [included_ok n (by omega) M8]
      simp only [KA, KB, KD, reduceCtorEq, if_false, if_true, str_eq, decide_true, ieq_dec, hw]
      rw [if_neg (by omega), count1_ok n (by omega), hcount]
      simp only [KA, KB, KD, reduceCtorEq, if_false, if_true, hloop, decide_true]
end Go.Vm.Tryz
