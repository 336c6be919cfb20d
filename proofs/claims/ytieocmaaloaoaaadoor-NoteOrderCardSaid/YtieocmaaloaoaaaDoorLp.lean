/- NotePlaced on the machine: the place of each byte of a text leads back to it. -/
import Derived.Test.YtieocmaaloaoaaaDoorSt
import Derived.Test.YtieocmaaloaoaaaDoorSm
namespace Go.Vm.Tryd
set_option linter.unusedSectionVars false
set_option linter.unusedSimpArgs false
set_option linter.unusedVariables false
set_option maxRecDepth 10000
theorem place_ok (n : Nat) (l : List UInt8) (hn : l.length + 30 ≤ n) (hl : l.length < 1000000000) (at_ : Nat) (ha : at_ ≤ l.length) (H : VH) :
    vcall T ext promo n 17 [.str (PS.of l), .int .i64 (at_ : Int)] H = some (.tuple [.int .i64 (((l.take at_).count 10 : Nat) + 1 : Int), .int .i64 ((at_ : Int) - lastL 10 (l.take at_))], H) := by
  obtain ⟨n, rfl⟩ : ∃ m, n = m + 1 := ⟨n - 1, by omega⟩
  have hc : (l.take at_).count 10 ≤ (l.take at_).length := List.count_le_length ..
  have hr := lastL_range 10 (l.take at_)
  have ht : (l.take at_).length = at_ := by simp [ha]
  apply ok17
  unfold F17
  simp only [letH_mk, bindC_mk, bindV_mk, bindH_mk, bindJ_mk, asB_mk, asI_mk, asS_mk, asP_mk, asSl_mk, asA_mk, asTu_mk, asSome_mk, unc_mk, endL_mk, selC_eq, condT_eq, letN_mk, letB_mk, case_nn, case_nr, case_ne, case_rn, case_rr, case_re, case_en, case_er, case_ee, decide_eq_true_eq, Bool.not_true, Bool.not_false, Bool.false_eq_true, if_false, if_true, Bool.not_eq_true', decide_eq_false_iff_not, ilt_eq, ile_eq, reduceCtorEq, not_false_eq_true, not_true_eq_false, of_len]
  rw [if_neg (by omega)]
  simp only [letH_mk, bindC_mk, bindV_mk, bindH_mk, bindJ_mk, asB_mk, asI_mk, asS_mk, asP_mk, asSl_mk, asA_mk, asTu_mk, asSome_mk, unc_mk, endL_mk, selC_eq, condT_eq, letN_mk, letB_mk, case_nn, case_nr, case_ne, case_rn, case_rr, case_re, case_en, case_er, case_ee, decide_eq_true_eq, Bool.not_true, Bool.not_false, Bool.false_eq_true, if_false, if_true, Bool.not_eq_true', decide_eq_false_iff_not, ilt_eq, ile_eq, reduceCtorEq, not_false_eq_true, not_true_eq_false]
  rw [if_neg (by omega), slStrT _ _ _ ha]
  simp only [letH_mk, bindC_mk, bindV_mk, bindH_mk, bindJ_mk, asB_mk, asI_mk, asS_mk, asP_mk, asSl_mk, asA_mk, asTu_mk, asSome_mk, unc_mk, endL_mk, selC_eq, condT_eq, letN_mk, letB_mk, case_nn, case_nr, case_ne, case_rn, case_rr, case_re, case_en, case_er, case_ee, decide_eq_true_eq, Bool.not_true, Bool.not_false, Bool.false_eq_true, if_false, if_true, Bool.not_eq_true', decide_eq_false_iff_not, ilt_eq, ile_eq, reduceCtorEq, not_false_eq_true, not_true_eq_false]
  rw [count1_ok n (by omega)]
  simp only [letH_mk, bindC_mk, bindV_mk, bindH_mk, bindJ_mk, asB_mk, asI_mk, asS_mk, asP_mk, asSl_mk, asA_mk, asTu_mk, asSome_mk, unc_mk, endL_mk, selC_eq, condT_eq, letN_mk, letB_mk, case_nn, case_nr, case_ne, case_rn, case_rr, case_re, case_en, case_er, case_ee, decide_eq_true_eq, Bool.not_true, Bool.not_false, Bool.false_eq_true, if_false, if_true, Bool.not_eq_true', decide_eq_false_iff_not, ilt_eq, ile_eq, reduceCtorEq, not_false_eq_true, not_true_eq_false]
  rw [lastIndex1_ok n _ (by omega) (by omega)]
  simp only [letH_mk, bindC_mk, bindV_mk, bindH_mk, bindJ_mk, asB_mk, asI_mk, asS_mk, asP_mk, asSl_mk, asA_mk, asTu_mk, asSome_mk, unc_mk, endL_mk, selC_eq, condT_eq, letN_mk, letB_mk, case_nn, case_nr, case_ne, case_rn, case_rr, case_re, case_en, case_er, case_ee, decide_eq_true_eq, Bool.not_true, Bool.not_false, Bool.false_eq_true, if_false, if_true, Bool.not_eq_true', decide_eq_false_iff_not, ilt_eq, ile_eq, reduceCtorEq, not_false_eq_true, not_true_eq_false]
  rw [fw_i64 (by omega) (by omega), fw_i64 (by omega) (by omega), leave_flat rfl rfl]
theorem placed_ok (n : Nat) (hn : 100 ≤ n) (H : VH) : vcall T ext promo n 18 [] H = some (.bool true, H) := by
  obtain ⟨n, rfl⟩ : ∃ m, n = m + 1 := ⟨n - 1, by omega⟩
  have e2 : ∀ H, vcall T ext promo n 17 [.str (PS.of [97, 98, 10, 99]), .int .i64 2] H = some (.tuple [.int .i64 1, .int .i64 3], H) := fun H => place_ok n [97, 98, 10, 99] (by simp; omega) (by decide) 2 (by decide) H
  have e3 : ∀ H, vcall T ext promo n 17 [.str (PS.of [97, 98, 10, 99]), .int .i64 3] H = some (.tuple [.int .i64 2, .int .i64 1], H) := fun H => place_ok n [97, 98, 10, 99] (by simp; omega) (by decide) 3 (by decide) H
  apply ok18
  unfold F18
  simp only [letH_mk]
  rw [e2]
  simp only [letH_mk, bindC_mk, bindV_mk, bindH_mk, bindJ_mk, asB_mk, asI_mk, asS_mk, asP_mk, asSl_mk, asA_mk, asTu_mk, asSome_mk, unc_mk, endL_mk, selC_eq, condT_eq, letN_mk, letB_mk, case_nn, case_nr, case_ne, case_rn, case_rr, case_re, case_en, case_er, case_ee, decide_eq_true_eq, Bool.not_true, Bool.not_false, Bool.false_eq_true, if_false, if_true, Bool.not_eq_true', decide_eq_false_iff_not, ilt_eq, ile_eq, reduceCtorEq, not_false_eq_true, not_true_eq_false]
  rw [e3]
  simp only [letH_mk, bindC_mk, bindV_mk, bindH_mk, bindJ_mk, asB_mk, asI_mk, asS_mk, asP_mk, asSl_mk, asA_mk, asTu_mk, asSome_mk, unc_mk, endL_mk, selC_eq, condT_eq, letN_mk, letB_mk, case_nn, case_nr, case_ne, case_rn, case_rr, case_re, case_en, case_er, case_ee, decide_eq_true_eq, Bool.not_true, Bool.not_false, Bool.false_eq_true, if_false, if_true, Bool.not_eq_true', decide_eq_false_iff_not, ilt_eq, ile_eq, reduceCtorEq, not_false_eq_true, not_true_eq_false, ieq_dec, decide_true]
  rw [leave_flat rfl rfl]
/-- The bytes of some lines, with their line feeds. -/
def sumL : List (List UInt8) → Nat
  | [] => 0
  | x :: xs => x.length + 1 + sumL xs
theorem place_law (c : UInt8) : ∀ (l : List UInt8) (a : Nat), a ≤ l.length →
    ∃ x, (splits c l)[(l.take a).count c]? = some x ∧ sumL ((splits c l).take ((l.take a).count c)) ≤ a ∧ a ≤ sumL ((splits c l).take ((l.take a).count c)) + x.length ∧
      lastL c (l.take a) + 1 = (sumL ((splits c l).take ((l.take a).count c)) : Int)
  | [], a, h => by
    have : a = 0 := by simpa using h
    subst this
    exact ⟨[], rfl, by simp [sumL], by simp [sumL], by simp [lastL, sumL]⟩
  | b :: l, 0, _ => by
    have hl := splits_len c (b :: l)
    obtain ⟨x, xs, e⟩ : ∃ x xs, splits c (b :: l) = x :: xs := by
      cases e : splits c (b :: l) with
      | nil => rw [e] at hl; simp at hl
      | cons x xs => exact ⟨x, xs, rfl⟩
    exact ⟨x, by simp [e], by simp [sumL], by simp [sumL], by simp [lastL, sumL]⟩
  | b :: l, a + 1, h => by
    obtain ⟨x, h1, h2, h3, h4⟩ := place_law c l a (by simpa using h)
    have hr := lastL_range c (l.take a)
    rw [List.take_succ_cons]
    by_cases e : b = c
    · subst e
      rw [List.count_cons_self]
      refine ⟨x, ?_, ?_, ?_, ?_⟩
      · simp only [splits, if_true, List.getElem?_cons_succ]
        exact h1
      · simp only [splits, if_true, List.take_succ_cons, sumL, List.length_nil]
        omega
      · simp only [splits, if_true, List.take_succ_cons, sumL, List.length_nil]
        omega
      · simp only [splits, if_true, List.take_succ_cons, sumL, List.length_nil, lastL]
        split <;> omega
    · rw [List.count_cons_of_ne e]
      have hl := splits_len c l
      obtain ⟨y, ys, e2⟩ : ∃ y ys, splits c l = y :: ys := by
        cases e2 : splits c l with
        | nil => rw [e2] at hl; simp at hl
        | cons x xs => exact ⟨x, xs, rfl⟩
      have e3 : splits c (b :: l) = (b :: y) :: ys := by
        rw [splits, if_neg e, e2]
      rw [e2] at h1 h2 h3 h4
      rw [e3]
      cases hk : (l.take a).count c with
      | zero =>
        rw [hk] at h1 h2 h3 h4
        simp only [List.getElem?_cons_zero, Option.some.injEq] at h1
        subst h1
        simp only [List.take_zero, sumL] at h2 h3 h4
        refine ⟨b :: y, by simp, by simp [sumL], by simp [sumL]; omega, ?_⟩
        simp only [List.take_zero, sumL, lastL, e, if_false]
        split <;> omega
      | succ k =>
        rw [hk] at h1 h2 h3 h4
        simp only [List.take_succ_cons, sumL, List.getElem?_cons_succ] at h1 h2 h3 h4
        refine ⟨x, by simpa using h1, ?_, ?_, ?_⟩
        · simp only [List.take_succ_cons, sumL, List.length_cons]; omega
        · simp only [List.take_succ_cons, sumL, List.length_cons]; omega
        · simp only [List.take_succ_cons, sumL, List.length_cons, lastL, e, if_false]
          split <;> omega
theorem sumL_le : ∀ (ls : List (List UInt8)) (k : Nat), sumL (ls.take k) ≤ sumL ls
  | [], k => by simp [sumL]
  | x :: ls, 0 => by simp [sumL]
  | x :: ls, k + 1 => by
    have := sumL_le ls k
    simp only [List.take_succ_cons, sumL]
    omega
theorem len_le_sumL : ∀ ls : List (List UInt8), ls.length ≤ sumL ls
  | [] => by simp
  | x :: xs => by
    have := len_le_sumL xs
    simp only [sumL, List.length_cons]
    omega
theorem sumL_splits (c : UInt8) : ∀ l, sumL (splits c l) = l.length + 1
  | [] => rfl
  | b :: l => by
    have ih := sumL_splits c l
    by_cases e : b = c
    · subst e
      simp only [splits, if_true, sumL, ih, List.length_nil, List.length_cons]
      omega
    · rw [splits, if_neg e]
      split
      · rename_i x xs e2
        rw [e2] at ih
        simp only [sumL, List.length_cons] at ih ⊢
        omega
      · rename_i e2
        rw [e2] at ih
        simp [sumL] at ih
theorem sumL_step : ∀ (ls : List (List UInt8)) (k : Nat) (x : List UInt8), ls[k]? = some x → sumL (ls.take (k + 1)) = sumL (ls.take k) + (x.length + 1)
  | [], k, x, h => by simp at h
  | y :: ls, 0, x, h => by
    simp only [List.getElem?_cons_zero, Option.some.injEq] at h
    subst h
    simp [sumL]
  | y :: ls, k + 1, x, h => by
    simp only [List.getElem?_cons_succ] at h
    have := sumL_step ls k x h
    simp only [List.take_succ_cons, sumL, this]
    omega
def four : List (List UInt8) := [[97], [98], [10], [32]]
theorem text_gen (n : Nat) (hn : 50 ≤ n) {H1 : VH} (N : Nat) (hN : N ≤ 60) : ∀ (m i : Nat) (l : List UInt8) (H : VH), i ≤ N → N - i < m → l.length = i → H.Ok → StB H H1.next (1 + i) →
    ∃ (l' : List UInt8) (H' : VH), loopN (L3_0 (vcall T ext promo n) n H1 (N : Int)) m [.str (PS.of l), .int .i64 (i : Int)] H = some (.exit 0, [.str (PS.of l')], H') ∧ l'.length ≤ 60 ∧ H'.Ok ∧ StB H' H1.next (1 + N) := by
  intro m
  induction m with
  | zero => intro i l H _ h; omega
  | succ m ih =>
    intro i l H hi hm hl hH hs
    rw [loopN_succ]
    generalize hlp : loopN (L3_0 (vcall T ext promo n) n H1 (N : Int)) m = lp at ih ⊢
    unfold L3_0
    simp only [letH_mk, bindC_mk, bindV_mk, bindH_mk, bindJ_mk, asB_mk, asI_mk, asS_mk, asP_mk, asSl_mk, asA_mk, asTu_mk, asSome_mk, unc_mk, endL_mk, selC_eq, condT_eq, letN_mk, letB_mk, case_nn, case_nr, case_ne, case_rn, case_rr, case_re, case_en, case_er, case_ee, decide_eq_true_eq, Bool.not_true, Bool.not_false, Bool.false_eq_true, if_false, if_true, Bool.not_eq_true', decide_eq_false_iff_not, ilt_eq, ile_eq, reduceCtorEq, not_false_eq_true, not_true_eq_false]
    by_cases h : i < N
    · have o2 := fresh_ok hH [.str (PS.of [97]), .str (PS.of [98]), .str (PS.of [10]), .str (PS.of [32])]
      have p2 := fresh_plain hH [.str (PS.of [97]), .str (PS.of [98]), .str (PS.of [10]), .str (PS.of [32])]
      have s2 := hs.fresh hH [.str (PS.of [97]), .str (PS.of [98]), .str (PS.of [10]), .str (PS.of [32])]
      have hb := hs.lt hH
      obtain ⟨r, H3, e3, r1, r2, d3⟩ := next_ok n (by omega) o2 s2 (by omega) 4 (by omega)
      obtain ⟨r, rfl⟩ : ∃ r' : Nat, r = (r' : Int) := ⟨r.toNat, by omega⟩
      have p3 := p2.keep o2 d3.keep (by omega)
      have hr : r < 4 := by omega
      have hc : ∃ x : UInt8, H3.cell H.next (0 + r * 1) = some (.str (PS.of [x])) := by
        rw [p3.cell]
        match r, hr with
        | 0, _ => exact ⟨97, rfl⟩
        | 1, _ => exact ⟨98, rfl⟩
        | 2, _ => exact ⟨10, rfl⟩
        | 3, _ => exact ⟨32, rfl⟩
      obtain ⟨x, hx⟩ := hc
      rw [if_pos (by omega), e3]
      simp only [letH_mk, bindC_mk, bindV_mk, bindH_mk, bindJ_mk, asB_mk, asI_mk, asS_mk, asP_mk, asSl_mk, asA_mk, asTu_mk, asSome_mk, unc_mk, endL_mk, selC_eq, condT_eq, letN_mk, letB_mk, case_nn, case_nr, case_ne, case_rn, case_rr, case_re, case_en, case_er, case_ee, decide_eq_true_eq, Bool.not_true, Bool.not_false, Bool.false_eq_true, if_false, if_true, Bool.not_eq_true', decide_eq_false_iff_not, ilt_eq, ile_eq, reduceCtorEq, not_false_eq_true, not_true_eq_false, Bool.and_eq_true]
      rw [if_pos (by omega)]
      simp only [Int.toNat_natCast, hx, letH_mk, bindC_mk, bindV_mk, bindH_mk, bindJ_mk, asB_mk, asI_mk, asS_mk, asP_mk, asSl_mk, asA_mk, asTu_mk, asSome_mk, unc_mk, endL_mk, selC_eq, condT_eq, letN_mk, letB_mk, case_nn, case_nr, case_ne, case_rn, case_rr, case_re, case_en, case_er, case_ee, decide_eq_true_eq, Bool.not_true, Bool.not_false, Bool.false_eq_true, if_false, if_true, Bool.not_eq_true', decide_eq_false_iff_not, ilt_eq, ile_eq, reduceCtorEq, not_false_eq_true, not_true_eq_false]
      rw [str_add _ _ (by simp; omega)]
      simp only [letH_mk, bindC_mk, bindV_mk, bindH_mk, bindJ_mk, asB_mk, asI_mk, asS_mk, asP_mk, asSl_mk, asA_mk, asTu_mk, asSome_mk, unc_mk, endL_mk, selC_eq, condT_eq, letN_mk, letB_mk, case_nn, case_nr, case_ne, case_rn, case_rr, case_re, case_en, case_er, case_ee, decide_eq_true_eq, Bool.not_true, Bool.not_false, Bool.false_eq_true, if_false, if_true, Bool.not_eq_true', decide_eq_false_iff_not, ilt_eq, ile_eq, reduceCtorEq, not_false_eq_true, not_true_eq_false]
      rw [fw_i64 (by omega) (by omega)]
      exact ih (i + 1) (l ++ [x]) H3 (by omega) (by omega) (by simp [hl]) d3.ok (by rw [← Nat.add_assoc]; exact d3.st)
    · rw [if_neg (by omega)]
      exact ⟨l, H, rfl, by omega, hH, by rwa [show i = N by omega] at hs⟩
theorem sum_loop (n : Nat) (ls : List (List UInt8)) (p : Nat) (cap : Nat) {H : VH} (hls : sumL ls < 1000000) (hc : ∀ (i : Nat) x, ls[i]? = some x → H.cell p (0 + i * 1) = some (.str (PS.of x))) (k : Nat) (hk : k ≤ ls.length) (c0 : Nat) (h0 : c0 < 1000000) :
    ∀ (m i : Nat), i ≤ k → k - i < m → loopN (L3_1 (vcall T ext promo n) n (some (p, 0)) k) m [.int .i64 ((c0 + sumL (ls.take i) : Nat) : Int), .int .i64 (i : Int)] H = some (.exit 2, [.int .i64 ((c0 + sumL (ls.take k) : Nat) : Int)], H) := by
  intro m
  induction m with
  | zero => intro i _ h; omega
  | succ m ih =>
    intro i hi hm
    rw [loopN_succ]
    generalize loopN (L3_1 (vcall T ext promo n) n (some (p, 0)) k) m = lp at ih ⊢
    unfold L3_1
    simp only [letH_mk, bindC_mk, bindV_mk, bindH_mk, bindJ_mk, asB_mk, asI_mk, asS_mk, asP_mk, asSl_mk, asA_mk, asTu_mk, asSome_mk, unc_mk, endL_mk, selC_eq, condT_eq, letN_mk, letB_mk, case_nn, case_nr, case_ne, case_rn, case_rr, case_re, case_en, case_er, case_ee, decide_eq_true_eq, Bool.not_true, Bool.not_false, Bool.false_eq_true, if_false, if_true, Bool.not_eq_true', decide_eq_false_iff_not, ilt_eq, ile_eq, reduceCtorEq, not_false_eq_true, not_true_eq_false, Bool.and_eq_true]
    by_cases h : i < k
    · have hx : ls[i]? = some ls[i] := List.getElem?_eq_getElem (by omega)
      have hstep := sumL_step ls i _ hx
      have hle := sumL_le ls i
      have hle2 := sumL_le ls (i + 1)
      have hi2 := len_le_sumL ls
      rw [if_pos (by omega), if_pos (by omega)]
      simp only [Int.toNat_natCast, hc i _ hx, letH_mk, bindC_mk, bindV_mk, bindH_mk, bindJ_mk, asB_mk, asI_mk, asS_mk, asP_mk, asSl_mk, asA_mk, asTu_mk, asSome_mk, unc_mk, endL_mk, selC_eq, condT_eq, letN_mk, letB_mk, case_nn, case_nr, case_ne, case_rn, case_rr, case_re, case_en, case_er, case_ee, decide_eq_true_eq, Bool.not_true, Bool.not_false, Bool.false_eq_true, if_false, if_true, Bool.not_eq_true', decide_eq_false_iff_not, ilt_eq, ile_eq, reduceCtorEq, not_false_eq_true, not_true_eq_false, of_len]
      rw [fw_i64 (n := (ls[i].length : Int) + 1) (by omega) (by omega), fw_i64 (n := ((c0 + sumL (ls.take i) : Nat) : Int) + _) (by omega) (by omega), fw_i64 (by omega) (by omega)]
      have := ih (i + 1) (by omega) (by omega)
      rw [← this]
      congr 3
      · congr 1
        omega
    · rw [if_neg (by omega)]
      rw [show i = k by omega]
theorem notePlaced_vm (n : Nat) (hn : 1000 ≤ n) {H : VH} (hH : H.Ok) (a : Option (Nat × Nat)) (l : Nat) (c : Option Nat) (e : Nat) (hN : Nums H H.next a l) :
    ∃ H', vcall T ext promo n 3 [.slice a l c e] H = some (.bool true, H') := by
  obtain ⟨n, rfl⟩ : ∃ m, n = m + 1 := ⟨n - 1, by omega⟩
  obtain ⟨o2, s2⟩ := start hH c e hN
  generalize hH2 : H.lo.fresh [.slice a l c e, .int .i64 0] = H2 at o2 s2
  obtain ⟨N, H4, e4, N1, N2, d4⟩ := range_ok n (by omega) o2 s2 (by omega) 0 60 (by omega) (by omega) (by omega)
  obtain ⟨N, rfl⟩ : ∃ N' : Nat, N = (N' : Int) := ⟨N.toNat, by omega⟩
  obtain ⟨t, H5, e5, t5, o5, s5⟩ := text_gen n (by omega) (H1 := H.lo) N (by omega) n 0 [] H4 (by omega) (by omega) rfl d4.ok d4.st
  have hct : t.count 10 ≤ t.length := List.count_le_length ..
  obtain ⟨H6, e6, p6, o6, k6⟩ := split1_ok n t (by omega) (by omega) 10 o5
  have s6 : StB H6 H.lo.next (1 + N) := s5.keep o5 k6 fun _ _ h => h
  obtain ⟨q, H7, e7, q1, q2, d7⟩ := range_ok n (by omega) o6 s6 (by omega) 0 (t.length : Int) (by omega) (by omega) (by omega)
  obtain ⟨q, rfl⟩ : ∃ q' : Nat, q = (q' : Int) := ⟨q.toNat, by omega⟩
  have hb := s5.lt o5
  have p7 := p6.keep o6 d7.keep (by omega)
  have hq : q ≤ t.length := by omega
  obtain ⟨x, h1, h2, h3, h4⟩ := place_law 10 t q hq
  have hlen := splits_len 10 t
  have hcq : (t.take q).count 10 < (splits 10 t).length := (List.getElem?_eq_some_iff.1 h1).1
  have hr := lastL_range 10 (t.take q)
  have e8 := place_ok n t (by omega) (by omega) q hq H7
  have hsum := sumL_splits 10 t
  have hcell : ∀ (i : Nat) x, (splits 10 t)[i]? = some x → H7.cell H5.next (0 + i * 1) = some (.str (PS.of x)) := fun i x hx => by
    rw [p7.cell, Nat.zero_add, Nat.mul_one, strCells, List.getElem?_map, hx]
    rfl
  have hx := hcell _ _ h1
  have hxl : x.length ≤ 60 := by
    have := sumL_step _ _ _ h1
    have := sumL_le (splits 10 t) ((t.take q).count 10 + 1)
    omega
  have lp := sum_loop n (splits 10 t) H5.next (t.count 10 + 1) (by omega) hcell ((t.take q).count 10) (by omega) (((q : Int) - lastL 10 (t.take q)).toNat - 1) (by omega) n 0 (by omega) (by omega)
  refine ⟨_, ok3 _ _ _ _ _ _ (r := (.bool true, leave H H7 (.bool true))) ?_⟩
  unfold F3
  simp only [letH_mk, lo_next]
  rw [lo_next] at e7
  rw [hH2, e4]
  simp only [letH_mk, bindC_mk, bindV_mk, bindH_mk, bindJ_mk, asB_mk, asI_mk, asS_mk, asP_mk, asSl_mk, asA_mk, asTu_mk, asSome_mk, unc_mk, endL_mk, selC_eq, condT_eq, letN_mk, letB_mk, case_nn, case_nr, case_ne, case_rn, case_rr, case_re, case_en, case_er, case_ee, decide_eq_true_eq, Bool.not_true, Bool.not_false, Bool.false_eq_true, if_false, if_true, Bool.not_eq_true', decide_eq_false_iff_not, ilt_eq, ile_eq, reduceCtorEq, not_false_eq_true, not_true_eq_false]
  rw [show (.int .i64 0 : AV) = .int .i64 ((0 : Nat) : Int) from rfl, e5]
  simp only [letH_mk, bindC_mk, bindV_mk, bindH_mk, bindJ_mk, asB_mk, asI_mk, asS_mk, asP_mk, asSl_mk, asA_mk, asTu_mk, asSome_mk, unc_mk, endL_mk, selC_eq, condT_eq, letN_mk, letB_mk, case_nn, case_nr, case_ne, case_rn, case_rr, case_re, case_en, case_er, case_ee, decide_eq_true_eq, Bool.not_true, Bool.not_false, Bool.false_eq_true, if_false, if_true, Bool.not_eq_true', decide_eq_false_iff_not, ilt_eq, ile_eq, reduceCtorEq, not_false_eq_true, not_true_eq_false]
  rw [e6]
  simp only [letH_mk, bindC_mk, bindV_mk, bindH_mk, bindJ_mk, asB_mk, asI_mk, asS_mk, asP_mk, asSl_mk, asA_mk, asTu_mk, asSome_mk, unc_mk, endL_mk, selC_eq, condT_eq, letN_mk, letB_mk, case_nn, case_nr, case_ne, case_rn, case_rr, case_re, case_en, case_er, case_ee, decide_eq_true_eq, Bool.not_true, Bool.not_false, Bool.false_eq_true, if_false, if_true, Bool.not_eq_true', decide_eq_false_iff_not, ilt_eq, ile_eq, reduceCtorEq, not_false_eq_true, not_true_eq_false, of_len]
  rw [show (((0 : Nat) : Int)) = 0 from rfl, e7]
  simp only [letH_mk, bindC_mk, bindV_mk, bindH_mk, bindJ_mk, asB_mk, asI_mk, asS_mk, asP_mk, asSl_mk, asA_mk, asTu_mk, asSome_mk, unc_mk, endL_mk, selC_eq, condT_eq, letN_mk, letB_mk, case_nn, case_nr, case_ne, case_rn, case_rr, case_re, case_en, case_er, case_ee, decide_eq_true_eq, Bool.not_true, Bool.not_false, Bool.false_eq_true, if_false, if_true, Bool.not_eq_true', decide_eq_false_iff_not, ilt_eq, ile_eq, reduceCtorEq, not_false_eq_true, not_true_eq_false]
  rw [e8]
  simp only [letH_mk, bindC_mk, bindV_mk, bindH_mk, bindJ_mk, asB_mk, asI_mk, asS_mk, asP_mk, asSl_mk, asA_mk, asTu_mk, asSome_mk, unc_mk, endL_mk, selC_eq, condT_eq, letN_mk, letB_mk, case_nn, case_nr, case_ne, case_rn, case_rr, case_re, case_en, case_er, case_ee, decide_eq_true_eq, Bool.not_true, Bool.not_false, Bool.false_eq_true, if_false, if_true, Bool.not_eq_true', decide_eq_false_iff_not, ilt_eq, ile_eq, reduceCtorEq, not_false_eq_true, not_true_eq_false]
  rw [placed_ok n (by omega)]
  simp only [letH_mk, bindC_mk, bindV_mk, bindH_mk, bindJ_mk, asB_mk, asI_mk, asS_mk, asP_mk, asSl_mk, asA_mk, asTu_mk, asSome_mk, unc_mk, endL_mk, selC_eq, condT_eq, letN_mk, letB_mk, case_nn, case_nr, case_ne, case_rn, case_rr, case_re, case_en, case_er, case_ee, decide_eq_true_eq, Bool.not_true, Bool.not_false, Bool.false_eq_true, if_false, if_true, Bool.not_eq_true', decide_eq_false_iff_not, ilt_eq, ile_eq, reduceCtorEq, not_false_eq_true, not_true_eq_false, Bool.and_eq_true]
  rw [if_neg (by omega), if_neg (by omega), if_neg (by omega), fw_i64 (by omega) (by omega)]
  rw [show (((t.take q).count 10 : Nat) : Int) + 1 - 1 = (((t.take q).count 10 : Nat) : Int) by omega]
  rw [if_pos (by omega)]
  have hf : fwrap .i64 (((PS.of x).len : Int) + 1) = (x.length : Int) + 1 := fw_i64 (by rw [of_len]; omega) (by rw [of_len]; omega)
  simp only [Int.toNat_natCast, hx, letH_mk, bindC_mk, bindV_mk, bindH_mk, bindJ_mk, asB_mk, asI_mk, asS_mk, asP_mk, asSl_mk, asA_mk, asTu_mk, asSome_mk, unc_mk, endL_mk, selC_eq, condT_eq, letN_mk, letB_mk, case_nn, case_nr, case_ne, case_rn, case_rr, case_re, case_en, case_er, case_ee, decide_eq_true_eq, Bool.not_true, Bool.not_false, Bool.false_eq_true, if_false, if_true, Bool.not_eq_true', decide_eq_false_iff_not, ilt_eq, ile_eq, reduceCtorEq, not_false_eq_true, not_true_eq_false, hf]
  rw [if_neg (by omega), fw_i64 (by omega) (by omega)]
  rw [slRowT _ _ _ _ _ _ (by omega)]
  simp only [letH_mk, bindC_mk, bindV_mk, bindH_mk, bindJ_mk, asB_mk, asI_mk, asS_mk, asP_mk, asSl_mk, asA_mk, asTu_mk, asSome_mk, unc_mk, endL_mk, selC_eq, condT_eq, letN_mk, letB_mk, case_nn, case_nr, case_ne, case_rn, case_rr, case_re, case_en, case_er, case_ee, decide_eq_true_eq, Bool.not_true, Bool.not_false, Bool.false_eq_true, if_false, if_true, Bool.not_eq_true', decide_eq_false_iff_not, ilt_eq, ile_eq, reduceCtorEq, not_false_eq_true, not_true_eq_false]
  rw [show (q : Int) - lastL 10 (t.take q) - 1 = (((((q : Int) - lastL 10 (t.take q)).toNat - 1 : Nat)) : Int) by omega]
  rw [show (splits 10 t).take 0 = [] from rfl] at lp
  rw [show (.int .i64 0 : AV) = .int .i64 ((0 : Nat) : Int) from rfl]
  simp only [sumL, Nat.add_zero] at lp
  rw [lp]
  simp only [letH_mk, bindC_mk, bindV_mk, bindH_mk, bindJ_mk, asB_mk, asI_mk, asS_mk, asP_mk, asSl_mk, asA_mk, asTu_mk, asSome_mk, unc_mk, endL_mk, selC_eq, condT_eq, letN_mk, letB_mk, case_nn, case_nr, case_ne, case_rn, case_rr, case_re, case_en, case_er, case_ee, decide_eq_true_eq, Bool.not_true, Bool.not_false, Bool.false_eq_true, if_false, if_true, Bool.not_eq_true', decide_eq_false_iff_not, ilt_eq, ile_eq, reduceCtorEq, not_false_eq_true, not_true_eq_false, ieq_dec]
  rw [decide_eq_true (by omega)]
end Go.Vm.Tryd
