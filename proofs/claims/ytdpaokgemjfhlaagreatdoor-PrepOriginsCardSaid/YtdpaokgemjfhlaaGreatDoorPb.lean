/- The preprocessor: the pieces of a line. -/
import Derived.Test.YtdpaokgemjfhlaaGreatDoorPa
namespace Go.Vm.Tryz
set_option linter.unusedSectionVars false
set_option linter.unusedSimpArgs false
set_option linter.unusedVariables false
set_option maxRecDepth 10000
theorem sIndexByte_ok (n : Nat) (hn : 4 ≤ n) (l : List UInt8) (c : UInt8) (H : VH) : vcall T ext promo n 119 [.str (PS.of l), .int .u8 (c.toNat : Int)] H = some (.int .i64 (Lib.indexByte l c), H) := by
  obtain ⟨n, rfl⟩ : ∃ m, n = m + 1 := ⟨n - 1, by omega⟩
  apply ok119
  unfold F119
  simp only [letH_mk]
  rw [indexByte_ok n (by omega)]
  simp only [KA, KB, KD, reduceCtorEq, if_false, if_true]
  rw [leave_flat rfl rfl]
theorem quotable_ok (n : Nat) (hn : 10 ≤ n) (c : UInt8) (H : VH) : ∃ b, vcall T ext promo n 148 [.int .u8 (c.toNat : Int)] H = some (.bool b, H) := by
  obtain ⟨n, rfl⟩ : ∃ m, n = m + 1 := ⟨n - 1, by omega⟩
  by_cases h1 : 32 < (c.toNat : Int)
  · by_cases h2 : (c.toNat : Int) ≤ 126
    · refine ⟨ilt (Lib.indexByte [46, 91, 93, 96, 34, 92] c) 0, ok148 _ _ _ ?_⟩
      unfold F148
      simp only [letH_mk, selC_eq, ilt_eq, ile_eq, decide_eq_true_eq]
      rw [if_pos h1, if_pos h2, sIndexByte_ok n (by omega)]
      simp only [KA, KB, KD, reduceCtorEq, if_false, if_true]
      rw [leave_flat rfl rfl]
    · refine ⟨false, ok148 _ _ _ ?_⟩
      unfold F148
      simp only [letH_mk, selC_eq, ilt_eq, ile_eq, decide_eq_true_eq]
      rw [if_pos h1, if_neg h2, leave_flat rfl rfl]
  · refine ⟨false, ok148 _ _ _ ?_⟩
    unfold F148
    simp only [letH_mk, selC_eq, ilt_eq, ile_eq, decide_eq_true_eq]
    rw [if_neg h1, leave_flat rfl rfl]
theorem quoted1_ok (n : Nat) (hn : 20 ≤ n) (c : UInt8) (H : VH) : ∃ b, vcall T ext promo n 125 [.str (PS.of [c])] H = some (.bool b, H) := by
  obtain ⟨n, rfl⟩ : ∃ m, n = m + 3 := ⟨n - 3, by omega⟩
  obtain ⟨b, hb⟩ := quotable_ok (n + 2) (by omega) c H.lo
  refine ⟨b, ok125 _ _ _ ?_⟩
  unfold F125
  simp only [KA, KB, KD, reduceCtorEq, if_false, if_true, of_len, List.length_singleton]
  rw [if_neg (by omega)]
  simp only [KA, KB, KD, reduceCtorEq, if_false, if_true]
  rw [if_neg (by omega), loopN_succ]
  unfold L125_0
  simp only [KA, KB, KD, reduceCtorEq, if_false, if_true, of_len, List.length_singleton, Bool.and_eq_true]
  rw [if_pos (by omega), if_pos (by omega)]
  simp only [KA, KB, KD, reduceCtorEq, if_false, if_true, Int.toNat_zero, one_byte, hb]
  cases b with
  | false =>
    simp only [KA, KB, KD, reduceCtorEq, if_false, if_true]
    rw [leave_flat rfl rfl]
  | true =>
    simp only [KA, KB, KD, reduceCtorEq, if_false, if_true]
    rw [loopN_succ]
    simp only [KA, KB, KD, reduceCtorEq, if_false, if_true, of_len, List.length_singleton, Bool.and_eq_true]
    rw [show fwrap .i64 (0 + 1) = 1 from rfl]
    rw [if_neg (by omega)]
    simp only [KA, KB, KD, reduceCtorEq, if_false, if_true]
    rw [leave_flat rfl rfl]
theorem piece_str (n : Nat) (l : List UInt8) (hl : l.length < 100000) (H : VH) : ∀ (m i : Nat), i ≤ l.length + 1 → l.length + 2 - i < m →
    loopN (L92_0 (vcall T ext promo n) n (PS.of l)) m [.int .i64 (i : Int)] H = some (.exit 1, [], H) ∨ ∃ e : Nat, i < e ∧ e ≤ l.length ∧ loopN (L92_0 (vcall T ext promo n) n (PS.of l)) m [.int .i64 (i : Int)] H = some (.ret, [.int .i64 (e : Int)], H) := by
  intro m
  induction m with
  | zero => intro i _ h; omega
  | succ m ih =>
    intro i hi hm
    rw [loopN_succ]
    generalize hlp : loopN (L92_0 (vcall T ext promo n) n (PS.of l)) m = lp at ih ⊢
    unfold L92_0
    simp only [KA, KB, KD, reduceCtorEq, if_false, if_true, of_len, Bool.and_eq_true, ieq_dec]
    by_cases h : i < l.length
    · rw [if_pos (by omega), if_pos (by omega), byte_int l i h]
      by_cases h1 : (l[i].toNat : Int) = 92
      · simp only [h1, KA, KB, KD, reduceCtorEq, if_false, if_true, decide_true]
        have e1 : fwrap .i64 ((i : Int) + 1) = ((i + 1 : Nat) : Int) := by rw [fw_i64 (by omega) (by omega)]; omega
        have e2 : fwrap .i64 (((i + 1 : Nat) : Int) + 1) = ((i + 2 : Nat) : Int) := by rw [fw_i64 (by omega) (by omega)]; omega
        rw [e1, e2]
        by_cases h2 : i + 2 ≤ l.length + 1
        · rcases ih (i + 2) h2 (by omega) with e | ⟨e, e1, e2, e3⟩
          · exact .inl e
          · exact .inr ⟨e, by omega, e2, e3⟩
        · omega
      · rw [if_neg h1]
        by_cases h2 : (l[i].toNat : Int) = 34
        · rw [if_pos h2, fw_i64 (by omega) (by omega), show (i : Int) + 1 = ((i + 1 : Nat) : Int) by omega]
          simp only [KA, KB, KD, reduceCtorEq, if_false, if_true]
          exact .inr ⟨i + 1, by omega, by omega, rfl⟩
        · rw [if_neg h2]
          simp only [KA, KB, KD, reduceCtorEq, if_false, if_true]
          rw [fw_i64 (by omega) (by omega), show (i : Int) + 1 = ((i + 1 : Nat) : Int) by omega]
          rcases ih (i + 1) (by omega) (by omega) with e | ⟨e, e1, e2, e3⟩
          · exact .inl e
          · exact .inr ⟨e, by omega, e2, e3⟩
    · rw [if_neg (by omega)]
      exact .inl rfl
theorem piece_quo (n : Nat) (hn : 30 ≤ n) (l : List UInt8) (hl : l.length < 100000) (H : VH) : ∀ (m i : Nat), i ≤ l.length → l.length - i < m →
    ∃ e : Nat, i ≤ e ∧ e ≤ l.length ∧ loopN (L92_1 (vcall T ext promo n) n (PS.of l)) m [.int .i64 (i : Int)] H = some (.exit 4, [.int .i64 (e : Int)], H) := by
  intro m
  induction m with
  | zero => intro i _ h; omega
  | succ m ih =>
    intro i hi hm
    rw [loopN_succ]
    generalize hlp : loopN (L92_1 (vcall T ext promo n) n (PS.of l)) m = lp at ih ⊢
    unfold L92_1
    simp only [KA, KB, KD, reduceCtorEq, if_false, if_true, of_len, Bool.and_eq_true]
    by_cases h : i < l.length
    · rw [if_pos (by omega), fw_i64 (by omega) (by omega), show (i : Int) + 1 = ((i + 1 : Nat) : Int) by omega, slStr _ _ _ _ (by omega) (by omega)]
      have ht : (l.drop i).take (i + 1 - i) = [l[i]] := by
        rw [show i + 1 - i = 1 by omega, List.drop_eq_getElem_cons h]
        rfl
      rw [ht]
      obtain ⟨b, hb⟩ := quoted1_ok n (by omega) l[i] H
      simp only [KA, KB, KD, reduceCtorEq, if_false, if_true, hb]
      cases b with
      | true =>
        simp only [KA, KB, KD, reduceCtorEq, if_false, if_true]
        obtain ⟨e, e1, e2, e3⟩ := ih (i + 1) (by omega) (by omega)
        exact ⟨e, by omega, e2, e3⟩
      | false =>
        simp only [KA, KB, KD, reduceCtorEq, if_false, if_true]
        exact ⟨i, Nat.le_refl _, hi, rfl⟩
    · rw [if_neg (by omega)]
      simp only [KA, KB, KD, reduceCtorEq, if_false, if_true]
      exact ⟨i, Nat.le_refl _, hi, rfl⟩
theorem piece_ok (n : Nat) (l : List UInt8) (hn : l.length + 60 ≤ n) (hl : l.length < 100000) (i : Nat) (hi : i < l.length) (H : VH) : ∃ e : Nat, i < e ∧ e ≤ l.length ∧ vcall T ext promo n 92 [.str (PS.of l), .int .i64 (i : Int)] H = some (.int .i64 (e : Int), H) := by
  obtain ⟨n, rfl⟩ : ∃ m, n = m + 1 := ⟨n - 1, by omega⟩
  have key : ∀ e : Nat, i < e ∧ e ≤ l.length ∧ F92 (vcall T ext promo n) n (PS.of l) (i : Int) H = some (.int .i64 (e : Int), H) → ∃ e : Nat, i < e ∧ e ≤ l.length ∧ vcall T ext promo (n + 1) 92 [.str (PS.of l), .int .i64 (i : Int)] H = some (.int .i64 (e : Int), H) :=
    fun e ⟨h1, h2, h3⟩ => ⟨e, h1, h2, ok92 _ _ _ _ h3⟩
  have hb : (0 ≤ (i : Int)) ∧ (i : Int) < ((l.length : Nat) : Int) := ⟨by omega, by omega⟩
  by_cases h1 : (l[i].toNat : Int) = 34
  · rcases piece_str n l hl H.lo n (i + 1) (by omega) (by omega) with e | ⟨e, e1, e2, e3⟩
    · refine key l.length ⟨hi, Nat.le_refl _, ?_⟩
      unfold F92
      simp only [KA, KB, KD, reduceCtorEq, if_false, if_true, of_len, Bool.and_eq_true, ieq_dec]
      rw [if_pos hb, byte_int l i hi, if_pos h1, fw_i64 (by omega) (by omega), show (i : Int) + 1 = ((i + 1 : Nat) : Int) by omega, e]
      simp only [KA, KB, KD, reduceCtorEq, if_false, if_true]
      rw [leave_flat rfl rfl]
    · refine key e ⟨by omega, e2, ?_⟩
      unfold F92
      simp only [KA, KB, KD, reduceCtorEq, if_false, if_true, of_len, Bool.and_eq_true, ieq_dec]
      rw [if_pos hb, byte_int l i hi, if_pos h1, fw_i64 (by omega) (by omega), show (i : Int) + 1 = ((i + 1 : Nat) : Int) by omega, e3]
      simp only [KA, KB, KD, reduceCtorEq, if_false, if_true]
      rw [leave_flat rfl rfl]
  · by_cases h2 : (l[i].toNat : Int) = 92
    · obtain ⟨e, e1, e2, e3⟩ := piece_quo n (by omega) l hl H.lo n (i + 1) (by omega) (by omega)
      refine key e ⟨by omega, e2, ?_⟩
      unfold F92
      simp only [KA, KB, KD, reduceCtorEq, if_false, if_true, of_len, Bool.and_eq_true, ieq_dec]
      rw [if_pos hb, byte_int l i hi, if_neg h1, if_pos hb, if_pos h2, fw_i64 (by omega) (by omega), show (i : Int) + 1 = ((i + 1 : Nat) : Int) by omega, e3]
      simp only [KA, KB, KD, reduceCtorEq, if_false, if_true]
      rw [leave_flat rfl rfl]
    · by_cases h3 : (l.drop i).take 2 = [47, 47]
      · refine key l.length ⟨hi, Nat.le_refl _, ?_⟩
        unfold F92
        simp only [KA, KB, KD, reduceCtorEq, if_false, if_true, of_len, Bool.and_eq_true, ieq_dec]
        rw [if_pos hb, byte_int l i hi, if_neg h1, if_pos hb, if_neg h2, slStrF _ _ _ (by omega)]
        simp only [KA, KB, KD, reduceCtorEq, if_false, if_true]
        rw [prefix_ok n (by omega) _ _ (by rw [List.length_drop]; omega)]
        simp only [KA, KB, KD, reduceCtorEq, if_false, if_true, List.length_cons, List.length_nil, h3, decide_true]
        rw [leave_flat rfl rfl]
      · refine key (i + 1) ⟨by omega, by omega, ?_⟩
        unfold F92
        simp only [KA, KB, KD, reduceCtorEq, if_false, if_true, of_len, Bool.and_eq_true, ieq_dec]
        rw [if_pos hb, byte_int l i hi, if_neg h1, if_pos hb, if_neg h2, slStrF _ _ _ (by omega)]
        simp only [KA, KB, KD, reduceCtorEq, if_false, if_true]
        rw [prefix_ok n (by omega) _ _ (by rw [List.length_drop]; omega)]
        simp only [KA, KB, KD, reduceCtorEq, if_false, if_true, List.length_cons, List.length_nil, h3, decide_false]
        rw [fw_i64 (by omega) (by omega), leave_flat rfl rfl, show (i : Int) + 1 = ((i + 1 : Nat) : Int) by omega]
end Go.Vm.Tryz
