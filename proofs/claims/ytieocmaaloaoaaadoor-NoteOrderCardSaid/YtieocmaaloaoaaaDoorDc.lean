/- Decimal texts of numbers below 1000. -/
import Derived.Test.YtieocmaaloaoaaaDoorSx
import Derived.Test.YtieocmaaloaoaaaDoorSb
namespace Go.Vm.Tryd
set_option linter.unusedSectionVars false
set_option linter.unusedSimpArgs false
set_option linter.unusedVariables false
set_option maxRecDepth 10000
/-- The library's table of powers of ten. -/
def Pows (H : VH) : Prop := 3 < H.next ∧ H.cell 3 (0 + 2 * 1) = some (.int .u64 100) ∧ H.cell 3 (0 + 3 * 1) = some (.int .u64 1000)
theorem Pows.keep {S : Nat → Prop} {H H' : VH} (h : Pows H) (hH : H.Ok) (k : Keep S H H') (hs : ¬ S 3) : Pows H' :=
  ⟨Nat.lt_of_lt_of_le h.1 k.next, by rw [keep_cell k hH h.1 hs]; exact h.2.1, by rw [keep_cell k hH h.1 hs]; exact h.2.2⟩
theorem Pows.lo {H : VH} (h : Pows H) : Pows H.lo := h
def len8 : List UInt8 := [0, 1, 2, 2, 3, 3, 3, 3, 4, 4, 4, 4, 4, 4, 4, 4, 5, 5, 5, 5, 5, 5, 5, 5, 5, 5, 5, 5, 5, 5, 5, 5, 6, 6, 6, 6, 6, 6, 6, 6, 6, 6, 6, 6, 6, 6, 6, 6, 6, 6, 6, 6, 6, 6, 6, 6, 6, 6, 6, 6, 6, 6, 6, 6, 7, 7, 7, 7, 7, 7, 7, 7, 7, 7, 7, 7, 7, 7, 7, 7, 7, 7, 7, 7, 7, 7, 7, 7, 7, 7, 7, 7, 7, 7, 7, 7, 7, 7, 7, 7, 7, 7, 7, 7, 7, 7, 7, 7, 7, 7, 7, 7, 7, 7, 7, 7, 7, 7, 7, 7, 7, 7, 7, 7, 7, 7, 7, 7, 8, 8, 8, 8, 8, 8, 8, 8, 8, 8, 8, 8, 8, 8, 8, 8, 8, 8, 8, 8, 8, 8, 8, 8, 8, 8, 8, 8, 8, 8, 8, 8, 8, 8, 8, 8, 8, 8, 8, 8, 8, 8, 8, 8, 8, 8, 8, 8, 8, 8, 8, 8, 8, 8, 8, 8, 8, 8, 8, 8, 8, 8, 8, 8, 8, 8, 8, 8, 8, 8, 8, 8, 8, 8, 8, 8, 8, 8, 8, 8, 8, 8, 8, 8, 8, 8, 8, 8, 8, 8, 8, 8, 8, 8, 8, 8, 8, 8, 8, 8, 8, 8, 8, 8, 8, 8, 8, 8, 8, 8, 8, 8, 8, 8, 8, 8, 8, 8, 8, 8, 8, 8, 8, 8, 8, 8, 8, 8]
theorem len8_len : len8.length = 256 := by decide +kernel
theorem len8_7 : ∀ i : Fin 256, 64 ≤ i.val → i.val < 128 → len8[i.val]? = some 7 := by decide +kernel
theorem len8_8 : ∀ i : Fin 256, 128 ≤ i.val → len8[i.val]? = some 8 := by decide +kernel
theorem len8_1 : len8[1]? = some 1 := by decide +kernel
theorem len8_2 : ∀ i : Fin 4, 2 ≤ i.val → len8[i.val]? = some 2 := by decide +kernel
theorem len8_byte (i : Nat) (h : i < 256) (v : UInt8) (hv : len8[i]? = some v) : (((PS.of len8).byte ((i : Int).toNat) : Nat) : Int) = (v.toNat : Int) := by
  have h' : i < len8.length := by rw [len8_len]; exact h
  rw [byte_int len8 i h']
  rw [List.getElem?_eq_getElem h'] at hv
  rw [Option.some.inj hv]
theorem fw_u8i (i : Nat) (h : i < 256) : fwrap .u8 (i : Int) = (i : Int) := by rw [fw_u8]; omega
/-- How many bits a number between 100 and 999 has. -/
theorem len64_ok (n : Nat) (hn : 1 ≤ n) (w : Nat) (h1 : 100 ≤ w) (h2 : w < 1000) (H : VH) : vcall T ext promo n 172 [.int .u64 (w : Int)] H = some (.int .i64 (if w < 128 then 7 else if w < 256 then 8 else if w < 512 then 9 else 10), H) := by
  obtain ⟨n, rfl⟩ : ∃ m, n = m + 1 := ⟨n - 1, by omega⟩
  have hl : (PS.of len8).len = 256 := len8_len
  apply ok172
  unfold F172
  simp only [letH_mk, bindC_mk, bindV_mk, bindL_mk, bindH_mk, bindJ_mk, asB_mk, asI_mk, asS_mk, asP_mk, asSl_mk, asA_mk, asTu_mk, asSome_mk, unc_mk, endL_mk, selC_eq, condT_eq, sel_eq, letN_mk, letB_mk, case_nn, case_nr, case_ne, case_rn, case_rr, case_re, case_en, case_er, case_ee, iand_u64, ior_u64, ixor_u64, iandn_u64, inot_u64, ieq_u64_0, ieq_u64, decide_eq_true_eq, Bool.not_true, Bool.not_false, Bool.false_eq_true, if_false, if_true, Bool.not_eq_true', decide_eq_false_iff_not, ilt_eq, ile_eq, reduceCtorEq, not_false_eq_true, not_true_eq_false]
  rw [if_neg (by omega)]
  simp only [letH_mk, bindC_mk, bindV_mk, bindL_mk, bindH_mk, bindJ_mk, asB_mk, asI_mk, asS_mk, asP_mk, asSl_mk, asA_mk, asTu_mk, asSome_mk, unc_mk, endL_mk, selC_eq, condT_eq, sel_eq, letN_mk, letB_mk, case_nn, case_nr, case_ne, case_rn, case_rr, case_re, case_en, case_er, case_ee, iand_u64, ior_u64, ixor_u64, iandn_u64, inot_u64, ieq_u64_0, ieq_u64, decide_eq_true_eq, Bool.not_true, Bool.not_false, Bool.false_eq_true, if_false, if_true, Bool.not_eq_true', decide_eq_false_iff_not, ilt_eq, ile_eq, reduceCtorEq, not_false_eq_true, not_true_eq_false]
  rw [if_neg (by omega)]
  simp only [letH_mk, bindC_mk, bindV_mk, bindL_mk, bindH_mk, bindJ_mk, asB_mk, asI_mk, asS_mk, asP_mk, asSl_mk, asA_mk, asTu_mk, asSome_mk, unc_mk, endL_mk, selC_eq, condT_eq, sel_eq, letN_mk, letB_mk, case_nn, case_nr, case_ne, case_rn, case_rr, case_re, case_en, case_er, case_ee, iand_u64, ior_u64, ixor_u64, iandn_u64, inot_u64, ieq_u64_0, ieq_u64, decide_eq_true_eq, Bool.not_true, Bool.not_false, Bool.false_eq_true, if_false, if_true, Bool.not_eq_true', decide_eq_false_iff_not, ilt_eq, ile_eq, reduceCtorEq, not_false_eq_true, not_true_eq_false]
  by_cases h : w < 256
  · have e := len8_byte w h (if w < 128 then 7 else 8) (by split <;> first | exact len8_7 ⟨w, h⟩ (by simp only; omega) (by assumption) | exact len8_8 ⟨w, h⟩ (by simp only; omega))
    unfold len8 at e hl
    dsimp only at e hl
    rw [if_neg (by omega)]
    simp only [letH_mk, bindC_mk, bindV_mk, bindL_mk, bindH_mk, bindJ_mk, asB_mk, asI_mk, asS_mk, asP_mk, asSl_mk, asA_mk, asTu_mk, asSome_mk, unc_mk, endL_mk, selC_eq, condT_eq, sel_eq, letN_mk, letB_mk, case_nn, case_nr, case_ne, case_rn, case_rr, case_re, case_en, case_er, case_ee, iand_u64, ior_u64, ixor_u64, iandn_u64, inot_u64, ieq_u64_0, ieq_u64, decide_eq_true_eq, Bool.not_true, Bool.not_false, Bool.false_eq_true, if_false, if_true, Bool.not_eq_true', decide_eq_false_iff_not, ilt_eq, ile_eq, reduceCtorEq, not_false_eq_true, not_true_eq_false, Bool.and_eq_true, fw_u8i w h]
    rw [hl, if_pos (by omega), e]
    by_cases h3 : w < 128
    · simp only [h3, if_true]
      rw [leave_flat rfl rfl]
      rfl
    · simp only [h3, h, if_true, if_false]
      rw [leave_flat rfl rfl]
      rfl
  · have hq : ishr (w : Int) 8 = ((w / 256 : Nat) : Int) := rfl
    have e := len8_byte (w / 256) (by omega) (if w < 512 then 1 else 2) (by split <;> first | (rw [show w / 256 = 1 by omega]; exact len8_1) | exact len8_2 ⟨w / 256, by omega⟩ (by simp only; omega))
    unfold len8 at e hl
    dsimp only at e hl
    rw [if_pos (by omega)]
    simp only [letH_mk, bindC_mk, bindV_mk, bindL_mk, bindH_mk, bindJ_mk, asB_mk, asI_mk, asS_mk, asP_mk, asSl_mk, asA_mk, asTu_mk, asSome_mk, unc_mk, endL_mk, selC_eq, condT_eq, sel_eq, letN_mk, letB_mk, case_nn, case_nr, case_ne, case_rn, case_rr, case_re, case_en, case_er, case_ee, iand_u64, ior_u64, ixor_u64, iandn_u64, inot_u64, ieq_u64_0, ieq_u64, decide_eq_true_eq, Bool.not_true, Bool.not_false, Bool.false_eq_true, if_false, if_true, Bool.not_eq_true', decide_eq_false_iff_not, ilt_eq, ile_eq, reduceCtorEq, not_false_eq_true, not_true_eq_false, Bool.and_eq_true, hq, fw_u8i (w / 256) (by omega)]
    rw [hl, if_pos (by omega), e]
    have n1 : ¬ w < 128 := by omega
    by_cases h3 : w < 512
    · simp only [h3, h, n1, if_true, if_false]
      rw [leave_flat rfl rfl]
      rfl
    · simp only [h3, h, n1, if_true, if_false]
      rw [leave_flat rfl rfl]
      rfl
theorem log10_ok (n : Nat) (hn : 1 ≤ n) (x : Int) (H : VH) (h0 : 0 ≤ x) (h1 : x < 100) : vcall T ext promo n 198 [.int .i64 x] H = some (.int .i64 (ishr (x * 78913) 18), H) := by
  obtain ⟨n, rfl⟩ : ∃ m, n = m + 1 := ⟨n - 1, by omega⟩
  apply ok198
  unfold F198
  simp only [letH_mk, bindC_mk, bindV_mk, bindL_mk, bindH_mk, bindJ_mk, asB_mk, asI_mk, asS_mk, asP_mk, asSl_mk, asA_mk, asTu_mk, asSome_mk, unc_mk, endL_mk, selC_eq, condT_eq, sel_eq, letN_mk, letB_mk, case_nn, case_nr, case_ne, case_rn, case_rr, case_re, case_en, case_er, case_ee, iand_u64, ior_u64, ixor_u64, iandn_u64, inot_u64, ieq_u64_0, ieq_u64, decide_eq_true_eq, Bool.not_true, Bool.not_false, Bool.false_eq_true, if_false, if_true, Bool.not_eq_true', decide_eq_false_iff_not, ilt_eq, ile_eq, reduceCtorEq, not_false_eq_true, not_true_eq_false]
  rw [fw_i64 (by omega) (by omega), leave_flat rfl rfl]
theorem bool2_ok (n : Nat) (hn : 1 ≤ n) (b : Bool) (H : VH) : vcall T ext promo n 199 [.bool b] H = some (.int .i64 (if b then 1 else 0), H) := by
  obtain ⟨n, rfl⟩ : ∃ m, n = m + 1 := ⟨n - 1, by omega⟩
  apply ok199
  unfold F199
  cases b <;> simp only [letH_mk, bindC_mk, bindV_mk, bindL_mk, bindH_mk, bindJ_mk, asB_mk, asI_mk, asS_mk, asP_mk, asSl_mk, asA_mk, asTu_mk, asSome_mk, unc_mk, endL_mk, selC_eq, condT_eq, sel_eq, letN_mk, letB_mk, case_nn, case_nr, case_ne, case_rn, case_rr, case_re, case_en, case_er, case_ee, iand_u64, ior_u64, ixor_u64, iandn_u64, inot_u64, ieq_u64_0, ieq_u64, decide_eq_true_eq, Bool.not_true, Bool.not_false, Bool.false_eq_true, if_false, if_true, Bool.not_eq_true', decide_eq_false_iff_not, ilt_eq, ile_eq, reduceCtorEq, not_false_eq_true, not_true_eq_false] <;> rw [leave_flat rfl rfl] <;> rfl
theorem numDigits_ok (n : Nat) (hn : 5 ≤ n) (w : Nat) (h1 : 100 ≤ w) (h2 : w < 1000) {H : VH} (hp : Pows H) : vcall T ext promo n 180 [.int .u64 (w : Int)] H = some (.int .i64 3, H) := by
  obtain ⟨n, rfl⟩ : ∃ m, n = m + 1 := ⟨n - 1, by omega⟩
  have p2 : H.lo.cell 3 (0 + (2 : Int).toNat * 1) = some (.int .u64 100) := hp.2.1
  have p3 : H.lo.cell 3 (0 + (3 : Int).toNat * 1) = some (.int .u64 1000) := hp.2.2
  apply ok180
  unfold F180
  simp only [letH_mk]
  rw [len64_ok n (by omega) w h1 h2]
  simp only [letH_mk, bindC_mk, bindV_mk, bindL_mk, bindH_mk, bindJ_mk, asB_mk, asI_mk, asS_mk, asP_mk, asSl_mk, asA_mk, asTu_mk, asSome_mk, unc_mk, endL_mk, selC_eq, condT_eq, sel_eq, letN_mk, letB_mk, case_nn, case_nr, case_ne, case_rn, case_rr, case_re, case_en, case_er, case_ee, iand_u64, ior_u64, ixor_u64, iandn_u64, inot_u64, ieq_u64_0, ieq_u64, decide_eq_true_eq, Bool.not_true, Bool.not_false, Bool.false_eq_true, if_false, if_true, Bool.not_eq_true', decide_eq_false_iff_not, ilt_eq, ile_eq, reduceCtorEq, not_false_eq_true, not_true_eq_false]
  rw [log10_ok n (by omega) _ _ (by split <;> (try split) <;> (try split) <;> decide) (by split <;> (try split) <;> (try split) <;> decide)]
  simp only [letH_mk, bindC_mk, bindV_mk, bindL_mk, bindH_mk, bindJ_mk, asB_mk, asI_mk, asS_mk, asP_mk, asSl_mk, asA_mk, asTu_mk, asSome_mk, unc_mk, endL_mk, selC_eq, condT_eq, sel_eq, letN_mk, letB_mk, case_nn, case_nr, case_ne, case_rn, case_rr, case_re, case_en, case_er, case_ee, iand_u64, ior_u64, ixor_u64, iandn_u64, inot_u64, ieq_u64_0, ieq_u64, decide_eq_true_eq, Bool.not_true, Bool.not_false, Bool.false_eq_true, if_false, if_true, Bool.not_eq_true', decide_eq_false_iff_not, ilt_eq, ile_eq, reduceCtorEq, not_false_eq_true, not_true_eq_false]
  by_cases h : w < 512
  · have e : ishr ((if w < 128 then 7 else if w < 256 then 8 else if w < 512 then 9 else 10) * 78913) 18 = 2 := by
      rw [if_pos h]
      split
      · decide
      · split <;> decide
    rw [e, if_pos (by decide), p2]
    simp only [letH_mk, bindC_mk, bindV_mk, bindL_mk, bindH_mk, bindJ_mk, asB_mk, asI_mk, asS_mk, asP_mk, asSl_mk, asA_mk, asTu_mk, asSome_mk, unc_mk, endL_mk, selC_eq, condT_eq, sel_eq, letN_mk, letB_mk, case_nn, case_nr, case_ne, case_rn, case_rr, case_re, case_en, case_er, case_ee, iand_u64, ior_u64, ixor_u64, iandn_u64, inot_u64, ieq_u64_0, ieq_u64, decide_eq_true_eq, Bool.not_true, Bool.not_false, Bool.false_eq_true, if_false, if_true, Bool.not_eq_true', decide_eq_false_iff_not, ilt_eq, ile_eq, reduceCtorEq, not_false_eq_true, not_true_eq_false]
    rw [bool2_ok n (by omega)]
    simp only [letH_mk, bindC_mk, bindV_mk, bindL_mk, bindH_mk, bindJ_mk, asB_mk, asI_mk, asS_mk, asP_mk, asSl_mk, asA_mk, asTu_mk, asSome_mk, unc_mk, endL_mk, selC_eq, condT_eq, sel_eq, letN_mk, letB_mk, case_nn, case_nr, case_ne, case_rn, case_rr, case_re, case_en, case_er, case_ee, iand_u64, ior_u64, ixor_u64, iandn_u64, inot_u64, ieq_u64_0, ieq_u64, decide_eq_true_eq, Bool.not_true, Bool.not_false, Bool.false_eq_true, if_false, if_true, Bool.not_eq_true', decide_eq_false_iff_not, ilt_eq, ile_eq, reduceCtorEq, not_false_eq_true, not_true_eq_false]
    rw [if_pos (by omega), leave_flat rfl rfl]
    rfl
  · have e : ishr ((if w < 128 then 7 else if w < 256 then 8 else if w < 512 then 9 else 10) * 78913) 18 = 3 := by
      rw [if_neg (by omega), if_neg (by omega), if_neg h]
      decide
    rw [e, if_pos (by decide), p3]
    simp only [letH_mk, bindC_mk, bindV_mk, bindL_mk, bindH_mk, bindJ_mk, asB_mk, asI_mk, asS_mk, asP_mk, asSl_mk, asA_mk, asTu_mk, asSome_mk, unc_mk, endL_mk, selC_eq, condT_eq, sel_eq, letN_mk, letB_mk, case_nn, case_nr, case_ne, case_rn, case_rr, case_re, case_en, case_er, case_ee, iand_u64, ior_u64, ixor_u64, iandn_u64, inot_u64, ieq_u64_0, ieq_u64, decide_eq_true_eq, Bool.not_true, Bool.not_false, Bool.false_eq_true, if_false, if_true, Bool.not_eq_true', decide_eq_false_iff_not, ilt_eq, ile_eq, reduceCtorEq, not_false_eq_true, not_true_eq_false]
    rw [bool2_ok n (by omega)]
    simp only [letH_mk, bindC_mk, bindV_mk, bindL_mk, bindH_mk, bindJ_mk, asB_mk, asI_mk, asS_mk, asP_mk, asSl_mk, asA_mk, asTu_mk, asSome_mk, unc_mk, endL_mk, selC_eq, condT_eq, sel_eq, letN_mk, letB_mk, case_nn, case_nr, case_ne, case_rn, case_rr, case_re, case_en, case_er, case_ee, iand_u64, ior_u64, ixor_u64, iandn_u64, inot_u64, ieq_u64_0, ieq_u64, decide_eq_true_eq, Bool.not_true, Bool.not_false, Bool.false_eq_true, if_false, if_true, Bool.not_eq_true', decide_eq_false_iff_not, ilt_eq, ile_eq, reduceCtorEq, not_false_eq_true, not_true_eq_false]
    rw [if_neg (by omega), leave_flat rfl rfl]
    rfl
theorem smalls_byte : ∀ i : Fin 200, smalls[i.val]? = some (if i.val % 2 = 0 then UInt8.ofNat (48 + i.val / 2 / 10) else UInt8.ofNat (48 + i.val / 2 % 10)) := by decide +kernel
theorem small_byte (i : Nat) (h : i < 200) : (((PS.of smalls).byte ((i : Int).toNat) : Nat) : Int) = (if i % 2 = 0 then ((48 + i / 2 / 10 : Nat) : Int) else ((48 + i / 2 % 10 : Nat) : Int)) := by
  have h' : i < smalls.length := by rw [smalls_len]; exact h
  have := smalls_byte ⟨i, h⟩
  rw [byte_int smalls i h']
  rw [List.getElem?_eq_getElem h'] at this
  have e := Option.some.inj this
  simp only at e
  rw [e]
  split
  · rw [UInt8.toNat_ofNat']; omega
  · rw [UInt8.toNat_ofNat']; omega
theorem fw_u32i (i : Nat) (h : i < 4294967296) : fwrap .u32 (i : Int) = (i : Int) := by
  rw [fwrap_eq]
  simp [IntKind.wrap, IntKind.bits, IntKind.signed]
  omega
/-- Three digits. -/
def digs3 (w : Nat) : List UInt8 := [UInt8.ofNat (48 + w / 100), UInt8.ofNat (48 + w / 10 % 10), UInt8.ofNat (48 + w % 10)]
theorem puts_low {H H1 : VH} {p o : Nat} {v : AV} (h : H.puts p o [v] = some H1) : H1.low ≤ p := puts1_low h
theorem format3_ok (n : Nat) (hn : 5 ≤ n) (w : Nat) (h1 : 100 ≤ w) (h2 : w < 1000) {H : VH} (hH : H.Ok) {p : Nat} {cs : List AV} (hp : Plain H p cs) (hcs : cs.length = 24) (c : Option Nat) :
    ∃ H', vcall T ext promo n 181 [.slice (some (p, 1)) 3 c 1, .int .u64 (w : Int)] H = some (.tuple [], H') ∧ Plain H' p (((cs.set 3 (.int .u8 ((48 + w % 10 : Nat) : Int))).set 2 (.int .u8 ((48 + w / 10 % 10 : Nat) : Int))).set 1 (.int .u8 ((48 + w / 100 : Nat) : Int))) ∧ Keep (· = p) H H' ∧ H'.Ok ∧ H'.low = min H.low p := by
  obtain ⟨n, rfl⟩ : ∃ m, n = m + 1 := ⟨n - 1, by omega⟩
  have hpl := hp.lt hH
  have hl : (PS.of smalls).len = 200 := smalls_len
  obtain ⟨H1, e1, p1, k1, o1, l1, n1⟩ := hp.lo.puts1 (lo_ok hH) 3 (by omega) (.int .u8 ((48 + w % 10 : Nat) : Int)) rfl
  obtain ⟨H2, e2, p2, k2, o2, l2, n2⟩ := p1.puts1 o1 2 (by simp; omega) (.int .u8 ((48 + w / 10 % 10 : Nat) : Int)) rfl
  obtain ⟨H3, e3, p3, k3, o3, l3, n3⟩ := p2.puts1 o2 1 (by simp; omega) (.int .u8 ((48 + w / 100 : Nat) : Int)) rfl
  have hlow : H3.low < H.next := by rw [l3]; omega
  have b1 := small_byte (w % 100 * 2 + 1) (by omega)
  have b2 := small_byte (w % 100 * 2) (by omega)
  rw [if_neg (by omega)] at b1
  rw [if_pos (by omega)] at b2
  rw [show (w % 100 * 2 + 1) / 2 % 10 = w % 10 by omega] at b1
  rw [show w % 100 * 2 / 2 / 10 = w / 10 % 10 by omega] at b2
  have lp : loopN (L181_0 (vcall T ext promo n) n (some (p, 1)) 3) n [.int .u64 (w : Int), .int .i64 ((3 : Nat) : Int)] H.lo = some (.exit 0, [.int .u64 (w : Int), .int .i64 ((3 : Nat) : Int)], H.lo) := by
    obtain ⟨m, rfl⟩ : ∃ m, n = m + 1 := ⟨n - 1, by omega⟩
    rw [loopN_succ]
    generalize loopN (L181_0 (vcall T ext promo (m + 1)) (m + 1) (some (p, 1)) 3) m = lp
    unfold L181_0
    simp only [unc_mk, asI_mk, endL_mk, selC_eq, ile_eq]
    rw [if_neg (by decide)]
  refine ⟨leave H H3 (.tuple []), ok181 _ _ _ _ _ _ _ ?_, ?_⟩
  · unfold F181
    simp only [letH_mk]
    rw [lp]
    simp only [bindJ_mk, case_ee, unc_mk, asI_mk, endL_mk, selC_eq, ile_eq]
    rw [if_neg (by decide), fw_u32i w (by omega)]
    simp only [bindJ_mk, case_nn, unc_mk, asI_mk, endL_mk, selC_eq, ile_eq]
    rw [if_pos (by decide)]
    have m1 : ((w : Int)).tmod 100 = ((w % 100 : Nat) : Int) := rfl
    have m2 : ((w : Int)).tdiv 100 = ((w / 100 : Nat) : Int) := rfl
    unfold smalls at b1 b2 hl
    simp only [letN_mk, m1, m2]
    rw [show ((w % 100 : Nat) : Int) * 2 = ((w % 100 * 2 : Nat) : Int) by omega, fw_u32i _ (by omega), fw_u32i (w / 100) (by omega), show ((w % 100 * 2 : Nat) : Int) + 1 = ((w % 100 * 2 + 1 : Nat) : Int) by omega, fw_u32i _ (by omega)]
    rw [hl, b1, b2]
    simp only [condT_eq, Bool.and_eq_true, ile_eq, ilt_eq, decide_eq_true_eq, letN_mk, asSome_mk]
    rw [if_pos (by omega), if_pos (by omega), show fwrap .i64 (((3 : Nat) : Int) - 1) = 2 from rfl, show fwrap .i64 (((3 : Nat) : Int) - 2) = 1 from rfl, if_pos (by decide)]
    rw [show 1 + (2 : Int).toNat * 1 = 3 from rfl, e1]
    simp only [bindH_mk, asSome_mk, condT_eq, Bool.and_eq_true, ile_eq, ilt_eq, decide_eq_true_eq]
    rw [if_pos (by decide), show 1 + (1 : Int).toNat * 1 = 2 from rfl, e2]
    simp only [bindH_mk, letN_mk, bindJ_mk, case_nn, unc_mk, asI_mk, endL_mk, selC_eq, ilt_eq, decide_eq_true_eq]
    rw [if_pos (by decide)]
    rw [if_pos (by decide), show (48 : Int) + ((w / 100 : Nat) : Int) = ((48 + w / 100 : Nat) : Int) by omega, fw_u32i _ (by omega), fw_u8i _ (by omega), e3]
    simp only [bindH_mk]
  · rw [leave_eff hlow]
    refine ⟨plain_low p3 _, keep_low ((k1.from_lo.trans k2).trans k3) _, ok_low o3 _, ?_⟩
    show min H.low H3.low = _
    rw [l3, l2, l1, lo_low]
    omega
theorem und163 : T.und 163 = some (.array 24 5) := by kernel_rfl
theorem slArr (H : VH) (p : Nat) (cs : List AV) (hp : Plain H p cs) (hcs : cs.length = 24) : vslice T H 163 (.v (.ptr (some (p, 0)))) (some (.int .i64 1)) (some (.int .i64 4)) = some (.slice (some (p, 1)) 3 (some 23) 1) := by
  unfold vslice
  rw [und163]
  show (match sizeOfT T 5 with | some s => vsliceArr H s 24 p 0 _ _ | none => none) = _
  rw [sizeByte]
  show vsliceArr H 1 24 p 0 _ _ = _
  unfold vsliceArr
  have : fits H p (0 + 24 * 1) = true := by
    obtain ⟨r, h1, h2, _⟩ := hp.row
    unfold fits
    rw [h1]
    exact Nat.ble_eq_true_of_le (by omega)
  rw [this]
  rfl
theorem itoa3_ok (n : Nat) (hn : 20 ≤ n) (w : Nat) (h1 : 100 ≤ w) (h2 : w < 1000) {H : VH} (hH : H.Ok) (hp : Pows H) : vcall T ext promo n 76 [.int .i64 (w : Int)] H = some (.str (PS.of (digs3 w)), H) := by
  obtain ⟨n, rfl⟩ : ∃ m, n = m + 3 := ⟨n - 3, by omega⟩
  have e1 : ∀ H : VH, H.Ok → Pows H → vcall T ext promo (n + 1) 156 [.int .i64 (w : Int), .int .i64 10] H = some (.str (PS.of (digs3 w)), H) := by
    intro H hH hp
    have o1 := lo_ok hH
    generalize hz : ([.int .u8 0, .int .u8 0, .int .u8 0, .int .u8 0, .int .u8 0, .int .u8 0, .int .u8 0, .int .u8 0, .int .u8 0, .int .u8 0, .int .u8 0, .int .u8 0, .int .u8 0, .int .u8 0, .int .u8 0, .int .u8 0, .int .u8 0, .int .u8 0, .int .u8 0, .int .u8 0, .int .u8 0, .int .u8 0, .int .u8 0, .int .u8 0] : List AV) = zs
    have hzl : zs.length = 24 := by rw [← hz]; rfl
    have o2 := fresh_ok o1 zs
    have p2 := fresh_plain o1 zs
    have k2 := Keep.fresh (fun _ => False) H.lo zs
    have q2 := hp.lo.keep o1 k2 (fun h => h)
    obtain ⟨H3, e3, p3, k3, o3, l3⟩ := format3_ok n (by omega) w h1 h2 o2 p2 hzl (some 23)
    have hlow : H3.low = H.next := by rw [l3]; simp
    have hc : H3.cells H.lo.next 1 3 = some (byteCells (digs3 w)) := by
      refine cells_eq (fun i hi => ?_) rfl
      rw [p3.cell]
      have e0 : (UInt8.ofNat (48 + w / 100)).toNat = 48 + w / 100 := by rw [UInt8.toNat_ofNat']; omega
      have e1 : (UInt8.ofNat (48 + w / 10 % 10)).toNat = 48 + w / 10 % 10 := by rw [UInt8.toNat_ofNat']; omega
      have e2 : (UInt8.ofNat (48 + w % 10)).toNat = 48 + w % 10 := by rw [UInt8.toNat_ofNat']; omega
      match i, hi with
      | 0, _ => rw [List.getElem?_set_self (by simp [hzl])]; simp [byteCells, digs3, e0]; omega
      | 1, _ => rw [List.getElem?_set_ne (by decide), List.getElem?_set_self (by simp [hzl])]; simp [byteCells, digs3, e1]; omega
      | 2, _ => rw [List.getElem?_set_ne (by decide), List.getElem?_set_ne (by decide), List.getElem?_set_self (by simp [hzl])]; simp [byteCells, digs3, e2]; omega
    apply ok156
    unfold F156
    rw [hz]
    simp only [letH_mk, bindC_mk, bindV_mk, bindL_mk, bindH_mk, bindJ_mk, asB_mk, asI_mk, asS_mk, asP_mk, asSl_mk, asA_mk, asTu_mk, asSome_mk, unc_mk, endL_mk, selC_eq, condT_eq, sel_eq, letN_mk, letB_mk, case_nn, case_nr, case_ne, case_rn, case_rr, case_re, case_en, case_er, case_ee, iand_u64, ior_u64, ixor_u64, iandn_u64, inot_u64, ieq_u64_0, ieq_u64, decide_eq_true_eq, Bool.not_true, Bool.not_false, Bool.false_eq_true, if_false, if_true, Bool.not_eq_true', decide_eq_false_iff_not, ilt_eq, ile_eq, reduceCtorEq, not_false_eq_true, not_true_eq_false, ieq_dec]
    rw [if_pos (by omega)]
    simp only [letH_mk, bindC_mk, bindV_mk, bindL_mk, bindH_mk, bindJ_mk, asB_mk, asI_mk, asS_mk, asP_mk, asSl_mk, asA_mk, asTu_mk, asSome_mk, unc_mk, endL_mk, selC_eq, condT_eq, sel_eq, letN_mk, letB_mk, case_nn, case_nr, case_ne, case_rn, case_rr, case_re, case_en, case_er, case_ee, iand_u64, ior_u64, ixor_u64, iandn_u64, inot_u64, ieq_u64_0, ieq_u64, decide_eq_true_eq, Bool.not_true, Bool.not_false, Bool.false_eq_true, if_false, if_true, Bool.not_eq_true', decide_eq_false_iff_not, ilt_eq, ile_eq, reduceCtorEq, not_false_eq_true, not_true_eq_false]
    rw [if_neg (by omega)]
    have hw : fwrap .u64 (w : Int) = (w : Int) := by rw [fw_u64]; omega
    simp only [letH_mk, bindC_mk, bindV_mk, bindL_mk, bindH_mk, bindJ_mk, asB_mk, asI_mk, asS_mk, asP_mk, asSl_mk, asA_mk, asTu_mk, asSome_mk, unc_mk, endL_mk, selC_eq, condT_eq, sel_eq, letN_mk, letB_mk, case_nn, case_nr, case_ne, case_rn, case_rr, case_re, case_en, case_er, case_ee, iand_u64, ior_u64, ixor_u64, iandn_u64, inot_u64, ieq_u64_0, ieq_u64, decide_eq_true_eq, Bool.not_true, Bool.not_false, Bool.false_eq_true, if_false, if_true, Bool.not_eq_true', decide_eq_false_iff_not, ilt_eq, ile_eq, reduceCtorEq, not_false_eq_true, not_true_eq_false, hw]
    rw [if_neg (by omega)]
    simp only [letH_mk, bindC_mk, bindV_mk, bindL_mk, bindH_mk, bindJ_mk, asB_mk, asI_mk, asS_mk, asP_mk, asSl_mk, asA_mk, asTu_mk, asSome_mk, unc_mk, endL_mk, selC_eq, condT_eq, sel_eq, letN_mk, letB_mk, case_nn, case_nr, case_ne, case_rn, case_rr, case_re, case_en, case_er, case_ee, iand_u64, ior_u64, ixor_u64, iandn_u64, inot_u64, ieq_u64_0, ieq_u64, decide_eq_true_eq, Bool.not_true, Bool.not_false, Bool.false_eq_true, if_false, if_true, Bool.not_eq_true', decide_eq_false_iff_not, ilt_eq, ile_eq, reduceCtorEq, not_false_eq_true, not_true_eq_false]
    rw [numDigits_ok n (by omega) w h1 h2 q2]
    simp only [letH_mk, bindC_mk, bindV_mk, bindL_mk, bindH_mk, bindJ_mk, asB_mk, asI_mk, asS_mk, asP_mk, asSl_mk, asA_mk, asTu_mk, asSome_mk, unc_mk, endL_mk, selC_eq, condT_eq, sel_eq, letN_mk, letB_mk, case_nn, case_nr, case_ne, case_rn, case_rr, case_re, case_en, case_er, case_ee, iand_u64, ior_u64, ixor_u64, iandn_u64, inot_u64, ieq_u64_0, ieq_u64, decide_eq_true_eq, Bool.not_true, Bool.not_false, Bool.false_eq_true, if_false, if_true, Bool.not_eq_true', decide_eq_false_iff_not, ilt_eq, ile_eq, reduceCtorEq, not_false_eq_true, not_true_eq_false]
    rw [show fwrap .i64 (1 + 3) = 4 from rfl, slArr _ _ _ p2 hzl]
    simp only [letH_mk, bindC_mk, bindV_mk, bindL_mk, bindH_mk, bindJ_mk, asB_mk, asI_mk, asS_mk, asP_mk, asSl_mk, asA_mk, asTu_mk, asSome_mk, unc_mk, endL_mk, selC_eq, condT_eq, sel_eq, letN_mk, letB_mk, case_nn, case_nr, case_ne, case_rn, case_rr, case_re, case_en, case_er, case_ee, iand_u64, ior_u64, ixor_u64, iandn_u64, inot_u64, ieq_u64_0, ieq_u64, decide_eq_true_eq, Bool.not_true, Bool.not_false, Bool.false_eq_true, if_false, if_true, Bool.not_eq_true', decide_eq_false_iff_not, ilt_eq, ile_eq, reduceCtorEq, not_false_eq_true, not_true_eq_false]
    rw [e3]
    simp only [letH_mk, bindC_mk, bindV_mk, bindL_mk, bindH_mk, bindJ_mk, asB_mk, asI_mk, asS_mk, asP_mk, asSl_mk, asA_mk, asTu_mk, asSome_mk, unc_mk, endL_mk, selC_eq, condT_eq, sel_eq, letN_mk, letB_mk, case_nn, case_nr, case_ne, case_rn, case_rr, case_re, case_en, case_er, case_ee, iand_u64, ior_u64, ixor_u64, iandn_u64, inot_u64, ieq_u64_0, ieq_u64, decide_eq_true_eq, Bool.not_true, Bool.not_false, Bool.false_eq_true, if_false, if_true, Bool.not_eq_true', decide_eq_false_iff_not, ilt_eq, ile_eq, reduceCtorEq, not_false_eq_true, not_true_eq_false]
    rw [if_neg (by omega)]
    have p3' : ∃ cs, Plain H3 H.lo.next cs ∧ cs.length = 24 := ⟨_, p3, by simp [hzl]⟩
    obtain ⟨cs, p3', hcs⟩ := p3'
    rw [slArr _ _ _ p3' hcs]
    simp only [letH_mk, bindC_mk, bindV_mk, bindL_mk, bindH_mk, bindJ_mk, asB_mk, asI_mk, asS_mk, asP_mk, asSl_mk, asA_mk, asTu_mk, asSome_mk, unc_mk, endL_mk, selC_eq, condT_eq, sel_eq, letN_mk, letB_mk, case_nn, case_nr, case_ne, case_rn, case_rr, case_re, case_en, case_er, case_ee, iand_u64, ior_u64, ixor_u64, iandn_u64, inot_u64, ieq_u64_0, ieq_u64, decide_eq_true_eq, Bool.not_true, Bool.not_false, Bool.false_eq_true, if_false, if_true, Bool.not_eq_true', decide_eq_false_iff_not, ilt_eq, ile_eq, reduceCtorEq, not_false_eq_true, not_true_eq_false]
    rw [conv88 (digs3 w) hc]
    simp only [letH_mk, bindC_mk, bindV_mk, bindL_mk, bindH_mk, bindJ_mk, asB_mk, asI_mk, asS_mk, asP_mk, asSl_mk, asA_mk, asTu_mk, asSome_mk, unc_mk, endL_mk, selC_eq, condT_eq, sel_eq, letN_mk, letB_mk, case_nn, case_nr, case_ne, case_rn, case_rr, case_re, case_en, case_er, case_ee, iand_u64, ior_u64, ixor_u64, iandn_u64, inot_u64, ieq_u64_0, ieq_u64, decide_eq_true_eq, Bool.not_true, Bool.not_false, Bool.false_eq_true, if_false, if_true, Bool.not_eq_true', decide_eq_false_iff_not, ilt_eq, ile_eq, reduceCtorEq, not_false_eq_true, not_true_eq_false]
    rw [leave_flat hlow rfl]
  apply ok76
  unfold F76
  have e2 : ∀ H : VH, H.Ok → Pows H → vcall T ext promo (n + 2) 130 [.int .i64 (w : Int)] H = some (.str (PS.of (digs3 w)), H) := by
    intro H hH hp
    apply ok130
    unfold F130
    simp only [letH_mk]
    rw [e1 _ (lo_ok hH) hp]
    simp only [letH_mk, bindC_mk, bindV_mk, bindL_mk, bindH_mk, bindJ_mk, asB_mk, asI_mk, asS_mk, asP_mk, asSl_mk, asA_mk, asTu_mk, asSome_mk, unc_mk, endL_mk, selC_eq, condT_eq, sel_eq, letN_mk, letB_mk, case_nn, case_nr, case_ne, case_rn, case_rr, case_re, case_en, case_er, case_ee, iand_u64, ior_u64, ixor_u64, iandn_u64, inot_u64, ieq_u64_0, ieq_u64, decide_eq_true_eq, Bool.not_true, Bool.not_false, Bool.false_eq_true, if_false, if_true, Bool.not_eq_true', decide_eq_false_iff_not, ilt_eq, ile_eq, reduceCtorEq, not_false_eq_true, not_true_eq_false]
    rw [leave_flat rfl rfl]
  simp only [letH_mk]
  rw [e2 _ (lo_ok hH) hp]
  simp only [letH_mk, bindC_mk, bindV_mk, bindL_mk, bindH_mk, bindJ_mk, asB_mk, asI_mk, asS_mk, asP_mk, asSl_mk, asA_mk, asTu_mk, asSome_mk, unc_mk, endL_mk, selC_eq, condT_eq, sel_eq, letN_mk, letB_mk, case_nn, case_nr, case_ne, case_rn, case_rr, case_re, case_en, case_er, case_ee, iand_u64, ior_u64, ixor_u64, iandn_u64, inot_u64, ieq_u64_0, ieq_u64, decide_eq_true_eq, Bool.not_true, Bool.not_false, Bool.false_eq_true, if_false, if_true, Bool.not_eq_true', decide_eq_false_iff_not, ilt_eq, ile_eq, reduceCtorEq, not_false_eq_true, not_true_eq_false]
  rw [leave_flat rfl rfl]
end Go.Vm.Tryd
