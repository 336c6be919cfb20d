/- NoteReread on the machine: the text of a message is read back. -/
import Derived.Test.YtieocmaaloaoaaaDoorNa
namespace Go.Vm.Tryd
set_option linter.unusedSectionVars false
set_option linter.unusedSimpArgs false
set_option linter.unusedVariables false
set_option maxRecDepth 10000
theorem splitN_ok (n : Nat) (l : List UInt8) (hn : l.length + 60 ≤ n) (hl : l.length < 100000) (c : UInt8) {H : VH} (hH : H.Ok) :
    ∃ (H' : VH), vcall T ext promo n 116 [.str (PS.of l), .str (PS.of [c]), .int .i64 ((l.count c + 1 : Nat) : Int)] H = some (.slice (some (H.next, 0)) (l.count c + 1) (some (l.count c + 1)) 1, H') ∧ Plain H' H.next (strCells (splits c l)) ∧ Eff (fun _ => False) H H' := by
  obtain ⟨n, rfl⟩ : ∃ m, n = m + 1 := ⟨n - 1, by omega⟩
  obtain ⟨H', e1, e2, e3⟩ := genSplit_ok n l (by omega) hl c _ (.inr rfl) (lo_ok hH)
  have e4 := e3.leave hH (.slice (some (H.next, 0)) (l.count c + 1) (some (l.count c + 1)) 1)
  refine ⟨leave H H' (.slice (some (H.next, 0)) (l.count c + 1) (some (l.count c + 1)) 1), ok116 _ _ _ _ _ ?_, ?_, e4⟩
  · unfold F116
    simp only [letH_mk]
    rw [e1]
    simp only [letH_mk, bindC_mk, bindV_mk, bindH_mk, bindJ_mk, asB_mk, asI_mk, asS_mk, asP_mk, asSl_mk, asA_mk, asTu_mk, asSome_mk, unc_mk, endL_mk, selC_eq, condT_eq, letN_mk, letB_mk, case_nn, case_nr, case_ne, case_rn, case_rr, case_re, case_en, case_er, case_ee, decide_eq_true_eq, Bool.not_true, Bool.not_false, Bool.false_eq_true, if_false, if_true, Bool.not_eq_true', decide_eq_false_iff_not, ilt_eq, ile_eq, reduceCtorEq, not_false_eq_true, not_true_eq_false]
    rfl
  · rw [leave_rest rfl]
    exact plain_low e2 _
theorem hasPrefix_ok (n : Nat) (hn : 5 ≤ n) (l p : List UInt8) (H : VH) : vcall T ext promo n 117 [.str (PS.of l), .str (PS.of p)] H = some (.bool (decide (l.take p.length = p ∧ p.length ≤ l.length)), H) := by
  obtain ⟨n, rfl⟩ : ∃ m, n = m + 2 := ⟨n - 2, by omega⟩
  have e : ∀ H, vcall T ext promo (n + 1) 150 [.str (PS.of l), .str (PS.of p)] H = some (.bool (decide (l.take p.length = p ∧ p.length ≤ l.length)), H) := by
    intro H
    apply ok150
    unfold F150
    simp only [letH_mk, bindC_mk, bindV_mk, bindH_mk, bindJ_mk, asB_mk, asI_mk, asS_mk, asP_mk, asSl_mk, asA_mk, asTu_mk, asSome_mk, unc_mk, endL_mk, selC_eq, condT_eq, letN_mk, letB_mk, case_nn, case_nr, case_ne, case_rn, case_rr, case_re, case_en, case_er, case_ee, decide_eq_true_eq, Bool.not_true, Bool.not_false, Bool.false_eq_true, if_false, if_true, Bool.not_eq_true', decide_eq_false_iff_not, ilt_eq, ile_eq, reduceCtorEq, not_false_eq_true, not_true_eq_false, of_len]
    by_cases h : p.length ≤ l.length
    · rw [if_pos (by omega), slStrT _ _ _ h]
      simp only [letH_mk, bindC_mk, bindV_mk, bindH_mk, bindJ_mk, asB_mk, asI_mk, asS_mk, asP_mk, asSl_mk, asA_mk, asTu_mk, asSome_mk, unc_mk, endL_mk, selC_eq, condT_eq, letN_mk, letB_mk, case_nn, case_nr, case_ne, case_rn, case_rr, case_re, case_en, case_er, case_ee, decide_eq_true_eq, Bool.not_true, Bool.not_false, Bool.false_eq_true, if_false, if_true, Bool.not_eq_true', decide_eq_false_iff_not, ilt_eq, ile_eq, reduceCtorEq, not_false_eq_true, not_true_eq_false, str_eq, h, and_true]
      rw [leave_flat rfl rfl]
    · rw [if_neg (by omega), leave_flat rfl rfl]
      simp [h]
  apply ok117
  unfold F117
  simp only [letH_mk]
  rw [e]
  simp only [letH_mk, bindC_mk, bindV_mk, bindH_mk, bindJ_mk, asB_mk, asI_mk, asS_mk, asP_mk, asSl_mk, asA_mk, asTu_mk, asSome_mk, unc_mk, endL_mk, selC_eq, condT_eq, letN_mk, letB_mk, case_nn, case_nr, case_ne, case_rn, case_rr, case_re, case_en, case_er, case_ee, decide_eq_true_eq, Bool.not_true, Bool.not_false, Bool.false_eq_true, if_false, if_true, Bool.not_eq_true', decide_eq_false_iff_not, ilt_eq, ile_eq, reduceCtorEq, not_false_eq_true, not_true_eq_false]
  rw [leave_flat rfl rfl]
theorem cut1_ok (n : Nat) (hn : 20 ≤ n) (l : List UInt8) (hl : l.length < 1000000000) (c : UInt8) (H : VH) :
    vcall T ext promo n 119 [.str (PS.of l), .str (PS.of [c])] H = some (if l.count c = 0 then .tuple [.str (PS.of l), .str (PS.of []), .bool false] else .tuple [.str (PS.of (l.take (Lib.indexByte l c).toNat)), .str (PS.of (l.drop ((Lib.indexByte l c).toNat + 1))), .bool true], H) := by
  obtain ⟨n, rfl⟩ : ∃ m, n = m + 3 := ⟨n - 3, by omega⟩
  have e0 : ∀ H, vcall T ext promo (n + 1) 154 [.str (PS.of l), .str (PS.of [c])] H = some (.int .i64 (Lib.indexByte l c), H) := by
    intro H
    apply ok154
    unfold F154
    simp only [letH_mk, bindC_mk, bindV_mk, bindH_mk, bindJ_mk, asB_mk, asI_mk, asS_mk, asP_mk, asSl_mk, asA_mk, asTu_mk, asSome_mk, unc_mk, endL_mk, selC_eq, condT_eq, letN_mk, letB_mk, case_nn, case_nr, case_ne, case_rn, case_rr, case_re, case_en, case_er, case_ee, decide_eq_true_eq, Bool.not_true, Bool.not_false, Bool.false_eq_true, if_false, if_true, Bool.not_eq_true', decide_eq_false_iff_not, ilt_eq, ile_eq, reduceCtorEq, not_false_eq_true, not_true_eq_false, of_len, List.length_singleton, ieq_dec, show ((1 : Nat) : Int) = 1 from rfl, Int.one_ne_zero, decide_false, decide_true, Bool.and_eq_true, Int.toNat_zero, one_byte, str_eq]
    by_cases h : [c] = l
    · simp only [h, letH_mk, bindC_mk, bindV_mk, bindH_mk, bindJ_mk, asB_mk, asI_mk, asS_mk, asP_mk, asSl_mk, asA_mk, asTu_mk, asSome_mk, unc_mk, endL_mk, selC_eq, condT_eq, letN_mk, letB_mk, case_nn, case_nr, case_ne, case_rn, case_rr, case_re, case_en, case_er, case_ee, decide_eq_true_eq, Bool.not_true, Bool.not_false, Bool.false_eq_true, if_false, if_true, Bool.not_eq_true', decide_eq_false_iff_not, ilt_eq, ile_eq, reduceCtorEq, not_false_eq_true, not_true_eq_false, decide_true]
      subst h
      rw [leave_flat rfl rfl]
      simp [Lib.indexByte]
    · simp only [h, letH_mk, bindC_mk, bindV_mk, bindH_mk, bindJ_mk, asB_mk, asI_mk, asS_mk, asP_mk, asSl_mk, asA_mk, asTu_mk, asSome_mk, unc_mk, endL_mk, selC_eq, condT_eq, letN_mk, letB_mk, case_nn, case_nr, case_ne, case_rn, case_rr, case_re, case_en, case_er, case_ee, decide_eq_true_eq, Bool.not_true, Bool.not_false, Bool.false_eq_true, if_false, if_true, Bool.not_eq_true', decide_eq_false_iff_not, ilt_eq, ile_eq, reduceCtorEq, not_false_eq_true, not_true_eq_false, decide_false]
      rw [if_pos (by decide), indexByte_ok n (by omega)]
      simp only [letH_mk, bindC_mk, bindV_mk, bindH_mk, bindJ_mk, asB_mk, asI_mk, asS_mk, asP_mk, asSl_mk, asA_mk, asTu_mk, asSome_mk, unc_mk, endL_mk, selC_eq, condT_eq, letN_mk, letB_mk, case_nn, case_nr, case_ne, case_rn, case_rr, case_re, case_en, case_er, case_ee, decide_eq_true_eq, Bool.not_true, Bool.not_false, Bool.false_eq_true, if_false, if_true, Bool.not_eq_true', decide_eq_false_iff_not, ilt_eq, ile_eq, reduceCtorEq, not_false_eq_true, not_true_eq_false]
      rw [leave_flat rfl rfl]
  have e : ∀ H, vcall T ext promo (n + 2) 152 [.str (PS.of l), .str (PS.of [c])] H = some (if l.count c = 0 then .tuple [.str (PS.of l), .str (PS.of []), .bool false] else .tuple [.str (PS.of (l.take (Lib.indexByte l c).toNat)), .str (PS.of (l.drop ((Lib.indexByte l c).toNat + 1))), .bool true], H) := by
    intro H
    apply ok152
    unfold F152
    simp only [letH_mk]
    rw [e0]
    simp only [letH_mk, bindC_mk, bindV_mk, bindH_mk, bindJ_mk, asB_mk, asI_mk, asS_mk, asP_mk, asSl_mk, asA_mk, asTu_mk, asSome_mk, unc_mk, endL_mk, selC_eq, condT_eq, letN_mk, letB_mk, case_nn, case_nr, case_ne, case_rn, case_rr, case_re, case_en, case_er, case_ee, decide_eq_true_eq, Bool.not_true, Bool.not_false, Bool.false_eq_true, if_false, if_true, Bool.not_eq_true', decide_eq_false_iff_not, ilt_eq, ile_eq, reduceCtorEq, not_false_eq_true, not_true_eq_false]
    by_cases h0 : l.count c = 0
    · rw [index_none c l h0, if_neg (by omega), if_pos h0, leave_flat rfl rfl]
    · obtain ⟨m, h1, h2, _⟩ := splits_some c l (by omega)
      rw [h1, if_pos (by omega), if_neg h0, slStrT _ _ _ (by omega)]
      simp only [letH_mk, bindC_mk, bindV_mk, bindH_mk, bindJ_mk, asB_mk, asI_mk, asS_mk, asP_mk, asSl_mk, asA_mk, asTu_mk, asSome_mk, unc_mk, endL_mk, selC_eq, condT_eq, letN_mk, letB_mk, case_nn, case_nr, case_ne, case_rn, case_rr, case_re, case_en, case_er, case_ee, decide_eq_true_eq, Bool.not_true, Bool.not_false, Bool.false_eq_true, if_false, if_true, Bool.not_eq_true', decide_eq_false_iff_not, ilt_eq, ile_eq, reduceCtorEq, not_false_eq_true, not_true_eq_false, of_len, List.length_singleton]
      rw [show (m : Int) + ((1 : Nat) : Int) = ((m + 1 : Nat) : Int) by omega, fw_i64 (by omega) (by omega), slStrF _ _ _ (by omega)]
      simp only [letH_mk, bindC_mk, bindV_mk, bindH_mk, bindJ_mk, asB_mk, asI_mk, asS_mk, asP_mk, asSl_mk, asA_mk, asTu_mk, asSome_mk, unc_mk, endL_mk, selC_eq, condT_eq, letN_mk, letB_mk, case_nn, case_nr, case_ne, case_rn, case_rr, case_re, case_en, case_er, case_ee, decide_eq_true_eq, Bool.not_true, Bool.not_false, Bool.false_eq_true, if_false, if_true, Bool.not_eq_true', decide_eq_false_iff_not, ilt_eq, ile_eq, reduceCtorEq, not_false_eq_true, not_true_eq_false, Int.toNat_natCast]
      rw [leave_flat rfl rfl]
  apply ok119
  unfold F119
  simp only [letH_mk]
  rw [e]
  by_cases h0 : l.count c = 0
  · simp only [h0, letH_mk, bindC_mk, bindV_mk, bindH_mk, bindJ_mk, asB_mk, asI_mk, asS_mk, asP_mk, asSl_mk, asA_mk, asTu_mk, asSome_mk, unc_mk, endL_mk, selC_eq, condT_eq, letN_mk, letB_mk, case_nn, case_nr, case_ne, case_rn, case_rr, case_re, case_en, case_er, case_ee, decide_eq_true_eq, Bool.not_true, Bool.not_false, Bool.false_eq_true, if_false, if_true, Bool.not_eq_true', decide_eq_false_iff_not, ilt_eq, ile_eq, reduceCtorEq, not_false_eq_true, not_true_eq_false]
    rw [leave_flat rfl rfl]
  · simp only [h0, letH_mk, bindC_mk, bindV_mk, bindH_mk, bindJ_mk, asB_mk, asI_mk, asS_mk, asP_mk, asSl_mk, asA_mk, asTu_mk, asSome_mk, unc_mk, endL_mk, selC_eq, condT_eq, letN_mk, letB_mk, case_nn, case_nr, case_ne, case_rn, case_rr, case_re, case_en, case_er, case_ee, decide_eq_true_eq, Bool.not_true, Bool.not_false, Bool.false_eq_true, if_false, if_true, Bool.not_eq_true', decide_eq_false_iff_not, ilt_eq, ile_eq, reduceCtorEq, not_false_eq_true, not_true_eq_false]
    rw [leave_flat rfl rfl]
/-- The number of decimal digits. -/
def valD (a : Nat) (l : List UInt8) : Nat := l.foldl (fun a c => a * 10 + (c.toNat - 48)) a
def isD (c : UInt8) : Prop := 48 ≤ c.toNat ∧ c.toNat ≤ 57
theorem atoi_loop (n : Nat) (l : List UInt8) (hl : l.length ≤ 9) (hd : ∀ x ∈ l, isD x) {p : Nat} {H : VH} (hp : ∀ i, H.cell p (0 + i * 1) = (byteCells l)[i]?) :
    ∀ (m i a : Nat), i ≤ l.length → l.length - i < m → a < 10 ^ i →
      loopN (L173_0 (vcall T ext promo n) n (some (p, 0)) l.length) m [.int .i64 (a : Int), .int .i64 (i : Int)] H = some (.exit 0, [.int .i64 ((valD a (l.drop i) : Nat) : Int)], H) := by
  intro m
  induction m with
  | zero => intro i a _ h; omega
  | succ m ih =>
    intro i a hi hm ha
    rw [loopN_succ]
    generalize loopN (L173_0 (vcall T ext promo n) n (some (p, 0)) l.length) m = lp at ih ⊢
    unfold L173_0
    simp only [letH_mk, bindC_mk, bindV_mk, bindH_mk, bindJ_mk, asB_mk, asI_mk, asS_mk, asP_mk, asSl_mk, asA_mk, asTu_mk, asSome_mk, unc_mk, endL_mk, selC_eq, condT_eq, letN_mk, letB_mk, case_nn, case_nr, case_ne, case_rn, case_rr, case_re, case_en, case_er, case_ee, decide_eq_true_eq, Bool.not_true, Bool.not_false, Bool.false_eq_true, if_false, if_true, Bool.not_eq_true', decide_eq_false_iff_not, ilt_eq, ile_eq, reduceCtorEq, not_false_eq_true, not_true_eq_false, Bool.and_eq_true]
    by_cases h : i < l.length
    · have hx := hd l[i] (List.getElem_mem h)
      have hc : H.cell p (0 + i * 1) = some (.int .u8 (l[i].toNat : Int)) := by
        rw [hp i]
        simp [byteCells, h]
      have h10 : 10 ^ i ≤ 10 ^ 8 := Nat.pow_le_pow_right (by decide) (by omega)
      have h11 : 10 ^ (i + 1) = 10 ^ i * 10 := Nat.pow_succ ..
      obtain ⟨x1, x2⟩ := hx
      rw [if_pos (by omega), if_pos (by omega)]
      simp only [Int.toNat_natCast, hc, letH_mk, bindC_mk, bindV_mk, bindH_mk, bindJ_mk, asB_mk, asI_mk, asS_mk, asP_mk, asSl_mk, asA_mk, asTu_mk, asSome_mk, unc_mk, endL_mk, selC_eq, condT_eq, letN_mk, letB_mk, case_nn, case_nr, case_ne, case_rn, case_rr, case_re, case_en, case_er, case_ee, decide_eq_true_eq, Bool.not_true, Bool.not_false, Bool.false_eq_true, if_false, if_true, Bool.not_eq_true', decide_eq_false_iff_not, ilt_eq, ile_eq, reduceCtorEq, not_false_eq_true, not_true_eq_false]
      rw [show fwrap .u8 ((l[i].toNat : Int) - 48) = ((l[i].toNat - 48 : Nat) : Int) by rw [fw_u8]; omega]
      rw [if_neg (by omega), fw_i64 (n := (a : Int) * 10) (by omega) (by omega), fw_i64 (n := ((l[i].toNat - 48 : Nat) : Int)) (by omega) (by omega), fw_i64 (n := (a : Int) * 10 + _) (by omega) (by omega), fw_i64 (by omega) (by omega)]
      rw [show (a : Int) * 10 + ((l[i].toNat - 48 : Nat) : Int) = ((a * 10 + (l[i].toNat - 48) : Nat) : Int) by omega, show (i : Int) + 1 = ((i + 1 : Nat) : Int) by omega]
      rw [ih (i + 1) _ (by omega) (by omega) (by omega)]
      have : l.drop i = l[i] :: l.drop (i + 1) := List.drop_eq_getElem_cons h
      rw [this]
      rfl
    · rw [if_neg (by omega)]
      have : l.drop i = [] := List.drop_of_length_le (by omega)
      rw [this]
      rfl
theorem conv_bytes (H : VH) (l : List UInt8) : vconvert T H 9 88 (.str (PS.of l)) = some (.slice (some (H.next, 0)) l.length none 1, H.freshT (byteCells l) 5) := by
  unfold vconvert
  simp only [undStr, undBytes, undByte, bytesCells, of_len]
theorem atoi_ok (n : Nat) (hn : 40 ≤ n) (l : List UInt8) (h1 : 1 ≤ l.length) (h9 : l.length ≤ 9) (hd : ∀ x ∈ l, isD x) {H : VH} (hH : H.Ok) : vcall T ext promo n 151 [.str (PS.of l)] H = some (.tuple [.int .i64 ((valD 0 l : Nat) : Int), .nilIface], H) := by
  obtain ⟨n, rfl⟩ : ∃ m, n = m + 2 := ⟨n - 2, by omega⟩
  have e : ∀ H : VH, H.Ok → vcall T ext promo (n + 1) 173 [.str (PS.of l)] H = some (.tuple [.int .i64 ((valD 0 l : Nat) : Int), .nilIface], H) := by
    intro H hH
    have hlt : 0 < l.length := by omega
    obtain ⟨x1, x2⟩ := hd l[0] (List.getElem_mem hlt)
    have hb : (((PS.of l).byte ((0 : Int).toNat) : Nat) : Int) = (l[0].toNat : Int) := byte_int l 0 hlt
    have n1 : ¬ (l[0].toNat : Int) = 45 := by omega
    have n2 : ¬ (l[0].toNat : Int) = 43 := by omega
    have p2 := freshT_plain (lo_ok hH) (byteCells l) 5
    have lp := atoi_loop n l h9 hd (p := H.lo.next) (H := H.lo.freshT (byteCells l) 5) (fun i => by rw [p2.cell, Nat.zero_add, Nat.mul_one]) n 0 0 (by omega) (by omega) (by decide)
    apply ok173
    unfold F173
    simp only [letH_mk, bindC_mk, bindV_mk, bindH_mk, bindJ_mk, asB_mk, asI_mk, asS_mk, asP_mk, asSl_mk, asA_mk, asTu_mk, asSome_mk, unc_mk, endL_mk, selC_eq, condT_eq, letN_mk, letB_mk, case_nn, case_nr, case_ne, case_rn, case_rr, case_re, case_en, case_er, case_ee, decide_eq_true_eq, Bool.not_true, Bool.not_false, Bool.false_eq_true, if_false, if_true, Bool.not_eq_true', decide_eq_false_iff_not, ilt_eq, ile_eq, reduceCtorEq, not_false_eq_true, not_true_eq_false, of_len]
    rw [if_pos (by omega)]
    have h19 : ((l.length : Nat) : Int) < 19 := by omega
    simp only [letH_mk, bindC_mk, bindV_mk, bindH_mk, bindJ_mk, asB_mk, asI_mk, asS_mk, asP_mk, asSl_mk, asA_mk, asTu_mk, asSome_mk, unc_mk, endL_mk, selC_eq, condT_eq, letN_mk, letB_mk, case_nn, case_nr, case_ne, case_rn, case_rr, case_re, case_en, case_er, case_ee, decide_eq_true_eq, Bool.not_true, Bool.not_false, Bool.false_eq_true, if_false, if_true, Bool.not_eq_true', decide_eq_false_iff_not, ilt_eq, ile_eq, reduceCtorEq, not_false_eq_true, not_true_eq_false, decide_eq_true h19, Bool.and_eq_true]
    rw [if_pos (by omega), hb]
    simp only [letH_mk, bindC_mk, bindV_mk, bindH_mk, bindJ_mk, asB_mk, asI_mk, asS_mk, asP_mk, asSl_mk, asA_mk, asTu_mk, asSome_mk, unc_mk, endL_mk, selC_eq, condT_eq, letN_mk, letB_mk, case_nn, case_nr, case_ne, case_rn, case_rr, case_re, case_en, case_er, case_ee, decide_eq_true_eq, Bool.not_true, Bool.not_false, Bool.false_eq_true, if_false, if_true, Bool.not_eq_true', decide_eq_false_iff_not, ilt_eq, ile_eq, reduceCtorEq, not_false_eq_true, not_true_eq_false, ieq_dec, n1, n2, decide_false]
    rw [if_pos (by omega)]
    try simp only [letH_mk, bindC_mk, bindV_mk, bindH_mk, bindJ_mk, asB_mk, asI_mk, asS_mk, asP_mk, asSl_mk, asA_mk, asTu_mk, asSome_mk, unc_mk, endL_mk, selC_eq, condT_eq, letN_mk, letB_mk, case_nn, case_nr, case_ne, case_rn, case_rr, case_re, case_en, case_er, case_ee, decide_eq_true_eq, Bool.not_true, Bool.not_false, Bool.false_eq_true, if_false, if_true, Bool.not_eq_true', decide_eq_false_iff_not, ilt_eq, ile_eq, reduceCtorEq, not_false_eq_true, not_true_eq_false]
    rw [conv_bytes]
    simp only [letH_mk, bindC_mk, bindV_mk, bindH_mk, bindJ_mk, asB_mk, asI_mk, asS_mk, asP_mk, asSl_mk, asA_mk, asTu_mk, asSome_mk, unc_mk, endL_mk, selC_eq, condT_eq, letN_mk, letB_mk, case_nn, case_nr, case_ne, case_rn, case_rr, case_re, case_en, case_er, case_ee, decide_eq_true_eq, Bool.not_true, Bool.not_false, Bool.false_eq_true, if_false, if_true, Bool.not_eq_true', decide_eq_false_iff_not, ilt_eq, ile_eq, reduceCtorEq, not_false_eq_true, not_true_eq_false]
    rw [show (.int .i64 0 : AV) = .int .i64 ((0 : Nat) : Int) from rfl, lp]
    simp only [letH_mk, bindC_mk, bindV_mk, bindH_mk, bindJ_mk, asB_mk, asI_mk, asS_mk, asP_mk, asSl_mk, asA_mk, asTu_mk, asSome_mk, unc_mk, endL_mk, selC_eq, condT_eq, letN_mk, letB_mk, case_nn, case_nr, case_ne, case_rn, case_rr, case_re, case_en, case_er, case_ee, decide_eq_true_eq, Bool.not_true, Bool.not_false, Bool.false_eq_true, if_false, if_true, Bool.not_eq_true', decide_eq_false_iff_not, ilt_eq, ile_eq, reduceCtorEq, not_false_eq_true, not_true_eq_false, Bool.and_eq_true]
    rw [if_pos (by omega)]
    try simp only [letH_mk, bindC_mk, bindV_mk, bindH_mk, bindJ_mk, asB_mk, asI_mk, asS_mk, asP_mk, asSl_mk, asA_mk, asTu_mk, asSome_mk, unc_mk, endL_mk, selC_eq, condT_eq, letN_mk, letB_mk, case_nn, case_nr, case_ne, case_rn, case_rr, case_re, case_en, case_er, case_ee, decide_eq_true_eq, Bool.not_true, Bool.not_false, Bool.false_eq_true, if_false, if_true, Bool.not_eq_true', decide_eq_false_iff_not, ilt_eq, ile_eq, reduceCtorEq, not_false_eq_true, not_true_eq_false, ieq_dec, n1]
    rw [leave_flat rfl rfl]
    rfl
  apply ok151
  unfold F151
  simp only [letH_mk]
  rw [e _ (lo_ok hH)]
  simp only [letH_mk, bindC_mk, bindV_mk, bindH_mk, bindJ_mk, asB_mk, asI_mk, asS_mk, asP_mk, asSl_mk, asA_mk, asTu_mk, asSome_mk, unc_mk, endL_mk, selC_eq, condT_eq, letN_mk, letB_mk, case_nn, case_nr, case_ne, case_rn, case_rr, case_re, case_en, case_er, case_ee, decide_eq_true_eq, Bool.not_true, Bool.not_false, Bool.false_eq_true, if_false, if_true, Bool.not_eq_true', decide_eq_false_iff_not, ilt_eq, ile_eq, reduceCtorEq, not_false_eq_true, not_true_eq_false, nilOk_c]
  rw [show vbinOp T .neq 144 .nilIface .nilIface = some (.bool false) by kernel_rfl]
  simp only [letH_mk, bindC_mk, bindV_mk, bindH_mk, bindJ_mk, asB_mk, asI_mk, asS_mk, asP_mk, asSl_mk, asA_mk, asTu_mk, asSome_mk, unc_mk, endL_mk, selC_eq, condT_eq, letN_mk, letB_mk, case_nn, case_nr, case_ne, case_rn, case_rr, case_re, case_en, case_er, case_ee, decide_eq_true_eq, Bool.not_true, Bool.not_false, Bool.false_eq_true, if_false, if_true, Bool.not_eq_true', decide_eq_false_iff_not, ilt_eq, ile_eq, reduceCtorEq, not_false_eq_true, not_true_eq_false]
  rw [leave_flat rfl rfl]
theorem numb_loop (n : Nat) (l : List UInt8) (hl : ∀ x ∈ l, isD x) (hn : l.length < 1000) (H : VH) : ∀ (m i : Nat), i ≤ l.length → l.length - i < m →
    loopN (L118_0 (vcall T ext promo n) n (PS.of l)) m [.int .i64 (i : Int)] H = some (.exit 0, [], H) := by
  intro m
  induction m with
  | zero => intro i _ h; omega
  | succ m ih =>
    intro i hi hm
    rw [loopN_succ]
    generalize loopN (L118_0 (vcall T ext promo n) n (PS.of l)) m = lp at ih ⊢
    unfold L118_0
    simp only [letH_mk, bindC_mk, bindV_mk, bindH_mk, bindJ_mk, asB_mk, asI_mk, asS_mk, asP_mk, asSl_mk, asA_mk, asTu_mk, asSome_mk, unc_mk, endL_mk, selC_eq, condT_eq, letN_mk, letB_mk, case_nn, case_nr, case_ne, case_rn, case_rr, case_re, case_en, case_er, case_ee, decide_eq_true_eq, Bool.not_true, Bool.not_false, Bool.false_eq_true, if_false, if_true, Bool.not_eq_true', decide_eq_false_iff_not, ilt_eq, ile_eq, reduceCtorEq, not_false_eq_true, not_true_eq_false, of_len]
    by_cases h : i < l.length
    · obtain ⟨h1, h2⟩ := hl l[i] (List.getElem_mem h)
      have n2 : ¬ 57 < (l[i].toNat : Int) := by omega
      rw [if_pos (by omega)]
      simp only [Bool.and_eq_true, letH_mk, bindC_mk, bindV_mk, bindH_mk, bindJ_mk, asB_mk, asI_mk, asS_mk, asP_mk, asSl_mk, asA_mk, asTu_mk, asSome_mk, unc_mk, endL_mk, selC_eq, condT_eq, letN_mk, letB_mk, case_nn, case_nr, case_ne, case_rn, case_rr, case_re, case_en, case_er, case_ee, decide_eq_true_eq, Bool.not_true, Bool.not_false, Bool.false_eq_true, if_false, if_true, Bool.not_eq_true', decide_eq_false_iff_not, ilt_eq, ile_eq, reduceCtorEq, not_false_eq_true, not_true_eq_false]
      rw [if_pos (by omega), byte_int l i h, if_neg (by omega)]
      try simp only [letH_mk, bindC_mk, bindV_mk, bindH_mk, bindJ_mk, asB_mk, asI_mk, asS_mk, asP_mk, asSl_mk, asA_mk, asTu_mk, asSome_mk, unc_mk, endL_mk, selC_eq, condT_eq, letN_mk, letB_mk, case_nn, case_nr, case_ne, case_rn, case_rr, case_re, case_en, case_er, case_ee, decide_eq_true_eq, Bool.not_true, Bool.not_false, Bool.false_eq_true, if_false, if_true, Bool.not_eq_true', decide_eq_false_iff_not, ilt_eq, ile_eq, reduceCtorEq, not_false_eq_true, not_true_eq_false]
      rw [if_pos (by omega)]
      try simp only [letH_mk, bindC_mk, bindV_mk, bindH_mk, bindJ_mk, asB_mk, asI_mk, asS_mk, asP_mk, asSl_mk, asA_mk, asTu_mk, asSome_mk, unc_mk, endL_mk, selC_eq, condT_eq, letN_mk, letB_mk, case_nn, case_nr, case_ne, case_rn, case_rr, case_re, case_en, case_er, case_ee, decide_eq_true_eq, Bool.not_true, Bool.not_false, Bool.false_eq_true, if_false, if_true, Bool.not_eq_true', decide_eq_false_iff_not, ilt_eq, ile_eq, reduceCtorEq, not_false_eq_true, not_true_eq_false, decide_eq_false n2]
      rw [fw_i64 (by omega) (by omega)]
      exact ih (i + 1) (by omega) (by omega)
    · rw [if_neg (by omega)]
theorem dec_facts : ∀ w : Fin 1000, (∀ x ∈ dec w.val, 48 ≤ x.toNat ∧ x.toNat ≤ 57) ∧ valD 0 (dec w.val) = w.val ∧ 1 ≤ (dec w.val).length ∧ (1 ≤ w.val → (dec w.val).getD 0 0 ≠ 48) := by decide +kernel
theorem number_note (n : Nat) (hn : 60 ≤ n) (w : Nat) (h1 : 1 ≤ w) (h2 : w < 1000) {H : VH} (hH : H.Ok) : vcall T ext promo n 118 [.str (PS.of (dec w))] H = some (.tuple [.int .i64 (w : Int), .bool true], H) := by
  obtain ⟨n, rfl⟩ : ∃ m, n = m + 1 := ⟨n - 1, by omega⟩
  obtain ⟨d1, d2, d3, d4⟩ := dec_facts ⟨w, h2⟩
  simp only at d1 d2 d3 d4
  have hl := dec_len w
  have hne : dec w ≠ [] := by intro e; rw [e] at d3; simp at d3
  have hlt : 0 < (dec w).length := by omega
  have hb : (((PS.of (dec w)).byte ((0 : Int).toNat) : Nat) : Int) = ((dec w)[0].toNat : Int) := byte_int (dec w) 0 hlt
  have n48 : ¬ ((dec w)[0].toNat : Int) = 48 := by
    intro e
    apply d4 h1
    rw [List.getD_eq_getElem?_getD, List.getElem?_eq_getElem hlt]
    exact UInt8.toNat_inj.1 (by show (dec w)[0].toNat = 48; omega)
  have lp := numb_loop n (dec w) d1 (by omega) H.lo n 0 (by omega) (by omega)
  have hj : ∀ K : Ex → List AV → VH → Option (AV × VH), bindJ (selC ((PS.of (dec w)).eq (PS.of [])) (some (.normal, [.bool true], H.lo)) (selC (ilt 1 (((PS.of (dec w)).len : Nat) : Int)) (condT (ile 0 0 && ilt 0 ((PS.of (dec w)).len : Nat)) (letN ((((PS.of (dec w)).byte (0 : Int).toNat : Nat) : Int)) fun n2 => some (.normal, [.bool (ieq n2 48)], H.lo))) (some (.normal, [.bool false], H.lo)))) K = K .normal [.bool false] H.lo := by
    intro K
    simp only [str_eq, hne, of_len, decide_false]
    by_cases hl1 : 1 < (dec w).length
    · simp only [letH_mk, bindC_mk, bindV_mk, bindH_mk, bindJ_mk, asB_mk, asI_mk, asS_mk, asP_mk, asSl_mk, asA_mk, asTu_mk, asSome_mk, unc_mk, endL_mk, selC_eq, condT_eq, letN_mk, letB_mk, case_nn, case_nr, case_ne, case_rn, case_rr, case_re, case_en, case_er, case_ee, decide_eq_true_eq, Bool.not_true, Bool.not_false, Bool.false_eq_true, if_false, if_true, Bool.not_eq_true', decide_eq_false_iff_not, ilt_eq, ile_eq, reduceCtorEq, not_false_eq_true, not_true_eq_false, Bool.and_eq_true]
      rw [if_pos (by omega), if_pos (by omega), hb]
      simp only [letH_mk, bindC_mk, bindV_mk, bindH_mk, bindJ_mk, asB_mk, asI_mk, asS_mk, asP_mk, asSl_mk, asA_mk, asTu_mk, asSome_mk, unc_mk, endL_mk, selC_eq, condT_eq, letN_mk, letB_mk, case_nn, case_nr, case_ne, case_rn, case_rr, case_re, case_en, case_er, case_ee, decide_eq_true_eq, Bool.not_true, Bool.not_false, Bool.false_eq_true, if_false, if_true, Bool.not_eq_true', decide_eq_false_iff_not, ilt_eq, ile_eq, reduceCtorEq, not_false_eq_true, not_true_eq_false, ieq_dec, decide_eq_false n48]
    · simp only [letH_mk, bindC_mk, bindV_mk, bindH_mk, bindJ_mk, asB_mk, asI_mk, asS_mk, asP_mk, asSl_mk, asA_mk, asTu_mk, asSome_mk, unc_mk, endL_mk, selC_eq, condT_eq, letN_mk, letB_mk, case_nn, case_nr, case_ne, case_rn, case_rr, case_re, case_en, case_er, case_ee, decide_eq_true_eq, Bool.not_true, Bool.not_false, Bool.false_eq_true, if_false, if_true, Bool.not_eq_true', decide_eq_false_iff_not, ilt_eq, ile_eq, reduceCtorEq, not_false_eq_true, not_true_eq_false]
      rw [if_neg (by omega)]
      simp only [letH_mk, bindC_mk, bindV_mk, bindH_mk, bindJ_mk, asB_mk, asI_mk, asS_mk, asP_mk, asSl_mk, asA_mk, asTu_mk, asSome_mk, unc_mk, endL_mk, selC_eq, condT_eq, letN_mk, letB_mk, case_nn, case_nr, case_ne, case_rn, case_rr, case_re, case_en, case_er, case_ee, decide_eq_true_eq, Bool.not_true, Bool.not_false, Bool.false_eq_true, if_false, if_true, Bool.not_eq_true', decide_eq_false_iff_not, ilt_eq, ile_eq, reduceCtorEq, not_false_eq_true, not_true_eq_false]
  apply ok118
  unfold F118
  simp only [letH_mk]
  rw [hj]
  simp only [letH_mk, bindC_mk, bindV_mk, bindH_mk, bindJ_mk, asB_mk, asI_mk, asS_mk, asP_mk, asSl_mk, asA_mk, asTu_mk, asSome_mk, unc_mk, endL_mk, selC_eq, condT_eq, letN_mk, letB_mk, case_nn, case_nr, case_ne, case_rn, case_rr, case_re, case_en, case_er, case_ee, decide_eq_true_eq, Bool.not_true, Bool.not_false, Bool.false_eq_true, if_false, if_true, Bool.not_eq_true', decide_eq_false_iff_not, ilt_eq, ile_eq, reduceCtorEq, not_false_eq_true, not_true_eq_false]
  rw [show (.int .i64 0 : AV) = .int .i64 ((0 : Nat) : Int) from rfl, lp]
  simp only [letH_mk, bindC_mk, bindV_mk, bindH_mk, bindJ_mk, asB_mk, asI_mk, asS_mk, asP_mk, asSl_mk, asA_mk, asTu_mk, asSome_mk, unc_mk, endL_mk, selC_eq, condT_eq, letN_mk, letB_mk, case_nn, case_nr, case_ne, case_rn, case_rr, case_re, case_en, case_er, case_ee, decide_eq_true_eq, Bool.not_true, Bool.not_false, Bool.false_eq_true, if_false, if_true, Bool.not_eq_true', decide_eq_false_iff_not, ilt_eq, ile_eq, reduceCtorEq, not_false_eq_true, not_true_eq_false, of_len]
  rw [show imin (((dec w).length : Nat) : Int) 18 = (((dec w).length : Nat) : Int) by simp [imin, ilt_eq]; omega, slStrT _ _ _ (Nat.le_refl _), List.take_length]
  simp only [letH_mk, bindC_mk, bindV_mk, bindH_mk, bindJ_mk, asB_mk, asI_mk, asS_mk, asP_mk, asSl_mk, asA_mk, asTu_mk, asSome_mk, unc_mk, endL_mk, selC_eq, condT_eq, letN_mk, letB_mk, case_nn, case_nr, case_ne, case_rn, case_rr, case_re, case_en, case_er, case_ee, decide_eq_true_eq, Bool.not_true, Bool.not_false, Bool.false_eq_true, if_false, if_true, Bool.not_eq_true', decide_eq_false_iff_not, ilt_eq, ile_eq, reduceCtorEq, not_false_eq_true, not_true_eq_false]
  rw [atoi_ok n (by omega) (dec w) d3 (by omega) d1 (lo_ok hH), d2]
  simp only [letH_mk, bindC_mk, bindV_mk, bindH_mk, bindJ_mk, asB_mk, asI_mk, asS_mk, asP_mk, asSl_mk, asA_mk, asTu_mk, asSome_mk, unc_mk, endL_mk, selC_eq, condT_eq, letN_mk, letB_mk, case_nn, case_nr, case_ne, case_rn, case_rr, case_re, case_en, case_er, case_ee, decide_eq_true_eq, Bool.not_true, Bool.not_false, Bool.false_eq_true, if_false, if_true, Bool.not_eq_true', decide_eq_false_iff_not, ilt_eq, ile_eq, reduceCtorEq, not_false_eq_true, not_true_eq_false]
  rw [leave_flat rfl rfl]
/-! The parts of a message's text. -/
theorem splits_app (c : UInt8) : ∀ (a b : List UInt8), a.count c = 0 → splits c (a ++ c :: b) = a :: splits c b
  | [], b, _ => by simp [splits]
  | x :: a, b, h => by
    by_cases e : x = c
    · subst e; simp at h
    · rw [List.count_cons_of_ne e] at h
      show splits c (x :: (a ++ c :: b)) = _
      rw [splits, if_neg e, splits_app c a b h]
theorem count_ne {c : UInt8} {l : List UInt8} (h : ∀ x ∈ l, x ≠ c) : l.count c = 0 := List.count_eq_zero.2 fun hc => h c hc rfl
theorem dec_no (w : Nat) (h : w < 1000) (c : UInt8) (hc : c.toNat < 48 ∨ 57 < c.toNat) : (dec w).count c = 0 := count_ne fun x hx e => by
  have := (dec_facts ⟨w, h⟩).1 x hx
  subst e
  omega
theorem name_no (e : Nat) (h : e < 23) (c : UInt8) (hc : c.toNat < 97) : (nameOf e).count c = 0 := count_ne fun x hx e2 => by
  have := (names_word ⟨e, h⟩).1 x hx
  subst e2
  omega
/-- What stands behind the last colon. -/
def tailT (cd : Nat) (t : List UInt8) : List UInt8 := nameOf cd ++ (if t = [] then [] else [32] ++ t)
theorem noteT_parts {f : List UInt8} {ln co cd : Nat} {t : List UInt8} (h : Msg f ln co cd t) : splits 58 (noteT f ln co cd t) = [f, dec ln, dec co, 32 :: tailT cd t] ∧ (noteT f ln co cd t).count 58 = 3 ∧ (noteT f ln co cd t).length ≤ 60 := by
  obtain ⟨f1, f2, f3, a1, a2, b1, b2, c1, c2, t1, t2⟩ := h
  have e1 : noteT f ln co cd t = f ++ 58 :: (dec ln ++ 58 :: (dec co ++ 58 :: (32 :: tailT cd t))) := by
    simp [noteT, tailT]
  have g1 : f.count 58 = 0 := count_ne fun x hx => (f3 x hx).2.2.1
  have g2 := dec_no ln (by omega) 58 (by decide)
  have g3 := dec_no co (by omega) 58 (by decide)
  have g4 : (32 :: tailT cd t).count 58 = 0 := by
    rw [List.count_cons_of_ne (by decide), tailT, List.count_append, name_no cd (by omega) 58 (by decide)]
    split
    · rfl
    · rw [List.count_append, count_ne fun x hx => (t2 x hx).2.2.1]
      rfl
  have hs : splits 58 (noteT f ln co cd t) = [f, dec ln, dec co, 32 :: tailT cd t] := by
    rw [e1, splits_app _ _ _ g1, splits_app _ _ _ g2, splits_app _ _ _ g3, splits_none _ _ g4]
  refine ⟨hs, ?_, ?_⟩
  · have := splits_len 58 (noteT f ln co cd t)
    rw [hs] at this
    simpa using this.symm
  · have hl1 := dec_len ln
    have hl2 := dec_len co
    have hl3 := (names_word ⟨cd, by omega⟩).2.1
    simp only at hl3
    unfold noteT
    simp only [List.length_append, List.length_cons, List.length_nil]
    split
    · simp; omega
    · simp; omega
theorem cut_tail {cd : Nat} (hcd : 1 ≤ cd ∧ cd ≤ 22) {t : List UInt8} (ht : ∀ x ∈ t, okc x) :
    (if (tailT cd t).count 32 = 0 then AV.tuple [.str (PS.of (tailT cd t)), .str (PS.of []), .bool false] else .tuple [.str (PS.of ((tailT cd t).take (Lib.indexByte (tailT cd t) 32).toNat)), .str (PS.of ((tailT cd t).drop ((Lib.indexByte (tailT cd t) 32).toNat + 1))), .bool true]) = .tuple [.str (PS.of (nameOf cd)), .str (PS.of t), .bool (decide (t ≠ []))] := by
  have hn := name_no cd (by omega) 32 (by decide)
  by_cases h : t = []
  · subst h
    simp [tailT, hn]
  · have hi : ∀ (a b : List UInt8), a.count 32 = 0 → Lib.indexByte (a ++ 32 :: b) 32 = (a.length : Int) := by
      intro a b ha
      induction a with
      | nil => simp [Lib.indexByte]
      | cons x a ih =>
        by_cases e : x = 32
        · subst e; simp at ha
        · rw [List.count_cons_of_ne e] at ha
          simp only [List.cons_append, Lib.indexByte, ih ha]
          simp [e]
    have ht2 : tailT cd t = nameOf cd ++ 32 :: t := by simp [tailT, h]
    have hc : ¬ (tailT cd t).count 32 = 0 := by
      rw [ht2, List.count_append, List.count_cons_self]
      omega
    rw [if_neg hc, ht2, hi _ _ hn, Int.toNat_natCast]
    simp [h]
theorem read_loop (n : Nat) (hn : 80 ≤ n) {f : List UInt8} {ln co cd : Nat} {t : List UInt8} (h : Msg f ln co cd t) {p : Nat} {H : VH} (hH : H.Ok) (hp : H.cell p 0 = some (.str (PS.of f))) (z : AV) (hz : z = .agg [.str (PS.of []), .int .i64 0, .int .i64 0, .int .i64 0, .str (PS.of [])]) :
    ∀ (m e : Nat), 1 ≤ e → e ≤ cd → cd - e < m →
      loopN (L64_0 (vcall T ext promo n) n (some (p, 0)) 4 (ln : Int) (co : Int) (PS.of (nameOf cd)) (PS.of t)) m [.int .i64 (e : Int), z] H = some (.ret, [.int .i64 0, noteV f ln co cd t], H) := by
  intro m
  induction m with
  | zero => intro e _ _ h; omega
  | succ m ih =>
    intro e he1 he2 hm
    have c2 := h.cd2
    rw [loopN_succ]
    generalize loopN (L64_0 (vcall T ext promo n) n (some (p, 0)) 4 (ln : Int) (co : Int) (PS.of (nameOf cd)) (PS.of t)) m = lp at ih ⊢
    unfold L64_0
    have hw := (names_word ⟨e, by omega⟩).2.2 he1
    simp only at hw
    subst hz
    try simp only [letH_mk, bindC_mk, bindV_mk, bindH_mk, bindJ_mk, asB_mk, asI_mk, asS_mk, asP_mk, asSl_mk, asA_mk, asTu_mk, asSome_mk, unc_mk, endL_mk, selC_eq, condT_eq, letN_mk, letB_mk, case_nn, case_nr, case_ne, case_rn, case_rr, case_re, case_en, case_er, case_ee, decide_eq_true_eq, Bool.not_true, Bool.not_false, Bool.false_eq_true, if_false, if_true, Bool.not_eq_true', decide_eq_false_iff_not, ilt_eq, ile_eq, reduceCtorEq, not_false_eq_true, not_true_eq_false]
    rw [name_ok n (by omega) e (by omega) hH]
    simp only [letH_mk, bindC_mk, bindV_mk, bindH_mk, bindJ_mk, asB_mk, asI_mk, asS_mk, asP_mk, asSl_mk, asA_mk, asTu_mk, asSome_mk, unc_mk, endL_mk, selC_eq, condT_eq, letN_mk, letB_mk, case_nn, case_nr, case_ne, case_rn, case_rr, case_re, case_en, case_er, case_ee, decide_eq_true_eq, Bool.not_true, Bool.not_false, Bool.false_eq_true, if_false, if_true, Bool.not_eq_true', decide_eq_false_iff_not, ilt_eq, ile_eq, reduceCtorEq, not_false_eq_true, not_true_eq_false, str_eq, decide_eq_false hw]
    try rw [if_pos (by simp)]
    rw [name_ok n (by omega) e (by omega) hH]
    simp only [letH_mk, bindC_mk, bindV_mk, bindH_mk, bindJ_mk, asB_mk, asI_mk, asS_mk, asP_mk, asSl_mk, asA_mk, asTu_mk, asSome_mk, unc_mk, endL_mk, selC_eq, condT_eq, letN_mk, letB_mk, case_nn, case_nr, case_ne, case_rn, case_rr, case_re, case_en, case_er, case_ee, decide_eq_true_eq, Bool.not_true, Bool.not_false, Bool.false_eq_true, if_false, if_true, Bool.not_eq_true', decide_eq_false_iff_not, ilt_eq, ile_eq, reduceCtorEq, not_false_eq_true, not_true_eq_false, str_eq]
    by_cases hec : e = cd
    · subst hec
      simp only [decide_true, letH_mk, bindC_mk, bindV_mk, bindH_mk, bindJ_mk, asB_mk, asI_mk, asS_mk, asP_mk, asSl_mk, asA_mk, asTu_mk, asSome_mk, unc_mk, endL_mk, selC_eq, condT_eq, letN_mk, letB_mk, case_nn, case_nr, case_ne, case_rn, case_rr, case_re, case_en, case_er, case_ee, decide_eq_true_eq, Bool.not_true, Bool.not_false, Bool.false_eq_true, if_false, if_true, Bool.not_eq_true', decide_eq_false_iff_not, ilt_eq, ile_eq, reduceCtorEq, not_false_eq_true, not_true_eq_false, hp, Bool.and_eq_true]
      rw [if_pos (by decide)]
      try simp only [letH_mk, bindC_mk, bindV_mk, bindH_mk, bindJ_mk, asB_mk, asI_mk, asS_mk, asP_mk, asSl_mk, asA_mk, asTu_mk, asSome_mk, unc_mk, endL_mk, selC_eq, condT_eq, letN_mk, letB_mk, case_nn, case_nr, case_ne, case_rn, case_rr, case_re, case_en, case_er, case_ee, decide_eq_true_eq, Bool.not_true, Bool.not_false, Bool.false_eq_true, if_false, if_true, Bool.not_eq_true', decide_eq_false_iff_not, ilt_eq, ile_eq, reduceCtorEq, not_false_eq_true, not_true_eq_false]
      rw [check_note n (by omega) h hH]
      try simp only [letH_mk, bindC_mk, bindV_mk, bindH_mk, bindJ_mk, asB_mk, asI_mk, asS_mk, asP_mk, asSl_mk, asA_mk, asTu_mk, asSome_mk, unc_mk, endL_mk, selC_eq, condT_eq, letN_mk, letB_mk, case_nn, case_nr, case_ne, case_rn, case_rr, case_re, case_en, case_er, case_ee, decide_eq_true_eq, Bool.not_true, Bool.not_false, Bool.false_eq_true, if_false, if_true, Bool.not_eq_true', decide_eq_false_iff_not, ilt_eq, ile_eq, reduceCtorEq, not_false_eq_true, not_true_eq_false, ieq_dec]
      try rfl
    · have hne : ¬ nameOf e = nameOf cd := fun e2 => hec (by
        have := names_apart ⟨e, by omega⟩ ⟨cd, by omega⟩ e2
        simpa using this)
      simp only [hne, decide_false, letH_mk, bindC_mk, bindV_mk, bindH_mk, bindJ_mk, asB_mk, asI_mk, asS_mk, asP_mk, asSl_mk, asA_mk, asTu_mk, asSome_mk, unc_mk, endL_mk, selC_eq, condT_eq, letN_mk, letB_mk, case_nn, case_nr, case_ne, case_rn, case_rr, case_re, case_en, case_er, case_ee, decide_eq_true_eq, Bool.not_true, Bool.not_false, Bool.false_eq_true, if_false, if_true, Bool.not_eq_true', decide_eq_false_iff_not, ilt_eq, ile_eq, reduceCtorEq, not_false_eq_true, not_true_eq_false]
      rw [fw_i64 (by omega) (by omega)]
      exact ih (e + 1) (by omega) (by omega) (by omega)
theorem noteRead_ok (n : Nat) (hn : 200 ≤ n) {f : List UInt8} {ln co cd : Nat} {t : List UInt8} (h : Msg f ln co cd t) {H : VH} (hH : H.Ok) :
    vcall T ext promo n 64 [.str (PS.of (noteT f ln co cd t))] H = some (.tuple [noteV f ln co cd t, .int .i64 0], H) := by
  obtain ⟨n, rfl⟩ : ∃ m, n = m + 1 := ⟨n - 1, by omega⟩
  have hm := h
  obtain ⟨f1, f2, f3, a1, a2, b1, b2, c1, c2, t1, t2⟩ := h
  obtain ⟨g1, g2, g3⟩ := noteT_parts hm
  obtain ⟨H1, e1, p1, k1⟩ := splitN_ok n (noteT f ln co cd t) (by omega) (by omega) 58 (lo_ok hH)
  rw [g2] at e1
  rw [g1] at p1
  have x0 : H1.cell H.lo.next 0 = some (.str (PS.of f)) := p1.cell 0
  have x1 : H1.cell H.lo.next 1 = some (.str (PS.of (dec ln))) := p1.cell 1
  have x2 : H1.cell H.lo.next 2 = some (.str (PS.of (dec co))) := p1.cell 2
  have x3 : H1.cell H.lo.next 3 = some (.str (PS.of (32 :: tailT cd t))) := p1.cell 3
  have hlow := k1.flat fun _ _ h => h
  have lp := read_loop n (by omega) hm k1.ok x0 _ rfl n 1 (by omega) (by omega) (by omega)
  have htl : (tailT cd t).length ≤ 30 := by
    have hl3 := (names_word ⟨cd, by omega⟩).2.1
    simp only at hl3
    unfold tailT
    simp only [List.length_append]
    split <;> simp <;> omega
  have hcut := cut1_ok n (by omega) (tailT cd t) (by omega) 32 H1
  rw [cut_tail ⟨c1, c2⟩ t2] at hcut
  apply ok64
  unfold F64
  simp only [letH_mk]
  rw [show ((3 + 1 : Nat) : Int) = 4 from rfl] at e1
  rw [e1]
  simp only [letH_mk, bindC_mk, bindV_mk, bindH_mk, bindJ_mk, asB_mk, asI_mk, asS_mk, asP_mk, asSl_mk, asA_mk, asTu_mk, asSome_mk, unc_mk, endL_mk, selC_eq, condT_eq, letN_mk, letB_mk, case_nn, case_nr, case_ne, case_rn, case_rr, case_re, case_en, case_er, case_ee, decide_eq_true_eq, Bool.not_true, Bool.not_false, Bool.false_eq_true, if_false, if_true, Bool.not_eq_true', decide_eq_false_iff_not, ilt_eq, ile_eq, reduceCtorEq, not_false_eq_true, not_true_eq_false, Nat.zero_add, Bool.and_eq_true]
  rw [if_neg (by decide), if_pos (by decide), x3]
  simp only [letH_mk, bindC_mk, bindV_mk, bindH_mk, bindJ_mk, asB_mk, asI_mk, asS_mk, asP_mk, asSl_mk, asA_mk, asTu_mk, asSome_mk, unc_mk, endL_mk, selC_eq, condT_eq, letN_mk, letB_mk, case_nn, case_nr, case_ne, case_rn, case_rr, case_re, case_en, case_er, case_ee, decide_eq_true_eq, Bool.not_true, Bool.not_false, Bool.false_eq_true, if_false, if_true, Bool.not_eq_true', decide_eq_false_iff_not, ilt_eq, ile_eq, reduceCtorEq, not_false_eq_true, not_true_eq_false]
  rw [hasPrefix_ok n (by omega)]
  simp only [letH_mk, bindC_mk, bindV_mk, bindH_mk, bindJ_mk, asB_mk, asI_mk, asS_mk, asP_mk, asSl_mk, asA_mk, asTu_mk, asSome_mk, unc_mk, endL_mk, selC_eq, condT_eq, letN_mk, letB_mk, case_nn, case_nr, case_ne, case_rn, case_rr, case_re, case_en, case_er, case_ee, decide_eq_true_eq, Bool.not_true, Bool.not_false, Bool.false_eq_true, if_false, if_true, Bool.not_eq_true', decide_eq_false_iff_not, ilt_eq, ile_eq, reduceCtorEq, not_false_eq_true, not_true_eq_false]
  have hpre : (32 :: tailT cd t).take [(32 : UInt8)].length = [32] ∧ [(32 : UInt8)].length ≤ (32 :: tailT cd t).length := ⟨rfl, by simp⟩
  rw [if_neg (not_not_intro hpre)]
  rw [if_pos (by decide), x1]
  simp only [letH_mk, bindC_mk, bindV_mk, bindH_mk, bindJ_mk, asB_mk, asI_mk, asS_mk, asP_mk, asSl_mk, asA_mk, asTu_mk, asSome_mk, unc_mk, endL_mk, selC_eq, condT_eq, letN_mk, letB_mk, case_nn, case_nr, case_ne, case_rn, case_rr, case_re, case_en, case_er, case_ee, decide_eq_true_eq, Bool.not_true, Bool.not_false, Bool.false_eq_true, if_false, if_true, Bool.not_eq_true', decide_eq_false_iff_not, ilt_eq, ile_eq, reduceCtorEq, not_false_eq_true, not_true_eq_false]
  rw [number_note n (by omega) ln a1 (by omega) k1.ok]
  simp only [letH_mk, bindC_mk, bindV_mk, bindH_mk, bindJ_mk, asB_mk, asI_mk, asS_mk, asP_mk, asSl_mk, asA_mk, asTu_mk, asSome_mk, unc_mk, endL_mk, selC_eq, condT_eq, letN_mk, letB_mk, case_nn, case_nr, case_ne, case_rn, case_rr, case_re, case_en, case_er, case_ee, decide_eq_true_eq, Bool.not_true, Bool.not_false, Bool.false_eq_true, if_false, if_true, Bool.not_eq_true', decide_eq_false_iff_not, ilt_eq, ile_eq, reduceCtorEq, not_false_eq_true, not_true_eq_false, Bool.and_eq_true]
  rw [if_pos (by decide), x2]
  simp only [letH_mk, bindC_mk, bindV_mk, bindH_mk, bindJ_mk, asB_mk, asI_mk, asS_mk, asP_mk, asSl_mk, asA_mk, asTu_mk, asSome_mk, unc_mk, endL_mk, selC_eq, condT_eq, letN_mk, letB_mk, case_nn, case_nr, case_ne, case_rn, case_rr, case_re, case_en, case_er, case_ee, decide_eq_true_eq, Bool.not_true, Bool.not_false, Bool.false_eq_true, if_false, if_true, Bool.not_eq_true', decide_eq_false_iff_not, ilt_eq, ile_eq, reduceCtorEq, not_false_eq_true, not_true_eq_false]
  rw [number_note n (by omega) co b1 (by omega) k1.ok]
  simp only [letH_mk, bindC_mk, bindV_mk, bindH_mk, bindJ_mk, asB_mk, asI_mk, asS_mk, asP_mk, asSl_mk, asA_mk, asTu_mk, asSome_mk, unc_mk, endL_mk, selC_eq, condT_eq, letN_mk, letB_mk, case_nn, case_nr, case_ne, case_rn, case_rr, case_re, case_en, case_er, case_ee, decide_eq_true_eq, Bool.not_true, Bool.not_false, Bool.false_eq_true, if_false, if_true, Bool.not_eq_true', decide_eq_false_iff_not, ilt_eq, ile_eq, reduceCtorEq, not_false_eq_true, not_true_eq_false, Bool.and_eq_true]
  rw [if_pos (by decide), x3]
  simp only [letH_mk, bindC_mk, bindV_mk, bindH_mk, bindJ_mk, asB_mk, asI_mk, asS_mk, asP_mk, asSl_mk, asA_mk, asTu_mk, asSome_mk, unc_mk, endL_mk, selC_eq, condT_eq, letN_mk, letB_mk, case_nn, case_nr, case_ne, case_rn, case_rr, case_re, case_en, case_er, case_ee, decide_eq_true_eq, Bool.not_true, Bool.not_false, Bool.false_eq_true, if_false, if_true, Bool.not_eq_true', decide_eq_false_iff_not, ilt_eq, ile_eq, reduceCtorEq, not_false_eq_true, not_true_eq_false]
  rw [show (.int .i64 1 : AV) = .int .i64 ((1 : Nat) : Int) from rfl, slStrF _ _ _ (by simp), List.drop_succ_cons, List.drop_zero]
  simp only [letH_mk, bindC_mk, bindV_mk, bindH_mk, bindJ_mk, asB_mk, asI_mk, asS_mk, asP_mk, asSl_mk, asA_mk, asTu_mk, asSome_mk, unc_mk, endL_mk, selC_eq, condT_eq, letN_mk, letB_mk, case_nn, case_nr, case_ne, case_rn, case_rr, case_re, case_en, case_er, case_ee, decide_eq_true_eq, Bool.not_true, Bool.not_false, Bool.false_eq_true, if_false, if_true, Bool.not_eq_true', decide_eq_false_iff_not, ilt_eq, ile_eq, reduceCtorEq, not_false_eq_true, not_true_eq_false]
  rw [hcut]
  simp only [letH_mk, bindC_mk, bindV_mk, bindH_mk, bindJ_mk, asB_mk, asI_mk, asS_mk, asP_mk, asSl_mk, asA_mk, asTu_mk, asSome_mk, unc_mk, endL_mk, selC_eq, condT_eq, letN_mk, letB_mk, case_nn, case_nr, case_ne, case_rn, case_rr, case_re, case_en, case_er, case_ee, decide_eq_true_eq, Bool.not_true, Bool.not_false, Bool.false_eq_true, if_false, if_true, Bool.not_eq_true', decide_eq_false_iff_not, ilt_eq, ile_eq, reduceCtorEq, not_false_eq_true, not_true_eq_false]
  by_cases ht : t = []
  · subst ht
    simp only [ne_eq, not_true_eq_false, decide_false, letH_mk, bindC_mk, bindV_mk, bindH_mk, bindJ_mk, asB_mk, asI_mk, asS_mk, asP_mk, asSl_mk, asA_mk, asTu_mk, asSome_mk, unc_mk, endL_mk, selC_eq, condT_eq, letN_mk, letB_mk, case_nn, case_nr, case_ne, case_rn, case_rr, case_re, case_en, case_er, case_ee, decide_eq_true_eq, Bool.not_true, Bool.not_false, Bool.false_eq_true, if_false, if_true, Bool.not_eq_true', decide_eq_false_iff_not, ilt_eq, ile_eq, reduceCtorEq, not_false_eq_true, not_true_eq_false]
    rw [lp]
    simp only [letH_mk, bindC_mk, bindV_mk, bindH_mk, bindJ_mk, asB_mk, asI_mk, asS_mk, asP_mk, asSl_mk, asA_mk, asTu_mk, asSome_mk, unc_mk, endL_mk, selC_eq, condT_eq, letN_mk, letB_mk, case_nn, case_nr, case_ne, case_rn, case_rr, case_re, case_en, case_er, case_ee, decide_eq_true_eq, Bool.not_true, Bool.not_false, Bool.false_eq_true, if_false, if_true, Bool.not_eq_true', decide_eq_false_iff_not, ilt_eq, ile_eq, reduceCtorEq, not_false_eq_true, not_true_eq_false]
    rw [leave_flat hlow rfl]
  · simp only [ne_eq, ht, not_false_eq_true, decide_true, letH_mk, bindC_mk, bindV_mk, bindH_mk, bindJ_mk, asB_mk, asI_mk, asS_mk, asP_mk, asSl_mk, asA_mk, asTu_mk, asSome_mk, unc_mk, endL_mk, selC_eq, condT_eq, letN_mk, letB_mk, case_nn, case_nr, case_ne, case_rn, case_rr, case_re, case_en, case_er, case_ee, decide_eq_true_eq, Bool.not_true, Bool.not_false, Bool.false_eq_true, if_false, if_true, Bool.not_eq_true', decide_eq_false_iff_not, ilt_eq, ile_eq, reduceCtorEq, not_false_eq_true, not_true_eq_false, str_eq, decide_false]
    rw [lp]
    simp only [letH_mk, bindC_mk, bindV_mk, bindH_mk, bindJ_mk, asB_mk, asI_mk, asS_mk, asP_mk, asSl_mk, asA_mk, asTu_mk, asSome_mk, unc_mk, endL_mk, selC_eq, condT_eq, letN_mk, letB_mk, case_nn, case_nr, case_ne, case_rn, case_rr, case_re, case_en, case_er, case_ee, decide_eq_true_eq, Bool.not_true, Bool.not_false, Bool.false_eq_true, if_false, if_true, Bool.not_eq_true', decide_eq_false_iff_not, ilt_eq, ile_eq, reduceCtorEq, not_false_eq_true, not_true_eq_false]
    rw [leave_flat hlow rfl]
theorem note_eq (f : List UInt8) (ln co cd : Nat) (t : List UInt8) : vbinOp T .eql 66 (noteV f ln co cd t) (noteV f ln co cd t) = some (.bool true) := by
  have key : ∀ (a e : PS) (b c d : Int), vbinOp T .eql 66 (.agg [.str a, .int .i64 b, .int .i64 c, .int .i64 d, .str e]) (.agg [.str a, .int .i64 b, .int .i64 c, .int .i64 d, .str e]) =
      (match (some (a.eq a) : Option Bool) with
        | some true => (match (if kindEq .i64 .i64 then some (ieq b b) else none : Option Bool) with
          | some true => (match (if kindEq .i64 .i64 then some (ieq c c) else none : Option Bool) with
            | some true => (match (if kindEq .i64 .i64 then some (ieq d d) else none : Option Bool) with
              | some true => (match (some (e.eq e) : Option Bool) with
                | some true => some true
                | r => r)
              | r => r)
            | r => r)
          | r => r)
        | r => r).map .bool := by
    intro a e b c d
    kernel_rfl
  rw [key]
  simp [str_eq, kindEq, ieq_dec]
theorem noteReread_vm (n : Nat) (hn : 1000 ≤ n) {H : VH} (hH : H.Ok) (hp : Pows H) (a : Option (Nat × Nat)) (l : Nat) (c : Option Nat) (e : Nat) (hN : Nums H H.next a l) :
    ∃ H', vcall T ext promo n 13 [.slice a l c e] H = some (.bool true, H') := by
  obtain ⟨n, rfl⟩ : ∃ m, n = m + 1 := ⟨n - 1, by omega⟩
  obtain ⟨o2, s2⟩ := start hH c e hN
  have q2 := hp.lo.keep (lo_ok hH) (Keep.fresh (fun _ => False) H.lo [.slice a l c e, .int .i64 0]) (fun h => h)
  generalize hH2 : H.lo.fresh [.slice a l c e, .int .i64 0] = H2 at o2 s2 q2
  obtain ⟨f, ln, co, cd, t, H3, e3, hm, d3⟩ := message_ok n (by omega) o2 s2 (by omega)
  have q3 := q2.keep o2 d3.keep (fun e => by have := hp.1; omega)
  refine ⟨_, ok13 _ _ _ _ _ _ (r := (.bool true, leave H H3 (.bool true))) ?_⟩
  unfold F13
  simp only [letH_mk, lo_next]
  rw [hH2, e3]
  simp only [letH_mk, bindC_mk, bindV_mk, bindH_mk, bindJ_mk, asB_mk, asI_mk, asS_mk, asP_mk, asSl_mk, asA_mk, asTu_mk, asSome_mk, unc_mk, endL_mk, selC_eq, condT_eq, letN_mk, letB_mk, case_nn, case_nr, case_ne, case_rn, case_rr, case_re, case_en, case_er, case_ee, decide_eq_true_eq, Bool.not_true, Bool.not_false, Bool.false_eq_true, if_false, if_true, Bool.not_eq_true', decide_eq_false_iff_not, ilt_eq, ile_eq, reduceCtorEq, not_false_eq_true, not_true_eq_false]
  rw [noteText_ok n (by omega) hm d3.ok q3]
  simp only [letH_mk, bindC_mk, bindV_mk, bindH_mk, bindJ_mk, asB_mk, asI_mk, asS_mk, asP_mk, asSl_mk, asA_mk, asTu_mk, asSome_mk, unc_mk, endL_mk, selC_eq, condT_eq, letN_mk, letB_mk, case_nn, case_nr, case_ne, case_rn, case_rr, case_re, case_en, case_er, case_ee, decide_eq_true_eq, Bool.not_true, Bool.not_false, Bool.false_eq_true, if_false, if_true, Bool.not_eq_true', decide_eq_false_iff_not, ilt_eq, ile_eq, reduceCtorEq, not_false_eq_true, not_true_eq_false]
  rw [noteRead_ok n (by omega) hm d3.ok]
  simp only [letH_mk, bindC_mk, bindV_mk, bindH_mk, bindJ_mk, asB_mk, asI_mk, asS_mk, asP_mk, asSl_mk, asA_mk, asTu_mk, asSome_mk, unc_mk, endL_mk, selC_eq, condT_eq, letN_mk, letB_mk, case_nn, case_nr, case_ne, case_rn, case_rr, case_re, case_en, case_er, case_ee, decide_eq_true_eq, Bool.not_true, Bool.not_false, Bool.false_eq_true, if_false, if_true, Bool.not_eq_true', decide_eq_false_iff_not, ilt_eq, ile_eq, reduceCtorEq, not_false_eq_true, not_true_eq_false]
  rw [placed_ok n (by omega)]
  simp only [letH_mk, bindC_mk, bindV_mk, bindH_mk, bindJ_mk, asB_mk, asI_mk, asS_mk, asP_mk, asSl_mk, asA_mk, asTu_mk, asSome_mk, unc_mk, endL_mk, selC_eq, condT_eq, letN_mk, letB_mk, case_nn, case_nr, case_ne, case_rn, case_rr, case_re, case_en, case_er, case_ee, decide_eq_true_eq, Bool.not_true, Bool.not_false, Bool.false_eq_true, if_false, if_true, Bool.not_eq_true', decide_eq_false_iff_not, ilt_eq, ile_eq, reduceCtorEq, not_false_eq_true, not_true_eq_false, ieq_dec]
  try simp only [decide_true, letH_mk, bindC_mk, bindV_mk, bindH_mk, bindJ_mk, asB_mk, asI_mk, asS_mk, asP_mk, asSl_mk, asA_mk, asTu_mk, asSome_mk, unc_mk, endL_mk, selC_eq, condT_eq, letN_mk, letB_mk, case_nn, case_nr, case_ne, case_rn, case_rr, case_re, case_en, case_er, case_ee, decide_eq_true_eq, Bool.not_true, Bool.not_false, Bool.false_eq_true, if_false, if_true, Bool.not_eq_true', decide_eq_false_iff_not, ilt_eq, ile_eq, reduceCtorEq, not_false_eq_true, not_true_eq_false]
  rw [note_eq]
  simp only [letH_mk, bindC_mk, bindV_mk, bindH_mk, bindJ_mk, asB_mk, asI_mk, asS_mk, asP_mk, asSl_mk, asA_mk, asTu_mk, asSome_mk, unc_mk, endL_mk, selC_eq, condT_eq, letN_mk, letB_mk, case_nn, case_nr, case_ne, case_rn, case_rr, case_re, case_en, case_er, case_ee, decide_eq_true_eq, Bool.not_true, Bool.not_false, Bool.false_eq_true, if_false, if_true, Bool.not_eq_true', decide_eq_false_iff_not, ilt_eq, ile_eq, reduceCtorEq, not_false_eq_true, not_true_eq_false]
  rw [check_note n (by omega) hm d3.ok]
  simp only [letH_mk, bindC_mk, bindV_mk, bindH_mk, bindJ_mk, asB_mk, asI_mk, asS_mk, asP_mk, asSl_mk, asA_mk, asTu_mk, asSome_mk, unc_mk, endL_mk, selC_eq, condT_eq, letN_mk, letB_mk, case_nn, case_nr, case_ne, case_rn, case_rr, case_re, case_en, case_er, case_ee, decide_eq_true_eq, Bool.not_true, Bool.not_false, Bool.false_eq_true, if_false, if_true, Bool.not_eq_true', decide_eq_false_iff_not, ilt_eq, ile_eq, reduceCtorEq, not_false_eq_true, not_true_eq_false, ieq_dec, decide_true]
end Go.Vm.Tryd
