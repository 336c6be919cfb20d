/- The library's functions on strings, for a pattern of one byte: what they answer. -/
import Derived.Test.YtieocmaaloaoaaaDoorFn
import Derived.Test.YtieocmaaloaoaaaDoorSm
import Derived.Test.YtieocmaaloaoaaaDoorVmStr
namespace Go.Vm.Tryd
set_option linter.unusedSectionVars false
set_option linter.unusedSimpArgs false
set_option linter.unusedVariables false
set_option maxRecDepth 10000
theorem one_byte (c : UInt8) : (PS.of [c]).byte 0 = c.toNat := PS.byte_of [c] 0 (by simp)
theorem u8_nat (c : UInt8) : ((c.toNat : Int)).toNat % 256 = c.toNat := by
  rw [Int.toNat_natCast]
  exact Nat.mod_eq_of_lt c.toNat_lt
theorem undStr : T.und 9 = some .string := by kernel_rfl
theorem slStr (H : VH) (l : List UInt8) (a b : Nat) (h1 : a ≤ b) (h2 : b ≤ l.length) : vslice T H 9 (.v (.str (PS.of l))) (some (.int .i64 (a : Int))) (some (.int .i64 (b : Int))) = some (.str (PS.of ((l.drop a).take (b - a)))) := by
  unfold vslice
  rw [undStr]
  exact str_slice l a b h1 h2
theorem slStrF (H : VH) (l : List UInt8) (a : Nat) (h1 : a ≤ l.length) : vslice T H 9 (.v (.str (PS.of l))) (some (.int .i64 (a : Int))) none = some (.str (PS.of (l.drop a))) := by
  unfold vslice
  rw [undStr]
  exact str_from l a h1
theorem slStrT (H : VH) (l : List UInt8) (b : Nat) (h2 : b ≤ l.length) : vslice T H 9 (.v (.str (PS.of l))) none (some (.int .i64 (b : Int))) = some (.str (PS.of (l.take b))) := by
  unfold vslice
  rw [undStr]
  exact str_to l b h2
theorem countString_ok (n : Nat) (hn : 1 ≤ n) (l : List UInt8) (c : UInt8) (H : VH) : vcall T ext promo n 125 [.str (PS.of l), .int .u8 (c.toNat : Int)] H = some (.int .i64 ((l.count c : Nat) : Int), H) := by
  obtain ⟨n, rfl⟩ : ∃ m, n = m + 1 := ⟨n - 1, by omega⟩
  refine call_ext (g := xCount) rfl ?_
  simp only [xCount, PS.bytes_of, u8_nat, count_of]
theorem indexByteString_ok (n : Nat) (hn : 1 ≤ n) (l : List UInt8) (c : UInt8) (H : VH) : vcall T ext promo n 186 [.str (PS.of l), .int .u8 (c.toNat : Int)] H = some (.int .i64 (Lib.indexByte l c), H) := by
  obtain ⟨n, rfl⟩ : ∃ m, n = m + 1 := ⟨n - 1, by omega⟩
  refine call_ext (g := xIndexByte) rfl ?_
  simp only [xIndexByte, PS.bytes_of, u8_nat, idxN_of]
theorem indexByte_ok (n : Nat) (hn : 2 ≤ n) (l : List UInt8) (c : UInt8) (H : VH) : vcall T ext promo n 162 [.str (PS.of l), .int .u8 (c.toNat : Int)] H = some (.int .i64 (Lib.indexByte l c), H) := by
  obtain ⟨n, rfl⟩ : ∃ m, n = m + 1 := ⟨n - 1, by omega⟩
  apply ok162
  unfold F162
  simp only [letH_mk]
  rw [indexByteString_ok n (by omega)]
  simp only [letH_mk, bindC_mk, bindV_mk, bindH_mk, bindJ_mk, asB_mk, asI_mk, asS_mk, asP_mk, asSl_mk, asA_mk, asTu_mk, asSome_mk, unc_mk, endL_mk, selC_eq, condT_eq, letN_mk, letB_mk, case_nn, case_nr, case_ne, case_rn, case_rr, case_re, case_en, case_er, case_ee, decide_eq_true_eq, Bool.not_true, Bool.not_false, Bool.false_eq_true, if_false, if_true, Bool.not_eq_true', decide_eq_false_iff_not, ilt_eq, ile_eq, reduceCtorEq, not_false_eq_true, not_true_eq_false]
  rw [leave_flat rfl rfl]
theorem count1_ok (n : Nat) (hn : 2 ≤ n) (l : List UInt8) (c : UInt8) (H : VH) : vcall T ext promo n 68 [.str (PS.of l), .str (PS.of [c])] H = some (.int .i64 ((l.count c : Nat) : Int), H) := by
  obtain ⟨n, rfl⟩ : ∃ m, n = m + 1 := ⟨n - 1, by omega⟩
  apply ok68
  unfold F68
  simp only [letH_mk, bindC_mk, bindV_mk, bindH_mk, bindJ_mk, asB_mk, asI_mk, asS_mk, asP_mk, asSl_mk, asA_mk, asTu_mk, asSome_mk, unc_mk, endL_mk, selC_eq, condT_eq, letN_mk, letB_mk, case_nn, case_nr, case_ne, case_rn, case_rr, case_re, case_en, case_er, case_ee, decide_eq_true_eq, Bool.not_true, Bool.not_false, Bool.false_eq_true, if_false, if_true, Bool.not_eq_true', decide_eq_false_iff_not, ilt_eq, ile_eq, reduceCtorEq, not_false_eq_true, not_true_eq_false, of_len, List.length_singleton, ieq_dec, show ((1 : Nat) : Int) = 1 from rfl, Int.one_ne_zero, decide_false, decide_true, Bool.and_eq_true, Int.toNat_zero, one_byte]
  rw [if_pos (by decide), countString_ok n (by omega)]
  simp only [letH_mk, bindC_mk, bindV_mk, bindH_mk, bindJ_mk, asB_mk, asI_mk, asS_mk, asP_mk, asSl_mk, asA_mk, asTu_mk, asSome_mk, unc_mk, endL_mk, selC_eq, condT_eq, letN_mk, letB_mk, case_nn, case_nr, case_ne, case_rn, case_rr, case_re, case_en, case_er, case_ee, decide_eq_true_eq, Bool.not_true, Bool.not_false, Bool.false_eq_true, if_false, if_true, Bool.not_eq_true', decide_eq_false_iff_not, ilt_eq, ile_eq, reduceCtorEq, not_false_eq_true, not_true_eq_false]
  rw [leave_flat rfl rfl]
theorem index1_ok (n : Nat) (hn : 10 ≤ n) (l : List UInt8) (c : UInt8) (H : VH) : vcall T ext promo n 123 [.str (PS.of l), .str (PS.of [c])] H = some (.int .i64 (Lib.indexByte l c), H) := by
  obtain ⟨n, rfl⟩ : ∃ m, n = m + 2 := ⟨n - 2, by omega⟩
  have e : ∀ H, vcall T ext promo (n + 1) 154 [.str (PS.of l), .str (PS.of [c])] H = some (.int .i64 (Lib.indexByte l c), H) := by
    intro H
    apply ok154
    unfold F154
    simp only [letH_mk, bindC_mk, bindV_mk, bindH_mk, bindJ_mk, asB_mk, asI_mk, asS_mk, asP_mk, asSl_mk, asA_mk, asTu_mk, asSome_mk, unc_mk, endL_mk, selC_eq, condT_eq, letN_mk, letB_mk, case_nn, case_nr, case_ne, case_rn, case_rr, case_re, case_en, case_er, case_ee, decide_eq_true_eq, Bool.not_true, Bool.not_false, Bool.false_eq_true, if_false, if_true, Bool.not_eq_true', decide_eq_false_iff_not, ilt_eq, ile_eq, reduceCtorEq, not_false_eq_true, not_true_eq_false, of_len, List.length_singleton, ieq_dec, show ((1 : Nat) : Int) = 1 from rfl, Int.one_ne_zero, decide_false, decide_true, Bool.and_eq_true, Int.toNat_zero, one_byte, str_eq]
    by_cases h : [c] = l
    · simp only [h, letH_mk, bindC_mk, bindV_mk, bindH_mk, bindJ_mk, asB_mk, asI_mk, asS_mk, asP_mk, asSl_mk, asA_mk, asTu_mk, asSome_mk, unc_mk, endL_mk, selC_eq, condT_eq, letN_mk, letB_mk, case_nn, case_nr, case_ne, case_rn, case_rr, case_re, case_en, case_er, case_ee, decide_eq_true_eq, Bool.not_true, Bool.not_false, Bool.false_eq_true, if_false, if_true, Bool.not_eq_true', decide_eq_false_iff_not, ilt_eq, ile_eq, reduceCtorEq, not_false_eq_true, not_true_eq_false, decide_true]
      subst h
      rw [leave_flat rfl rfl]
      simp [Lib.indexByte]
    · simp only [h, letH_mk, bindC_mk, bindV_mk, bindH_mk, bindJ_mk, asB_mk, asI_mk, asS_mk, asP_mk, asSl_mk, asA_mk, asTu_mk, asSome_mk, unc_mk, endL_mk, selC_eq, condT_eq, letN_mk, letB_mk, case_nn, case_nr, case_ne, case_rn, case_rr, case_re, case_en, case_er, case_ee, decide_eq_true_eq, Bool.not_true, Bool.not_false, Bool.false_eq_true, if_false, if_true, Bool.not_eq_true', decide_eq_false_iff_not, ilt_eq, ile_eq, reduceCtorEq, not_false_eq_true, not_true_eq_false, decide_false]
      rw [if_pos (by decide), indexByte_ok n (by omega)]
      simp only [letH_mk, bindC_mk, bindV_mk, bindH_mk, bindJ_mk, asB_mk, asI_mk, asS_mk, asP_mk, asSl_mk, asA_mk, asTu_mk, asSome_mk, unc_mk, endL_mk, selC_eq, condT_eq, letN_mk, letB_mk, case_nn, case_nr, case_ne, case_rn, case_rr, case_re, case_en, case_er, case_ee, decide_eq_true_eq, Bool.not_true, Bool.not_false, Bool.false_eq_true, if_false, if_true, Bool.not_eq_true', decide_eq_false_iff_not, ilt_eq, ile_eq, reduceCtorEq, not_false_eq_true, not_true_eq_false]
      rw [leave_flat rfl rfl]
  apply ok123
  unfold F123
  simp only [letH_mk]
  rw [e]
  simp only [letH_mk, bindC_mk, bindV_mk, bindH_mk, bindJ_mk, asB_mk, asI_mk, asS_mk, asP_mk, asSl_mk, asA_mk, asTu_mk, asSome_mk, unc_mk, endL_mk, selC_eq, condT_eq, letN_mk, letB_mk, case_nn, case_nr, case_ne, case_rn, case_rr, case_re, case_en, case_er, case_ee, decide_eq_true_eq, Bool.not_true, Bool.not_false, Bool.false_eq_true, if_false, if_true, Bool.not_eq_true', decide_eq_false_iff_not, ilt_eq, ile_eq, reduceCtorEq, not_false_eq_true, not_true_eq_false]
  rw [leave_flat rfl rfl]
/-- The last place of a byte. -/
def lastL (c : UInt8) : List UInt8 → Int
  | [] => -1
  | b :: l => if 0 ≤ lastL c l then lastL c l + 1 else if b = c then 0 else -1
theorem lastL_range (c : UInt8) : ∀ l : List UInt8, -1 ≤ lastL c l ∧ lastL c l < l.length
  | [] => by simp [lastL]
  | b :: l => by
    have := lastL_range c l
    unfold lastL
    simp only [List.length_cons]
    split
    · omega
    · split <;> omega
theorem lastL_step (c : UInt8) : ∀ (l : List UInt8) (k : Nat) (hk : k < l.length), lastL c (l.take (k + 1)) = if l[k] = c then (k : Int) else lastL c (l.take k)
  | b :: l, 0, _ => by simp [lastL]
  | b :: l, k + 1, hk => by
    have hk' : k < l.length := by simpa using hk
    have ih := lastL_step c l k hk'
    rw [List.take_succ_cons, List.take_succ_cons]
    simp only [lastL, ih, List.getElem_cons_succ]
    by_cases h : l[k] = c
    · simp only [h, if_true]
      rw [if_pos (by omega)]
      omega
    · simp only [h, if_false]
theorem last_loop (n : Nat) (l : List UInt8) (c : UInt8) (H : VH) (hl : l.length < 9223372036854775808) : ∀ (m k : Nat), k ≤ l.length → k < m →
    loopN (L126_0 (vcall T ext promo n) n (PS.of l) (c.toNat : Int)) m [.int .i64 ((k : Int) - 1)] H = if 0 ≤ lastL c (l.take k) then some (.ret, [.int .i64 (lastL c (l.take k))], H) else some (.exit 0, [], H) := by
  intro m
  induction m with
  | zero => intro k _ h; omega
  | succ m ih =>
    intro k hk hm
    rw [loopN_succ]
    generalize loopN (L126_0 (vcall T ext promo n) n (PS.of l) (c.toNat : Int)) m = lp at ih ⊢
    unfold L126_0
    cases k with
    | zero =>
      simp only [letH_mk, bindC_mk, bindV_mk, bindH_mk, bindJ_mk, asB_mk, asI_mk, asS_mk, asP_mk, asSl_mk, asA_mk, asTu_mk, asSome_mk, unc_mk, endL_mk, selC_eq, condT_eq, letN_mk, letB_mk, case_nn, case_nr, case_ne, case_rn, case_rr, case_re, case_en, case_er, case_ee, decide_eq_true_eq, Bool.not_true, Bool.not_false, Bool.false_eq_true, if_false, if_true, Bool.not_eq_true', decide_eq_false_iff_not, ilt_eq, ile_eq, reduceCtorEq, not_false_eq_true, not_true_eq_false]
      rw [if_neg (by omega)]
      simp [lastL]
    | succ k =>
      have hk' : k < l.length := by omega
      simp only [letH_mk, bindC_mk, bindV_mk, bindH_mk, bindJ_mk, asB_mk, asI_mk, asS_mk, asP_mk, asSl_mk, asA_mk, asTu_mk, asSome_mk, unc_mk, endL_mk, selC_eq, condT_eq, letN_mk, letB_mk, case_nn, case_nr, case_ne, case_rn, case_rr, case_re, case_en, case_er, case_ee, decide_eq_true_eq, Bool.not_true, Bool.not_false, Bool.false_eq_true, if_false, if_true, Bool.not_eq_true', decide_eq_false_iff_not, ilt_eq, ile_eq, reduceCtorEq, not_false_eq_true, not_true_eq_false, of_len, Bool.and_eq_true, ieq_dec]
      rw [show ((k + 1 : Nat) : Int) - 1 = (k : Int) by omega, if_pos (by omega), if_pos (by omega), byte_int l k hk', lastL_step c l k hk']
      by_cases h : l[k] = c
      · rw [if_pos (by rw [h]), if_pos h, if_pos (by omega)]
      · rw [if_neg (fun e => h (UInt8.toNat_inj.1 (Int.ofNat_inj.1 e))), if_neg h, fw_i64 (by omega) (by omega), ih k (by omega) (by omega)]
theorem lastIndex1_ok (n : Nat) (l : List UInt8) (hn : l.length + 10 ≤ n) (hl : l.length < 9223372036854775808) (c : UInt8) (H : VH) : vcall T ext promo n 69 [.str (PS.of l), .str (PS.of [c])] H = some (.int .i64 (lastL c l), H) := by
  obtain ⟨n, rfl⟩ : ∃ m, n = m + 2 := ⟨n - 2, by omega⟩
  have e : ∀ H, vcall T ext promo (n + 1) 126 [.str (PS.of l), .int .u8 (c.toNat : Int)] H = some (.int .i64 (lastL c l), H) := by
    intro H
    apply ok126
    unfold F126
    simp only [letH_mk, bindC_mk, bindV_mk, bindH_mk, bindJ_mk, asB_mk, asI_mk, asS_mk, asP_mk, asSl_mk, asA_mk, asTu_mk, asSome_mk, unc_mk, endL_mk, selC_eq, condT_eq, letN_mk, letB_mk, case_nn, case_nr, case_ne, case_rn, case_rr, case_re, case_en, case_er, case_ee, decide_eq_true_eq, Bool.not_true, Bool.not_false, Bool.false_eq_true, if_false, if_true, Bool.not_eq_true', decide_eq_false_iff_not, ilt_eq, ile_eq, reduceCtorEq, not_false_eq_true, not_true_eq_false, of_len]
    rw [fw_i64 (by omega) (by omega), last_loop n l c H.lo hl n l.length (Nat.le_refl _) (by omega), List.take_length]
    by_cases h : 0 ≤ lastL c l
    · rw [if_pos h]
      simp only [letH_mk, bindC_mk, bindV_mk, bindH_mk, bindJ_mk, asB_mk, asI_mk, asS_mk, asP_mk, asSl_mk, asA_mk, asTu_mk, asSome_mk, unc_mk, endL_mk, selC_eq, condT_eq, letN_mk, letB_mk, case_nn, case_nr, case_ne, case_rn, case_rr, case_re, case_en, case_er, case_ee, decide_eq_true_eq, Bool.not_true, Bool.not_false, Bool.false_eq_true, if_false, if_true, Bool.not_eq_true', decide_eq_false_iff_not, ilt_eq, ile_eq, reduceCtorEq, not_false_eq_true, not_true_eq_false]
      rw [leave_flat rfl rfl]
    · rw [if_neg h]
      simp only [letH_mk, bindC_mk, bindV_mk, bindH_mk, bindJ_mk, asB_mk, asI_mk, asS_mk, asP_mk, asSl_mk, asA_mk, asTu_mk, asSome_mk, unc_mk, endL_mk, selC_eq, condT_eq, letN_mk, letB_mk, case_nn, case_nr, case_ne, case_rn, case_rr, case_re, case_en, case_er, case_ee, decide_eq_true_eq, Bool.not_true, Bool.not_false, Bool.false_eq_true, if_false, if_true, Bool.not_eq_true', decide_eq_false_iff_not, ilt_eq, ile_eq, reduceCtorEq, not_false_eq_true, not_true_eq_false]
      rw [leave_flat rfl rfl]
      have := lastL_range c l
      rw [show lastL c l = -1 by omega]
  apply ok69
  unfold F69
  simp only [letH_mk, bindC_mk, bindV_mk, bindH_mk, bindJ_mk, asB_mk, asI_mk, asS_mk, asP_mk, asSl_mk, asA_mk, asTu_mk, asSome_mk, unc_mk, endL_mk, selC_eq, condT_eq, letN_mk, letB_mk, case_nn, case_nr, case_ne, case_rn, case_rr, case_re, case_en, case_er, case_ee, decide_eq_true_eq, Bool.not_true, Bool.not_false, Bool.false_eq_true, if_false, if_true, Bool.not_eq_true', decide_eq_false_iff_not, ilt_eq, ile_eq, reduceCtorEq, not_false_eq_true, not_true_eq_false, of_len, List.length_singleton, ieq_dec, show ((1 : Nat) : Int) = 1 from rfl, Int.one_ne_zero, decide_false, decide_true, Bool.and_eq_true, Int.toNat_zero, one_byte]
  rw [if_pos (by decide), e]
  simp only [letH_mk, bindC_mk, bindV_mk, bindH_mk, bindJ_mk, asB_mk, asI_mk, asS_mk, asP_mk, asSl_mk, asA_mk, asTu_mk, asSome_mk, unc_mk, endL_mk, selC_eq, condT_eq, letN_mk, letB_mk, case_nn, case_nr, case_ne, case_rn, case_rr, case_re, case_en, case_er, case_ee, decide_eq_true_eq, Bool.not_true, Bool.not_false, Bool.false_eq_true, if_false, if_true, Bool.not_eq_true', decide_eq_false_iff_not, ilt_eq, ile_eq, reduceCtorEq, not_false_eq_true, not_true_eq_false]
  rw [leave_flat rfl rfl]

/-- The parts of a text between the bytes c. -/
def splits (c : UInt8) : List UInt8 → List (List UInt8)
  | [] => [[]]
  | b :: l => if b = c then [] :: splits c l else match splits c l with
    | x :: xs => (b :: x) :: xs
    | [] => [[b]]
theorem splits_len (c : UInt8) : ∀ l, (splits c l).length = l.count c + 1
  | [] => rfl
  | b :: l => by
    have := splits_len c l
    unfold splits
    by_cases h : b = c
    · subst h
      simp [this]
    · rw [if_neg h, List.count_cons_of_ne h]
      split
      · rename_i x xs e
        rw [e] at this
        simpa using this
      · rename_i e
        rw [e] at this
        simp at this
theorem splits_none (c : UInt8) : ∀ l : List UInt8, l.count c = 0 → splits c l = [l]
  | [], _ => rfl
  | b :: l, h => by
    by_cases e : b = c
    · subst e; simp at h
    · rw [List.count_cons_of_ne e] at h
      unfold splits
      rw [if_neg e, splits_none c l h]
theorem index_none (c : UInt8) : ∀ l : List UInt8, l.count c = 0 → Lib.indexByte l c = -1
  | [], _ => rfl
  | b :: l, h => by
    by_cases e : b = c
    · subst e; simp at h
    · rw [List.count_cons_of_ne e] at h
      unfold Lib.indexByte
      simp [e, index_none c l h]
theorem splits_some (c : UInt8) : ∀ l : List UInt8, 0 < l.count c → ∃ m : Nat, Lib.indexByte l c = (m : Int) ∧ m < l.length ∧ splits c l = l.take m :: splits c (l.drop (m + 1))
  | [], h => by simp at h
  | b :: l, h => by
    by_cases e : b = c
    · subst e
      exact ⟨0, by simp [Lib.indexByte], by simp, by simp [splits]⟩
    · rw [List.count_cons_of_ne e] at h
      obtain ⟨m, h1, h2, h3⟩ := splits_some c l h
      refine ⟨m + 1, ?_, by simpa using h2, ?_⟩
      · unfold Lib.indexByte
        rw [h1]
        simp [e]
      · conv => lhs; unfold splits
        rw [if_neg e, h3]
        simp
theorem vmakeStr (H : VH) (k : Nat) (hk : k ≤ 1000000) : vmakeSlice T H 27 (.int .i64 (k : Int)) (.int .i64 (k : Int)) = some (.slice (some (H.next, 0)) k (some k) 1, H.fresh (repl [.str (PS.of [])] k)) := by
  unfold vmakeSlice
  rw [show T.und 27 = some (.slice 9) by kernel_rfl]
  obtain ⟨i, h1, h2, h3⟩ : ∃ i, T.info 9 = some i ∧ i.bytes = 16 ∧ i.size = 1 := ⟨Go.Proofs.Tryd.t9, by kernel_rfl, by kernel_rfl, by kernel_rfl⟩
  have hz : zeroOf T 9 = some (.str (PS.of [])) := by kernel_rfl
  simp only [h1, h2, h3, hz, Int.toNat_natCast, AV.cells]
  have : (ile 0 (k : Int) && ile (k : Int) (k : Int) && ile (k : Int) 16777216 && Nat.ble (16 * k) 281474976710656 && Nat.blt 0 1 && Nat.beq [AV.str (PS.of [])].length 1 && allOne [AV.str (PS.of [])]) = true := by
    simp [ile_eq, allOne, AV.one]
    omega
  rw [this]
theorem repl_len (z : List AV) : ∀ k, (repl z k).length = k * z.length
  | 0 => by simp [repl]
  | k + 1 => by simp only [repl, List.length_append, repl_len z k, Nat.succ_mul]; omega
def strCells (ls : List (List UInt8)) : List AV := ls.map fun l => AV.str (PS.of l)
theorem split_loop (n : Nat) (hn : 20 ≤ n) (c : UInt8) (all : List (List UInt8)) (p : Nat) (hk : all.length < 1000000) :
    ∀ (m i : Nat) (l : List UInt8) (H : VH) (cs : List AV), splits c l = all.drop i → i + 1 ≤ all.length → all.length - i < m → l.length < 1000000 → cs.length = all.length → cs.take i = strCells (all.take i) → H.Ok → Plain H p cs →
      ∃ (l' : List UInt8) (H' : VH) (cs' : List AV), loopN (L67_0 (vcall T ext promo n) n (PS.of [c]) 0 (some (p, 0)) all.length ((all.length - 1 : Nat) : Int)) m [.str (PS.of l), .int .i64 (i : Int)] H = some (.exit 0, [.str (PS.of l'), .int .i64 ((all.length - 1 : Nat) : Int)], H') ∧
        cs'.length = all.length ∧ cs'.take (all.length - 1) = strCells (all.take (all.length - 1)) ∧ all.drop (all.length - 1) = [l'] ∧ H'.Ok ∧ Plain H' p cs' ∧ Eff (· = p) H H' ∧ H'.next = H.next := by
  intro m
  induction m with
  | zero => intro i l H cs _ _ h; omega
  | succ m ih =>
    intro i l H cs hs hi hm hl hc ht hH hp
    rw [loopN_succ]
    generalize hlp : loopN (L67_0 (vcall T ext promo n) n (PS.of [c]) 0 (some (p, 0)) all.length ((all.length - 1 : Nat) : Int)) m = lp at ih ⊢
    unfold L67_0
    simp only [letH_mk, bindC_mk, bindV_mk, bindH_mk, bindJ_mk, asB_mk, asI_mk, asS_mk, asP_mk, asSl_mk, asA_mk, asTu_mk, asSome_mk, unc_mk, endL_mk, selC_eq, condT_eq, letN_mk, letB_mk, case_nn, case_nr, case_ne, case_rn, case_rr, case_re, case_en, case_er, case_ee, decide_eq_true_eq, Bool.not_true, Bool.not_false, Bool.false_eq_true, if_false, if_true, Bool.not_eq_true', decide_eq_false_iff_not, ilt_eq, ile_eq, reduceCtorEq, not_false_eq_true, not_true_eq_false]
    have hlen := splits_len c l
    rw [hs, List.length_drop] at hlen
    by_cases h : i < all.length - 1
    · rw [if_pos (by omega), index1_ok n (by omega)]
      obtain ⟨k, h1, h2, h3⟩ := splits_some c l (by omega)
      simp only [letH_mk, bindC_mk, bindV_mk, bindH_mk, bindJ_mk, asB_mk, asI_mk, asS_mk, asP_mk, asSl_mk, asA_mk, asTu_mk, asSome_mk, unc_mk, endL_mk, selC_eq, condT_eq, letN_mk, letB_mk, case_nn, case_nr, case_ne, case_rn, case_rr, case_re, case_en, case_er, case_ee, decide_eq_true_eq, Bool.not_true, Bool.not_false, Bool.false_eq_true, if_false, if_true, Bool.not_eq_true', decide_eq_false_iff_not, ilt_eq, ile_eq, reduceCtorEq, not_false_eq_true, not_true_eq_false]
      rw [h1, if_neg (by omega), Int.add_zero, fw_i64 (by omega) (by omega), slStrT _ _ _ (by omega)]
      simp only [letH_mk, bindC_mk, bindV_mk, bindH_mk, bindJ_mk, asB_mk, asI_mk, asS_mk, asP_mk, asSl_mk, asA_mk, asTu_mk, asSome_mk, unc_mk, endL_mk, selC_eq, condT_eq, letN_mk, letB_mk, case_nn, case_nr, case_ne, case_rn, case_rr, case_re, case_en, case_er, case_ee, decide_eq_true_eq, Bool.not_true, Bool.not_false, Bool.false_eq_true, if_false, if_true, Bool.not_eq_true', decide_eq_false_iff_not, ilt_eq, ile_eq, reduceCtorEq, not_false_eq_true, not_true_eq_false, Bool.and_eq_true]
      rw [if_pos (by omega)]
      obtain ⟨H1, e1, p1, k1, o1, l1, n1⟩ := hp.puts1 hH i (by omega) (.str (PS.of (l.take k))) rfl
      simp only [Int.toNat_natCast, Nat.mul_one, Nat.zero_add, e1, letH_mk, bindC_mk, bindV_mk, bindH_mk, bindJ_mk, asB_mk, asI_mk, asS_mk, asP_mk, asSl_mk, asA_mk, asTu_mk, asSome_mk, unc_mk, endL_mk, selC_eq, condT_eq, letN_mk, letB_mk, case_nn, case_nr, case_ne, case_rn, case_rr, case_re, case_en, case_er, case_ee, decide_eq_true_eq, Bool.not_true, Bool.not_false, Bool.false_eq_true, if_false, if_true, Bool.not_eq_true', decide_eq_false_iff_not, ilt_eq, ile_eq, reduceCtorEq, not_false_eq_true, not_true_eq_false, of_len, List.length_singleton]
      rw [show (k : Int) + ((1 : Nat) : Int) = ((k + 1 : Nat) : Int) by omega, fw_i64 (by omega) (by omega), slStrF _ _ _ (by omega)]
      simp only [letH_mk, bindC_mk, bindV_mk, bindH_mk, bindJ_mk, asB_mk, asI_mk, asS_mk, asP_mk, asSl_mk, asA_mk, asTu_mk, asSome_mk, unc_mk, endL_mk, selC_eq, condT_eq, letN_mk, letB_mk, case_nn, case_nr, case_ne, case_rn, case_rr, case_re, case_en, case_er, case_ee, decide_eq_true_eq, Bool.not_true, Bool.not_false, Bool.false_eq_true, if_false, if_true, Bool.not_eq_true', decide_eq_false_iff_not, ilt_eq, ile_eq, reduceCtorEq, not_false_eq_true, not_true_eq_false]
      rw [fw_i64 (by omega) (by omega), show (i : Int) + 1 = ((i + 1 : Nat) : Int) by omega]
      rw [hs] at h3
      have hd : all.drop i = all[i] :: all.drop (i + 1) := List.drop_eq_getElem_cons (by omega)
      rw [hd] at h3
      obtain ⟨h4, h5⟩ := List.cons.inj h3
      obtain ⟨l', H', cs', r1, r2, r3, r4, r5, r6, r7, r8⟩ := ih (i + 1) (l.drop (k + 1)) H1 (cs.set i (.str (PS.of (l.take k)))) h5.symm (by omega) (by omega) (by simp; omega) (by simpa using hc) (by
        rw [List.take_add_one, List.take_add_one, strCells, List.map_append, List.take_set_of_le (Nat.le_refl _), ht]
        congr 1
        have : i < all.length := by omega
        simp [hc, this, h4]) o1 p1
      exact ⟨l', H', cs', r1, r2, r3, r4, r5, r6, (Eff.of_low k1 o1 l1 (hp.lt hH)).trans r7 fun x hx => .inl hx, by omega⟩
    · rw [if_neg (by omega)]
      have hi' : i = all.length - 1 := by omega
      subst hi'
      refine ⟨l, H, cs, rfl, hc, ht, ?_, hH, hp, .refl hH, rfl⟩
      rw [← hs]
      exact splits_none c l (by omega)
theorem und27 : T.und 27 = some (.slice 9) := by kernel_rfl
theorem size9 : sizeOfT T 9 = some 1 := by kernel_rfl
theorem slRowT (H : VH) (p o k b : Nat) (cap : Nat) (hb : b ≤ cap) : vslice T H 27 (.v (.slice (some (p, o)) k (some cap) 1)) none (some (.int .i64 (b : Int))) = some (.slice (some (p, o)) b (some cap) 1) := by
  unfold vslice
  rw [und27]
  simp only [size9, vsliceRow, Option.isSome_some, Bool.true_and, bound, ile_eq, Option.getD_some]
  rw [if_pos (by simp; omega)]
  simp [Int.toNat_natCast]
theorem genSplit_ok (n : Nat) (l : List UInt8) (hn : l.length + 50 ≤ n) (hl : l.length < 100000) (c : UInt8) (x : Int) (hx : x = -1 ∨ x = ((l.count c + 1 : Nat) : Int)) {H : VH} (hH : H.Ok) :
    ∃ (H' : VH), vcall T ext promo n 67 [.str (PS.of l), .str (PS.of [c]), .int .i64 0, .int .i64 x] H = some (.slice (some (H.next, 0)) (l.count c + 1) (some (l.count c + 1)) 1, H') ∧ Plain H' H.next (strCells (splits c l)) ∧ Eff (fun _ => False) H H' := by
  obtain ⟨n, rfl⟩ : ∃ m, n = m + 1 := ⟨n - 1, by omega⟩
  have hlen := splits_len c l
  have hcl : l.count c ≤ l.length := List.count_le_length ..
  have o1 := fresh_ok (lo_ok hH) (repl [.str (PS.of [])] (l.count c + 1))
  have p1 := fresh_plain (lo_ok hH) (repl [.str (PS.of [])] (l.count c + 1))
  obtain ⟨l', H1, cs', r1, r2, r3, r4, r5, r6, r7, r8⟩ := split_loop n (by omega) c (splits c l) H.lo.next (by omega) n 0 l _ _ rfl (by omega) (by omega) (by omega) (by rw [repl_len]; simp [hlen]) rfl o1 p1
  rw [hlen] at r1 r2 r3 r4
  obtain ⟨H2, e2, p2, k2, o2, l2, n2⟩ := r6.puts1 r5 (l.count c) (by omega) (.str (PS.of l')) rfl
  have eff : Eff (fun _ => False) H.lo H2 := by
    refine ((Eff.fresh (fun _ => False) (lo_ok hH) _).trans r7 fun y hy => ?_).trans (Eff.of_low k2 o2 l2 (r6.lt r5)) fun y hy => ?_
    · exact .inr (Nat.le_of_eq hy.symm)
    · exact .inr (Nat.le_of_eq hy.symm)
  have h0 : ¬ x = 0 := by omega
  have hj : ∀ K : Ex → List AV → VH → Option (AV × VH), bindJ (selC (ilt x 0) (bindC (vcall T ext promo n 68 [.str (PS.of l), .str (PS.of [c])] H.lo) fun v8 H9 => asI .i64 v8 fun n10 => letN (fwrap .i64 (n10 + 1)) fun n11 => some (.normal, [.int .i64 n11], H9)) (some (.normal, [.int .i64 x], H.lo))) K = K .normal [.int .i64 ((l.count c + 1 : Nat) : Int)] H.lo := by
    intro K
    rcases hx with rfl | rfl
    · simp only [selC_eq, ilt_eq]
      rw [if_pos (by decide), count1_ok n (by omega)]
      simp only [letH_mk, bindC_mk, bindV_mk, bindH_mk, bindJ_mk, asB_mk, asI_mk, asS_mk, asP_mk, asSl_mk, asA_mk, asTu_mk, asSome_mk, unc_mk, endL_mk, selC_eq, condT_eq, letN_mk, letB_mk, case_nn, case_nr, case_ne, case_rn, case_rr, case_re, case_en, case_er, case_ee, decide_eq_true_eq, Bool.not_true, Bool.not_false, Bool.false_eq_true, if_false, if_true, Bool.not_eq_true', decide_eq_false_iff_not, ilt_eq, ile_eq, reduceCtorEq, not_false_eq_true, not_true_eq_false]
      rw [show (l.count c : Int) + 1 = ((l.count c + 1 : Nat) : Int) by omega, fw_i64 (by omega) (by omega)]
    · simp only [selC_eq, ilt_eq]
      rw [if_neg (by simp; omega)]
      simp only [letH_mk, bindC_mk, bindV_mk, bindH_mk, bindJ_mk, asB_mk, asI_mk, asS_mk, asP_mk, asSl_mk, asA_mk, asTu_mk, asSome_mk, unc_mk, endL_mk, selC_eq, condT_eq, letN_mk, letB_mk, case_nn, case_nr, case_ne, case_rn, case_rr, case_re, case_en, case_er, case_ee, decide_eq_true_eq, Bool.not_true, Bool.not_false, Bool.false_eq_true, if_false, if_true, Bool.not_eq_true', decide_eq_false_iff_not, ilt_eq, ile_eq, reduceCtorEq, not_false_eq_true, not_true_eq_false]
  refine ⟨leave H H2 (.slice (some (H.next, 0)) (l.count c + 1) (some (l.count c + 1)) 1), ok67 _ _ _ _ _ _ ?_, ?_, eff.leave hH _⟩
  · unfold F67
    simp only [letH_mk]
    rw [hj]
    simp only [letH_mk, bindC_mk, bindV_mk, bindH_mk, bindJ_mk, asB_mk, asI_mk, asS_mk, asP_mk, asSl_mk, asA_mk, asTu_mk, asSome_mk, unc_mk, endL_mk, selC_eq, condT_eq, letN_mk, letB_mk, case_nn, case_nr, case_ne, case_rn, case_rr, case_re, case_en, case_er, case_ee, decide_eq_true_eq, Bool.not_true, Bool.not_false, Bool.false_eq_true, if_false, if_true, Bool.not_eq_true', decide_eq_false_iff_not, ilt_eq, ile_eq, reduceCtorEq, not_false_eq_true, not_true_eq_false, ieq_dec, str_eq, show decide ([c] = []) = false from rfl, h0]
    simp only [of_len]
    rw [show (l.length : Int) + 1 = ((l.length + 1 : Nat) : Int) by omega, fw_i64 (by omega) (by omega)]
    rw [show imin ((l.count c + 1 : Nat) : Int) ((l.length + 1 : Nat) : Int) = ((l.count c + 1 : Nat) : Int) by simp [imin, ilt_eq]; omega]
    rw [vmakeStr _ _ (by omega)]
    simp only [letH_mk, bindC_mk, bindV_mk, bindH_mk, bindJ_mk, asB_mk, asI_mk, asS_mk, asP_mk, asSl_mk, asA_mk, asTu_mk, asSome_mk, unc_mk, endL_mk, selC_eq, condT_eq, letN_mk, letB_mk, case_nn, case_nr, case_ne, case_rn, case_rr, case_re, case_en, case_er, case_ee, decide_eq_true_eq, Bool.not_true, Bool.not_false, Bool.false_eq_true, if_false, if_true, Bool.not_eq_true', decide_eq_false_iff_not, ilt_eq, ile_eq, reduceCtorEq, not_false_eq_true, not_true_eq_false]
    rw [show ((l.count c + 1 : Nat) : Int) - 1 = ((l.count c + 1 - 1 : Nat) : Int) by omega, fw_i64 (by omega) (by omega)]
    rw [show (.int .i64 0 : AV) = .int .i64 ((0 : Nat) : Int) from rfl, r1]
    simp only [letH_mk, bindC_mk, bindV_mk, bindH_mk, bindJ_mk, asB_mk, asI_mk, asS_mk, asP_mk, asSl_mk, asA_mk, asTu_mk, asSome_mk, unc_mk, endL_mk, selC_eq, condT_eq, letN_mk, letB_mk, case_nn, case_nr, case_ne, case_rn, case_rr, case_re, case_en, case_er, case_ee, decide_eq_true_eq, Bool.not_true, Bool.not_false, Bool.false_eq_true, if_false, if_true, Bool.not_eq_true', decide_eq_false_iff_not, ilt_eq, ile_eq, reduceCtorEq, not_false_eq_true, not_true_eq_false, Bool.and_eq_true]
    rw [if_pos (by omega)]
    simp only [Int.toNat_natCast, Nat.add_sub_cancel, Nat.mul_one, Nat.zero_add]
    rw [show H.lo.next = H.next from rfl] at e2
    rw [show H.lo.next = H.next from rfl, e2]
    simp only [letH_mk, bindC_mk, bindV_mk, bindH_mk, bindJ_mk, asB_mk, asI_mk, asS_mk, asP_mk, asSl_mk, asA_mk, asTu_mk, asSome_mk, unc_mk, endL_mk, selC_eq, condT_eq, letN_mk, letB_mk, case_nn, case_nr, case_ne, case_rn, case_rr, case_re, case_en, case_er, case_ee, decide_eq_true_eq, Bool.not_true, Bool.not_false, Bool.false_eq_true, if_false, if_true, Bool.not_eq_true', decide_eq_false_iff_not, ilt_eq, ile_eq, reduceCtorEq, not_false_eq_true, not_true_eq_false]
    rw [show ((l.count c : Nat) : Int) + 1 = ((l.count c + 1 : Nat) : Int) by omega, fw_i64 (by omega) (by omega), slRowT _ _ _ _ _ _ (Nat.le_refl _)]
    simp only [letH_mk, bindC_mk, bindV_mk, bindH_mk, bindJ_mk, asB_mk, asI_mk, asS_mk, asP_mk, asSl_mk, asA_mk, asTu_mk, asSome_mk, unc_mk, endL_mk, selC_eq, condT_eq, letN_mk, letB_mk, case_nn, case_nr, case_ne, case_rn, case_rr, case_re, case_en, case_er, case_ee, decide_eq_true_eq, Bool.not_true, Bool.not_false, Bool.false_eq_true, if_false, if_true, Bool.not_eq_true', decide_eq_false_iff_not, ilt_eq, ile_eq, reduceCtorEq, not_false_eq_true, not_true_eq_false]
  · have hcs : cs'.set (l.count c) (.str (PS.of l')) = strCells (splits c l) := by
      have e1 : splits c l = (splits c l).take (l.count c) ++ [l'] := by
        rw [← r4, show l.count c + 1 - 1 = l.count c by omega, List.take_append_drop]
      rw [e1, strCells, List.map_append, List.set_eq_take_append_cons_drop, if_pos (by omega)]
      have : cs'.drop (l.count c + 1) = [] := List.drop_of_length_le (by omega)
      rw [this]
      rw [show l.count c + 1 - 1 = l.count c by omega] at r3
      rw [r3]
      rfl
    rw [leave_rest rfl]
    rw [hcs] at p2
    exact plain_low p2 _
theorem split1_ok (n : Nat) (l : List UInt8) (hn : l.length + 60 ≤ n) (hl : l.length < 100000) (c : UInt8) {H : VH} (hH : H.Ok) :
    ∃ (H' : VH), vcall T ext promo n 16 [.str (PS.of l), .str (PS.of [c])] H = some (.slice (some (H.next, 0)) (l.count c + 1) (some (l.count c + 1)) 1, H') ∧ Plain H' H.next (strCells (splits c l)) ∧ H'.Ok ∧ Keep (fun _ => False) H H' := by
  obtain ⟨n, rfl⟩ : ∃ m, n = m + 1 := ⟨n - 1, by omega⟩
  obtain ⟨H', e1, e2, e3⟩ := genSplit_ok n l (by omega) hl c (-1) (.inl rfl) (lo_ok hH)
  have e4 := e3.leave hH (.slice (some (H.next, 0)) (l.count c + 1) (some (l.count c + 1)) 1)
  refine ⟨leave H H' (.slice (some (H.next, 0)) (l.count c + 1) (some (l.count c + 1)) 1), ok16 _ _ _ _ ?_, ?_, e4.ok, e4.keep⟩
  · unfold F16
    simp only [letH_mk]
    rw [e1]
    simp only [letH_mk, bindC_mk, bindV_mk, bindH_mk, bindJ_mk, asB_mk, asI_mk, asS_mk, asP_mk, asSl_mk, asA_mk, asTu_mk, asSome_mk, unc_mk, endL_mk, selC_eq, condT_eq, letN_mk, letB_mk, case_nn, case_nr, case_ne, case_rn, case_rr, case_re, case_en, case_er, case_ee, decide_eq_true_eq, Bool.not_true, Bool.not_false, Bool.false_eq_true, if_false, if_true, Bool.not_eq_true', decide_eq_false_iff_not, ilt_eq, ile_eq, reduceCtorEq, not_false_eq_true, not_true_eq_false]
    rfl
  · rw [leave_rest rfl]
    exact plain_low e2 _
end Go.Vm.Tryd
