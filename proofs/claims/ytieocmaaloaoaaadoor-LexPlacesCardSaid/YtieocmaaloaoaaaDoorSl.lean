/- The library's functions on strings, for a pattern of one byte: what they answer (a part of Strs.lean, for seats where strings.Index stands in 'ext'). -/
import Derived.Test.YtieocmaaloaoaaaDoorFl
import Derived.Test.YtieocmaaloaoaaaDoorSm
import Derived.Test.YtieocmaaloaoaaaDoorVmStr
namespace Go.Vm.Tryd
set_option linter.unusedSectionVars false
set_option linter.unusedSimpArgs false
set_option linter.unusedVariables false
set_option maxRecDepth 10000
theorem one_byte (c : UInt8) : (PS.of [c]).byte 0 = c.toNat := PS.byte_of [c] 0 (by simp)
theorem u8_nat (c : UInt8) : ((c.toNat : Int)).toNat % 256 = c.toNat := by
  rw [Int.toNat_natCast]
  exact Nat.mod_eq_of_lt c.toNat_lt
theorem undStr : T.und 9 = some .string := by kernel_rfl
theorem slStr (H : VH) (l : List UInt8) (a b : Nat) (h1 : a ≤ b) (h2 : b ≤ l.length) : vslice T H 9 (.v (.str (PS.of l))) (some (.int .i64 (a : Int))) (some (.int .i64 (b : Int))) = some (.str (PS.of ((l.drop a).take (b - a)))) := by
  unfold vslice
  rw [undStr]
  exact str_slice l a b h1 h2
theorem slStrF (H : VH) (l : List UInt8) (a : Nat) (h1 : a ≤ l.length) : vslice T H 9 (.v (.str (PS.of l))) (some (.int .i64 (a : Int))) none = some (.str (PS.of (l.drop a))) := by
  unfold vslice
  rw [undStr]
  exact str_from l a h1
theorem slStrT (H : VH) (l : List UInt8) (b : Nat) (h2 : b ≤ l.length) : vslice T H 9 (.v (.str (PS.of l))) none (some (.int .i64 (b : Int))) = some (.str (PS.of (l.take b))) := by
  unfold vslice
  rw [undStr]
  exact str_to l b h2
theorem countString_ok (n : Nat) (hn : 1 ≤ n) (l : List UInt8) (c : UInt8) (H : VH) : vcall T ext promo n 125 [.str (PS.of l), .int .u8 (c.toNat : Int)] H = some (.int .i64 ((l.count c : Nat) : Int), H) := by
  obtain ⟨n, rfl⟩ : ∃ m, n = m + 1 := ⟨n - 1, by omega⟩
  refine call_ext (g := fun _ => xCount) rfl ?_
  simp only [xCount, PS.bytes_of, u8_nat, count_of]
theorem indexByteString_ok (n : Nat) (hn : 1 ≤ n) (l : List UInt8) (c : UInt8) (H : VH) : vcall T ext promo n 186 [.str (PS.of l), .int .u8 (c.toNat : Int)] H = some (.int .i64 (Lib.indexByte l c), H) := by
  obtain ⟨n, rfl⟩ : ∃ m, n = m + 1 := ⟨n - 1, by omega⟩
  refine call_ext (g := fun _ => xIndexByte) rfl ?_
  simp only [xIndexByte, PS.bytes_of, u8_nat, idxN_of]
theorem indexByte_ok (n : Nat) (hn : 2 ≤ n) (l : List UInt8) (c : UInt8) (H : VH) : vcall T ext promo n 162 [.str (PS.of l), .int .u8 (c.toNat : Int)] H = some (.int .i64 (Lib.indexByte l c), H) := by
  obtain ⟨n, rfl⟩ : ∃ m, n = m + 1 := ⟨n - 1, by omega⟩
  apply ok162
  unfold F162
  simp only [letH_mk]
  rw [indexByteString_ok n (by omega)]
  simp only [KA, KB, KD, reduceCtorEq, if_false, if_true]
  rw [leave_flat rfl rfl]
theorem count1_ok (n : Nat) (hn : 2 ≤ n) (l : List UInt8) (c : UInt8) (H : VH) : vcall T ext promo n 68 [.str (PS.of l), .str (PS.of [c])] H = some (.int .i64 ((l.count c : Nat) : Int), H) := by
  obtain ⟨n, rfl⟩ : ∃ m, n = m + 1 := ⟨n - 1, by omega⟩
  apply ok68
  unfold F68
  simp only [KA, KB, KD, reduceCtorEq, if_false, if_true, of_len, List.length_singleton, ieq_dec, show ((1 : Nat) : Int) = 1 from rfl, Int.one_ne_zero, decide_false, decide_true, Bool.and_eq_true, Int.toNat_zero, one_byte]
  rw [if_pos (by decide), countString_ok n (by omega)]
  simp only [KA, KB, KD, reduceCtorEq, if_false, if_true]
  rw [leave_flat rfl rfl]
/-- The last place of a byte. -/
def lastL (c : UInt8) : List UInt8 → Int
  | [] => -1
  | b :: l => if 0 ≤ lastL c l then lastL c l + 1 else if b = c then 0 else -1
theorem lastL_range (c : UInt8) : ∀ l : List UInt8, -1 ≤ lastL c l ∧ lastL c l < l.length
  | [] => by simp [lastL]
  | b :: l => by
    have := lastL_range c l
    unfold lastL
    simp only [List.length_cons]
    split
    · omega
    · split <;> omega
theorem lastL_step (c : UInt8) : ∀ (l : List UInt8) (k : Nat) (hk : k < l.length), lastL c (l.take (k + 1)) = if l[k] = c then (k : Int) else lastL c (l.take k)
  | b :: l, 0, _ => by simp [lastL]
  | b :: l, k + 1, hk => by
    have hk' : k < l.length := by simpa using hk
    have ih := lastL_step c l k hk'
    rw [List.take_succ_cons, List.take_succ_cons]
    simp only [lastL, ih, List.getElem_cons_succ]
    by_cases h : l[k] = c
    · simp only [h, if_true]
      rw [if_pos (by omega)]
      omega
    · simp only [h, if_false]
theorem last_loop (n : Nat) (l : List UInt8) (c : UInt8) (H : VH) (hl : l.length < 9223372036854775808) : ∀ (m k : Nat), k ≤ l.length → k < m →
    loopN (L126_0 (vcall T ext promo n) n (PS.of l) (c.toNat : Int)) m [.int .i64 ((k : Int) - 1)] H = if 0 ≤ lastL c (l.take k) then some (.ret, [.int .i64 (lastL c (l.take k))], H) else some (.exit 0, [], H) := by
  intro m
  induction m with
  | zero => intro k _ h; omega
  | succ m ih =>
    intro k hk hm
    rw [loopN_succ]
    generalize loopN (L126_0 (vcall T ext promo n) n (PS.of l) (c.toNat : Int)) m = lp at ih ⊢
    unfold L126_0
    cases k with
    | zero =>
      simp only [KA, KB, KD, reduceCtorEq, if_false, if_true]
      rw [if_neg (by omega)]
      simp [lastL]
    | succ k =>
      have hk' : k < l.length := by omega
      simp only [KA, KB, KD, reduceCtorEq, if_false, if_true, of_len, Bool.and_eq_true, ieq_dec]
      rw [show ((k + 1 : Nat) : Int) - 1 = (k : Int) by omega, if_pos (by omega), if_pos (by omega), byte_int l k hk', lastL_step c l k hk']
      by_cases h : l[k] = c
      · rw [if_pos (by rw [h]), if_pos h, if_pos (by omega)]
      · rw [if_neg (fun e => h (UInt8.toNat_inj.1 (Int.ofNat_inj.1 e))), if_neg h, fw_i64 (by omega) (by omega), ih k (by omega) (by omega)]
theorem lastIndex1_ok (n : Nat) (l : List UInt8) (hn : l.length + 10 ≤ n) (hl : l.length < 9223372036854775808) (c : UInt8) (H : VH) : vcall T ext promo n 69 [.str (PS.of l), .str (PS.of [c])] H = some (.int .i64 (lastL c l), H) := by
  obtain ⟨n, rfl⟩ : ∃ m, n = m + 2 := ⟨n - 2, by omega⟩
  have e : ∀ H, vcall T ext promo (n + 1) 126 [.str (PS.of l), .int .u8 (c.toNat : Int)] H = some (.int .i64 (lastL c l), H) := by
    intro H
    apply ok126
    unfold F126
    simp only [KA, KB, KD, reduceCtorEq, if_false, if_true, of_len]
    rw [fw_i64 (by omega) (by omega), last_loop n l c H.lo hl n l.length (Nat.le_refl _) (by omega), List.take_length]
    by_cases h : 0 ≤ lastL c l
    · rw [if_pos h]
      simp only [KA, KB, KD, reduceCtorEq, if_false, if_true]
      rw [leave_flat rfl rfl]
    · rw [if_neg h]
      simp only [KA, KB, KD, reduceCtorEq, if_false, if_true]
      rw [leave_flat rfl rfl]
      have := lastL_range c l
      rw [show lastL c l = -1 by omega]
  apply ok69
  unfold F69
  simp only [KA, KB, KD, reduceCtorEq, if_false, if_true, of_len, List.length_singleton, ieq_dec, show ((1 : Nat) : Int) = 1 from rfl, Int.one_ne_zero, decide_false, decide_true, Bool.and_eq_true, Int.toNat_zero, one_byte]
  rw [if_pos (by decide), e]
  simp only [KA, KB, KD, reduceCtorEq, if_false, if_true]
  rw [leave_flat rfl rfl]

theorem place_ok (n : Nat) (l : List UInt8) (hn : l.length + 30 ≤ n) (hl : l.length < 1000000000) (at_ : Nat) (ha : at_ ≤ l.length) (H : VH) :
    vcall T ext promo n 17 [.str (PS.of l), .int .i64 (at_ : Int)] H = some (.tuple [.int .i64 (((l.take at_).count 10 : Nat) + 1 : Int), .int .i64 ((at_ : Int) - lastL 10 (l.take at_))], H) := by
  obtain ⟨n, rfl⟩ : ∃ m, n = m + 1 := ⟨n - 1, by omega⟩
  have hc : (l.take at_).count 10 ≤ (l.take at_).length := List.count_le_length ..
  have hr := lastL_range 10 (l.take at_)
  have ht : (l.take at_).length = at_ := by simp [ha]
  apply ok17
  unfold F17
  simp only [KA, KB, KD, reduceCtorEq, if_false, if_true, of_len]
  rw [if_neg (by omega)]
  simp only [KA, KB, KD, reduceCtorEq, if_false, if_true]
  rw [if_neg (by omega), slStrT _ _ _ ha]
  simp only [KA, KB, KD, reduceCtorEq, if_false, if_true]
  rw [count1_ok n (by omega)]
  simp only [KA, KB, KD, reduceCtorEq, if_false, if_true]
  rw [lastIndex1_ok n _ (by omega) (by omega)]
  simp only [KA, KB, KD, reduceCtorEq, if_false, if_true]
  rw [fw_i64 (by omega) (by omega), fw_i64 (by omega) (by omega), leave_flat rfl rfl]
end Go.Vm.Tryd
