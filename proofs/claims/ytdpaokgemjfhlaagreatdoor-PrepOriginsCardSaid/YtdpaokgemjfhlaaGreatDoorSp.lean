/- The library's functions on strings, for a pattern of one byte: what they answer. -/
import Derived.Test.YtdpaokgemjfhlaaGreatDoorP1
import Derived.Test.YtdpaokgemjfhlaaGreatDoorSm
import Derived.Test.YtdpaokgemjfhlaaGreatDoorVmStr
namespace Go.Vm.Tryz
set_option linter.unusedSectionVars false
set_option linter.unusedSimpArgs false
set_option linter.unusedVariables false
set_option maxRecDepth 10000
theorem one_byte (c : UInt8) : (PS.of [c]).byte 0 = c.toNat := PS.byte_of [c] 0 (by simp)
theorem u8_nat (c : UInt8) : ((c.toNat : Int)).toNat % 256 = c.toNat := by
  rw [Int.toNat_natCast]
  exact Nat.mod_eq_of_lt c.toNat_lt
theorem undStr : T.und 9 = some .string := by kernel_rfl
theorem slStr (H : VH) (l : List UInt8) (a b : Nat) (h1 : a ≤ b) (h2 : b ≤ l.length) : vslice T H 9 (.v (.str (PS.of l))) (some (.int .i64 (a : Int))) (some (.int .i64 (b : Int))) = some (.str (PS.of ((l.drop a).take (b - a)))) := by
  unfold vslice
  rw [undStr]
  exact str_slice l a b h1 h2
theorem slStrF (H : VH) (l : List UInt8) (a : Nat) (h1 : a ≤ l.length) : vslice T H 9 (.v (.str (PS.of l))) (some (.int .i64 (a : Int))) none = some (.str (PS.of (l.drop a))) := by
  unfold vslice
  rw [undStr]
  exact str_from l a h1
theorem slStrT (H : VH) (l : List UInt8) (b : Nat) (h2 : b ≤ l.length) : vslice T H 9 (.v (.str (PS.of l))) none (some (.int .i64 (b : Int))) = some (.str (PS.of (l.take b))) := by
  unfold vslice
  rw [undStr]
  exact str_to l b h2
theorem countString_ok (n : Nat) (hn : 1 ≤ n) (l : List UInt8) (c : UInt8) (H : VH) : vcall T ext promo n 32 [.str (PS.of l), .int .u8 (c.toNat : Int)] H = some (.int .i64 ((l.count c : Nat) : Int), H) := by
  obtain ⟨n, rfl⟩ : ∃ m, n = m + 1 := ⟨n - 1, by omega⟩
  refine call_ext (g := fun _ => xCount) rfl ?_
  simp only [xCount, PS.bytes_of, u8_nat, count_of]
theorem indexByteString_ok (n : Nat) (hn : 1 ≤ n) (l : List UInt8) (c : UInt8) (H : VH) : vcall T ext promo n 138 [.str (PS.of l), .int .u8 (c.toNat : Int)] H = some (.int .i64 (Lib.indexByte l c), H) := by
  obtain ⟨n, rfl⟩ : ∃ m, n = m + 1 := ⟨n - 1, by omega⟩
  refine call_ext (g := fun _ => xIndexByte) rfl ?_
  simp only [xIndexByte, PS.bytes_of, u8_nat, idxN_of]
theorem indexByte_ok (n : Nat) (hn : 2 ≤ n) (l : List UInt8) (c : UInt8) (H : VH) : vcall T ext promo n 99 [.str (PS.of l), .int .u8 (c.toNat : Int)] H = some (.int .i64 (Lib.indexByte l c), H) := by
  obtain ⟨n, rfl⟩ : ∃ m, n = m + 1 := ⟨n - 1, by omega⟩
  apply ok99
  unfold F99
  simp only [letH_mk]
  rw [indexByteString_ok n (by omega)]
  simp only [KA, KB, KD, reduceCtorEq, if_false, if_true]
  rw [leave_flat rfl rfl]
theorem count1_ok (n : Nat) (hn : 2 ≤ n) (l : List UInt8) (c : UInt8) (H : VH) : vcall T ext promo n 12 [.str (PS.of l), .str (PS.of [c])] H = some (.int .i64 ((l.count c : Nat) : Int), H) := by
  obtain ⟨n, rfl⟩ : ∃ m, n = m + 1 := ⟨n - 1, by omega⟩
  apply ok12
  unfold F12
  simp only [KA, KB, KD, reduceCtorEq, if_false, if_true, of_len, List.length_singleton, ieq_dec, show ((1 : Nat) : Int) = 1 from rfl, Int.one_ne_zero, decide_false, decide_true, Bool.and_eq_true, Int.toNat_zero, one_byte]
  rw [if_pos (by decide), countString_ok n (by omega)]
  simp only [KA, KB, KD, reduceCtorEq, if_false, if_true]
  rw [leave_flat rfl rfl]
/-- The parts of a text between the bytes c. -/
def splits (c : UInt8) : List UInt8 → List (List UInt8)
  | [] => [[]]
  | b :: l => if b = c then [] :: splits c l else match splits c l with
    | x :: xs => (b :: x) :: xs
    | [] => [[b]]
theorem splits_len (c : UInt8) : ∀ l, (splits c l).length = l.count c + 1
  | [] => rfl
  | b :: l => by
    have := splits_len c l
    unfold splits
    by_cases h : b = c
    · subst h
      simp [this]
    · rw [if_neg h, List.count_cons_of_ne h]
      split
      · rename_i x xs e
        rw [e] at this
        simpa using this
      · rename_i e
        rw [e] at this
        simp at this
theorem splits_none (c : UInt8) : ∀ l : List UInt8, l.count c = 0 → splits c l = [l]
  | [], _ => rfl
  | b :: l, h => by
    by_cases e : b = c
    · subst e; simp at h
    · rw [List.count_cons_of_ne e] at h
      unfold splits
      rw [if_neg e, splits_none c l h]
theorem index_none (c : UInt8) : ∀ l : List UInt8, l.count c = 0 → Lib.indexByte l c = -1
  | [], _ => rfl
  | b :: l, h => by
    by_cases e : b = c
    · subst e; simp at h
    · rw [List.count_cons_of_ne e] at h
      unfold Lib.indexByte
      simp [e, index_none c l h]
theorem splits_some (c : UInt8) : ∀ l : List UInt8, 0 < l.count c → ∃ m : Nat, Lib.indexByte l c = (m : Int) ∧ m < l.length ∧ splits c l = l.take m :: splits c (l.drop (m + 1))
  | [], h => by simp at h
  | b :: l, h => by
    by_cases e : b = c
    · subst e
      exact ⟨0, by simp [Lib.indexByte], by simp, by simp [splits]⟩
    · rw [List.count_cons_of_ne e] at h
      obtain ⟨m, h1, h2, h3⟩ := splits_some c l h
      refine ⟨m + 1, ?_, by simpa using h2, ?_⟩
      · unfold Lib.indexByte
        rw [h1]
        simp [e]
      · conv => lhs; unfold splits
        rw [if_neg e, h3]
        simp
theorem vmakeStr (H : VH) (k : Nat) (hk : k ≤ 1000000) : vmakeSlice T H 50 (.int .i64 (k : Int)) (.int .i64 (k : Int)) = some (.slice (some (H.next, 0)) k (some k) 1, H.fresh (repl [.str (PS.of [])] k)) := by
  unfold vmakeSlice
  rw [show T.und 50 = some (.slice 9) by kernel_rfl]
  obtain ⟨i, h1, h2, h3⟩ : ∃ i, T.info 9 = some i ∧ i.bytes = 16 ∧ i.size = 1 := ⟨Go.Proofs.Tryz.t9, by kernel_rfl, by kernel_rfl, by kernel_rfl⟩
  have hz : zeroOf T 9 = some (.str (PS.of [])) := by kernel_rfl
  simp only [h1, h2, h3, hz, Int.toNat_natCast, AV.cells]
  have : (ile 0 (k : Int) && ile (k : Int) (k : Int) && ile (k : Int) 16777216 && Nat.ble (16 * k) 281474976710656 && Nat.blt 0 1 && Nat.beq [AV.str (PS.of [])].length 1 && allOne [AV.str (PS.of [])]) = true := by
    simp [ile_eq, allOne, AV.one]
    omega
  rw [this]
theorem repl_len (z : List AV) : ∀ k, (repl z k).length = k * z.length
  | 0 => by simp [repl]
  | k + 1 => by simp only [repl, List.length_append, repl_len z k, Nat.succ_mul]; omega
def strCells (ls : List (List UInt8)) : List AV := ls.map fun l => AV.str (PS.of l)
theorem und27 : T.und 50 = some (.slice 9) := by kernel_rfl
theorem size9 : sizeOfT T 9 = some 1 := by kernel_rfl
theorem slRowT (H : VH) (p o k b : Nat) (cap : Nat) (hb : b ≤ cap) : vslice T H 50 (.v (.slice (some (p, o)) k (some cap) 1)) none (some (.int .i64 (b : Int))) = some (.slice (some (p, o)) b (some cap) 1) := by
  unfold vslice
  rw [und27]
  simp only [size9, vsliceRow, Option.isSome_some, Bool.true_and, bound, ile_eq, Option.getD_some]
  rw [if_pos (by simp; omega)]
  simp [Int.toNat_natCast]
end Go.Vm.Tryz

