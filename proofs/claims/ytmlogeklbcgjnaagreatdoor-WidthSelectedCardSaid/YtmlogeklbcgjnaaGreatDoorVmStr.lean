/- Strings for the reduced functions: lists of bytes. -/
import Derived.Test.YtmlogeklbcgjnaaGreatDoorVmK
namespace Go.Vm
set_option linter.unusedSimpArgs false
set_option linter.unusedVariables false
set_option linter.unusedSectionVars false
@[simp] theorem of_len (l : List UInt8) : (PS.of l).len = l.length := rfl
theorem byte_at (l : List UInt8) (i : Nat) (h : i < l.length) : (((PS.of l).byte i : Nat) : Int) = (l[i].toNat : Int) := by rw [PS.byte_of l i h]
theorem byte_int (l : List UInt8) (i : Nat) (h : i < l.length) : (((PS.of l).byte ((i : Int).toNat) : Nat) : Int) = (l[i].toNat : Int) := byte_at l i h
theorem str_add (a b : List UInt8) (h : a.length + b.length ≤ 9223372036854775807) : vstrOp .add (PS.of a) (PS.of b) = some (.str (PS.of (a ++ b))) := by
  simp only [vstrOp, of_len]
  have : Nat.ble (a.length + b.length) 9223372036854775807 = true := Nat.ble_eq_true_of_le h
  rw [this, PS.cat_of]
theorem str_eq (a b : List UInt8) : (PS.of a).eq (PS.of b) = decide (a = b) := by
  rw [PS.eq_of]
  by_cases h : a = b <;> simp [h]
theorem str_slice (l : List UInt8) (a b : Nat) (h1 : a ≤ b) (h2 : b ≤ l.length) : vsliceStr (PS.of l) (some (.int .i64 (a : Int))) (some (.int .i64 (b : Int))) = some (.str (PS.of ((l.drop a).take (b - a)))) := by
  simp only [vsliceStr, bound, ile_eq, of_len]
  rw [if_pos (by simp; omega)]
  simp only [Int.toNat_natCast]
  rw [if_pos (by simp; omega)]
  simp only [Int.toNat_natCast]
  rw [PS.ext_of l a b h2]
theorem str_from (l : List UInt8) (a : Nat) (h1 : a ≤ l.length) : vsliceStr (PS.of l) (some (.int .i64 (a : Int))) none = some (.str (PS.of (l.drop a))) := by
  simp only [vsliceStr, bound, ile_eq, of_len]
  rw [if_pos (by simp; omega)]
  simp only [Int.toNat_natCast]
  rw [PS.ext_of l a l.length (Nat.le_refl _), List.take_of_length_le (by simp)]
theorem str_to (l : List UInt8) (b : Nat) (h1 : b ≤ l.length) : vsliceStr (PS.of l) none (some (.int .i64 (b : Int))) = some (.str (PS.of (l.take b))) := by
  simp only [vsliceStr, bound, ile_eq, of_len]
  rw [if_pos (by simp; omega)]
  simp only [Int.toNat_natCast]
  rw [PS.ext_of l 0 b h1]
  simp
/-- Bytes as cells. -/
def byteCells (l : List UInt8) : List AV := l.map fun c => AV.int .u8 (c.toNat : Int)
theorem conv_go : ∀ (l : List UInt8), vconvert.go (byteCells l) = some (PS.of l)
  | [] => rfl
  | c :: l => by
    have h : vconvert.go (AV.int .u8 (c.toNat : Int) :: byteCells l) = match vconvert.go (byteCells l) with
      | some s => some ⟨s.len + 1, ((c.toNat : Int)).toNat % 256 + 256 * s.val⟩
      | none => none := rfl
    show vconvert.go (AV.int .u8 (c.toNat : Int) :: byteCells l) = _
    rw [h, conv_go l]
    simp only [Int.toNat_natCast]
    rw [Nat.mod_eq_of_lt c.toNat_lt]
    rfl
end Go.Vm
