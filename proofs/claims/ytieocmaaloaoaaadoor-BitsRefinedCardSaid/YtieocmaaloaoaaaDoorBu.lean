/- The number of set bits of a word, modulo 2: the code's words. -/
import Derived.Test.YtieocmaaloaoaaaDoorBq
namespace Go.Vm.Tryd
set_option linter.unusedSectionVars false
set_option linter.unusedSimpArgs false
set_option linter.unusedVariables false
set_option maxRecDepth 10000
theorem rep85 : rep 85 8 = 6148914691236517205 := by decide +kernel
theorem rep51 : rep 51 8 = 3689348814741910323 := by decide +kernel
theorem rep15 : rep 15 8 = 1085102592571150095 := by decide +kernel
theorem p256 : 256 ^ 8 = 18446744073709551616 := by decide +kernel
def m1 : BitVec 64 := 6148914691236517205#64
def m2 : BitVec 64 := 3689348814741910323#64
def m3 : BitVec 64 := 1085102592571150095#64
theorem m1_nat : m1.toNat = 6148914691236517205 := by decide +kernel
theorem m2_nat : m2.toNat = 3689348814741910323 := by decide +kernel
theorem m3_nat : m3.toNat = 1085102592571150095 := by decide +kernel
theorem m1_int : (6148914691236517205 : Int) = u64 m1 := by decide +kernel
theorem m2_int : (3689348814741910323 : Int) = u64 m2 := by decide +kernel
theorem m3_int : (1085102592571150095 : Int) = u64 m3 := by decide +kernel
/-- The sum as the code makes it. -/
def popA (v m : BitVec 64) (k : Nat) : BitVec 64 := ((v >>> k) &&& m) + (v &&& m)
def popC (b : BitVec 64) : BitVec 64 := ((b >>> 4) + b) &&& m3
def popS (c : BitVec 64) (k : Nat) : BitVec 64 := c + c >>> k
def pop (v : BitVec 64) : BitVec 64 := popS (popS (popS (popC (popA (popA v m1 1) m2 2)) 8) 16) 32
theorem popA_nat (v m : BitVec 64) (k : Nat) : (popA v m k).toNat = ((v.toNat / 2 ^ k &&& m.toNat) + (v.toNat &&& m.toNat)) % 18446744073709551616 := by
  unfold popA
  rw [BitVec.toNat_add, BitVec.toNat_and, BitVec.toNat_and, BitVec.toNat_ushiftRight, Nat.shiftRight_eq_div_pow]
theorem popS_nat (c : BitVec 64) (k : Nat) : (popS c k).toNat = (c.toNat + c.toNat / 2 ^ k) % 18446744073709551616 := by
  unfold popS
  rw [BitVec.toNat_add, BitVec.toNat_ushiftRight, Nat.shiftRight_eq_div_pow]
theorem popC_nat (b : BitVec 64) : (popC b).toNat = ((b.toNat / 2 ^ 4 + b.toNat) % 18446744073709551616) &&& 1085102592571150095 := by
  unfold popC
  rw [BitVec.toNat_and, BitVec.toNat_add, BitVec.toNat_ushiftRight, Nat.shiftRight_eq_div_pow, m3_nat]
theorem val_half : ∀ l : List Nat, (∀ b ∈ l, b < 128) → 2 * val l < 256 ^ l.length
  | [], _ => by simp [val]
  | b :: l, h => by
    have ih := val_lt l (fun x hx => by have := h x (by simp [hx]); omega)
    have hb := h b (by simp)
    show 2 * (256 * val l + b) < 256 ^ (l.length + 1)
    have ih2 := val_half l (fun x hx => h x (by simp [hx]))
    rw [Nat.pow_succ]
    omega
theorem half_lt {X K : Nat} (h : 2 * X < K) : X / 2 ^ 4 + X < K := by omega
theorem popC_val (v : BitVec 64) (l : List Nat) (h1 : l.length = 8) (h2 : ∀ b ∈ l, b < 256) (h3 : val l = v.toNat) : (popC (popA (popA v m1 1) m2 2)).toNat = val (l.map pcb) := by
  have A : (popA v m1 1).toNat = val (l.map (st 2 85)) := by
    have hs := st_sum (d := 2) (c := 85) (by decide) (fun r b hr hb => all2 r hr b hb) (by decide) l h2
    have hl := val_lt (l.map (st 2 85)) (fun b hb => by
      obtain ⟨y, hy, rfl⟩ := List.mem_map.1 hb
      exact (byte_facts y (h2 y hy)).1)
    rw [h1, rep85] at hs
    rw [List.length_map, h1, p256] at hl
    rw [popA_nat, m1_nat, ← h3, Nat.pow_one, hs]
    exact Nat.mod_eq_of_lt hl
  generalize popA v m1 1 = a at A ⊢
  have B : (popA a m2 2).toNat = val ((l.map (st 2 85)).map (st 4 51)) := by
    have hs := st_sum (d := 4) (c := 51) (by decide) (fun r b hr hb => all4 r hr b hb) (by decide) (l.map (st 2 85)) (fun b hb => by
      obtain ⟨y, hy, rfl⟩ := List.mem_map.1 hb
      exact (byte_facts y (h2 y hy)).1)
    have hl := val_lt ((l.map (st 2 85)).map (st 4 51)) (fun b hb => by
      obtain ⟨z, hz, rfl⟩ := List.mem_map.1 hb
      obtain ⟨y, hy, rfl⟩ := List.mem_map.1 hz
      have := (byte_facts y (h2 y hy)).2.1
      omega)
    rw [List.length_map, h1, rep51] at hs
    rw [List.length_map, List.length_map, h1, p256] at hl
    rw [popA_nat, m2_nat, A, show 2 ^ 2 = 4 from rfl, hs]
    exact Nat.mod_eq_of_lt hl
  generalize popA a m2 2 = b at B ⊢
  have hf : ∀ z ∈ (l.map (st 2 85)).map (st 4 51), z < 128 ∧ z % 16 ≤ 4 := fun b hb => by
    obtain ⟨z, hz, rfl⟩ := List.mem_map.1 hb
    obtain ⟨y, hy, rfl⟩ := List.mem_map.1 hz
    have := byte_facts y (h2 y hy)
    exact ⟨this.2.1, this.2.2.1⟩
  have hs := st3_sum ((l.map (st 2 85)).map (st 4 51)) hf
  have hl := val_half ((l.map (st 2 85)).map (st 4 51)) (fun b hb => (hf b hb).1)
  rw [List.length_map, List.length_map, h1] at hs hl
  rw [rep15] at hs
  rw [p256] at hl
  rw [popC_nat, B, Nat.mod_eq_of_lt (half_lt hl)]
  rw [List.map_map, List.map_map] at *
  exact hs
theorem pop_odd (v : BitVec 64) : (pop v).toNat % 128 ≤ 64 ∧ decide ((pop v).toNat % 128 % 2 = 1) = odd v 64 := by
  obtain ⟨l, h1, h2, h3, h4⟩ := eight v.toNat v.isLt
  have C := popC_val v l h1 h2 h3
  rw [odd_nat, h4]
  unfold pop
  generalize popC (popA (popA v m1 1) m2 2) = c at C ⊢
  match l, h1, h2 with
  | [b0, b1, b2, b3, b4, b5, b6, b7], _, h2 =>
    have f : ∀ b ∈ [b0, b1, b2, b3, b4, b5, b6, b7], pcb b ≤ 8 := fun b hb => (byte_facts b (h2 b hb)).2.2.2.1
    have hs := tail_sum (pcb b0) (pcb b1) (pcb b2) (pcb b3) (pcb b4) (pcb b5) (pcb b6) (pcb b7) c.toNat (popS c 8).toNat (popS (popS c 8) 16).toNat (popS (popS (popS c 8) 16) 32).toNat
      (f b0 (by simp)) (f b1 (by simp)) (f b2 (by simp)) (f b3 (by simp)) (f b4 (by simp)) (f b5 (by simp)) (f b6 (by simp)) (f b7 (by simp))
      (by rw [C]; simp only [List.map_cons, List.map_nil, val, Nat.mul_zero, Nat.zero_add]) (popS_nat c 8) (popS_nat _ 16) (popS_nat _ 32)
    have g0 := f b0 (by simp)
    have g1 := f b1 (by simp)
    have g2 := f b2 (by simp)
    have g3 := f b3 (by simp)
    have g4 := f b4 (by simp)
    have g5 := f b5 (by simp)
    have g6 := f b6 (by simp)
    have g7 := f b7 (by simp)
    rw [hs]
    refine ⟨by omega, ?_⟩
    simp only [List.map_cons, List.map_nil, List.sum_cons, List.sum_nil, Nat.add_zero]
end Go.Vm.Tryd
