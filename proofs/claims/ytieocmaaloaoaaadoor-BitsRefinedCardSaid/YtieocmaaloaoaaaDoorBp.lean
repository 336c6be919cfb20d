/- The number of set bits of a word, modulo 2. -/
import Derived.Test.YtieocmaaloaoaaaDoorBd
namespace Go.Vm.Tryd
set_option linter.unusedSectionVars false
set_option linter.unusedSimpArgs false
set_option linter.unusedVariables false
set_option maxRecDepth 10000
theorem and_cons (q b M c : Nat) (hb : b < 256) (hc : c < 256) : (256 * q + b) &&& (256 * M + c) = 256 * (q &&& M) + (b &&& c) := by
  have h1 : ((256 * q + b) &&& (256 * M + c)) / 2 ^ 8 = (256 * q + b) / 2 ^ 8 &&& (256 * M + c) / 2 ^ 8 := Nat.and_div_two_pow
  have h2 : ((256 * q + b) &&& (256 * M + c)) % 2 ^ 8 = (256 * q + b) % 2 ^ 8 &&& (256 * M + c) % 2 ^ 8 := Nat.and_mod_two_pow
  rw [show (256 * q + b) / 2 ^ 8 = q by omega, show (256 * M + c) / 2 ^ 8 = M by omega] at h1
  rw [show (256 * q + b) % 2 ^ 8 = b by omega, show (256 * M + c) % 2 ^ 8 = c by omega] at h2
  omega
/-- Bytes as a number, the least first. -/
def val : List Nat → Nat
  | [] => 0
  | b :: l => 256 * val l + b
def rep (c : Nat) : Nat → Nat
  | 0 => 0
  | k + 1 => 256 * rep c k + c
def st (d c b : Nat) : Nat := (b / d &&& c) + (b &&& c)
def st3 (b : Nat) : Nat := (b / 16 + b) &&& 15
theorem st_sum {d c : Nat} (hc : c < 256) (hd : ∀ r b : Nat, r < d → b < 256 → (256 * r + b) / d < 256 ∧ (256 * r + b) / d &&& c = b / d &&& c) (hdp : 0 < d) : ∀ l : List Nat, (∀ b ∈ l, b < 256) →
    ((val l / d) &&& rep c l.length) + (val l &&& rep c l.length) = val (l.map (st d c))
  | [], _ => by simp [val, rep]
  | b :: l, h => by
    have ih := st_sum hc hd hdp l (fun x hx => h x (by simp [hx]))
    have hb := h b (by simp)
    obtain ⟨h1, h2⟩ := hd (val l % d) b (Nat.mod_lt _ hdp) hb
    have e : (256 * val l + b) / d = 256 * (val l / d) + (256 * (val l % d) + b) / d := by
      have : 256 * val l + b = (256 * (val l % d) + b) + d * (256 * (val l / d)) := by
        have := Nat.div_add_mod (val l) d
        rw [Nat.mul_left_comm d 256]
        omega
      rw [this, Nat.add_mul_div_left _ _ hdp]
      omega
    show ((256 * val l + b) / d &&& (256 * rep c l.length + c)) + ((256 * val l + b) &&& (256 * rep c l.length + c)) = 256 * val (l.map (st d c)) + st d c b
    rw [e, and_cons _ _ _ _ h1 hc, and_cons _ _ _ _ hb hc, h2, ← ih]
    unfold st
    omega
theorem st3_sum : ∀ l : List Nat, (∀ b ∈ l, b < 128 ∧ b % 16 ≤ 4) → (val l / 16 + val l) &&& rep 15 l.length = val (l.map st3)
  | [], _ => by simp [val, rep]
  | b :: l, h => by
    have ih := st3_sum l (fun x hx => h x (by simp [hx]))
    have hb := h b (by simp)
    have hm : val l % 16 ≤ 4 := by
      cases l with
      | nil => simp [val]
      | cons b' l =>
        have := (h b' (by simp)).2
        show (256 * val l + b') % 16 ≤ 4
        omega
    have e : (256 * val l + b) / 16 + (256 * val l + b) = 256 * (val l / 16 + val l) + (16 * (val l % 16) + b / 16 + b) := by omega
    show ((256 * val l + b) / 16 + (256 * val l + b)) &&& (256 * rep 15 l.length + 15) = 256 * val (l.map st3) + st3 b
    rw [e, and_cons _ _ _ _ (by omega) (by omega), ← ih]
    have e2 : (16 * (val l % 16) + b / 16 + b) &&& 15 = st3 b := by
      unfold st3
      rw [show (15 : Nat) = 2 ^ 4 - 1 from rfl, Nat.and_two_pow_sub_one_eq_mod, Nat.and_two_pow_sub_one_eq_mod]
      omega
    rw [e2]
theorem val_lt : ∀ l : List Nat, (∀ b ∈ l, b < 256) → val l < 256 ^ l.length
  | [], _ => by simp [val]
  | b :: l, h => by
    have ih := val_lt l (fun x hx => h x (by simp [hx]))
    have hb := h b (by simp)
    show 256 * val l + b < 256 ^ (l.length + 1)
    rw [Nat.pow_succ]
    omega
theorem all2 : ∀ r, r < 2 → ∀ b, b < 256 → (256 * r + b) / 2 < 256 ∧ (256 * r + b) / 2 &&& 85 = b / 2 &&& 85 := by decide +kernel
theorem all4 : ∀ r, r < 4 → ∀ b, b < 256 → (256 * r + b) / 4 < 256 ∧ (256 * r + b) / 4 &&& 51 = b / 4 &&& 51 := by decide +kernel
/-- The number of a byte's set bits. -/
def pcb (b : Nat) : Nat := st3 (st 4 51 (st 2 85 b))
/-- Whether the number of set bits among a number's first i is odd. -/
def oddN (x : Nat) : Nat → Bool
  | 0 => false
  | i + 1 => oddN x i ^^ x.testBit i
theorem byte_facts : ∀ b, b < 256 → st 2 85 b < 256 ∧ st 4 51 (st 2 85 b) < 128 ∧ st 4 51 (st 2 85 b) % 16 ≤ 4 ∧ pcb b ≤ 8 ∧ oddN b 8 = decide (pcb b % 2 = 1) := by decide +kernel
theorem odd_nat (v : BitVec 64) : ∀ i, odd v i = oddN v.toNat i
  | 0 => rfl
  | i + 1 => by
    show (odd v i ^^ v.getLsbD i) = (oddN v.toNat i ^^ v.toNat.testBit i)
    rw [odd_nat v i, BitVec.testBit_toNat]
theorem oddN_byte (x : Nat) : ∀ i, oddN x (i + 8) = (oddN (x % 256) 8 ^^ oddN (x / 256) i)
  | 0 => by
    have h : ∀ i, i < 8 → (x % 256).testBit i = x.testBit i := by
      intro i hi
      rw [show 256 = 2 ^ 8 from rfl, Nat.testBit_mod_two_pow]
      simp [hi]
    show oddN x 8 = (oddN (x % 256) 8 ^^ false)
    rw [Bool.xor_false]
    simp only [oddN, h 0 (by omega), h 1 (by omega), h 2 (by omega), h 3 (by omega), h 4 (by omega), h 5 (by omega), h 6 (by omega), h 7 (by omega)]
  | i + 1 => by
    have ih := oddN_byte x i
    have h : (x / 256).testBit i = x.testBit (i + 8) := by rw [show 256 = 2 ^ 8 from rfl, Nat.testBit_div_two_pow]
    show (oddN x (i + 8) ^^ x.testBit (i + 8)) = (oddN (x % 256) 8 ^^ (oddN (x / 256) i ^^ (x / 256).testBit i))
    rw [ih, h, Bool.xor_assoc]
theorem par_add (a b : Nat) : decide ((a + b) % 2 = 1) = (decide (a % 2 = 1) ^^ decide (b % 2 = 1)) := by
  rcases Nat.mod_two_eq_zero_or_one a with h | h <;> rcases Nat.mod_two_eq_zero_or_one b with h' | h' <;> simp [h, h', Nat.add_mod]
/-- A word's eight bytes. -/
theorem eight (x : Nat) (hx : x < 18446744073709551616) : ∃ l : List Nat, l.length = 8 ∧ (∀ b ∈ l, b < 256) ∧ val l = x ∧ oddN x 64 = decide ((l.map pcb).sum % 2 = 1) := by
  refine ⟨[x % 256, x / 256 % 256, x / 256 / 256 % 256, x / 256 / 256 / 256 % 256, x / 256 / 256 / 256 / 256 % 256, x / 256 / 256 / 256 / 256 / 256 % 256, x / 256 / 256 / 256 / 256 / 256 / 256 % 256, x / 256 / 256 / 256 / 256 / 256 / 256 / 256 % 256], rfl, ?_, ?_, ?_⟩
  · intro b hb
    simp only [List.mem_cons, List.not_mem_nil, or_false] at hb
    omega
  · simp only [val]
    omega
  · have f : ∀ y : Nat, oddN (y % 256) 8 = decide (pcb (y % 256) % 2 = 1) := fun y => (byte_facts (y % 256) (Nat.mod_lt _ (by omega))).2.2.2.2
    have s : ∀ y i : Nat, oddN y (i + 8) = (decide (pcb (y % 256) % 2 = 1) ^^ oddN (y / 256) i) := fun y i => by rw [oddN_byte y i, f]
    have s7 : oddN x 64 = _ := s x 56
    have s6 : ∀ y, oddN y 56 = _ := fun y => s y 48
    have s5 : ∀ y, oddN y 48 = _ := fun y => s y 40
    have s4 : ∀ y, oddN y 40 = _ := fun y => s y 32
    have s3 : ∀ y, oddN y 32 = _ := fun y => s y 24
    have s2 : ∀ y, oddN y 24 = _ := fun y => s y 16
    have s1 : ∀ y, oddN y 16 = _ := fun y => s y 8
    have s0 : ∀ y, oddN y 8 = _ := fun y => s y 0
    rw [s7, s6, s5, s4, s3, s2, s1, s0]
    simp only [List.map_cons, List.map_nil, List.sum_cons, List.sum_nil, par_add]
    rfl
end Go.Vm.Tryd
