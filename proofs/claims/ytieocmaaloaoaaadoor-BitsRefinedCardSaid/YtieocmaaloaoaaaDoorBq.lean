/- The number of set bits of a word, modulo 2: the code's sum. -/
import Derived.Test.YtieocmaaloaoaaaDoorBp
namespace Go.Vm.Tryd
set_option linter.unusedSectionVars false
set_option linter.unusedSimpArgs false
set_option linter.unusedVariables false
set_option maxRecDepth 10000
theorem dstep {d q r X : Nat} (hr : r < d) (h : X = d * q + r) : X / d = q := by
  subst h
  rw [Nat.mul_add_div (by omega), Nat.div_eq_of_lt hr, Nat.add_zero]
theorem sum_step {K d q r X Y : Nat} (hr : r < d) (h : X = d * q + r) (hb : X + q < K) (hY : Y = (X + X / d) % K) : Y = X + q := by
  rw [hY, dstep hr h, Nat.mod_eq_of_lt hb]
theorem low128 {G S F : Nat} (hF : F = 256 * G + S) (hS : S < 128) : F % 128 = S := by omega
theorem tail_sum (p0 p1 p2 p3 p4 p5 p6 p7 C D E F : Nat) (h0 : p0 ≤ 8) (h1 : p1 ≤ 8) (h2 : p2 ≤ 8) (h3 : p3 ≤ 8) (h4 : p4 ≤ 8) (h5 : p5 ≤ 8) (h6 : p6 ≤ 8) (h7 : p7 ≤ 8)
    (hC : C = 256 * (256 * (256 * (256 * (256 * (256 * (256 * p7 + p6) + p5) + p4) + p3) + p2) + p1) + p0) (hD : D = (C + C / 256) % 18446744073709551616) (hE : E = (D + D / 65536) % 18446744073709551616) (hF : F = (E + E / 4294967296) % 18446744073709551616) :
    F % 128 = p0 + (p1 + (p2 + (p3 + (p4 + (p5 + (p6 + p7)))))) := by
  have e1 := sum_step (by omega) hC (by omega) hD
  clear hD
  have e2 : D = 65536 * (256 * (256 * (256 * (256 * (256 * p7 + (p6 + p7)) + (p5 + p6)) + (p4 + p5)) + (p3 + p4)) + (p2 + p3)) + (256 * (p1 + p2) + (p0 + p1)) := by omega
  clear e1 hC
  have e3 := sum_step (by omega) e2 (by omega) hE
  clear hE
  have e4 : E = 4294967296 * (256 * (256 * (256 * p7 + (p6 + p7)) + (p5 + p6 + p7)) + (p4 + p5 + p6 + p7)) + (16777216 * (p3 + p4 + p5 + p6) + 65536 * (p2 + p3 + p4 + p5) + 256 * (p1 + p2 + p3 + p4) + (p0 + p1 + p2 + p3)) := by omega
  clear e3 e2
  have e5 := sum_step (by omega) e4 (by omega) hF
  clear hF
  refine low128 (G := 16777216 * (256 * (256 * (256 * p7 + (p6 + p7)) + (p5 + p6 + p7)) + (p4 + p5 + p6 + p7)) + (65536 * (p3 + p4 + p5 + p6) + 256 * (p2 + p3 + p4 + p5) + (p1 + p2 + p3 + p4)) + (256 * (256 * p7 + (p6 + p7)) + (p5 + p6 + p7))) ?_ (by omega)
  rw [e5, e4]
  clear e5 e4
  omega
end Go.Vm.Tryd
