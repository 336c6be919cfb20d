/- Plain functions that the second machine reduces to: printed by fns.py. -/
import Derived.Test.YtdpaokgemjfhlaaGreatDoorVmExt
namespace Go.Vm.Tryz
open Go.Proofs.Tryz
set_option maxRecDepth 100000
set_option linter.unusedVariables false
set_option linter.unusedSimpArgs false
theorem ext35 : ext 35 = none := rfl
theorem fn35 : T.fn.get 35 = some f35 := by kernel_rfl
/-! maskwright/maskmake.Below -/
noncomputable def ann35 : Ann := (.two .nil (.two (.two .nil (.two .nil .nil)) (.two .nil (.two (.join [] [(.normal, ⟨[(0, 3)], [], []⟩)] (.two .nil .nil)) .nil))))
noncomputable def F35 (cf : CF) (n : Nat) (x_0 : Int) (x_1 : Int) (H : VH) : Option (AV × VH) :=
  letH H.lo fun H1 => selC (ilt x_1 1) (some (.int .i64 0, leave H H1 (.int .i64 0))) (bindV (varith .rem .i64 x_0 .i64 x_1) fun v2 => asI .i64 v2 fun n3 => bindJ (selC (ilt n3 0) (letN (fwrap .i64 (n3 + x_1)) fun n4 => some (.normal, [.int .i64 n4], H1)) (some (.normal, [.int .i64 n3], H1))) fun x5 l6 H7 => caseEx .normal x5 (unc l6 fun a8 l9 => asI .i64 a8 fun n10 => endL l9 (some (.int .i64 n10, leave H H7 (.int .i64 n10)))) (none))
theorem eq35 (cf : CF) (n : Nat) (x_0 : Int) (x_1 : Int) (H : VH) : wfun T cf (promo 35) n ann35 f35 [.int .i64 x_0, .int .i64 x_1] H = F35 cf n x_0 x_1 H := by kernel_rfl
theorem ok35 (n : Nat) (x_0 : Int) (x_1 : Int) (H : VH) {r : AV × VH} (h : F35 (vcall T ext promo n) n x_0 x_1 H = some r) : vcall T ext promo (n + 1) 35 [.int .i64 x_0, .int .i64 x_1] H = some r :=
  call_of_wfun ext35 fn35 ((eq35 _ _ _ _ _).trans h)

theorem ext16 : ext 16 = none := rfl
theorem fn16 : T.fn.get 16 = some f16 := by kernel_rfl
/-! (*maskwright/maskmake.Stream).Next -/
noncomputable def ann16 : Ann := (.two .nil (.two .nil (.two (.two .nil (.two .nil .nil)) (.two .nil (.two .nil .nil)))))
noncomputable def F16 (cf : CF) (n : Nat) (p_0 : Option (Nat × Nat)) (x_1 : Int) (H : VH) : Option (AV × VH) :=
  letH H.lo fun H1 => asSome p_0 fun p2 o3 => bindV (H1.cell p2 (o3 + 1)) fun v4 => asI .i64 v4 fun n5 => letN (fwrap .i64 (n5 + 1)) fun n6 => asSome p_0 fun p7 o8 => bindH (H1.puts p7 (o8 + 1) [.int .i64 n6]) fun H9 => asSome p_0 fun p10 o11 => bindV (H9.cell p10 o11) fun v12 => asSl v12 fun a13 k14 c15 e16 => selC (ieq (k14 : Int) 0) (asSome p_0 fun p17 o18 => bindV (H9.cell p17 (o18 + 1)) fun v19 => asI .i64 v19 fun n20 => letN (fwrap .i64 (n20 * 7919)) fun n21 => bindC (cf 35 [.int .i64 n21, .int .i64 x_1] H9) fun v22 H23 => asI .i64 v22 fun n24 => some (.int .i64 n24, leave H H23 (.int .i64 n24))) (asSome p_0 fun p25 o26 => bindV (H9.cell p25 (o26 + 1)) fun v27 => asI .i64 v27 fun n28 => letN (fwrap .i64 (n28 - 1)) fun n29 => asSome p_0 fun p30 o31 => bindV (H9.cell p30 o31) fun v32 => asSl v32 fun a33 k34 c35 e36 => bindV (varith .rem .i64 n29 .i64 (k34 : Int)) fun v37 => asI .i64 v37 fun n38 => asSome p_0 fun p39 o40 => bindV (H9.cell p39 (o40 + 1)) fun v41 => asI .i64 v41 fun n42 => letN (fwrap .i64 (n42 - 1)) fun n43 => asSome p_0 fun p44 o45 => bindV (H9.cell p44 o45) fun v46 => asSl v46 fun a47 k48 c49 e50 => bindV (varith .quo .i64 n43 .i64 (k48 : Int)) fun v51 => asI .i64 v51 fun n52 => asSome p_0 fun p53 o54 => bindV (H9.cell p53 o54) fun v55 => asSl v55 fun a56 k57 c58 e59 => asSome a56 fun p60 o61 => condT (ile 0 n38 && ilt n38 (k57 : Nat)) (bindV (H9.cell p60 (o61 + n38.toNat * 1)) fun v62 => asI .i64 v62 fun n63 => bindC (cf 35 [.int .i64 n63, .int .i64 1073741824] H9) fun v64 H65 => asI .i64 v64 fun n66 => letN (fwrap .i64 (7919 + n38)) fun n67 => letN (fwrap .i64 (n52 * n67)) fun n68 => letN (fwrap .i64 (n66 + n68)) fun n69 => bindC (cf 35 [.int .i64 n69, .int .i64 x_1] H65) fun v70 H71 => asI .i64 v70 fun n72 => some (.int .i64 n72, leave H H71 (.int .i64 n72))))
theorem eq16 (cf : CF) (n : Nat) (p_0 : Option (Nat × Nat)) (x_1 : Int) (H : VH) : wfun T cf (promo 16) n ann16 f16 [.ptr p_0, .int .i64 x_1] H = F16 cf n p_0 x_1 H := by kernel_rfl
theorem ok16 (n : Nat) (p_0 : Option (Nat × Nat)) (x_1 : Int) (H : VH) {r : AV × VH} (h : F16 (vcall T ext promo n) n p_0 x_1 H = some r) : vcall T ext promo (n + 1) 16 [.ptr p_0, .int .i64 x_1] H = some r :=
  call_of_wfun ext16 fn16 ((eq16 _ _ _ _ _).trans h)

theorem ext14 : ext 14 = none := rfl
theorem fn14 : T.fn.get 14 = some f14 := by kernel_rfl
/-! (*maskwright/maskmake.Stream).Range -/
noncomputable def ann14 : Ann := (.two .nil (.two (.two .nil (.two .nil .nil)) .nil))
noncomputable def F14 (cf : CF) (n : Nat) (p_0 : Option (Nat × Nat)) (x_1 : Int) (x_2 : Int) (H : VH) : Option (AV × VH) :=
  letH H.lo fun H1 => selC (ilt x_2 x_1) (some (.int .i64 x_1, leave H H1 (.int .i64 x_1))) (letN (fwrap .i64 (x_2 - x_1)) fun n2 => letN (fwrap .i64 (n2 + 1)) fun n3 => bindC (cf 16 [.ptr p_0, .int .i64 n3] H1) fun v4 H5 => asI .i64 v4 fun n6 => letN (fwrap .i64 (x_1 + n6)) fun n7 => some (.int .i64 n7, leave H H5 (.int .i64 n7)))
theorem eq14 (cf : CF) (n : Nat) (p_0 : Option (Nat × Nat)) (x_1 : Int) (x_2 : Int) (H : VH) : wfun T cf (promo 14) n ann14 f14 [.ptr p_0, .int .i64 x_1, .int .i64 x_2] H = F14 cf n p_0 x_1 x_2 H := by kernel_rfl
theorem ok14 (n : Nat) (p_0 : Option (Nat × Nat)) (x_1 : Int) (x_2 : Int) (H : VH) {r : AV × VH} (h : F14 (vcall T ext promo n) n p_0 x_1 x_2 H = some r) : vcall T ext promo (n + 1) 14 [.ptr p_0, .int .i64 x_1, .int .i64 x_2] H = some r :=
  call_of_wfun ext14 fn14 ((eq14 _ _ _ _ _ _).trans h)

theorem ext18 : ext 18 = none := rfl
theorem fn18 : T.fn.get 18 = some f18 := by kernel_rfl
/-! (*maskwright/maskmake.Stream).Flip -/
noncomputable def ann18 : Ann := (.two .nil .nil)
noncomputable def F18 (cf : CF) (n : Nat) (p_0 : Option (Nat × Nat)) (x_1 : Int) (H : VH) : Option (AV × VH) :=
  letH H.lo fun H1 => bindC (cf 16 [.ptr p_0, .int .i64 x_1] H1) fun v2 H3 => asI .i64 v2 fun n4 => some (.bool (ieq n4 0), leave H H3 (.bool (ieq n4 0)))
theorem eq18 (cf : CF) (n : Nat) (p_0 : Option (Nat × Nat)) (x_1 : Int) (H : VH) : wfun T cf (promo 18) n ann18 f18 [.ptr p_0, .int .i64 x_1] H = F18 cf n p_0 x_1 H := by kernel_rfl
theorem ok18 (n : Nat) (p_0 : Option (Nat × Nat)) (x_1 : Int) (H : VH) {r : AV × VH} (h : F18 (vcall T ext promo n) n p_0 x_1 H = some r) : vcall T ext promo (n + 1) 18 [.ptr p_0, .int .i64 x_1] H = some r :=
  call_of_wfun ext18 fn18 ((eq18 _ _ _ _ _).trans h)

end Go.Vm.Tryz
