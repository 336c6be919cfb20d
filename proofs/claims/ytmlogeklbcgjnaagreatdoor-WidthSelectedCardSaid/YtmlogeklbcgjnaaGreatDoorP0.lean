/- Plain functions that the second machine reduces to: printed by fns.py. -/
import Derived.Test.YtmlogeklbcgjnaaGreatDoorVmExt
namespace Go.Vm.Tryz
open Go.Proofs.Tryz
set_option maxRecDepth 100000
set_option linter.unusedVariables false
set_option linter.unusedSimpArgs false
theorem ext5 : ext 5 = none := rfl
theorem fn5 : T.fn.get 5 = some f5 := by kernel_rfl
/-! (*maskwright/maskmake.Stream).Next -/
noncomputable def ann5 : Ann := (.two .nil (.two .nil (.two (.two .nil (.two .nil .nil)) (.two .nil (.two .nil .nil)))))
noncomputable def F5 (cf : CF) (n : Nat) (p_0 : Option (Bk × Nat)) (x_1 : Int) (H : VH) : Option (AV × VH) :=
  letH H.lo fun H1 => asSome p_0 fun p2 o3 => bindV (H1.cell p2 (o3 + 1)) fun v4 => asI .i64 v4 fun n5 => letN (fwrap .i64 (n5 + 1)) fun n6 => asSome p_0 fun p7 o8 => bindH (H1.puts p7 (o8 + 1) [.int .i64 n6]) fun H9 => asSome p_0 fun p10 o11 => bindV (H9.cell p10 o11) fun v12 => asSl v12 fun a13 k14 c15 e16 => selC (ieq (k14 : Int) 0) (asSome p_0 fun p17 o18 => bindV (H9.cell p17 (o18 + 1)) fun v19 => asI .i64 v19 fun n20 => letN (fwrap .i64 (n20 * 7919)) fun n21 => bindC (cf 15 [.int .i64 n21, .int .i64 x_1] H9) fun v22 H23 => asI .i64 v22 fun n24 => some (.int .i64 n24, leave H H23 (.int .i64 n24))) (asSome p_0 fun p25 o26 => bindV (H9.cell p25 (o26 + 1)) fun v27 => asI .i64 v27 fun n28 => letN (fwrap .i64 (n28 - 1)) fun n29 => asSome p_0 fun p30 o31 => bindV (H9.cell p30 o31) fun v32 => asSl v32 fun a33 k34 c35 e36 => bindV (varith .rem .i64 n29 .i64 (k34 : Int)) fun v37 => asI .i64 v37 fun n38 => asSome p_0 fun p39 o40 => bindV (H9.cell p39 (o40 + 1)) fun v41 => asI .i64 v41 fun n42 => letN (fwrap .i64 (n42 - 1)) fun n43 => asSome p_0 fun p44 o45 => bindV (H9.cell p44 o45) fun v46 => asSl v46 fun a47 k48 c49 e50 => bindV (varith .quo .i64 n43 .i64 (k48 : Int)) fun v51 => asI .i64 v51 fun n52 => asSome p_0 fun p53 o54 => bindV (H9.cell p53 o54) fun v55 => asSl v55 fun a56 k57 c58 e59 => asSome a56 fun p60 o61 => condT (ile 0 n38 && ilt n38 (k57 : Nat)) (bindV (H9.cell p60 (o61 + n38.toNat * 1)) fun v62 => asI .i64 v62 fun n63 => bindC (cf 15 [.int .i64 n63, .int .i64 1073741824] H9) fun v64 H65 => asI .i64 v64 fun n66 => letN (fwrap .i64 (7919 + n38)) fun n67 => letN (fwrap .i64 (n52 * n67)) fun n68 => letN (fwrap .i64 (n66 + n68)) fun n69 => bindC (cf 15 [.int .i64 n69, .int .i64 x_1] H65) fun v70 H71 => asI .i64 v70 fun n72 => some (.int .i64 n72, leave H H71 (.int .i64 n72))))
theorem eq5 (cf : CF) (n : Nat) (p_0 : Option (Bk × Nat)) (x_1 : Int) (H : VH) : wfun T cf (promo 5) n ann5 f5 [.ptr p_0, .int .i64 x_1] H = F5 cf n p_0 x_1 H := by kernel_rfl
theorem nz5 : promo 5 (f5.ntmps + 1) = false := by kernel_rfl
theorem ok5 (n : Nat) (p_0 : Option (Bk × Nat)) (x_1 : Int) (H : VH) {r : AV × VH} (h : F5 (vcall T ext promo n) n p_0 x_1 H = some r) : vcall T ext promo (n + 1) 5 [.ptr p_0, .int .i64 x_1] H = some r :=
  call_of_wfun ext5 fn5 (by rw [nz5]; rfl) ((eq5 _ _ _ _ _).trans h)

theorem ext15 : ext 15 = none := rfl
theorem fn15 : T.fn.get 15 = some f15 := by kernel_rfl
/-! maskwright/maskmake.Below -/
noncomputable def ann15 : Ann := (.two .nil (.two (.two .nil (.two .nil .nil)) (.two .nil (.two (.join [] [(.normal, ⟨[(0, 3)], [], []⟩)] (.two .nil .nil)) .nil))))
noncomputable def F15 (cf : CF) (n : Nat) (x_0 : Int) (x_1 : Int) (H : VH) : Option (AV × VH) :=
  letH H.lo fun H1 => selC (ilt x_1 1) (some (.int .i64 0, leave H H1 (.int .i64 0))) (bindV (varith .rem .i64 x_0 .i64 x_1) fun v2 => asI .i64 v2 fun n3 => bindJ (selC (ilt n3 0) (letN (fwrap .i64 (n3 + x_1)) fun n4 => some (.normal, [.int .i64 n4], H1)) (some (.normal, [.int .i64 n3], H1))) fun x5 l6 H7 => caseEx .normal x5 (unc l6 fun a8 l9 => asI .i64 a8 fun n10 => endL l9 (some (.int .i64 n10, leave H H7 (.int .i64 n10)))) (none))
theorem eq15 (cf : CF) (n : Nat) (x_0 : Int) (x_1 : Int) (H : VH) : wfun T cf (promo 15) n ann15 f15 [.int .i64 x_0, .int .i64 x_1] H = F15 cf n x_0 x_1 H := by kernel_rfl
theorem nz15 : promo 15 (f15.ntmps + 1) = false := by kernel_rfl
theorem ok15 (n : Nat) (x_0 : Int) (x_1 : Int) (H : VH) {r : AV × VH} (h : F15 (vcall T ext promo n) n x_0 x_1 H = some r) : vcall T ext promo (n + 1) 15 [.int .i64 x_0, .int .i64 x_1] H = some r :=
  call_of_wfun ext15 fn15 (by rw [nz15]; rfl) ((eq15 _ _ _ _ _).trans h)

theorem ext23 : ext 23 = none := rfl
theorem fn23 : T.fn.get 23 = some f23 := by kernel_rfl
/-! maskwright/bits.mask -/
noncomputable def ann23 : Ann := (.two .nil (.two (.two .nil (.two .nil .nil)) .nil))
noncomputable def F23 (cf : CF) (n : Nat) (x_0 : Int) (H : VH) : Option (AV × VH) :=
  letH H.lo fun H1 => selC (ile 64 x_0) (some (.int .u64 18446744073709551615, leave H H1 (.int .u64 18446744073709551615))) (bindV (varith .shl .u64 1 .i64 x_0) fun v2 => asI .u64 v2 fun n3 => letN (fwrap .u64 (n3 - 1)) fun n4 => some (.int .u64 n4, leave H H1 (.int .u64 n4)))
theorem eq23 (cf : CF) (n : Nat) (x_0 : Int) (H : VH) : wfun T cf (promo 23) n ann23 f23 [.int .i64 x_0] H = F23 cf n x_0 H := by kernel_rfl
theorem nz23 : promo 23 (f23.ntmps + 1) = false := by kernel_rfl
theorem ok23 (n : Nat) (x_0 : Int) (H : VH) {r : AV × VH} (h : F23 (vcall T ext promo n) n x_0 H = some r) : vcall T ext promo (n + 1) 23 [.int .i64 x_0] H = some r :=
  call_of_wfun ext23 fn23 (by rw [nz23]; rfl) ((eq23 _ _ _ _).trans h)

theorem ext22 : ext 22 = none := rfl
theorem fn22 : T.fn.get 22 = some f22 := by kernel_rfl
/-! maskwright/bits.Known -/
noncomputable def ann22 : Ann := (.two .nil .nil)
noncomputable def F22 (cf : CF) (n : Nat) (x_0_0 : Int) (x_0_1 : Int) (x_0_2 : Int) (H : VH) : Option (AV × VH) :=
  letH H.lo fun H1 => bindC (cf 24 [.slice (some ((.pur [.int .i64 x_0_0, .int .u64 x_0_1, .int .u64 x_0_2]), 0)) 1 (some 1) 3] H1) fun v2 H3 => asB v2 fun b4 => selC b4 (some (.bool (ieq x_0_2 0), leave H H3 (.bool (ieq x_0_2 0)))) (some (.bool false, leave H H3 (.bool false)))
theorem eq22 (cf : CF) (n : Nat) (x_0_0 : Int) (x_0_1 : Int) (x_0_2 : Int) (H : VH) : wfun T cf (promo 22) n ann22 f22 [.agg [.int .i64 x_0_0, .int .u64 x_0_1, .int .u64 x_0_2]] H = F22 cf n x_0_0 x_0_1 x_0_2 H := by kernel_rfl
theorem nz22 : promo 22 (f22.ntmps + 1) = false := by kernel_rfl
theorem ok22 (n : Nat) (x_0_0 : Int) (x_0_1 : Int) (x_0_2 : Int) (H : VH) {r : AV × VH} (h : F22 (vcall T ext promo n) n x_0_0 x_0_1 x_0_2 H = some r) : vcall T ext promo (n + 1) 22 [.agg [.int .i64 x_0_0, .int .u64 x_0_1, .int .u64 x_0_2]] H = some r :=
  call_of_wfun ext22 fn22 (by rw [nz22]; rfl) ((eq22 _ _ _ _ _ _).trans h)

theorem ext16 : ext 16 = none := rfl
theorem fn16 : T.fn.get 16 = some f16 := by kernel_rfl
/-! (*maskwright/maskmake.Stream).word -/
noncomputable def ann16 : Ann := (.two .nil .nil)
noncomputable def F16 (cf : CF) (n : Nat) (p_0 : Option (Bk × Nat)) (H : VH) : Option (AV × VH) :=
  letH H.lo fun H1 => bindC (cf 5 [.ptr p_0, .int .i64 1073741824] H1) fun v2 H3 => asI .i64 v2 fun n4 => bindC (cf 5 [.ptr p_0, .int .i64 1073741824] H3) fun v5 H6 => asI .i64 v5 fun n7 => letN (fwrap .u64 (ishl (fwrap .u64 n7) 25)) fun n8 => letN (ixor .u64 (fwrap .u64 n4) n8) fun n9 => bindC (cf 5 [.ptr p_0, .int .i64 1073741824] H6) fun v10 H11 => asI .i64 v10 fun n12 => letN (fwrap .u64 (ishl (fwrap .u64 n12) 50)) fun n13 => letN (ixor .u64 n9 n13) fun n14 => some (.int .u64 n14, leave H H11 (.int .u64 n14))
theorem eq16 (cf : CF) (n : Nat) (p_0 : Option (Bk × Nat)) (H : VH) : wfun T cf (promo 16) n ann16 f16 [.ptr p_0] H = F16 cf n p_0 H := by kernel_rfl
theorem nz16 : promo 16 (f16.ntmps + 1) = false := by kernel_rfl
theorem ok16 (n : Nat) (p_0 : Option (Bk × Nat)) (H : VH) {r : AV × VH} (h : F16 (vcall T ext promo n) n p_0 H = some r) : vcall T ext promo (n + 1) 16 [.ptr p_0] H = some r :=
  call_of_wfun ext16 fn16 (by rw [nz16]; rfl) ((eq16 _ _ _ _).trans h)

theorem ext17 : ext 17 = none := rfl
theorem fn17 : T.fn.get 17 = some f17 := by kernel_rfl
/-! maskwright/maskmake.mask -/
noncomputable def ann17 : Ann := (.two .nil (.two (.two .nil (.two .nil .nil)) .nil))
noncomputable def F17 (cf : CF) (n : Nat) (x_0 : Int) (H : VH) : Option (AV × VH) :=
  letH H.lo fun H1 => selC (ile 64 x_0) (some (.int .u64 18446744073709551615, leave H H1 (.int .u64 18446744073709551615))) (bindV (varith .shl .u64 1 .i64 x_0) fun v2 => asI .u64 v2 fun n3 => letN (fwrap .u64 (n3 - 1)) fun n4 => some (.int .u64 n4, leave H H1 (.int .u64 n4)))
theorem eq17 (cf : CF) (n : Nat) (x_0 : Int) (H : VH) : wfun T cf (promo 17) n ann17 f17 [.int .i64 x_0] H = F17 cf n x_0 H := by kernel_rfl
theorem nz17 : promo 17 (f17.ntmps + 1) = false := by kernel_rfl
theorem ok17 (n : Nat) (x_0 : Int) (H : VH) {r : AV × VH} (h : F17 (vcall T ext promo n) n x_0 H = some r) : vcall T ext promo (n + 1) 17 [.int .i64 x_0] H = some r :=
  call_of_wfun ext17 fn17 (by rw [nz17]; rfl) ((eq17 _ _ _ _).trans h)

theorem ext8 : ext 8 = none := rfl
theorem fn8 : T.fn.get 8 = some f8 := by kernel_rfl
/-! (*maskwright/maskmake.Stream).Flip -/
noncomputable def ann8 : Ann := (.two .nil .nil)
noncomputable def F8 (cf : CF) (n : Nat) (p_0 : Option (Bk × Nat)) (x_1 : Int) (H : VH) : Option (AV × VH) :=
  letH H.lo fun H1 => bindC (cf 5 [.ptr p_0, .int .i64 x_1] H1) fun v2 H3 => asI .i64 v2 fun n4 => some (.bool (ieq n4 0), leave H H3 (.bool (ieq n4 0)))
theorem eq8 (cf : CF) (n : Nat) (p_0 : Option (Bk × Nat)) (x_1 : Int) (H : VH) : wfun T cf (promo 8) n ann8 f8 [.ptr p_0, .int .i64 x_1] H = F8 cf n p_0 x_1 H := by kernel_rfl
theorem nz8 : promo 8 (f8.ntmps + 1) = false := by kernel_rfl
theorem ok8 (n : Nat) (p_0 : Option (Bk × Nat)) (x_1 : Int) (H : VH) {r : AV × VH} (h : F8 (vcall T ext promo n) n p_0 x_1 H = some r) : vcall T ext promo (n + 1) 8 [.ptr p_0, .int .i64 x_1] H = some r :=
  call_of_wfun ext8 fn8 (by rw [nz8]; rfl) ((eq8 _ _ _ _ _).trans h)

theorem ext4 : ext 4 = none := rfl
theorem fn4 : T.fn.get 4 = some f4 := by kernel_rfl
/-! (*maskwright/maskmake.Stream).Range -/
noncomputable def ann4 : Ann := (.two .nil (.two (.two .nil (.two .nil .nil)) .nil))
noncomputable def F4 (cf : CF) (n : Nat) (p_0 : Option (Bk × Nat)) (x_1 : Int) (x_2 : Int) (H : VH) : Option (AV × VH) :=
  letH H.lo fun H1 => selC (ilt x_2 x_1) (some (.int .i64 x_1, leave H H1 (.int .i64 x_1))) (letN (fwrap .i64 (x_2 - x_1)) fun n2 => letN (fwrap .i64 (n2 + 1)) fun n3 => bindC (cf 5 [.ptr p_0, .int .i64 n3] H1) fun v4 H5 => asI .i64 v4 fun n6 => letN (fwrap .i64 (x_1 + n6)) fun n7 => some (.int .i64 n7, leave H H5 (.int .i64 n7)))
theorem eq4 (cf : CF) (n : Nat) (p_0 : Option (Bk × Nat)) (x_1 : Int) (x_2 : Int) (H : VH) : wfun T cf (promo 4) n ann4 f4 [.ptr p_0, .int .i64 x_1, .int .i64 x_2] H = F4 cf n p_0 x_1 x_2 H := by kernel_rfl
theorem nz4 : promo 4 (f4.ntmps + 1) = false := by kernel_rfl
theorem ok4 (n : Nat) (p_0 : Option (Bk × Nat)) (x_1 : Int) (x_2 : Int) (H : VH) {r : AV × VH} (h : F4 (vcall T ext promo n) n p_0 x_1 x_2 H = some r) : vcall T ext promo (n + 1) 4 [.ptr p_0, .int .i64 x_1, .int .i64 x_2] H = some r :=
  call_of_wfun ext4 fn4 (by rw [nz4]; rfl) ((eq4 _ _ _ _ _ _).trans h)

theorem ext6 : ext 6 = none := rfl
theorem fn6 : T.fn.get 6 = some f6 := by kernel_rfl
/-! (*maskwright/maskmake.Stream).Known -/
noncomputable def ann6 : Ann := (.two .nil (.two .nil (.two (.join [4] [(.normal, ⟨[(5, 28)], [], []⟩)] (.two .nil (.one (.two .nil (.two .nil (.two .nil (.two .nil (.two .nil .nil)))))))) .nil)))
noncomputable def F6 (cf : CF) (n : Nat) (p_0 : Option (Bk × Nat)) (x_1 : Int) (H : VH) : Option (AV × VH) :=
  letH H.lo fun H1 => bindC (cf 16 [.ptr p_0] H1) fun v2 H3 => asI .u64 v2 fun n4 => bindJ (bindC (cf 5 [.ptr p_0, .int .i64 6] H3) fun v5 H6 => asI .i64 v5 fun n7 => selC (ieq n7 0) (bindC (cf 5 [.ptr p_0, .int .i64 3] H6) fun v8 H9 => asI .i64 v8 fun n10 => some (.normal, [.int .u64 (fwrap .u64 n10)], H9)) (selC (ieq n7 1) (bindC (cf 5 [.ptr p_0, .int .i64 3] H6) fun v11 H12 => asI .i64 v11 fun n13 => letN (inot .u64 (fwrap .u64 n13)) fun n14 => some (.normal, [.int .u64 n14], H12)) (selC (ieq n7 2) (bindC (cf 5 [.ptr p_0, .int .i64 64] H6) fun v15 H16 => asI .i64 v15 fun n17 => bindV (varith .shl .u64 1 .i64 n17) fun v18 => asI .u64 v18 fun n19 => some (.normal, [.int .u64 n19], H16)) (some (.normal, [.int .u64 n4], H6))))) fun x20 l21 H22 => caseEx .normal x20 (unc l21 fun a23 l24 => asI .u64 a23 fun n25 => endL l24 (bindC (cf 17 [.int .i64 x_1] H22) fun v26 H27 => asI .u64 v26 fun n28 => letN (iand .u64 n25 n28) fun n29 => some (.agg [.int .i64 x_1, .int .u64 n29, .int .u64 0], leave H H27 (.agg [.int .i64 x_1, .int .u64 n29, .int .u64 0])))) (none)
theorem eq6 (cf : CF) (n : Nat) (p_0 : Option (Bk × Nat)) (x_1 : Int) (H : VH) : wfun T cf (promo 6) n ann6 f6 [.ptr p_0, .int .i64 x_1] H = F6 cf n p_0 x_1 H := by kernel_rfl
theorem nz6 : promo 6 (f6.ntmps + 1) = false := by kernel_rfl
theorem ok6 (n : Nat) (p_0 : Option (Bk × Nat)) (x_1 : Int) (H : VH) {r : AV × VH} (h : F6 (vcall T ext promo n) n p_0 x_1 H = some r) : vcall T ext promo (n + 1) 6 [.ptr p_0, .int .i64 x_1] H = some r :=
  call_of_wfun ext6 fn6 (by rw [nz6]; rfl) ((eq6 _ _ _ _ _).trans h)

theorem ext11 : ext 11 = none := rfl
theorem fn11 : T.fn.get 11 = some f11 := by kernel_rfl
/-! maskwright/bits.Int -/
noncomputable def ann11 : Ann := (.two .nil (.two (.two .nil (.two .nil .nil)) (.two .nil .nil)))
noncomputable def F11 (cf : CF) (n : Nat) (x_0_0 : Int) (x_0_1 : Int) (x_0_2 : Int) (H : VH) : Option (AV × VH) :=
  letH H.lo fun H1 => bindC (cf 22 [.agg [.int .i64 x_0_0, .int .u64 x_0_1, .int .u64 x_0_2]] H1) fun v2 H3 => asB v2 fun b4 => selC (!b4) (some (.tuple [.int .i64 0, .bool false], leave H H3 (.tuple [.int .i64 0, .bool false]))) (letN (fwrap .i64 (64 - x_0_0)) fun n5 => bindV (varith .shl .u64 x_0_1 .i64 n5) fun v6 => asI .u64 v6 fun n7 => bindV (varith .shr .i64 (fwrap .i64 n7) .i64 n5) fun v8 => asI .i64 v8 fun n9 => some (.tuple [.int .i64 n9, .bool true], leave H H3 (.tuple [.int .i64 n9, .bool true])))
theorem eq11 (cf : CF) (n : Nat) (x_0_0 : Int) (x_0_1 : Int) (x_0_2 : Int) (H : VH) : wfun T cf (promo 11) n ann11 f11 [.agg [.int .i64 x_0_0, .int .u64 x_0_1, .int .u64 x_0_2]] H = F11 cf n x_0_0 x_0_1 x_0_2 H := by kernel_rfl
theorem nz11 : promo 11 (f11.ntmps + 1) = false := by kernel_rfl
theorem ok11 (n : Nat) (x_0_0 : Int) (x_0_1 : Int) (x_0_2 : Int) (H : VH) {r : AV × VH} (h : F11 (vcall T ext promo n) n x_0_0 x_0_1 x_0_2 H = some r) : vcall T ext promo (n + 1) 11 [.agg [.int .i64 x_0_0, .int .u64 x_0_1, .int .u64 x_0_2]] H = some r :=
  call_of_wfun ext11 fn11 (by rw [nz11]; rfl) ((eq11 _ _ _ _ _ _).trans h)

theorem ext49 : ext 49 = none := rfl
theorem fn49 : T.fn.get 49 = some f49 := by kernel_rfl
/-! maskwright/bits.Of -/
noncomputable def ann49 : Ann := (.two .nil (.two (.two (.join [4] [(.normal, ⟨[(10, 4)], [], []⟩)] .nil) (.two .nil .nil)) .nil))
noncomputable def F49 (cf : CF) (n : Nat) (x_0 : Int) (x_1 : Int) (H : VH) : Option (AV × VH) :=
  letH H.lo fun H1 => bindJ (selC (ilt x_0 1) (some (.normal, [.bool true], H1)) (some (.normal, [.bool (ilt 64 x_0)], H1))) fun x2 l3 H4 => caseEx .normal x2 (unc l3 fun a5 l6 => asB a5 fun b7 => endL l6 (selC b7 (some (.agg [.int .i64 0, .int .u64 0, .int .u64 0], leave H H4 (.agg [.int .i64 0, .int .u64 0, .int .u64 0]))) (bindC (cf 23 [.int .i64 x_0] H4) fun v8 H9 => asI .u64 v8 fun n10 => letN (iand .u64 x_1 n10) fun n11 => some (.agg [.int .i64 x_0, .int .u64 n11, .int .u64 0], leave H H9 (.agg [.int .i64 x_0, .int .u64 n11, .int .u64 0]))))) (none)
theorem eq49 (cf : CF) (n : Nat) (x_0 : Int) (x_1 : Int) (H : VH) : wfun T cf (promo 49) n ann49 f49 [.int .i64 x_0, .int .u64 x_1] H = F49 cf n x_0 x_1 H := by kernel_rfl
theorem nz49 : promo 49 (f49.ntmps + 1) = false := by kernel_rfl
theorem ok49 (n : Nat) (x_0 : Int) (x_1 : Int) (H : VH) {r : AV × VH} (h : F49 (vcall T ext promo n) n x_0 x_1 H = some r) : vcall T ext promo (n + 1) 49 [.int .i64 x_0, .int .u64 x_1] H = some r :=
  call_of_wfun ext49 fn49 (by rw [nz49]; rfl) ((eq49 _ _ _ _ _).trans h)

end Go.Vm.Tryz
