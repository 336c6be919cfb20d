/- Plain functions that the second machine reduces to: printed by fns.py. -/
import Derived.Test.YtmlogeklbcgjnaaGreatDoorVmExt
namespace Go.Vm.Tryz
open Go.Proofs.Tryz
set_option maxRecDepth 100000
set_option linter.unusedVariables false
set_option linter.unusedSimpArgs false
theorem ext182 : ext 182 = none := rfl
theorem fn182 : T.fn.get 182 = some f182 := by kernel_rfl
/-! maskwright/bits.Add -/
noncomputable def ann182 : Ann := (.two .nil .nil)
noncomputable def F182 (cf : CF) (n : Nat) (x_0_0 : Int) (x_0_1 : Int) (x_0_2 : Int) (x_1_0 : Int) (x_1_1 : Int) (x_1_2 : Int) (H : VH) : Option (AV × VH) :=
  letH H.lo fun H1 => bindC (cf 215 [.agg [.int .i64 x_0_0, .int .u64 x_0_1, .int .u64 x_0_2], .agg [.int .i64 x_1_0, .int .u64 x_1_1, .int .u64 x_1_2], .func 218 [] []] H1) fun v2 H3 => asA v2 fun l4 => unc l4 fun a5 l6 => asI .i64 a5 fun n7 => unc l6 fun a8 l9 => asI .u64 a8 fun n10 => unc l9 fun a11 l12 => asI .u64 a11 fun n13 => endL l12 (some (.agg [.int .i64 n7, .int .u64 n10, .int .u64 n13], leave H H3 (.agg [.int .i64 n7, .int .u64 n10, .int .u64 n13])))
theorem eq182 (cf : CF) (n : Nat) (x_0_0 : Int) (x_0_1 : Int) (x_0_2 : Int) (x_1_0 : Int) (x_1_1 : Int) (x_1_2 : Int) (H : VH) : wfun T cf (promo 182) n ann182 f182 [.agg [.int .i64 x_0_0, .int .u64 x_0_1, .int .u64 x_0_2], .agg [.int .i64 x_1_0, .int .u64 x_1_1, .int .u64 x_1_2]] H = F182 cf n x_0_0 x_0_1 x_0_2 x_1_0 x_1_1 x_1_2 H := by kernel_rfl
theorem nz182 : promo 182 (f182.ntmps + 1) = false := by kernel_rfl
theorem ok182 (n : Nat) (x_0_0 : Int) (x_0_1 : Int) (x_0_2 : Int) (x_1_0 : Int) (x_1_1 : Int) (x_1_2 : Int) (H : VH) {r : AV × VH} (h : F182 (vcall T ext promo n) n x_0_0 x_0_1 x_0_2 x_1_0 x_1_1 x_1_2 H = some r) : vcall T ext promo (n + 1) 182 [.agg [.int .i64 x_0_0, .int .u64 x_0_1, .int .u64 x_0_2], .agg [.int .i64 x_1_0, .int .u64 x_1_1, .int .u64 x_1_2]] H = some r :=
  call_of_wfun ext182 fn182 (by rw [nz182]; rfl) ((eq182 _ _ _ _ _ _ _ _ _).trans h)

theorem ext183 : ext 183 = none := rfl
theorem fn183 : T.fn.get 183 = some f183 := by kernel_rfl
/-! maskwright/bits.Sub -/
noncomputable def ann183 : Ann := (.two .nil .nil)
noncomputable def F183 (cf : CF) (n : Nat) (x_0_0 : Int) (x_0_1 : Int) (x_0_2 : Int) (x_1_0 : Int) (x_1_1 : Int) (x_1_2 : Int) (H : VH) : Option (AV × VH) :=
  letH H.lo fun H1 => bindC (cf 215 [.agg [.int .i64 x_0_0, .int .u64 x_0_1, .int .u64 x_0_2], .agg [.int .i64 x_1_0, .int .u64 x_1_1, .int .u64 x_1_2], .func 219 [] []] H1) fun v2 H3 => asA v2 fun l4 => unc l4 fun a5 l6 => asI .i64 a5 fun n7 => unc l6 fun a8 l9 => asI .u64 a8 fun n10 => unc l9 fun a11 l12 => asI .u64 a11 fun n13 => endL l12 (some (.agg [.int .i64 n7, .int .u64 n10, .int .u64 n13], leave H H3 (.agg [.int .i64 n7, .int .u64 n10, .int .u64 n13])))
theorem eq183 (cf : CF) (n : Nat) (x_0_0 : Int) (x_0_1 : Int) (x_0_2 : Int) (x_1_0 : Int) (x_1_1 : Int) (x_1_2 : Int) (H : VH) : wfun T cf (promo 183) n ann183 f183 [.agg [.int .i64 x_0_0, .int .u64 x_0_1, .int .u64 x_0_2], .agg [.int .i64 x_1_0, .int .u64 x_1_1, .int .u64 x_1_2]] H = F183 cf n x_0_0 x_0_1 x_0_2 x_1_0 x_1_1 x_1_2 H := by kernel_rfl
theorem nz183 : promo 183 (f183.ntmps + 1) = false := by kernel_rfl
theorem ok183 (n : Nat) (x_0_0 : Int) (x_0_1 : Int) (x_0_2 : Int) (x_1_0 : Int) (x_1_1 : Int) (x_1_2 : Int) (H : VH) {r : AV × VH} (h : F183 (vcall T ext promo n) n x_0_0 x_0_1 x_0_2 x_1_0 x_1_1 x_1_2 H = some r) : vcall T ext promo (n + 1) 183 [.agg [.int .i64 x_0_0, .int .u64 x_0_1, .int .u64 x_0_2], .agg [.int .i64 x_1_0, .int .u64 x_1_1, .int .u64 x_1_2]] H = some r :=
  call_of_wfun ext183 fn183 (by rw [nz183]; rfl) ((eq183 _ _ _ _ _ _ _ _ _).trans h)

theorem ext184 : ext 184 = none := rfl
theorem fn184 : T.fn.get 184 = some f184 := by kernel_rfl
/-! maskwright/bits.Mul -/
noncomputable def ann184 : Ann := (.two .nil .nil)
noncomputable def F184 (cf : CF) (n : Nat) (x_0_0 : Int) (x_0_1 : Int) (x_0_2 : Int) (x_1_0 : Int) (x_1_1 : Int) (x_1_2 : Int) (H : VH) : Option (AV × VH) :=
  letH H.lo fun H1 => bindC (cf 215 [.agg [.int .i64 x_0_0, .int .u64 x_0_1, .int .u64 x_0_2], .agg [.int .i64 x_1_0, .int .u64 x_1_1, .int .u64 x_1_2], .func 220 [] []] H1) fun v2 H3 => asA v2 fun l4 => unc l4 fun a5 l6 => asI .i64 a5 fun n7 => unc l6 fun a8 l9 => asI .u64 a8 fun n10 => unc l9 fun a11 l12 => asI .u64 a11 fun n13 => endL l12 (some (.agg [.int .i64 n7, .int .u64 n10, .int .u64 n13], leave H H3 (.agg [.int .i64 n7, .int .u64 n10, .int .u64 n13])))
theorem eq184 (cf : CF) (n : Nat) (x_0_0 : Int) (x_0_1 : Int) (x_0_2 : Int) (x_1_0 : Int) (x_1_1 : Int) (x_1_2 : Int) (H : VH) : wfun T cf (promo 184) n ann184 f184 [.agg [.int .i64 x_0_0, .int .u64 x_0_1, .int .u64 x_0_2], .agg [.int .i64 x_1_0, .int .u64 x_1_1, .int .u64 x_1_2]] H = F184 cf n x_0_0 x_0_1 x_0_2 x_1_0 x_1_1 x_1_2 H := by kernel_rfl
theorem nz184 : promo 184 (f184.ntmps + 1) = false := by kernel_rfl
theorem ok184 (n : Nat) (x_0_0 : Int) (x_0_1 : Int) (x_0_2 : Int) (x_1_0 : Int) (x_1_1 : Int) (x_1_2 : Int) (H : VH) {r : AV × VH} (h : F184 (vcall T ext promo n) n x_0_0 x_0_1 x_0_2 x_1_0 x_1_1 x_1_2 H = some r) : vcall T ext promo (n + 1) 184 [.agg [.int .i64 x_0_0, .int .u64 x_0_1, .int .u64 x_0_2], .agg [.int .i64 x_1_0, .int .u64 x_1_1, .int .u64 x_1_2]] H = some r :=
  call_of_wfun ext184 fn184 (by rw [nz184]; rfl) ((eq184 _ _ _ _ _ _ _ _ _).trans h)

theorem ext218 : ext 218 = none := rfl
theorem fn218 : T.fn.get 218 = some f218 := by kernel_rfl
/-! maskwright/bits.Add$1 -/
noncomputable def ann218 : Ann := (.two .nil .nil)
noncomputable def F218 (cf : CF) (n : Nat) (x_0 : Int) (x_1 : Int) (H : VH) : Option (AV × VH) :=
  letH H.lo fun H1 => letN (fwrap .u64 (x_0 + x_1)) fun n2 => some (.int .u64 n2, leave H H1 (.int .u64 n2))
theorem eq218 (cf : CF) (n : Nat) (x_0 : Int) (x_1 : Int) (H : VH) : wfun T cf (promo 218) n ann218 f218 [.int .u64 x_0, .int .u64 x_1] H = F218 cf n x_0 x_1 H := by kernel_rfl
theorem nz218 : promo 218 (f218.ntmps + 1) = false := by kernel_rfl
theorem ok218 (n : Nat) (x_0 : Int) (x_1 : Int) (H : VH) {r : AV × VH} (h : F218 (vcall T ext promo n) n x_0 x_1 H = some r) : vcall T ext promo (n + 1) 218 [.int .u64 x_0, .int .u64 x_1] H = some r :=
  call_of_wfun ext218 fn218 (by rw [nz218]; rfl) ((eq218 _ _ _ _ _).trans h)

theorem ext219 : ext 219 = none := rfl
theorem fn219 : T.fn.get 219 = some f219 := by kernel_rfl
/-! maskwright/bits.Sub$1 -/
noncomputable def ann219 : Ann := (.two .nil .nil)
noncomputable def F219 (cf : CF) (n : Nat) (x_0 : Int) (x_1 : Int) (H : VH) : Option (AV × VH) :=
  letH H.lo fun H1 => letN (fwrap .u64 (x_0 - x_1)) fun n2 => some (.int .u64 n2, leave H H1 (.int .u64 n2))
theorem eq219 (cf : CF) (n : Nat) (x_0 : Int) (x_1 : Int) (H : VH) : wfun T cf (promo 219) n ann219 f219 [.int .u64 x_0, .int .u64 x_1] H = F219 cf n x_0 x_1 H := by kernel_rfl
theorem nz219 : promo 219 (f219.ntmps + 1) = false := by kernel_rfl
theorem ok219 (n : Nat) (x_0 : Int) (x_1 : Int) (H : VH) {r : AV × VH} (h : F219 (vcall T ext promo n) n x_0 x_1 H = some r) : vcall T ext promo (n + 1) 219 [.int .u64 x_0, .int .u64 x_1] H = some r :=
  call_of_wfun ext219 fn219 (by rw [nz219]; rfl) ((eq219 _ _ _ _ _).trans h)

theorem ext220 : ext 220 = none := rfl
theorem fn220 : T.fn.get 220 = some f220 := by kernel_rfl
/-! maskwright/bits.Mul$1 -/
noncomputable def ann220 : Ann := (.two .nil .nil)
noncomputable def F220 (cf : CF) (n : Nat) (x_0 : Int) (x_1 : Int) (H : VH) : Option (AV × VH) :=
  letH H.lo fun H1 => letN (fwrap .u64 (x_0 * x_1)) fun n2 => some (.int .u64 n2, leave H H1 (.int .u64 n2))
theorem eq220 (cf : CF) (n : Nat) (x_0 : Int) (x_1 : Int) (H : VH) : wfun T cf (promo 220) n ann220 f220 [.int .u64 x_0, .int .u64 x_1] H = F220 cf n x_0 x_1 H := by kernel_rfl
theorem nz220 : promo 220 (f220.ntmps + 1) = false := by kernel_rfl
theorem ok220 (n : Nat) (x_0 : Int) (x_1 : Int) (H : VH) {r : AV × VH} (h : F220 (vcall T ext promo n) n x_0 x_1 H = some r) : vcall T ext promo (n + 1) 220 [.int .u64 x_0, .int .u64 x_1] H = some r :=
  call_of_wfun ext220 fn220 (by rw [nz220]; rfl) ((eq220 _ _ _ _ _).trans h)

theorem ext215 : ext 215 = none := rfl
theorem fn215 : T.fn.get 215 = some f215 := by kernel_rfl
/-! maskwright/bits.number -/
noncomputable def ann215 : Ann := (.two .nil (.two (.one (.two .nil (.two .nil (.two .nil (.two .nil .nil))))) .nil))
noncomputable def F215 (cf : CF) (n : Nat) (x_0_0 : Int) (x_0_1 : Int) (x_0_2 : Int) (x_1_0 : Int) (x_1_1 : Int) (x_1_2 : Int) (v_2 : AV) (H : VH) : Option (AV × VH) :=
  letH H.lo fun H1 => bindC (cf 166 [.agg [.int .i64 x_0_0, .int .u64 x_0_1, .int .u64 x_0_2], .agg [.int .i64 x_1_0, .int .u64 x_1_1, .int .u64 x_1_2]] H1) fun v2 H3 => asB v2 fun b4 => selC (!b4) (some (.agg [.int .i64 0, .int .u64 0, .int .u64 0], leave H H3 (.agg [.int .i64 0, .int .u64 0, .int .u64 0]))) (letN (ior .u64 x_0_2 x_1_2) fun n5 => selC (!(ieq n5 0)) (bindC (cf 12 [.int .i64 x_0_0, .int .u8 120] H3) fun v6 H7 => asA v6 fun l8 => unc l8 fun a9 l10 => asI .i64 a9 fun n11 => unc l10 fun a12 l13 => asI .u64 a12 fun n14 => unc l13 fun a15 l16 => asI .u64 a15 fun n17 => endL l16 (some (.agg [.int .i64 n11, .int .u64 n14, .int .u64 n17], leave H H7 (.agg [.int .i64 n11, .int .u64 n14, .int .u64 n17])))) (asFn v_2 fun f18 l19 l20 => bindC (cf f18 (l19 ++ [.int .u64 x_0_1, .int .u64 x_1_1] ++ l20) H3) fun v21 H22 => asI .u64 v21 fun n23 => bindC (cf 49 [.int .i64 x_0_0, .int .u64 n23] H22) fun v24 H25 => asA v24 fun l26 => unc l26 fun a27 l28 => asI .i64 a27 fun n29 => unc l28 fun a30 l31 => asI .u64 a30 fun n32 => unc l31 fun a33 l34 => asI .u64 a33 fun n35 => endL l34 (some (.agg [.int .i64 n29, .int .u64 n32, .int .u64 n35], leave H H25 (.agg [.int .i64 n29, .int .u64 n32, .int .u64 n35])))))
theorem eq215 (cf : CF) (n : Nat) (x_0_0 : Int) (x_0_1 : Int) (x_0_2 : Int) (x_1_0 : Int) (x_1_1 : Int) (x_1_2 : Int) (v_2 : AV) (H : VH) : wfun T cf (promo 215) n ann215 f215 [.agg [.int .i64 x_0_0, .int .u64 x_0_1, .int .u64 x_0_2], .agg [.int .i64 x_1_0, .int .u64 x_1_1, .int .u64 x_1_2], v_2] H = F215 cf n x_0_0 x_0_1 x_0_2 x_1_0 x_1_1 x_1_2 v_2 H := by kernel_rfl
theorem nz215 : promo 215 (f215.ntmps + 1) = false := by kernel_rfl
theorem ok215 (n : Nat) (x_0_0 : Int) (x_0_1 : Int) (x_0_2 : Int) (x_1_0 : Int) (x_1_1 : Int) (x_1_2 : Int) (v_2 : AV) (H : VH) {r : AV × VH} (h : F215 (vcall T ext promo n) n x_0_0 x_0_1 x_0_2 x_1_0 x_1_1 x_1_2 v_2 H = some r) : vcall T ext promo (n + 1) 215 [.agg [.int .i64 x_0_0, .int .u64 x_0_1, .int .u64 x_0_2], .agg [.int .i64 x_1_0, .int .u64 x_1_1, .int .u64 x_1_2], v_2] H = some r :=
  call_of_wfun ext215 fn215 (by rw [nz215]; rfl) ((eq215 _ _ _ _ _ _ _ _ _ _).trans h)

theorem ext36 : ext 36 = none := rfl
theorem fn36 : T.fn.get 36 = some f36 := by kernel_rfl
/-! maskwright/bits.Check -/
noncomputable def ann36 : Ann := (.two .nil (.two (.two (.join [1] [(.normal, ⟨[(10, 4)], [], []⟩)] .nil) (.two .nil .nil)) (.two (.two .nil (.two .nil .nil)) .nil)))
noncomputable def F36 (cf : CF) (n : Nat) (x_0_0 : Int) (x_0_1 : Int) (x_0_2 : Int) (H : VH) : Option (AV × VH) :=
  letH H.lo fun H1 => bindJ (selC (ilt x_0_0 1) (some (.normal, [.bool true], H1)) (some (.normal, [.bool (ilt 64 x_0_0)], H1))) fun x2 l3 H4 => caseEx .normal x2 (unc l3 fun a5 l6 => asB a5 fun b7 => endL l6 (selC b7 (some (.int .i64 2, leave H H4 (.int .i64 2))) (letN (ior .u64 x_0_1 x_0_2) fun n8 => bindC (cf 23 [.int .i64 x_0_0] H4) fun v9 H10 => asI .u64 v9 fun n11 => letN (iandn .u64 n8 n11) fun n12 => selC (!(ieq n12 0)) (some (.int .i64 4, leave H H10 (.int .i64 4))) (some (.int .i64 0, leave H H10 (.int .i64 0)))))) (none)
theorem eq36 (cf : CF) (n : Nat) (x_0_0 : Int) (x_0_1 : Int) (x_0_2 : Int) (H : VH) : wfun T cf (promo 36) n ann36 f36 [.agg [.int .i64 x_0_0, .int .u64 x_0_1, .int .u64 x_0_2]] H = F36 cf n x_0_0 x_0_1 x_0_2 H := by kernel_rfl
theorem nz36 : promo 36 (f36.ntmps + 1) = false := by kernel_rfl
theorem ok36 (n : Nat) (x_0_0 : Int) (x_0_1 : Int) (x_0_2 : Int) (H : VH) {r : AV × VH} (h : F36 (vcall T ext promo n) n x_0_0 x_0_1 x_0_2 H = some r) : vcall T ext promo (n + 1) 36 [.agg [.int .i64 x_0_0, .int .u64 x_0_1, .int .u64 x_0_2]] H = some r :=
  call_of_wfun ext36 fn36 (by rw [nz36]; rfl) ((eq36 _ _ _ _ _ _).trans h)

theorem ext24 : ext 24 = none := rfl
theorem fn24 : T.fn.get 24 = some f24 := by kernel_rfl
/-! maskwright/bits.valid -/
noncomputable def ann24 : Ann := (.two .nil (.two (.two .nil (.one (.loop [] ⟨[(7, 3)], [], []⟩ [((.exit 0), ⟨[], [], []⟩), (.ret, ⟨[(2, 4)], [], []⟩)] (.two .nil (.two .nil (.two (.one (.two .nil (.two .nil (.two .nil .nil)))) .nil)))))) .nil))
noncomputable def L24_0 (cf : CF) (n : Nat) (a_0 : Option (Bk × Nat)) (k_0 : Nat) (ih2 : List AV → VH → Option R) (l3 : List AV) (H4 : VH) : Option R :=
  unc l3 fun a5 l6 => asI .i64 a5 fun n7 => endL l6 (selC (ilt n7 (k_0 : Int)) (asSome a_0 fun p8 o9 => condT (ile 0 n7 && ilt n7 (k_0 : Nat)) (bindL (H4.cells p8 (o9 + n7.toNat * 3) 3) fun l11 => asA (.agg l11) fun l12 => unc l12 fun a13 l14 => asI .i64 a13 fun n15 => unc l14 fun a16 l17 => asI .u64 a16 fun n18 => unc l17 fun a19 l20 => asI .u64 a19 fun n21 => endL l20 (bindC (cf 36 [.agg [.int .i64 n15, .int .u64 n18, .int .u64 n21]] H4) fun v22 H23 => asI .i64 v22 fun n24 => selC (!(ieq n24 0)) (some (.ret, [.bool false], H23)) (letN (fwrap .i64 (n7 + 1)) fun n25 => ih2 [.int .i64 n25] H23)))) (some ((.exit 0), [], H4)))
noncomputable def F24 (cf : CF) (n : Nat) (a_0 : Option (Bk × Nat)) (k_0 : Nat) (c_0 : Option Nat) (e_0 : Nat) (H : VH) : Option (AV × VH) :=
  letH H.lo fun H1 => bindJ (loopN (L24_0 cf n a_0 k_0) n [.int .i64 0] H1) fun x26 l27 H28 => caseEx (.exit 0) x26 (endL l27 (some (.bool true, leave H H28 (.bool true)))) (caseEx .ret x26 (unc l27 fun a29 l30 => asB a29 fun b31 => endL l30 (some (.bool b31, leave H H28 (.bool b31)))) (none))
theorem eq24 (cf : CF) (n : Nat) (a_0 : Option (Bk × Nat)) (k_0 : Nat) (c_0 : Option Nat) (e_0 : Nat) (H : VH) : wfun T cf (promo 24) n ann24 f24 [.slice a_0 k_0 c_0 e_0] H = F24 cf n a_0 k_0 c_0 e_0 H := by kernel_rfl
theorem nz24 : promo 24 (f24.ntmps + 1) = false := by kernel_rfl
theorem ok24 (n : Nat) (a_0 : Option (Bk × Nat)) (k_0 : Nat) (c_0 : Option Nat) (e_0 : Nat) (H : VH) {r : AV × VH} (h : F24 (vcall T ext promo n) n a_0 k_0 c_0 e_0 H = some r) : vcall T ext promo (n + 1) 24 [.slice a_0 k_0 c_0 e_0] H = some r :=
  call_of_wfun ext24 fn24 (by rw [nz24]; rfl) ((eq24 _ _ _ _ _ _ _).trans h)

theorem ext166 : ext 166 = none := rfl
theorem fn166 : T.fn.get 166 = some f166 := by kernel_rfl
/-! maskwright/bits.alike -/
noncomputable def ann166 : Ann := (.two .nil .nil)
noncomputable def F166 (cf : CF) (n : Nat) (x_0_0 : Int) (x_0_1 : Int) (x_0_2 : Int) (x_1_0 : Int) (x_1_1 : Int) (x_1_2 : Int) (H : VH) : Option (AV × VH) :=
  letH H.lo fun H1 => bindC (cf 24 [.slice (some ((.pur [.int .i64 x_0_0, .int .u64 x_0_1, .int .u64 x_0_2, .int .i64 x_1_0, .int .u64 x_1_1, .int .u64 x_1_2]), 0)) 2 (some 2) 3] H1) fun v2 H3 => asB v2 fun b4 => selC b4 (some (.bool (ieq x_0_0 x_1_0), leave H H3 (.bool (ieq x_0_0 x_1_0)))) (some (.bool false, leave H H3 (.bool false)))
theorem eq166 (cf : CF) (n : Nat) (x_0_0 : Int) (x_0_1 : Int) (x_0_2 : Int) (x_1_0 : Int) (x_1_1 : Int) (x_1_2 : Int) (H : VH) : wfun T cf (promo 166) n ann166 f166 [.agg [.int .i64 x_0_0, .int .u64 x_0_1, .int .u64 x_0_2], .agg [.int .i64 x_1_0, .int .u64 x_1_1, .int .u64 x_1_2]] H = F166 cf n x_0_0 x_0_1 x_0_2 x_1_0 x_1_1 x_1_2 H := by kernel_rfl
theorem nz166 : promo 166 (f166.ntmps + 1) = false := by kernel_rfl
theorem ok166 (n : Nat) (x_0_0 : Int) (x_0_1 : Int) (x_0_2 : Int) (x_1_0 : Int) (x_1_1 : Int) (x_1_2 : Int) (H : VH) {r : AV × VH} (h : F166 (vcall T ext promo n) n x_0_0 x_0_1 x_0_2 x_1_0 x_1_1 x_1_2 H = some r) : vcall T ext promo (n + 1) 166 [.agg [.int .i64 x_0_0, .int .u64 x_0_1, .int .u64 x_0_2], .agg [.int .i64 x_1_0, .int .u64 x_1_1, .int .u64 x_1_2]] H = some r :=
  call_of_wfun ext166 fn166 (by rw [nz166]; rfl) ((eq166 _ _ _ _ _ _ _ _ _).trans h)

end Go.Vm.Tryz
