/- Plain functions that the second machine reduces to: printed by fns.py. -/
import Derived.Test.YtmlogeklbcgjnaaGreatDoorVmE0
namespace Go.Vm.Tryz.E0
open Go.Proofs.Tryz
set_option maxRecDepth 100000
set_option linter.unusedVariables false
set_option linter.unusedSimpArgs false
theorem ext144 : ext0 144 = none := rfl
theorem fn144 : T.fn.get 144 = some f144 := by kernel_rfl
/-! internal/stringslite.IndexByte -/
noncomputable def ann144 : Ann := (.two .nil .nil)
noncomputable def F144 (cf : CF) (n : Nat) (s_0 : PS) (x_1 : Int) (H : VH) : Option (AV × VH) :=
  letH H.lo fun H1 => bindC (cf 205 [.str s_0, .int .u8 x_1] H1) fun v2 H3 => asI .i64 v2 fun n4 => some (.int .i64 n4, leave H H3 (.int .i64 n4))
theorem eq144 (cf : CF) (n : Nat) (s_0 : PS) (x_1 : Int) (H : VH) : wfun T cf (promo 144) n ann144 f144 [.str s_0, .int .u8 x_1] H = F144 cf n s_0 x_1 H := by kernel_rfl
theorem nz144 : promo 144 (f144.ntmps + 1) = false := by kernel_rfl
theorem ok144 (n : Nat) (s_0 : PS) (x_1 : Int) (H : VH) {r : AV × VH} (h : F144 (vcall T ext0 promo n) n s_0 x_1 H = some r) : vcall T ext0 promo (n + 1) 144 [.str s_0, .int .u8 x_1] H = some r :=
  call_of_wfun ext144 fn144 (by rw [nz144]; rfl) ((eq144 _ _ _ _ _).trans h)

theorem ext91 : ext0 91 = none := rfl
theorem fn91 : T.fn.get 91 = some f91 := by kernel_rfl
/-! strings.IndexByte -/
noncomputable def ann91 : Ann := (.two .nil .nil)
noncomputable def F91 (cf : CF) (n : Nat) (s_0 : PS) (x_1 : Int) (H : VH) : Option (AV × VH) :=
  letH H.lo fun H1 => bindC (cf 144 [.str s_0, .int .u8 x_1] H1) fun v2 H3 => asI .i64 v2 fun n4 => some (.int .i64 n4, leave H H3 (.int .i64 n4))
theorem eq91 (cf : CF) (n : Nat) (s_0 : PS) (x_1 : Int) (H : VH) : wfun T cf (promo 91) n ann91 f91 [.str s_0, .int .u8 x_1] H = F91 cf n s_0 x_1 H := by kernel_rfl
theorem nz91 : promo 91 (f91.ntmps + 1) = false := by kernel_rfl
theorem ok91 (n : Nat) (s_0 : PS) (x_1 : Int) (H : VH) {r : AV × VH} (h : F91 (vcall T ext0 promo n) n s_0 x_1 H = some r) : vcall T ext0 promo (n + 1) 91 [.str s_0, .int .u8 x_1] H = some r :=
  call_of_wfun ext91 fn91 (by rw [nz91]; rfl) ((eq91 _ _ _ _ _).trans h)

theorem ext57 : ext0 57 = none := rfl
theorem fn57 : T.fn.get 57 = some f57 := by kernel_rfl
/-! maskwright/design.Part -/
noncomputable def ann57 : Ann := (.two .nil (.two (.two (.join [] [(.normal, ⟨[(11, 4)], [], []⟩)] .nil) (.two .nil .nil)) (.two (.two .nil (.one (.loop [] ⟨[(14, 3)], [], []⟩ [((.exit 0), ⟨[], [], []⟩), (.ret, ⟨[(2, 4)], [], []⟩)] (.two .nil (.two .nil (.two (.one (.two .nil (.two (.join [] [(.normal, ⟨[(33, 4)], [], []⟩)] .nil) (.two .nil .nil)))) .nil)))))) .nil)))
noncomputable def L57_0 (cf : CF) (n : Nat) (s_0 : PS) (ih8 : List AV → VH → Option R) (l9 : List AV) (H10 : VH) : Option R :=
  unc l9 fun a11 l12 => asI .i64 a11 fun n13 => endL l12 (selC (ilt n13 (s_0.len : Int)) (bindJ (condT (ile 0 n13 && ilt n13 (s_0.len : Nat)) (letN (((s_0.byte n13.toNat : Nat) : Int)) fun n14 => selC (ilt n14 33) (some (.normal, [.bool true], H10)) (condT (ile 0 n13 && ilt n13 (s_0.len : Nat)) (letN (((s_0.byte n13.toNat : Nat) : Int)) fun n15 => selC (ilt 126 n15) (some (.normal, [.bool true], H10)) (condT (ile 0 n13 && ilt n13 (s_0.len : Nat)) (letN (((s_0.byte n13.toNat : Nat) : Int)) fun n16 => bindC (cf 91 [.str (PS.of [46, 91, 93, 34, 92]), .int .u8 n16] H10) fun v17 H18 => asI .i64 v17 fun n19 => some (.normal, [.bool (ile 0 n19)], H18))))))) fun x20 l21 H22 => caseEx .normal x20 (unc l21 fun a23 l24 => asB a23 fun b25 => endL l24 (selC b25 (some (.ret, [.bool false], H22)) (letN (fwrap .i64 (n13 + 1)) fun n26 => ih8 [.int .i64 n26] H22))) (none)) (some ((.exit 0), [], H10)))
noncomputable def F57 (cf : CF) (n : Nat) (s_0 : PS) (H : VH) : Option (AV × VH) :=
  letH H.lo fun H1 => bindJ (selC (ilt (s_0.len : Int) 1) (some (.normal, [.bool true], H1)) (some (.normal, [.bool (ilt 40 (s_0.len : Int))], H1))) fun x2 l3 H4 => caseEx .normal x2 (unc l3 fun a5 l6 => asB a5 fun b7 => endL l6 (selC b7 (some (.bool false, leave H H4 (.bool false))) (bindJ (loopN (L57_0 cf n s_0) n [.int .i64 0] H4) fun x27 l28 H29 => caseEx (.exit 0) x27 (endL l28 (some (.bool true, leave H H29 (.bool true)))) (caseEx .ret x27 (unc l28 fun a30 l31 => asB a30 fun b32 => endL l31 (some (.bool b32, leave H H29 (.bool b32)))) (none))))) (none)
theorem eq57 (cf : CF) (n : Nat) (s_0 : PS) (H : VH) : wfun T cf (promo 57) n ann57 f57 [.str s_0] H = F57 cf n s_0 H := by kernel_rfl
theorem nz57 : promo 57 (f57.ntmps + 1) = false := by kernel_rfl
theorem ok57 (n : Nat) (s_0 : PS) (H : VH) {r : AV × VH} (h : F57 (vcall T ext0 promo n) n s_0 H = some r) : vcall T ext0 promo (n + 1) 57 [.str s_0] H = some r :=
  call_of_wfun ext57 fn57 (by rw [nz57]; rfl) ((eq57 _ _ _ _).trans h)

end Go.Vm.Tryz.E0
