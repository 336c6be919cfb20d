/- Plain functions that the second machine reduces to: printed by fns.py. -/
import Derived.Test.YtcpldhgpmbpjiaaGreatDoorW1
namespace Go.Vm.Tryz
open Go.Proofs.Tryz
set_option maxRecDepth 100000
set_option linter.unusedVariables false
set_option linter.unusedSimpArgs false
theorem ext149 : ext 149 = none := rfl
theorem fn149 : T.fn.get 149 = some f149 := by kernel_rfl
/-! internal/stringslite.IndexByte -/
noncomputable def ann149 : Ann := (.two .nil .nil)
noncomputable def F149 (cf : CF) (n : Nat) (s_0 : PS) (x_1 : Int) (H : VH) : Option (AV × VH) :=
  letH H.lo fun H1 => bindC (cf 206 [.str s_0, .int .u8 x_1] H1) fun v2 H3 => asI .i64 v2 fun n4 => some (.int .i64 n4, leave H H3 (.int .i64 n4))
theorem eq149 (cf : CF) (n : Nat) (s_0 : PS) (x_1 : Int) (H : VH) : wfun T cf (promo 149) n ann149 f149 [.str s_0, .int .u8 x_1] H = F149 cf n s_0 x_1 H := by kernel_rfl
theorem nz149 : promo 149 (f149.ntmps + 1) = false := by kernel_rfl
theorem ok149 (n : Nat) (s_0 : PS) (x_1 : Int) (H : VH) {r : AV × VH} (h : F149 (vcall T ext promo n) n s_0 x_1 H = some r) : vcall T ext promo (n + 1) 149 [.str s_0, .int .u8 x_1] H = some r :=
  call_of_wfun ext149 fn149 (by rw [nz149]; rfl) ((eq149 _ _ _ _ _).trans h)

theorem ext94 : ext 94 = none := rfl
theorem fn94 : T.fn.get 94 = some f94 := by kernel_rfl
/-! strings.IndexByte -/
noncomputable def ann94 : Ann := (.two .nil .nil)
noncomputable def F94 (cf : CF) (n : Nat) (s_0 : PS) (x_1 : Int) (H : VH) : Option (AV × VH) :=
  letH H.lo fun H1 => bindC (cf 149 [.str s_0, .int .u8 x_1] H1) fun v2 H3 => asI .i64 v2 fun n4 => some (.int .i64 n4, leave H H3 (.int .i64 n4))
theorem eq94 (cf : CF) (n : Nat) (s_0 : PS) (x_1 : Int) (H : VH) : wfun T cf (promo 94) n ann94 f94 [.str s_0, .int .u8 x_1] H = F94 cf n s_0 x_1 H := by kernel_rfl
theorem nz94 : promo 94 (f94.ntmps + 1) = false := by kernel_rfl
theorem ok94 (n : Nat) (s_0 : PS) (x_1 : Int) (H : VH) {r : AV × VH} (h : F94 (vcall T ext promo n) n s_0 x_1 H = some r) : vcall T ext promo (n + 1) 94 [.str s_0, .int .u8 x_1] H = some r :=
  call_of_wfun ext94 fn94 (by rw [nz94]; rfl) ((eq94 _ _ _ _ _).trans h)

theorem ext134 : ext 134 = none := rfl
theorem fn134 : T.fn.get 134 = some f134 := by kernel_rfl
/-! strings.Index -/
noncomputable def ann134 : Ann := (.two .nil .nil)
noncomputable def F134 (cf : CF) (n : Nat) (s_0 : PS) (s_1 : PS) (H : VH) : Option (AV × VH) :=
  letH H.lo fun H1 => bindC (cf 200 [.str s_0, .str s_1] H1) fun v2 H3 => asI .i64 v2 fun n4 => some (.int .i64 n4, leave H H3 (.int .i64 n4))
theorem eq134 (cf : CF) (n : Nat) (s_0 : PS) (s_1 : PS) (H : VH) : wfun T cf (promo 134) n ann134 f134 [.str s_0, .str s_1] H = F134 cf n s_0 s_1 H := by kernel_rfl
theorem nz134 : promo 134 (f134.ntmps + 1) = false := by kernel_rfl
theorem ok134 (n : Nat) (s_0 : PS) (s_1 : PS) (H : VH) {r : AV × VH} (h : F134 (vcall T ext promo n) n s_0 s_1 H = some r) : vcall T ext promo (n + 1) 134 [.str s_0, .str s_1] H = some r :=
  call_of_wfun ext134 fn134 (by rw [nz134]; rfl) ((eq134 _ _ _ _ _).trans h)

theorem ext197 : ext 197 = none := rfl
theorem fn197 : T.fn.get 197 = some f197 := by kernel_rfl
/-! strings.Contains -/
noncomputable def ann197 : Ann := (.two .nil .nil)
noncomputable def F197 (cf : CF) (n : Nat) (s_0 : PS) (s_1 : PS) (H : VH) : Option (AV × VH) :=
  letH H.lo fun H1 => bindC (cf 134 [.str s_0, .str s_1] H1) fun v2 H3 => asI .i64 v2 fun n4 => some (.bool (ile 0 n4), leave H H3 (.bool (ile 0 n4)))
theorem eq197 (cf : CF) (n : Nat) (s_0 : PS) (s_1 : PS) (H : VH) : wfun T cf (promo 197) n ann197 f197 [.str s_0, .str s_1] H = F197 cf n s_0 s_1 H := by kernel_rfl
theorem nz197 : promo 197 (f197.ntmps + 1) = false := by kernel_rfl
theorem ok197 (n : Nat) (s_0 : PS) (s_1 : PS) (H : VH) {r : AV × VH} (h : F197 (vcall T ext promo n) n s_0 s_1 H = some r) : vcall T ext promo (n + 1) 197 [.str s_0, .str s_1] H = some r :=
  call_of_wfun ext197 fn197 (by rw [nz197]; rfl) ((eq197 _ _ _ _ _).trans h)

end Go.Vm.Tryz
