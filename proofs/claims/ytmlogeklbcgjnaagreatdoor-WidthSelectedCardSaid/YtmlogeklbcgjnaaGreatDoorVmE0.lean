/- The functions that have no body here, and what stands for them; strings.Index; functions at closed arguments, each run once on a memory of its own. -/
import Derived.Test.YtmlogeklbcgjnaaGreatDoorVmPro
import Derived.Test.YtmlogeklbcgjnaaGreatDoorVmDark
import Derived.Test.YtmlogeklbcgjnaaGreatDoorSh2
namespace Go.Vm.Tryz
open Go.Proofs.Tryz
set_option maxRecDepth 100000
noncomputable def ext0 : Nat → Option (VH → List AV → Option XR)
  | 205 => some (fun _ => xIndexByte)
  | 224 => some (xIndex 0)
  | 193 => some (xIndexS 0)
  | _ => none
theorem ext_205 : ExtOne T prog 205 (fun _ => xIndexByte) :=
  xIndexByte_ok (fn := f205) (by kernel_rfl) (by kernel_rfl) (by kernel_rfl) (by kernel_rfl) (by kernel_rfl)
theorem ext_224 : ExtOne T prog 224 (xIndex 0) :=
  xIndex_ok (fn := f224) (by kernel_rfl) (by kernel_rfl) (by kernel_rfl) (by kernel_rfl) (by kernel_rfl) (by kernel_rfl) (by kernel_rfl)
theorem ext_193 : ExtOne T prog 193 (xIndexS 0) :=
  xIndexS_ok (fn := f193) (by kernel_rfl) (by kernel_rfl) (by kernel_rfl) (by kernel_rfl) fun s sub m w hs hm => Go.Proofs.Any.stringslite_Index Go.Proofs.Tryz.lays219 s sub m w hs hm
theorem ext0_ok : ExtOk T prog ext0 := by
  intro f g he
  unfold ext0 at he
  split at he
  · obtain rfl := Option.some.inj he
    exact ext_205
  · obtain rfl := Option.some.inj he
    exact ext_224
  · obtain rfl := Option.some.inj he
    exact ext_193
  · cases he
theorem gls_lt : ∀ x ∈ gls, x < prog.globals.size := by decide +kernel
end Go.Vm.Tryz
