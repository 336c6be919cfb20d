/- The functions that have no body here, and what stands for them. -/
import Derived.Test.YtieocmaaloaoaaaDoorVmPro
import Derived.Test.YtieocmaaloaoaaaDoorVmX
namespace Go.Vm.Tryd
open Go.Proofs.Tryd
set_option maxRecDepth 100000
noncomputable def ext : Nat → Option (List AV → Option XR)
  | 125 => some xCount
  | 186 => some xIndexByte
  | 210 => some xSame
  | 211 => some (xRoom 5)
  | _ => none
theorem ext_125 : ExtOne prog 125 xCount :=
  xCount_ok (fn := f125) (by kernel_rfl) (by kernel_rfl) (by kernel_rfl) (by kernel_rfl) (by kernel_rfl)
theorem ext_186 : ExtOne prog 186 xIndexByte :=
  xIndexByte_ok (fn := f186) (by kernel_rfl) (by kernel_rfl) (by kernel_rfl) (by kernel_rfl) (by kernel_rfl)
theorem ext_210 : ExtOne prog 210 xSame :=
  xSame_ok (fn := f210) (by kernel_rfl) (by kernel_rfl) (by kernel_rfl) (by kernel_rfl) (by kernel_rfl)
theorem ext_211 : ExtOne prog 211 (xRoom 5) :=
  xRoom_ok (fn := f211) (t := 88) (by kernel_rfl) (by kernel_rfl) (by kernel_rfl) (by kernel_rfl) (by kernel_rfl) (by kernel_rfl)
theorem ext_ok : ExtOk prog ext := by
  intro f g he
  unfold ext at he
  split at he
  · obtain rfl := Option.some.inj he
    exact ext_125
  · obtain rfl := Option.some.inj he
    exact ext_186
  · obtain rfl := Option.some.inj he
    exact ext_210
  · obtain rfl := Option.some.inj he
    exact ext_211
  · cases he
end Go.Vm.Tryd
