/- The functions that have no body here, and what stands for them. -/
import Derived.Test.YtieocmaaloaoaaaDoorVmPro
import Derived.Test.YtieocmaaloaoaaaDoorVmX
namespace Go.Vm.Tryd
open Go.Proofs.Tryd
set_option maxRecDepth 100000
noncomputable def ext : Nat → Option (List AV → Option AV)
  | 125 => some xCount
  | 186 => some xIndexByte
  | _ => none
theorem ext_ok : ExtOk prog ext := by
  intro f g vals v he hv ρ w args ha
  unfold ext at he
  split at he
  · obtain rfl := Option.some.inj he
    exact xCount_ok (fn := f125) (by kernel_rfl) (by kernel_rfl) (by kernel_rfl) (by kernel_rfl) (by kernel_rfl) vals v hv ρ w args ha
  · obtain rfl := Option.some.inj he
    exact xIndexByte_ok (fn := f186) (by kernel_rfl) (by kernel_rfl) (by kernel_rfl) (by kernel_rfl) (by kernel_rfl) vals v hv ρ w args ha
  · cases he
end Go.Vm.Tryd
