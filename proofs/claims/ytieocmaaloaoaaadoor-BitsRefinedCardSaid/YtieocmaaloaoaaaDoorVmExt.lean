/- The functions without a body. -/
import Derived.Test.YtieocmaaloaoaaaDoorVmPro
namespace Go.Vm.Tryd
noncomputable def ext : Nat → Option (List AV → Option AV) := fun _ => none
end Go.Vm.Tryd
