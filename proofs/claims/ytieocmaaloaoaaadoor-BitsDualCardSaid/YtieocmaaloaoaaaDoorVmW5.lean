/- The words of the reduced functions. -/
import Derived.Test.YtieocmaaloaoaaaDoorVmW4
namespace Go.Vm
set_option linter.unusedSimpArgs false
set_option linter.unusedVariables false
set_option linter.unusedSectionVars false
abbrev CF := Nat → List AV → VH → Option (AV × VH)
noncomputable def iand (k : IntKind) (a b : Int) : Int := fwrap k (.ofNat (Nat.land (nmod a (modOf k)) (nmod b (modOf k))))
noncomputable def ior (k : IntKind) (a b : Int) : Int := fwrap k (.ofNat (Nat.lor (nmod a (modOf k)) (nmod b (modOf k))))
noncomputable def ixor (k : IntKind) (a b : Int) : Int := fwrap k (.ofNat (Nat.xor (nmod a (modOf k)) (nmod b (modOf k))))
noncomputable def iandn (k : IntKind) (a b : Int) : Int := fwrap k (.ofNat (Nat.land (nmod a (modOf k)) (modOf k - 1 - nmod b (modOf k))))
noncomputable def inot (k : IntKind) (n : Int) : Int := fwrap k (.ofNat (Nat.xor (nmod (if k.signed then -1 else k.max) (modOf k)) (nmod n (modOf k))))
noncomputable def imin (a b : Int) : Int := if ilt b a then b else a
noncomputable def imax (a b : Int) : Int := if ilt a b then b else a
/-- A heap at a call's begin. -/
def VH.lo (H : VH) : VH := { H with low := H.next }
end Go.Vm
