/- Which boxes are the frames' own. -/
import Derived.Test.YtdpaokgemjfhlaaGreatDoorVmSeat
import Derived.Test.YtdpaokgemjfhlaaGreatDoorVmW5
namespace Go.Vm.Tryz
open Go.Proofs.Tryz
set_option maxRecDepth 100000
private abbrev n {α : Type} := @Tr.node α
private abbrev l {α : Type} := @Tr.leaf α
noncomputable def promoT : Tr (List Nat) :=
  (n (n (n (n (n (n (n (n l (some []) l) (some [2, 3]) l) (some []) (n (n l (some []) l) (some []) l)) (some []) (n (n (n l (some []) l) (some []) l) (some []) (n (n l (some []) l)
  (some []) l))) (some [13]) (n (n (n (n l (some []) l) (some []) l) (some []) (n (n l (some []) l) (some []) l)) (some []) (n (n (n l (some []) l) (some [5]) l) (some []) (n l (some
  []) l)))) (some [5, 10]) (n (n (n (n (n l (some []) l) (some []) l) (some []) (n (n l (some []) l) (some []) l)) (some []) (n (n (n l (some []) l) (some []) l) (some []) (n (n l
  (some []) l) (some []) l))) (some [1]) (n (n (n (n l (some []) l) (some []) l) (some []) (n (n l (some []) l) (some [9]) l)) (some []) (n (n (n l (some []) l) (some [7, 17]) l)
  (some [5]) (n l (some [2]) l))))) (some []) (n (n (n (n (n (n l (some []) l) (some []) l) (some []) (n (n l (some []) l) (some []) l)) (some []) (n (n (n l (some []) l) (some []) l)
  (some []) (n (n l (some []) l) (some []) l))) (some [6]) (n (n (n (n l (some []) l) (some []) l) (some []) (n (n l (some []) l) (some []) l)) (some []) (n (n (n l (some []) l) (some
  [4, 5, 6, 11, 14]) l) (some [7, 17, 23]) (n l (some []) l)))) (some [8, 13]) (n (n (n (n (n l (some []) l) (some []) l) (some []) (n (n l (some []) l) (some []) l)) (some []) (n (n
  (n l (some []) l) (some []) l) (some []) (n (n l (some []) l) (some []) l))) (some [3, 11]) (n (n (n (n l (some []) l) (some []) l) (some []) (n (n l (some []) l) (some []) l))
  (some []) (n (n (n l (some []) l) (some [1]) l) (some []) (n l (some []) l)))))) (some []) (n (n (n (n (n (n (n l (some []) l) (some []) l) (some []) (n (n l (some []) l) (some [])
  l)) (some []) (n (n (n l (some []) l) (some []) l) (some []) (n (n l (some []) l) (some []) l))) (some []) (n (n (n (n l (some []) l) (some []) l) (some []) (n (n l (some []) l)
  (some []) l)) (some []) (n (n (n l (some []) l) (some []) l) (some [5]) (n l (some []) l)))) (some [9]) (n (n (n (n (n l (some []) l) (some []) l) (some []) (n (n l (some []) l)
  (some []) l)) (some []) (n (n (n l (some []) l) (some []) l) (some []) (n (n l (some []) l) (some []) l))) (some []) (n (n (n (n l (some []) l) (some []) l) (some []) (n (n l (some
  []) l) (some []) l)) (some [8, 17]) (n (n (n l (some []) l) (some []) l) (some [6, 10]) (n l (some [6]) l))))) (some []) (n (n (n (n (n (n l (some []) l) (some []) l) (some []) (n
  (n l (some []) l) (some []) l)) (some []) (n (n (n l (some []) l) (some []) l) (some []) (n (n l (some []) l) (some []) l))) (some []) (n (n (n (n l (some []) l) (some []) l) (some
  []) (n (n l (some []) l) (some []) l)) (some []) (n (n (n l (some []) l) (some []) l) (some [6, 12]) (n l (some []) l)))) (some [10]) (n (n (n (n (n l (some []) l) (some []) l)
  (some []) (n (n l (some []) l) (some []) l)) (some []) (n (n (n l (some []) l) (some []) l) (some []) (n l (some []) l))) (some []) (n (n (n (n l (some []) l) (some []) l) (some [])
  (n (n l (some []) l) (some []) l)) (some []) (n (n (n l (some []) l) (some []) l) (some []) (n l (some []) l)))))))
noncomputable def promo (f : Nat) : Nat → Bool := fun d => match promoT.get f with | some l => memB d l | none => false
end Go.Vm.Tryz
