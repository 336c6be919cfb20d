/- Which boxes are the frames' own. -/
import Derived.Test.YtieocmaaloaoaaaDoorVmSeat
import Derived.Test.YtieocmaaloaoaaaDoorVmW5
namespace Go.Vm.Tryd
open Go.Proofs.Tryd
set_option maxRecDepth 100000
private abbrev n {α : Type} := @Tr.node α
private abbrev l {α : Type} := @Tr.leaf α
noncomputable def promoT : Tr (List Nat) :=
  (n (n (n (n (n (n (n (n l (some []) l) (some [1]) (n l (some []) l)) (some [3, 5, 6]) (n (n l (some []) l) (some []) (n l (some []) l))) (some []) (n (n (n l (some []) l) (some [1])
  (n l (some []) l)) (some [1]) (n (n l (some [9]) l) (some []) (n l (some []) l)))) (some [5, 6, 7, 9, 10, 11, 12]) (n (n (n (n l (some []) l) (some []) (n l (some []) l)) (some [1,
  2]) (n (n l (some []) l) (some [2, 3, 4, 7]) (n l (some []) l))) (some [1, 3]) (n (n (n l (some []) l) (some []) (n l (some []) l)) (some []) (n (n l (some []) l) (some []) l))))
  (some []) (n (n (n (n (n l (some [1]) l) (some []) (n l (some []) l)) (some [2, 3, 4]) (n (n l (some []) l) (some []) (n l (some []) l))) (some [4, 5]) (n (n (n l (some []) l) (some
  [2]) (n l (some []) l)) (some [3, 4, 6]) (n (n l (some []) l) (some []) (n l (some []) l)))) (some []) (n (n (n (n l (some []) l) (some [4]) (n l (some []) l)) (some [2, 3, 4]) (n
  (n l (some []) l) (some []) (n l (some []) l))) (some [2, 3, 5]) (n (n (n l (some []) l) (some [1]) (n l (some []) l)) (some []) (n (n l (some []) l) (some []) l))))) (some []) (n
  (n (n (n (n (n l (some [1]) l) (some [1]) (n l (some []) l)) (some [2, 3, 4]) (n (n l (some []) l) (some []) (n l (some []) l))) (some []) (n (n (n l (some []) l) (some [6]) (n l
  (some []) l)) (some [3, 4, 6]) (n (n l (some []) l) (some []) (n l (some []) l)))) (some [18, 19, 24]) (n (n (n (n l (some []) l) (some [6]) (n l (some []) l)) (some [2, 3, 4]) (n
  (n l (some []) l) (some [3, 4, 5, 6]) (n l (some []) l))) (some [3, 6]) (n (n (n l (some []) l) (some []) (n l (some []) l)) (some [4, 5, 6]) (n (n l (some []) l) (some []) l))))
  (some [5, 7, 8, 9, 11]) (n (n (n (n (n l (some []) l) (some []) (n l (some []) l)) (some [1, 2]) (n (n l (some []) l) (some [2, 3, 4]) (n l (some []) l))) (some [2]) (n (n (n l
  (some []) l) (some [3, 4, 6]) (n l (some []) l)) (some []) (n (n l (some []) l) (some []) l))) (some [3, 6]) (n (n (n (n l (some [8]) l) (some [2]) (n l (some []) l)) (some [3, 4,
  6]) (n (n l (some []) l) (some []) (n l (some []) l))) (some [4, 5, 8]) (n (n (n l (some []) l) (some [2, 3]) (n l (some []) l)) (some [3]) (n (n l (some []) l) (some []) l))))))
  (some []) (n (n (n (n (n (n (n l (some []) l) (some [2, 13]) (n l (some []) l)) (some [1, 2]) (n (n l (some []) l) (some []) (n l (some []) l))) (some []) (n (n (n l (some []) l)
  (some [3, 6, 7]) (n l (some []) l)) (some [2, 3, 4]) (n (n l (some []) l) (some []) (n l (some []) l)))) (some [5, 6, 8]) (n (n (n (n l (some []) l) (some []) (n l (some []) l))
  (some [4]) (n (n l (some []) l) (some [2, 3, 4]) (n l (some []) l))) (some [2, 4]) (n (n (n l (some []) l) (some []) (n l (some []) l)) (some [2, 3]) (n (n l (some []) l) (some [])
  l)))) (some [4, 5]) (n (n (n (n (n l (some [1]) l) (some []) (n l (some []) l)) (some [4]) (n (n l (some []) l) (some [2, 3, 4]) (n l (some []) l))) (some []) (n (n (n l (some [])
  l) (some []) (n l (some []) l)) (some [1, 2]) (n (n l (some []) l) (some []) (n l (some []) l)))) (some [7, 9]) (n (n (n (n l (some []) l) (some []) (n l (some []) l)) (some [1, 2])
  (n (n l (some []) l) (some []) (n l (some []) l))) (some [3, 6]) (n (n (n l (some []) l) (some [3, 4]) (n l (some []) l)) (some [2, 3]) (n (n l (some []) l) (some []) l))))) (some
  []) (n (n (n (n (n (n l (some []) l) (some []) (n l (some []) l)) (some [2, 3, 4]) (n (n l (some []) l) (some []) (n l (some []) l))) (some []) (n (n (n l (some []) l) (some [2, 3])
  (n l (some []) l)) (some [2, 3, 4]) (n (n l (some []) l) (some [3]) (n l (some []) l)))) (some [5, 6, 7, 10, 11, 12, 16, 17]) (n (n (n (n l (some []) l) (some [8, 10, 15]) (n l
  (some []) l)) (some [2, 3, 4]) (n (n l (some []) l) (some []) (n l (some []) l))) (some []) (n (n (n l (some []) l) (some [3, 4]) (n l (some []) l)) (some [2, 3]) (n (n l (some [])
  l) (some []) l)))) (some [5, 6, 7, 8, 9, 11]) (n (n (n (n (n l (some []) l) (some []) (n l (some []) l)) (some [1, 2]) (n (n l (some []) l) (some [2, 3, 4]) (n l (some []) l)))
  (some [1]) (n (n (n l (some []) l) (some []) (n l (some []) l)) (some []) (n (n l (some []) l) (some []) l))) (some []) (n (n (n (n l (some []) l) (some []) (n l (some []) l)) (some
  [3, 4, 6]) (n (n l (some []) l) (some []) (n l (some []) l))) (some [4]) (n (n (n l (some []) l) (some []) (n l (some []) l)) (some []) (n (n l (some []) l) (some []) l)))))))
noncomputable def promo (f : Nat) : Nat → Bool := fun d => match promoT.get f with | some l => memB d l | none => false
end Go.Vm.Tryd
