/- Which boxes are the frames' own. -/
import Derived.Test.YtmlogeklbcgjnaaGreatDoorVmSeat
import Derived.Test.YtmlogeklbcgjnaaGreatDoorVmW5
namespace Go.Vm.Tryz
open Go.Proofs.Tryz
set_option maxRecDepth 100000
private abbrev n {α : Type} := @Tr.node α
private abbrev l {α : Type} := @Tr.leaf α
noncomputable def promoT : Tr (List Nat) :=
  (n (n (n (n (n (n (n (n (n l (some []) l) (some []) l) (some [1, 7, 9]) (n l (some [2, 3, 4]) l)) (some [3, 6, 7, 9, 63, 72, 85]) (n (n l (some []) l) (some [2, 6]) (n l (some [])
  l))) (some []) (n (n (n (n l (some []) l) (some [4, 5, 9, 10, 12]) l) (some [2]) (n l (some []) l)) (some [3, 6]) (n (n l (some [1, 2, 4]) l) (some [3, 5]) (n l (some []) l))))
  (some [4, 5]) (n (n (n (n (n l (some []) l) (some [2, 3, 10, 11, 35, 41]) l) (some [2, 4]) (n l (some [2, 3, 4, 48, 72, 87]) l)) (some [2]) (n (n l (some [6]) l) (some [11]) (n l
  (some [2]) l))) (some []) (n (n (n (n l (some []) l) (some [1]) l) (some []) (n l (some [3, 4, 6]) l)) (some []) (n (n l (some [2, 3, 4]) l) (some [3, 4, 6]) (n l (some []) l)))))
  (some [6, 7, 9, 10, 11, 12, 13, 14, 15, 18, 41, 57, 69, 71, 72]) (n (n (n (n (n (n l (some []) l) (some [8]) l) (some [1, 5, 18, 22]) (n l (some []) l)) (some [3, 4, 8, 62]) (n (n l
  (some [4, 5, 7]) l) (some [2]) (n l (some []) l))) (some [1, 2, 11]) (n (n (n (n l (some []) l) (some [1]) l) (some [3, 5, 6, 7, 18, 47]) (n l (some [3, 4]) l)) (some [3, 4, 5, 7,
  8, 9]) (n (n l (some [2, 3, 4]) l) (some [2, 4, 7, 27]) (n l (some [2, 6]) l)))) (some [1]) (n (n (n (n (n l (some []) l) (some [4, 11]) l) (some [4, 5, 14]) (n l (some [1]) l))
  (some [2, 4, 20]) (n (n l (some [1, 2, 5]) l) (some [6]) (n l (some [2, 3, 5, 10, 13]) l))) (some [3, 4, 6, 7, 8, 9, 25]) (n (n (n l (some [1]) l) (some []) (n l (some []) l)) (some
  [8]) (n (n l (some [2, 3, 4, 7, 10]) l) (some []) (n l (some []) l)))))) (some []) (n (n (n (n (n (n (n l (some []) l) (some []) l) (some [2, 3, 6, 83]) (n l (some []) l)) (some [2,
  3, 7, 9]) (n (n l (some [3, 5, 8, 10]) l) (some [2, 3, 6, 10, 67]) (n l (some []) l))) (some []) (n (n (n (n l (some []) l) (some [11]) l) (some [3, 5, 6, 7, 8, 10, 11, 89]) (n l
  (some []) l)) (some [4]) (n (n l (some [2, 3, 4, 9]) l) (some [3, 4, 5, 6, 8]) (n l (some []) l)))) (some [2, 3, 4, 5, 6, 7, 8, 26]) (n (n (n (n (n l (some []) l) (some [5]) l)
  (some []) (n l (some [3]) l)) (some [1]) (n (n l (some [2]) l) (some [2, 3]) (n l (some [19, 33, 36]) l))) (some [2, 9, 57]) (n (n (n (n l (some []) l) (some [2, 3]) l) (some [3, 6,
  11]) (n l (some []) l)) (some []) (n (n l (some [2, 3, 4, 9]) l) (some [4, 5, 6]) (n l (some []) l))))) (some []) (n (n (n (n (n (n l (some []) l) (some []) l) (some [3]) (n l (some
  [2]) l)) (some [49, 68, 70]) (n (n l (some [3, 6, 7]) l) (some [3, 7, 9, 11, 13]) (n l (some [6]) l))) (some [3, 4, 5, 6, 11]) (n (n (n (n l (some []) l) (some [1, 51, 60, 65]) l)
  (some [3, 4, 5, 6, 7, 9, 11, 12, 89, 106]) (n l (some [1]) l)) (some [3, 4, 6, 7, 8, 10, 11, 13, 14, 46, 65, 81]) (n (n l (some [2, 3, 4]) l) (some [3, 4, 6]) (n l (some [9]) l))))
  (some [3, 6, 8]) (n (n (n (n (n l (some []) l) (some [1, 4]) l) (some []) (n l (some []) l)) (some [2, 4, 10]) (n (n l (some [1, 2]) l) (some [3]) (n l (some []) l))) (some [2, 3,
  4, 5, 6, 7, 9, 11, 184]) (n (n (n l (some []) l) (some [1, 40]) (n l (some [1]) l)) (some [2, 5, 7, 32, 77]) (n (n l (some [2, 3, 4]) l) (some []) (n l (some []) l))))))) (some [])
  (n (n (n (n (n (n (n (n l (some []) l) (some []) l) (some [1]) (n l (some []) l)) (some [1, 18]) (n (n l (some [1, 5]) l) (some [2]) (n l (some []) l))) (some []) (n (n (n (n l
  (some []) l) (some []) l) (some [3, 4, 5, 6, 7, 8]) (n l (some []) l)) (some [2, 3, 4, 5, 6, 8, 10, 11, 12, 88, 102]) (n (n l (some [1, 2, 5]) l) (some [4, 5, 8, 13]) (n l (some [])
  l)))) (some []) (n (n (n (n (n l (some []) l) (some []) l) (some []) (n l (some []) l)) (some []) (n (n l (some [3, 4]) l) (some [1]) (n l (some [3]) l))) (some [4]) (n (n (n (n l
  (some []) l) (some [2, 3]) l) (some [5, 6, 11]) (n l (some []) l)) (some []) (n (n l (some [2, 3, 4]) l) (some [3, 4]) (n l (some []) l))))) (some []) (n (n (n (n (n (n l (some [])
  l) (some [106]) l) (some [3, 24]) (n l (some []) l)) (some [1]) (n (n l (some [3, 4, 9, 51]) l) (some [2, 3, 6]) (n l (some []) l))) (some [1, 2, 13]) (n (n (n (n l (some []) l)
  (some [11]) l) (some [3, 4, 5, 6, 7, 11, 67]) (n l (some [4, 5, 10, 11, 13, 114, 115]) l)) (some [3, 6, 36, 38]) (n (n l (some [2, 3, 4]) l) (some [3, 4, 6]) (n l (some []) l))))
  (some [4]) (n (n (n (n (n l (some []) l) (some [123, 124]) l) (some [4, 5, 6, 9, 54, 58]) (n l (some [1]) l)) (some [2, 3, 4, 8]) (n (n l (some [1, 2, 4]) l) (some []) (n l (some
  [2, 3, 10, 11, 29, 33, 38, 44, 48, 55]) l))) (some []) (n (n (n l (some []) l) (some []) (n l (some []) l)) (some [2, 5, 7, 10]) (n (n l (some [2, 3, 4]) l) (some []) (n l (some [])
  l)))))) (some []) (n (n (n (n (n (n (n l (some []) l) (some [1, 2]) l) (some [3, 7]) (n l (some []) l)) (some [2, 3]) (n (n l (some []) l) (some [2, 6]) (n l (some []) l))) (some
  [2, 3, 4, 5, 8, 9, 10, 11, 101]) (n (n (n (n l (some []) l) (some [11]) l) (some [3, 4, 5, 6, 7, 8, 10, 11, 46, 62]) (n l (some [2, 3, 6, 8, 11]) l)) (some [3, 4, 5, 6, 7, 8, 9,
  54]) (n (n l (some [2, 3, 4, 9]) l) (some [2, 3, 5, 13]) (n l (some []) l)))) (some [3, 4, 5, 6, 8]) (n (n (n (n (n l (some []) l) (some [1, 7]) l) (some []) (n l (some [13, 97,
  113]) l)) (some [2, 3, 4, 6, 7, 8, 9, 10]) (n (n l (some [3, 4]) l) (some [2, 3, 5, 7]) (n l (some [2, 3, 4, 5, 6, 28, 37, 48, 59, 63, 67]) l))) (some [2, 3, 4, 8, 10]) (n (n (n l
  (some [2, 3, 7, 9, 38, 57]) l) (some [3, 6, 9, 11, 20, 74, 79]) (n l (some []) l)) (some [1, 7, 9, 11]) (n (n l (some [2, 3, 4, 9]) l) (some []) (n l (some []) l))))) (some [4]) (n
  (n (n (n (n (n l (some []) l) (some [1, 2]) l) (some [3, 4, 5, 8, 10, 41, 42, 47]) (n l (some []) l)) (some [2, 3, 4, 5, 17, 23, 26]) (n (n l (some [2, 3, 7]) l) (some [3, 7]) (n l
  (some [8, 10, 15]) l))) (some [1, 4]) (n (n (n (n l (some []) l) (some []) l) (some [1]) (n l (some [3, 5, 6, 12, 30]) l)) (some [2, 4, 5, 9, 11, 16, 17, 40, 119, 124]) (n (n l
  (some [2, 3, 4]) l) (some [3, 4, 6]) (n l (some []) l)))) (some [1, 3, 6, 7, 8]) (n (n (n (n (n l (some []) l) (some [4, 5, 8, 10, 11, 12, 13, 15, 16, 98, 111, 115]) l) (some []) (n
  l (some []) l)) (some [2, 3, 4, 5, 6, 8, 9, 11, 155]) (n (n l (some [1, 2, 5]) l) (some [1, 12, 16]) (n l (some []) l))) (some [3, 5, 8, 9, 10, 29, 34]) (n (n (n l (some [2, 23]) l)
  (some [1, 19]) (n l (some [2, 3]) l)) (some [2, 5, 7, 8, 51]) (n (n l (some [2, 3, 4]) l) (some []) (n l (some []) l))))))))
noncomputable def promo (f : Nat) : Nat → Bool := fun d => match promoT.get f with | some l => memB d l | none => false
end Go.Vm.Tryz
