/-
NotePlaced: the place of each byte of a text leads back to it: for every slice of numbers the law's call returns true and the slice reads as before.
Conditions: none but the row's own (the listed variables of the library start as the program's text lays them).
-/
import Derived.Test.YtieocmaaloaoaaaDoorLp
import Derived.Test.YtieocmaaloaoaaaDoorVmClose
import Derived.Test.YtieocmaaloaoaaaDoorCards
import Derived.Test.YtieocmaaloaoaaaDoorTie
import Derived.ProofKit
import Derived.Handy
import Derived.Lay
import Derived.SevenTiedAt
namespace Go.Proofs.YtieocmaaloaoaaaDoor
set_option linter.unusedSimpArgs false
set_option linter.unusedVariables false
set_option linter.unusedSectionVars false
open Go.ChangeShapes Go.WideShapes Go.ChangeAt Go.RowKit
set_option maxRecDepth 100000
theorem own : ownKnob Tryd.prog.godebug = none := by kernel_rfl
theorem lifted (os : Os) (started : os.Started) (H : Type) (enc : TypeId × Value → H) :
    ReturnsInHanded {} Tryd.checked os 3 .any (fun w args => (Rows.notePlacedSpec.pre enc Tryd.prog Tryd.f3 [] false w args ∧ laidMetH Tryd.prog Rows.notePlacedRow.laid w) ∧ sizedMet enc Tryd.prog Tryd.f3 (OpenSpec.ofChange Rows.notePlacedSpec) false w args)
      (Rows.notePlacedSpec.post enc Tryd.prog Tryd.f3 false true false false) := by
  refine returnsInHanded_of_change_and (C := Tryd.checked) (X := fun w _ => laidMetH Tryd.prog Rows.notePlacedRow.laid w) (fun _ _ _ hh h => h.of_heap hh) own started (by kernel_rfl) Tryd.func3
    (ChangeSpec.witness_shaped (enc := enc) (C := Tryd.checked) (os := os) (X := fun w _ => laidMetH Tryd.prog Rows.notePlacedRow.laid w) false (World.laidAll Tryd.prog os Rows.notePlacedRow.laid) #[.slice none 0 0] 8 (World.laidAll_os _ _ _)
      (World.shaped_of_ZipB (by kernel_rfl) (by kernel_rfl)) (by kernel_rfl) (by kernel_rfl) (by kernel_rfl)
      (by rw [MakeChecks.laidMetH_plain _ _ _ (by kernel_rfl)]; exact laidMet_laidAll _ (by kernel_rfl) (by kernel_rfl))) ?_
  intro W base args ds gs before hval hW _ _ _ _
  obtain ⟨c, hc⟩ : ∃ c, Tryd.f3.body = some c := ⟨_, rfl⟩
  exact Go.Vm.Tryd.int_law 1001 Go.Vm.Tryd.fn3 hc (by kernel_rfl) (by kernel_rfl) (fun H hH a l c e hN => Go.Vm.Tryd.notePlaced_vm 1001 (by decide) hH a l c e hN) rfl (fun _ => rfl) hval hW
theorem said_holds : Rows.NotePlacedSaid :=
  OpenClaim.holds_of_wide 3 Tryd.f3 rfl rfl rfl rfl rfl rfl rfl ⟨rfl, rfl, rfl, rfl, rfl⟩ rfl rfl rfl rfl rfl (by kernel_rfl) Tryd.func3 (by kernel_rfl)
    (of_decide_eq_true (by kernel_rfl)) (by unfold Func.isWrapper; first | (rw [if_pos (by decide +kernel)]; kernel_rfl) | (rw [if_neg (by decide +kernel)]; exact ⟨rfl, rfl⟩))
    (fun os started H enc _ => lifted os started H enc)
theorem card_holds : Rows.NotePlacedCardSaid :=
  Claim7.holds_tied_plain_at .later [] [.data, .pinned] true (true, "aa3c86d491b119b08d5ef39a992bc72b33f97c471199917ce70d197d6c69e579") true
    said_holds (fun _ h => by cases h) (by kernel_rfl) (fun _ h => by cases h) notePlaced_row_tie rfl ⟨rfl, rfl⟩ (by kernel_rfl) rfl
    (fun f fn hf hfn => by
      obtain rfl : f = 3 := Option.some.inj ((show Tryd.prog.funcNamed "maskwright/maskkeep1.NotePlaced" = some 3 by kernel_rfl).symm.trans hf) |>.symm
      obtain rfl : fn = Tryd.f3 := (Option.some.inj (Tryd.func3.symm.trans hfn)).symm
      exact ⟨by kernel_rfl, fun j t ht => by
        rw [Tryd.params3] at ht
        have hm : t ∈ [22] := by simpa using Array.mem_of_getElem? ht
        have hall : ([22].all fun u => !Tryd.prog.wantsStandIn u) = true := by kernel_rfl
        exact (show Tryd.prog.wantsStandIn t = false by simpa using List.all_eq_true.1 hall t hm)⟩)
    (by kernel_rfl)
#print axioms card_holds
end Go.Proofs.YtieocmaaloaoaaaDoor
