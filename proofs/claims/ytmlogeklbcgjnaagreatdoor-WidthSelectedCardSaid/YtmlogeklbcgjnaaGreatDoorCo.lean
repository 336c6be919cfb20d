/-
WidthSelected: Of a vector whose bits are numbered from lsb on, a bit with a variable number is the one with the constant number, and x if there is none: for every slice of numbers the law's call returns true and the slice reads as before.
Conditions: none but the row's own (the listed variables of the library start as the program's text lays them).
-/
import Derived.Test.YtmlogeklbcgjnaaGreatDoorYk
import Derived.Test.YtmlogeklbcgjnaaGreatDoorVmClose
import Derived.Test.YtmlogeklbcgjnaaGreatDoorCards
import Derived.Test.YtmlogeklbcgjnaaGreatDoorTie
import Derived.ProofKit
import Derived.Handy
import Derived.Lay
import Derived.SevenTiedAt
namespace Go.Proofs.YtmlogeklbcgjnaaGreatDoor
set_option linter.unusedSimpArgs false
set_option linter.unusedVariables false
set_option linter.unusedSectionVars false
open Go.ChangeShapes Go.WideShapes Go.ChangeAt Go.RowKit
set_option maxRecDepth 100000
theorem own : ownKnob Tryz.prog.godebug = none := by kernel_rfl
theorem lifted (os : Os) (started : os.Started) (H : Type) (enc : TypeId × Value → H) :
    ReturnsInHanded {} Tryz.checked os 3 .any (fun w args => (Rows.widthSelectedSpec.pre enc Tryz.prog Tryz.f3 [] false w args ∧ laidMetH Tryz.prog Rows.widthSelectedRow.laid w) ∧ sizedMet enc Tryz.prog Tryz.f3 (OpenSpec.ofChange Rows.widthSelectedSpec) false w args)
      (Rows.widthSelectedSpec.post enc Tryz.prog Tryz.f3 false true false false) := by
  refine Go.Vm.Tryz.returnsShaped (C := Tryz.checked) (X := fun w _ => laidMetH Tryz.prog Rows.widthSelectedRow.laid w) (fun _ _ _ hh h => h.of_heap hh) own started (by kernel_rfl) Tryz.func3
    (ChangeSpec.witness_shaped (enc := enc) (C := Tryz.checked) (os := os) (X := fun w _ => laidMetH Tryz.prog Rows.widthSelectedRow.laid w) false (World.laidAll Tryz.prog os Rows.widthSelectedRow.laid) #[.slice none 0 0] 8 (World.laidAll_os _ _ _)
      (World.shaped_of_ZipB (by kernel_rfl) (by kernel_rfl)) (by kernel_rfl) (by kernel_rfl) (by kernel_rfl)
      (by rw [MakeChecks.laidMetH_plain _ _ _ (by kernel_rfl)]; exact laidMet_laidAll _ (by kernel_rfl) (by kernel_rfl))) ?_
  intro W base args ds gs before hopen hval hW _ _ hlaid _
  rw [MakeChecks.laidMetH_plain _ _ _ (by kernel_rfl)] at hlaid
  obtain ⟨c, hc⟩ : ∃ c, Tryz.f3.body = some c := ⟨_, rfl⟩
  obtain ⟨m, hmax⟩ := Go.Vm.Tryz.glob_int hopen (g := 0) (by decide +kernel) (by kernel_rfl) (by kernel_rfl) (by kernel_rfl)
  have hG : Go.Vm.Tryz.GlobIn [(0, [.int .i64 m]), (3, [])] W := Go.Vm.Tryz.globIn_of fun p hp => by
    rcases List.mem_cons.1 hp with rfl | hp
    · exact hmax
    rcases List.mem_cons.1 hp with rfl | hp
    · exact Go.Vm.Tryz.glob_none hopen (g := 3) (t := 304) (zero := (List.replicate 20 (Value.int .u64 0)).toArray) (by decide +kernel) (by kernel_rfl)
    · cases hp
  exact Go.Vm.Tryz.int_law 401 Go.Vm.Tryz.fn3 hc (by kernel_rfl) (by kernel_rfl) (gs0 := [(0, [.int .i64 m]), (3, [])]) (fun p hp => by
      rcases List.mem_cons.1 hp with rfl | hp
      · exact (show (0 : Nat) < Tryz.prog.globals.size by decide +kernel)
      rcases List.mem_cons.1 hp with rfl | hp
      · decide +kernel
      · cases hp) Go.Vm.Tryz.gl_two
    (fun H hH hgl a l c e hN => Go.Vm.Tryz.widthSelected_vm 401 (by decide) hH (Go.Vm.Tryz.maxlen_of hgl) a l c e hN) hG rfl (fun _ => rfl) hval hW
theorem said_holds : Rows.WidthSelectedSaid :=
  OpenClaim.holds_of_wide 3 Tryz.f3 rfl rfl rfl rfl rfl rfl rfl ⟨rfl, rfl, rfl, rfl, rfl⟩ rfl rfl rfl rfl rfl (by kernel_rfl) Tryz.func3 (by kernel_rfl)
    (of_decide_eq_true (by kernel_rfl)) (by unfold Func.isWrapper; first | (rw [if_pos (by decide +kernel)]; kernel_rfl) | (rw [if_neg (by decide +kernel)]; exact ⟨rfl, rfl⟩))
    (fun os started H enc _ => lifted os started H enc)
theorem card_holds : Rows.WidthSelectedCardSaid :=
  Claim7.holds_tied_plain_at .later [] [.data, .data, .data, .data, .pinned] true (true, "5af348173fd0c6410a823eb39f0a6e5752c4ab3cff38cb722bee8ea84d83fe17") false
    said_holds (fun _ h => by cases h) (by kernel_rfl) (fun _ h => by cases h) widthSelected_row_tie rfl ⟨rfl, rfl⟩ (by kernel_rfl) rfl
    (fun f fn hf hfn => by
      obtain rfl : f = 3 := Option.some.inj ((show Tryz.prog.funcNamed "maskwright/maskkeep1.WidthSelected" = some 3 by kernel_rfl).symm.trans hf) |>.symm
      obtain rfl : fn = Tryz.f3 := (Option.some.inj (Tryz.func3.symm.trans hfn)).symm
      exact ⟨by kernel_rfl, fun j t ht => by
        rw [Tryz.params3] at ht
        have hm : t ∈ [22] := by simpa using Array.mem_of_getElem? ht
        have hall : ([22].all fun u => !Tryz.prog.wantsStandIn u) = true := by kernel_rfl
        exact (show Tryz.prog.wantsStandIn t = false by simpa using List.all_eq_true.1 hall t hm)⟩)
    (by kernel_rfl)
#print axioms card_holds
end Go.Proofs.YtmlogeklbcgjnaaGreatDoor
