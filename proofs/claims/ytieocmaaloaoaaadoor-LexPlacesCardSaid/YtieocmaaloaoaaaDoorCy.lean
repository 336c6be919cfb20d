/-
LexPlaces: each token stands where its place says: for every slice of numbers the law's call returns true and the slice reads as before.
Conditions: none but the row's own (the listed variables of the library start as the program's text lays them).
-/
import Derived.Test.YtieocmaaloaoaaaDoorXj
import Derived.Test.YtieocmaaloaoaaaDoorVmClose
import Derived.Test.YtieocmaaloaoaaaDoorCards
import Derived.Test.YtieocmaaloaoaaaDoorTie
import Derived.ProofKit
import Derived.Handy
import Derived.Lay
import Derived.SevenTiedAt
namespace Go.Proofs.YtieocmaaloaoaaaDoor
set_option linter.unusedSimpArgs false
set_option linter.unusedVariables false
set_option linter.unusedSectionVars false
open Go.ChangeShapes Go.WideShapes Go.ChangeAt Go.RowKit
set_option maxRecDepth 100000
theorem own : ownKnob Tryd.prog.godebug = none := by kernel_rfl
theorem lifted (os : Os) (started : os.Started) (H : Type) (enc : TypeId × Value → H) :
    ReturnsInHanded {} Tryd.checked os 11 .any (fun w args => (Rows.lexPlacesSpec.pre enc Tryd.prog Tryd.f11 [] false w args ∧ laidMetH Tryd.prog Rows.lexPlacesRow.laid w) ∧ sizedMet enc Tryd.prog Tryd.f11 (OpenSpec.ofChange Rows.lexPlacesSpec) false w args)
      (Rows.lexPlacesSpec.post enc Tryd.prog Tryd.f11 false true false false) := by
  refine Go.Vm.Tryd.returnsShaped (C := Tryd.checked) (X := fun w _ => laidMetH Tryd.prog Rows.lexPlacesRow.laid w) (fun _ _ _ hh h => h.of_heap hh) own started (by kernel_rfl) Tryd.func11
    (ChangeSpec.witness_shaped (enc := enc) (C := Tryd.checked) (os := os) (X := fun w _ => laidMetH Tryd.prog Rows.lexPlacesRow.laid w) false (World.laidAll Tryd.prog os Rows.lexPlacesRow.laid) #[.slice none 0 0] 8 (World.laidAll_os _ _ _)
      (World.shaped_of_ZipB (by kernel_rfl) (by kernel_rfl)) (by kernel_rfl) (by kernel_rfl) (by kernel_rfl)
      (by rw [MakeChecks.laidMetH_plain _ _ _ (by kernel_rfl)]; exact laidMet_laidAll _ (by kernel_rfl) (by kernel_rfl))) ?_
  intro W base args ds gs before hopen hval hW _ _ hlaid _
  rw [MakeChecks.laidMetH_plain _ _ _ (by kernel_rfl)] at hlaid
  obtain ⟨c, hc⟩ : ∃ c, Tryd.f11.body = some c := ⟨_, rfl⟩
  obtain ⟨m, hmax⟩ := Go.Vm.Tryd.glob_int hopen (g := 0) (by decide +kernel) (by kernel_rfl) (by kernel_rfl) (by kernel_rfl)
  have hG : Go.Vm.Tryd.GlobIn [(0, [.int .i64 m]), (3, [])] W := Go.Vm.Tryd.globIn_of fun p hp => by
    rcases List.mem_cons.1 hp with rfl | hp
    · exact hmax
    rcases List.mem_cons.1 hp with rfl | hp
    · exact Go.Vm.Tryd.glob_none hopen (g := 3) (t := 187) (zero := (List.replicate 20 (Value.int .u64 0)).toArray) (by decide +kernel) (by kernel_rfl)
    · cases hp
  exact Go.Vm.Tryd.int_law 3001 Go.Vm.Tryd.fn11 hc (by kernel_rfl) (by kernel_rfl) (gs0 := [(0, [.int .i64 m]), (3, [])]) (fun p hp => by
      rcases List.mem_cons.1 hp with rfl | hp
      · exact (show (0 : Nat) < Tryd.prog.globals.size by decide +kernel)
      rcases List.mem_cons.1 hp with rfl | hp
      · decide +kernel
      · cases hp) Go.Vm.Tryd.gl_two
    (fun H hH hgl a l c e hN => Go.Vm.Tryd.lexPlaces_vm 3001 (by decide) hH (Go.Vm.Tryd.maxlen_of hgl) a l c e hN) hG rfl (fun _ => rfl) hval hW
theorem said_holds : Rows.LexPlacesSaid :=
  OpenClaim.holds_of_wide 11 Tryd.f11 rfl rfl rfl rfl rfl rfl rfl ⟨rfl, rfl, rfl, rfl, rfl⟩ rfl rfl rfl rfl rfl (by kernel_rfl) Tryd.func11 (by kernel_rfl)
    (of_decide_eq_true (by kernel_rfl)) (by unfold Func.isWrapper; first | (rw [if_pos (by decide +kernel)]; kernel_rfl) | (rw [if_neg (by decide +kernel)]; exact ⟨rfl, rfl⟩))
    (fun os started H enc _ => lifted os started H enc)
theorem card_holds : Rows.LexPlacesCardSaid :=
  Claim7.holds_tied_plain_at .later [] [.data, .pinned] true (true, "aa3c86d491b119b08d5ef39a992bc72b33f97c471199917ce70d197d6c69e579") true
    said_holds (fun _ h => by cases h) (by kernel_rfl) (fun _ h => by cases h) lexPlaces_row_tie rfl ⟨rfl, rfl⟩ (by kernel_rfl) rfl
    (fun f fn hf hfn => by
      obtain rfl : f = 11 := Option.some.inj ((show Tryd.prog.funcNamed "maskwright/maskkeep1.LexPlaces" = some 11 by kernel_rfl).symm.trans hf) |>.symm
      obtain rfl : fn = Tryd.f11 := (Option.some.inj (Tryd.func11.symm.trans hfn)).symm
      exact ⟨by kernel_rfl, fun j t ht => by
        rw [Tryd.params11] at ht
        have hm : t ∈ [22] := by simpa using Array.mem_of_getElem? ht
        have hall : ([22].all fun u => !Tryd.prog.wantsStandIn u) = true := by kernel_rfl
        exact (show Tryd.prog.wantsStandIn t = false by simpa using List.all_eq_true.1 hall t hm)⟩)
    (by kernel_rfl)
#print axioms card_holds
end Go.Proofs.YtieocmaaloaoaaaDoor
