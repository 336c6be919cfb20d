/-
NoteReread: a message written as text is read back as this message: for every slice of numbers the law's call returns true and the slice reads as before.
Conditions: none but the row's own (the listed variables of the library start as the program's text lays them).
-/
import Derived.Test.YtieocmaaloaoaaaDoorNb
import Derived.Test.YtieocmaaloaoaaaDoorVmClose
import Derived.Test.YtieocmaaloaoaaaDoorCards
import Derived.Test.YtieocmaaloaoaaaDoorTie
import Derived.ProofKit
import Derived.Handy
import Derived.Lay
import Derived.SevenTiedAt
namespace Go.Proofs.YtieocmaaloaoaaaDoor
set_option linter.unusedSimpArgs false
set_option linter.unusedVariables false
set_option linter.unusedSectionVars false
open Go.ChangeShapes Go.WideShapes Go.ChangeAt Go.RowKit
set_option maxRecDepth 100000
def powers : List Int := [1, 10, 100, 1000, 10000, 100000, 1000000, 10000000, 100000000, 1000000000, 10000000000, 100000000000, 1000000000000, 10000000000000, 100000000000000, 1000000000000000, 10000000000000000, 100000000000000000, 1000000000000000000, 10000000000000000000]
theorem pows_of {H : Go.Vm.VH} (h : Go.Vm.Tryd.Glo [(0, []), (3, powers.map fun z => Go.Vm.AV.int .u64 z)] H) : Go.Vm.Tryd.Pows H := ⟨(h 3 _ rfl).1, (h 3 _ rfl).2 2 _ rfl, (h 3 _ rfl).2 3 _ rfl⟩
theorem own : ownKnob Tryd.prog.godebug = none := by kernel_rfl
theorem lifted (os : Os) (started : os.Started) (H : Type) (enc : TypeId × Value → H) :
    ReturnsInHanded {} Tryd.checked os 13 .any (fun w args => (Rows.noteRereadSpec.pre enc Tryd.prog Tryd.f13 [] false w args ∧ laidMetH Tryd.prog Rows.noteRereadRow.laid w) ∧ sizedMet enc Tryd.prog Tryd.f13 (OpenSpec.ofChange Rows.noteRereadSpec) false w args)
      (Rows.noteRereadSpec.post enc Tryd.prog Tryd.f13 false true false false) := by
  refine Go.Vm.Tryd.returnsShaped (C := Tryd.checked) (X := fun w _ => laidMetH Tryd.prog Rows.noteRereadRow.laid w) (fun _ _ _ hh h => h.of_heap hh) own started (by kernel_rfl) Tryd.func13
    (ChangeSpec.witness_shaped (enc := enc) (C := Tryd.checked) (os := os) (X := fun w _ => laidMetH Tryd.prog Rows.noteRereadRow.laid w) false (World.laidAll Tryd.prog os Rows.noteRereadRow.laid) #[.slice none 0 0] 8 (World.laidAll_os _ _ _)
      (World.shaped_of_ZipB (by kernel_rfl) (by kernel_rfl)) (by kernel_rfl) (by kernel_rfl) (by kernel_rfl)
      (by rw [MakeChecks.laidMetH_plain _ _ _ (by kernel_rfl)]; exact laidMet_laidAll _ (by kernel_rfl) (by kernel_rfl))) ?_
  intro W base args ds gs before hopen hval hW _ _ hlaid _
  rw [MakeChecks.laidMetH_plain _ _ _ (by kernel_rfl)] at hlaid
  obtain ⟨c, hc⟩ : ∃ c, Tryd.f13.body = some c := ⟨_, rfl⟩
  have htab := Go.Vm.Tryd.tab_of_reads (name := "internal/strconv.uint64pow10") (k := .u64) (zs := powers) (t := 187) (e := 34) (n := 20) hlaid (.tail _ (.tail _ (.head _))) (g := 3) (by kernel_rfl) (by kernel_rfl) (by kernel_rfl) (by kernel_rfl) (by kernel_rfl) (by kernel_rfl)
  have hG : Go.Vm.Tryd.GlobIn [(0, []), (3, (powers.map fun z => Go.Vm.AV.int .u64 z))] W := Go.Vm.Tryd.globIn_of fun p hp => by
    rcases List.mem_cons.1 hp with rfl | hp
    · exact Go.Vm.Tryd.glob_none hopen (g := 0) (t := 3) (zero := #[.int .i64 0]) (by decide +kernel) (by kernel_rfl)
    rcases List.mem_cons.1 hp with rfl | hp
    · exact Go.Vm.Tryd.glob_tab (by kernel_rfl) htab
    · cases hp
  exact Go.Vm.Tryd.int_law 1001 Go.Vm.Tryd.fn13 hc (by kernel_rfl) (by kernel_rfl) (gs0 := [(0, []), (3, (powers.map fun z => Go.Vm.AV.int .u64 z))]) (fun p hp => by
      rcases List.mem_cons.1 hp with rfl | hp
      · decide +kernel
      rcases List.mem_cons.1 hp with rfl | hp
      · decide +kernel
      · cases hp) Go.Vm.Tryd.gl_two
    (fun H hH hgl a l c e hN => Go.Vm.Tryd.noteReread_vm 1001 (by decide) hH (pows_of hgl) a l c e hN) hG rfl (fun _ => rfl) hval hW
theorem said_holds : Rows.NoteRereadSaid :=
  OpenClaim.holds_of_wide 13 Tryd.f13 rfl rfl rfl rfl rfl rfl rfl ⟨rfl, rfl, rfl, rfl, rfl⟩ rfl rfl rfl rfl rfl (by kernel_rfl) Tryd.func13 (by kernel_rfl)
    (of_decide_eq_true (by kernel_rfl)) (by unfold Func.isWrapper; first | (rw [if_pos (by decide +kernel)]; kernel_rfl) | (rw [if_neg (by decide +kernel)]; exact ⟨rfl, rfl⟩))
    (fun os started H enc _ => lifted os started H enc)
theorem card_holds : Rows.NoteRereadCardSaid :=
  Claim7.holds_tied_plain_at .later [] [.data, .data, .data, .data, .sentinel, .sentinel, .pinned] true (true, "aa3c86d491b119b08d5ef39a992bc72b33f97c471199917ce70d197d6c69e579") true
    said_holds (fun _ h => by cases h) (by kernel_rfl) (fun _ h => by cases h) noteReread_row_tie rfl ⟨rfl, rfl⟩ (by kernel_rfl) rfl
    (fun f fn hf hfn => by
      obtain rfl : f = 13 := Option.some.inj ((show Tryd.prog.funcNamed "maskwright/maskkeep1.NoteReread" = some 13 by kernel_rfl).symm.trans hf) |>.symm
      obtain rfl : fn = Tryd.f13 := (Option.some.inj (Tryd.func13.symm.trans hfn)).symm
      exact ⟨by kernel_rfl, fun j t ht => by
        rw [Tryd.params13] at ht
        have hm : t ∈ [22] := by simpa using Array.mem_of_getElem? ht
        have hall : ([22].all fun u => !Tryd.prog.wantsStandIn u) = true := by kernel_rfl
        exact (show Tryd.prog.wantsStandIn t = false by simpa using List.all_eq_true.1 hall t hm)⟩)
    (by kernel_rfl)
#print axioms card_holds
end Go.Proofs.YtieocmaaloaoaaaDoor
