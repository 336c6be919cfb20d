/- The functions that have no body here, and what stands for them; strings.Index; functions at closed arguments, each run once on a memory of its own. -/
import Derived.Test.YtcpldhgpmbpjiaaGreatDoorVmPro
import Derived.Test.YtcpldhgpmbpjiaaGreatDoorVmDark
import Derived.Test.YtcpldhgpmbpjiaaGreatDoorSh2
namespace Go.Vm.Tryz
open Go.Proofs.Tryz
set_option maxRecDepth 100000
noncomputable def ext0 : Nat → Option (VH → List AV → Option XR)
  | 206 => some (fun _ => xIndexByte)
  | 225 => some (xIndex 0)
  | 200 => some (xIndexS 0)
  | _ => none
theorem ext_206 : ExtOne T prog 206 (fun _ => xIndexByte) :=
  xIndexByte_ok (fn := f206) (by kernel_rfl) (by kernel_rfl) (by kernel_rfl) (by kernel_rfl) (by kernel_rfl)
theorem ext_225 : ExtOne T prog 225 (xIndex 0) :=
  xIndex_ok (fn := f225) (by kernel_rfl) (by kernel_rfl) (by kernel_rfl) (by kernel_rfl) (by kernel_rfl) (by kernel_rfl) (by kernel_rfl)
theorem ext_200 : ExtOne T prog 200 (xIndexS 0) :=
  xIndexS_ok (fn := f200) (by kernel_rfl) (by kernel_rfl) (by kernel_rfl) (by kernel_rfl) fun s sub m w hs hm => Go.Proofs.Any.stringslite_Index Go.Proofs.Tryz.lays219 s sub m w hs hm
theorem ext0_ok : ExtOk T prog ext0 := by
  intro f g he
  unfold ext0 at he
  split at he
  · obtain rfl := Option.some.inj he
    exact ext_206
  · obtain rfl := Option.some.inj he
    exact ext_225
  · obtain rfl := Option.some.inj he
    exact ext_200
  · cases he
theorem gls_lt : ∀ x ∈ gls, x < prog.globals.size := by decide +kernel
/-- maskkeep1.counted -/
noncomputable def tab11 : List (List AV × AV) := [([], .bool true)]
theorem tab11_0 (m : Int) : (vcall T ext0 promo 600 11 [] (lit (gsM gls 0 m) prog.globals.size)).map Prod.fst = some (.bool true) := by kernel_rfl
theorem ext_11 : ExtOne T prog 11 (xTabM 0 tab11) := by
  refine xTabM_ok (n := 600) (gls := gls) (N := prog.globals.size) tab_ok.tb ext0_ok (promo := promo) tab_ok.draws (fun x hx => memB_mem hx) gls_lt (fun p hp => ?_) (fun m p hp => ?_)
  · revert p
    simp only [tab11, List.forall_mem_cons]
    exact ⟨rfl, fun _ h => by cases h⟩
  · revert p
    simp only [tab11, List.forall_mem_cons]
    exact ⟨tab11_0 m, fun _ h => by cases h⟩
/-- design.Check -/
noncomputable def tab32 : List (List AV × AV) := [([.agg [.str (PS.of [120]), .slice none 0 (some 0) 0, .slice none 0 (some 0) 0, .slice none 0 (some 0) 0, .slice none 0 (some 0) 0]], .int .i64 0)]
theorem tab32_0 : (vcall T ext0 promo 200 32 [.agg [.str (PS.of [120]), .slice none 0 (some 0) 0, .slice none 0 (some 0) 0, .slice none 0 (some 0) 0, .slice none 0 (some 0) 0]] (lit (gls.map fun x => (x, [])) prog.globals.size)).map Prod.fst = some (.int .i64 0) := by kernel_rfl
theorem ext_32 : ExtOne T prog 32 (fun _ => xTab tab32) := by
  refine xTab_ok (n := 200) (gs := gls.map fun x => (x, [])) (N := prog.globals.size) tab_ok.tb ext0_ok (promo := promo) tab_ok.draws (fun x hx => litAt_none gls x (memB_mem hx)) (fun p hp => ?_) (fun p hp => ?_) (fun p hp => ?_) (fun p hp => ?_)
  · obtain ⟨x, hx, rfl⟩ := List.mem_map.1 hp
    exact gls_lt x hx
  · obtain ⟨x, hx, rfl⟩ := List.mem_map.1 hp
    rfl
  · obtain ⟨x, hx, rfl⟩ := List.mem_map.1 hp
    rfl
  · revert p
    simp only [tab32, List.forall_mem_cons]
    exact ⟨⟨rfl, tab32_0⟩, fun _ h => by cases h⟩
noncomputable def ext : Nat → Option (VH → List AV → Option XR)
  | 11 => some (xTabM 0 tab11)
  | 32 => some (fun _ => xTab tab32)
  | 206 => some (fun _ => xIndexByte)
  | 225 => some (xIndex 0)
  | 200 => some (xIndexS 0)
  | _ => none
theorem ext_ok : ExtOk T prog ext := by
  intro f g he
  unfold ext at he
  split at he
  · obtain rfl := Option.some.inj he
    exact ext_11
  · obtain rfl := Option.some.inj he
    exact ext_32
  · obtain rfl := Option.some.inj he
    exact ext_206
  · obtain rfl := Option.some.inj he
    exact ext_225
  · obtain rfl := Option.some.inj he
    exact ext_200
  · cases he
end Go.Vm.Tryz
