/- The functions that have no body here, and what stands for them; strings.Index; functions at closed arguments, each run once on a memory of its own. -/
import Derived.Test.YtdpaokgemjfhlaaGreatDoorVmPro
import Derived.Test.YtdpaokgemjfhlaaGreatDoorVmTrim
import Derived.Test.YtdpaokgemjfhlaaGreatDoorSh2
namespace Go.Vm.Tryz
open Go.Proofs.Tryz
set_option maxRecDepth 100000
noncomputable def ext0 : Nat → Option (VH → List AV → Option XR)
  | 32 => some (fun _ => xCount)
  | 100 => some (xIndex 0)
  | 110 => some (fun _ => xSame)
  | 111 => some (fun _ => xRoom 5)
  | 138 => some (fun _ => xIndexByte)
  | 65 => some (xIndexS 0)
  | 17 => some (fun _ => xCut Lib.trimS)
  | 55 => some (fun _ => xCut Lib.trimLeftS)
  | _ => none
theorem ext_32 : ExtOne T prog 32 (fun _ => xCount) :=
  xCount_ok (fn := f32) (by kernel_rfl) (by kernel_rfl) (by kernel_rfl) (by kernel_rfl) (by kernel_rfl)
theorem ext_100 : ExtOne T prog 100 (xIndex 0) :=
  xIndex_ok (fn := f100) (by kernel_rfl) (by kernel_rfl) (by kernel_rfl) (by kernel_rfl) (by kernel_rfl) (by kernel_rfl) (by kernel_rfl)
theorem ext_110 : ExtOne T prog 110 (fun _ => xSame) :=
  xSame_ok (fn := f110) (by kernel_rfl) (by kernel_rfl) (by kernel_rfl) (by kernel_rfl) (by kernel_rfl)
theorem ext_111 : ExtOne T prog 111 (fun _ => xRoom 5) :=
  xRoom_ok (fn := f111) (t := 77) (by kernel_rfl) (by kernel_rfl) (by kernel_rfl) (by kernel_rfl) (by kernel_rfl) (by kernel_rfl)
theorem ext_138 : ExtOne T prog 138 (fun _ => xIndexByte) :=
  xIndexByte_ok (fn := f138) (by kernel_rfl) (by kernel_rfl) (by kernel_rfl) (by kernel_rfl) (by kernel_rfl)
theorem ext_65 : ExtOne T prog 65 (xIndexS 0) :=
  xIndexS_ok (fn := f65) (by kernel_rfl) (by kernel_rfl) (by kernel_rfl) (by kernel_rfl) fun s sub m w hs hm => Go.Proofs.Any.stringslite_Index Go.Proofs.Tryz.lays219 s sub m w hs hm
theorem ext_17 : ExtOne T prog 17 (fun _ => xCut Lib.trimS) :=
  xCut_ok (fn := f17) (by kernel_rfl) (by kernel_rfl) (by kernel_rfl) fun s cut w hs hc ha => Go.Proofs.Any.strings_Trim_laid Go.Proofs.Tryz.lays160 (by kernel_rfl) s cut w hs hc ha
theorem ext_55 : ExtOne T prog 55 (fun _ => xCut Lib.trimLeftS) :=
  xCut_ok (fn := f55) (by kernel_rfl) (by kernel_rfl) (by kernel_rfl) fun s cut w hs hc ha => Go.Proofs.Any.strings_TrimLeft_laid Go.Proofs.Tryz.lays161 (by kernel_rfl) s cut w hc ha
theorem ext0_ok : ExtOk T prog ext0 := by
  intro f g he
  unfold ext0 at he
  split at he
  · obtain rfl := Option.some.inj he
    exact ext_32
  · obtain rfl := Option.some.inj he
    exact ext_100
  · obtain rfl := Option.some.inj he
    exact ext_110
  · obtain rfl := Option.some.inj he
    exact ext_111
  · obtain rfl := Option.some.inj he
    exact ext_138
  · obtain rfl := Option.some.inj he
    exact ext_65
  · obtain rfl := Option.some.inj he
    exact ext_17
  · obtain rfl := Option.some.inj he
    exact ext_55
  · cases he
theorem gls_lt : ∀ x ∈ gls, x < prog.globals.size := by decide +kernel
/-- maskkeep1.included -/
noncomputable def tab11 : List (List AV × AV) := [([], .bool true)]
theorem tab11_0 (m : Int) : (vcall T ext0 promo 600 11 [] (lit (gsM gls 0 m) prog.globals.size)).map Prod.fst = some (.bool true) := by kernel_rfl
theorem ext_11 : ExtOne T prog 11 (xTabM 0 tab11) := by
  refine xTabM_ok (n := 600) (gls := gls) (N := prog.globals.size) tab_ok.tb ext0_ok (promo := promo) tab_ok.draws (fun x hx => memB_mem hx) gls_lt (fun p hp => ?_) (fun m p hp => ?_)
  · revert p
    simp only [tab11, List.forall_mem_cons]
    exact ⟨rfl, fun _ h => by cases h⟩
  · revert p
    simp only [tab11, List.forall_mem_cons]
    exact ⟨tab11_0 m, fun _ h => by cases h⟩
/-- note.File -/
noncomputable def tab24 : List (List AV × AV) := [([.str (PS.of [102])], .bool true)]
theorem tab24_0 : (vcall T ext0 promo 300 24 [.str (PS.of [102])] (lit (gls.map fun x => (x, [])) prog.globals.size)).map Prod.fst = some (.bool true) := by kernel_rfl
theorem ext_24 : ExtOne T prog 24 (fun _ => xTab tab24) := by
  refine xTab_ok (n := 300) (gs := gls.map fun x => (x, [])) (N := prog.globals.size) tab_ok.tb ext0_ok (promo := promo) tab_ok.draws (fun x hx => litAt_none gls x (memB_mem hx)) (fun p hp => ?_) (fun p hp => ?_) (fun p hp => ?_) (fun p hp => ?_)
  · obtain ⟨x, hx, rfl⟩ := List.mem_map.1 hp
    exact gls_lt x hx
  · obtain ⟨x, hx, rfl⟩ := List.mem_map.1 hp
    rfl
  · obtain ⟨x, hx, rfl⟩ := List.mem_map.1 hp
    rfl
  · revert p
    simp only [tab24, List.forall_mem_cons]
    exact ⟨⟨rfl, tab24_0⟩, fun _ h => by cases h⟩
/-- prep.macroName -/
noncomputable def tab26 : List (List AV × AV) := [([.str (PS.of [98, 49])], .bool true)]
theorem tab26_0 : (vcall T ext0 promo 300 26 [.str (PS.of [98, 49])] (lit (gls.map fun x => (x, [])) prog.globals.size)).map Prod.fst = some (.bool true) := by kernel_rfl
theorem ext_26 : ExtOne T prog 26 (fun _ => xTab tab26) := by
  refine xTab_ok (n := 300) (gs := gls.map fun x => (x, [])) (N := prog.globals.size) tab_ok.tb ext0_ok (promo := promo) tab_ok.draws (fun x hx => litAt_none gls x (memB_mem hx)) (fun p hp => ?_) (fun p hp => ?_) (fun p hp => ?_) (fun p hp => ?_)
  · obtain ⟨x, hx, rfl⟩ := List.mem_map.1 hp
    exact gls_lt x hx
  · obtain ⟨x, hx, rfl⟩ := List.mem_map.1 hp
    rfl
  · obtain ⟨x, hx, rfl⟩ := List.mem_map.1 hp
    rfl
  · revert p
    simp only [tab26, List.forall_mem_cons]
    exact ⟨⟨rfl, tab26_0⟩, fun _ h => by cases h⟩
/-- prep.bodyText -/
noncomputable def tab27 : List (List AV × AV) := [([.str (PS.of [120])], .bool true)]
theorem tab27_0 : (vcall T ext0 promo 300 27 [.str (PS.of [120])] (lit (gls.map fun x => (x, [])) prog.globals.size)).map Prod.fst = some (.bool true) := by kernel_rfl
theorem ext_27 : ExtOne T prog 27 (fun _ => xTab tab27) := by
  refine xTab_ok (n := 300) (gs := gls.map fun x => (x, [])) (N := prog.globals.size) tab_ok.tb ext0_ok (promo := promo) tab_ok.draws (fun x hx => litAt_none gls x (memB_mem hx)) (fun p hp => ?_) (fun p hp => ?_) (fun p hp => ?_) (fun p hp => ?_)
  · obtain ⟨x, hx, rfl⟩ := List.mem_map.1 hp
    exact gls_lt x hx
  · obtain ⟨x, hx, rfl⟩ := List.mem_map.1 hp
    rfl
  · obtain ⟨x, hx, rfl⟩ := List.mem_map.1 hp
    rfl
  · revert p
    simp only [tab27, List.forall_mem_cons]
    exact ⟨⟨rfl, tab27_0⟩, fun _ h => by cases h⟩
/-- math/bits.Len -/
noncomputable def tab50 : List (List AV × AV) := [([.int .u64 1], .int .i64 1)]
theorem tab50_0 : (vcall T ext0 promo 300 50 [.int .u64 1] (lit (gls.map fun x => (x, [])) prog.globals.size)).map Prod.fst = some (.int .i64 1) := by kernel_rfl
theorem ext_50 : ExtOne T prog 50 (fun _ => xTab tab50) := by
  refine xTab_ok (n := 300) (gs := gls.map fun x => (x, [])) (N := prog.globals.size) tab_ok.tb ext0_ok (promo := promo) tab_ok.draws (fun x hx => litAt_none gls x (memB_mem hx)) (fun p hp => ?_) (fun p hp => ?_) (fun p hp => ?_) (fun p hp => ?_)
  · obtain ⟨x, hx, rfl⟩ := List.mem_map.1 hp
    exact gls_lt x hx
  · obtain ⟨x, hx, rfl⟩ := List.mem_map.1 hp
    rfl
  · obtain ⟨x, hx, rfl⟩ := List.mem_map.1 hp
    rfl
  · revert p
    simp only [tab50, List.forall_mem_cons]
    exact ⟨⟨rfl, tab50_0⟩, fun _ h => by cases h⟩
noncomputable def ext : Nat → Option (VH → List AV → Option XR)
  | 11 => some (xTabM 0 tab11)
  | 24 => some (fun _ => xTab tab24)
  | 26 => some (fun _ => xTab tab26)
  | 27 => some (fun _ => xTab tab27)
  | 50 => some (fun _ => xTab tab50)
  | 32 => some (fun _ => xCount)
  | 100 => some (xIndex 0)
  | 110 => some (fun _ => xSame)
  | 111 => some (fun _ => xRoom 5)
  | 138 => some (fun _ => xIndexByte)
  | 65 => some (xIndexS 0)
  | 17 => some (fun _ => xCut Lib.trimS)
  | 55 => some (fun _ => xCut Lib.trimLeftS)
  | _ => none
theorem ext_ok : ExtOk T prog ext := by
  intro f g he
  unfold ext at he
  split at he
  · obtain rfl := Option.some.inj he
    exact ext_11
  · obtain rfl := Option.some.inj he
    exact ext_24
  · obtain rfl := Option.some.inj he
    exact ext_26
  · obtain rfl := Option.some.inj he
    exact ext_27
  · obtain rfl := Option.some.inj he
    exact ext_50
  · obtain rfl := Option.some.inj he
    exact ext_32
  · obtain rfl := Option.some.inj he
    exact ext_100
  · obtain rfl := Option.some.inj he
    exact ext_110
  · obtain rfl := Option.some.inj he
    exact ext_111
  · obtain rfl := Option.some.inj he
    exact ext_138
  · obtain rfl := Option.some.inj he
    exact ext_65
  · obtain rfl := Option.some.inj he
    exact ext_17
  · obtain rfl := Option.some.inj he
    exact ext_55
  · cases he
end Go.Vm.Tryz
