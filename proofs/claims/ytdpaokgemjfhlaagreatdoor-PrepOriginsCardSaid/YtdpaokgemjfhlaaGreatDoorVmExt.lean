/- The functions that have no body here, and what stands for them; strings.Index; functions at closed arguments, each run once on a memory of its own. -/
import Derived.Test.YtdpaokgemjfhlaaGreatDoorVmPro
import Derived.Test.YtdpaokgemjfhlaaGreatDoorVmTrim
import Derived.Test.YtdpaokgemjfhlaaGreatDoorSh2
namespace Go.Vm.Tryz
open Go.Proofs.Tryz
set_option maxRecDepth 100000
noncomputable def ext0 : Nat → Option (VH → List AV → Option XR)
  | 32 => some (fun _ => xCount)
  | 100 => some (xIndex 0)
  | 110 => some (fun _ => xSame)
  | 111 => some (fun _ => xRoom 5)
  | 138 => some (fun _ => xIndexByte)
  | 65 => some (xIndexS 0)
  | 17 => some (fun _ => xCut Lib.trimS)
  | 55 => some (fun _ => xCut Lib.trimLeftS)
  | _ => none
theorem ext_32 : ExtOne T prog 32 (fun _ => xCount) :=
  xCount_ok (fn := f32) (by kernel_rfl) (by kernel_rfl) (by kernel_rfl) (by kernel_rfl) (by kernel_rfl)
theorem ext_100 : ExtOne T prog 100 (xIndex 0) :=
  xIndex_ok (fn := f100) (by kernel_rfl) (by kernel_rfl) (by kernel_rfl) (by kernel_rfl) (by kernel_rfl) (by kernel_rfl) (by kernel_rfl)
theorem ext_110 : ExtOne T prog 110 (fun _ => xSame) :=
  xSame_ok (fn := f110) (by kernel_rfl) (by kernel_rfl) (by kernel_rfl) (by kernel_rfl) (by kernel_rfl)
theorem ext_111 : ExtOne T prog 111 (fun _ => xRoom 5) :=
  xRoom_ok (fn := f111) (t := 77) (by kernel_rfl) (by kernel_rfl) (by kernel_rfl) (by kernel_rfl) (by kernel_rfl) (by kernel_rfl)
theorem ext_138 : ExtOne T prog 138 (fun _ => xIndexByte) :=
  xIndexByte_ok (fn := f138) (by kernel_rfl) (by kernel_rfl) (by kernel_rfl) (by kernel_rfl) (by kernel_rfl)
theorem ext_65 : ExtOne T prog 65 (xIndexS 0) :=
  xIndexS_ok (fn := f65) (by kernel_rfl) (by kernel_rfl) (by kernel_rfl) (by kernel_rfl) fun s sub m w hs hm => Go.Proofs.Any.stringslite_Index Go.Proofs.Tryz.lays219 s sub m w hs hm
theorem ext_17 : ExtOne T prog 17 (fun _ => xCut Lib.trimS) :=
  xCut_ok (fn := f17) (by kernel_rfl) (by kernel_rfl) (by kernel_rfl) fun s cut w hs hc ha => Go.Proofs.Any.strings_Trim_laid Go.Proofs.Tryz.lays160 (by kernel_rfl) s cut w hs hc ha
theorem ext_55 : ExtOne T prog 55 (fun _ => xCut Lib.trimLeftS) :=
  xCut_ok (fn := f55) (by kernel_rfl) (by kernel_rfl) (by kernel_rfl) fun s cut w hs hc ha => Go.Proofs.Any.strings_TrimLeft_laid Go.Proofs.Tryz.lays161 (by kernel_rfl) s cut w hc ha
theorem ext0_ok : ExtOk T prog ext0 := by
  intro f g he
  unfold ext0 at he
  split at he
  · obtain rfl := Option.some.inj he
    exact ext_32
  · obtain rfl := Option.some.inj he
    exact ext_100
  · obtain rfl := Option.some.inj he
    exact ext_110
  · obtain rfl := Option.some.inj he
    exact ext_111
  · obtain rfl := Option.some.inj he
    exact ext_138
  · obtain rfl := Option.some.inj he
    exact ext_65
  · obtain rfl := Option.some.inj he
    exact ext_17
  · obtain rfl := Option.some.inj he
    exact ext_55
  · cases he
theorem gls_lt : ∀ x ∈ gls, x < prog.globals.size := by decide +kernel
/-- maskkeep1.included -/
noncomputable def tab11 : List (List AV × AV) := [([], .bool true)]
theorem tab11_0 (m : Int) : (vcall T ext0 promo 600 11 [] (lit (gsM gls 0 m) prog.globals.size)).map Prod.fst = some (.bool true) := by kernel_rfl
theorem ext_11 : ExtOne T prog 11 (xTabM 0 tab11) := by
  refine xTabM_ok (n := 600) (gls := gls) (N := prog.globals.size) tab_ok.tb ext0_ok (promo := promo) tab_ok.draws (fun x hx => memB_mem hx) gls_lt (fun p hp => ?_) (fun m p hp => ?_)
  · revert p
    simp only [tab11, List.forall_mem_cons]
    exact ⟨rfl, fun _ h => by cases h⟩
  · revert p
    simp only [tab11, List.forall_mem_cons]
    exact ⟨tab11_0 m, fun _ h => by cases h⟩
/-- note.File -/
noncomputable def tab24 : List (List AV × AV) := [([.str (PS.of [102])], .bool true), ([.str (PS.of [102, 48])], .bool true), ([.str (PS.of [102, 49])], .bool true), ([.str (PS.of [102, 50])], .bool true), ([.str (PS.of [102, 51])], .bool true), ([.str (PS.of [102, 52])], .bool true)]
theorem tab24_0 : (vcall T ext0 promo 300 24 [.str (PS.of [102])] (lit (gls.map fun x => (x, [])) prog.globals.size)).map Prod.fst = some (.bool true) := by kernel_rfl
theorem tab24_1 : (vcall T ext0 promo 300 24 [.str (PS.of [102, 48])] (lit (gls.map fun x => (x, [])) prog.globals.size)).map Prod.fst = some (.bool true) := by kernel_rfl
theorem tab24_2 : (vcall T ext0 promo 300 24 [.str (PS.of [102, 49])] (lit (gls.map fun x => (x, [])) prog.globals.size)).map Prod.fst = some (.bool true) := by kernel_rfl
theorem tab24_3 : (vcall T ext0 promo 300 24 [.str (PS.of [102, 50])] (lit (gls.map fun x => (x, [])) prog.globals.size)).map Prod.fst = some (.bool true) := by kernel_rfl
theorem tab24_4 : (vcall T ext0 promo 300 24 [.str (PS.of [102, 51])] (lit (gls.map fun x => (x, [])) prog.globals.size)).map Prod.fst = some (.bool true) := by kernel_rfl
theorem tab24_5 : (vcall T ext0 promo 300 24 [.str (PS.of [102, 52])] (lit (gls.map fun x => (x, [])) prog.globals.size)).map Prod.fst = some (.bool true) := by kernel_rfl
theorem ext_24 : ExtOne T prog 24 (fun _ => xTab tab24) := by
  refine xTab_ok (n := 300) (gs := gls.map fun x => (x, [])) (N := prog.globals.size) tab_ok.tb ext0_ok (promo := promo) tab_ok.draws (fun x hx => litAt_none gls x (memB_mem hx)) (fun p hp => ?_) (fun p hp => ?_) (fun p hp => ?_) (fun p hp => ?_)
  · obtain ⟨x, hx, rfl⟩ := List.mem_map.1 hp
    exact gls_lt x hx
  · obtain ⟨x, hx, rfl⟩ := List.mem_map.1 hp
    rfl
  · obtain ⟨x, hx, rfl⟩ := List.mem_map.1 hp
    rfl
  · revert p
    simp only [tab24, List.forall_mem_cons]
    exact ⟨⟨rfl, tab24_0⟩, ⟨rfl, tab24_1⟩, ⟨rfl, tab24_2⟩, ⟨rfl, tab24_3⟩, ⟨rfl, tab24_4⟩, ⟨rfl, tab24_5⟩, fun _ h => by cases h⟩
/-- prep.macroName -/
noncomputable def tab26 : List (List AV × AV) := [([.str (PS.of [98, 49])], .bool true)]
theorem tab26_0 : (vcall T ext0 promo 300 26 [.str (PS.of [98, 49])] (lit (gls.map fun x => (x, [])) prog.globals.size)).map Prod.fst = some (.bool true) := by kernel_rfl
theorem ext_26 : ExtOne T prog 26 (fun _ => xTab tab26) := by
  refine xTab_ok (n := 300) (gs := gls.map fun x => (x, [])) (N := prog.globals.size) tab_ok.tb ext0_ok (promo := promo) tab_ok.draws (fun x hx => litAt_none gls x (memB_mem hx)) (fun p hp => ?_) (fun p hp => ?_) (fun p hp => ?_) (fun p hp => ?_)
  · obtain ⟨x, hx, rfl⟩ := List.mem_map.1 hp
    exact gls_lt x hx
  · obtain ⟨x, hx, rfl⟩ := List.mem_map.1 hp
    rfl
  · obtain ⟨x, hx, rfl⟩ := List.mem_map.1 hp
    rfl
  · revert p
    simp only [tab26, List.forall_mem_cons]
    exact ⟨⟨rfl, tab26_0⟩, fun _ h => by cases h⟩
/-- prep.bodyText -/
noncomputable def tab27 : List (List AV × AV) := [([.str (PS.of [120])], .bool true)]
theorem tab27_0 : (vcall T ext0 promo 300 27 [.str (PS.of [120])] (lit (gls.map fun x => (x, [])) prog.globals.size)).map Prod.fst = some (.bool true) := by kernel_rfl
theorem ext_27 : ExtOne T prog 27 (fun _ => xTab tab27) := by
  refine xTab_ok (n := 300) (gs := gls.map fun x => (x, [])) (N := prog.globals.size) tab_ok.tb ext0_ok (promo := promo) tab_ok.draws (fun x hx => litAt_none gls x (memB_mem hx)) (fun p hp => ?_) (fun p hp => ?_) (fun p hp => ?_) (fun p hp => ?_)
  · obtain ⟨x, hx, rfl⟩ := List.mem_map.1 hp
    exact gls_lt x hx
  · obtain ⟨x, hx, rfl⟩ := List.mem_map.1 hp
    rfl
  · obtain ⟨x, hx, rfl⟩ := List.mem_map.1 hp
    rfl
  · revert p
    simp only [tab27, List.forall_mem_cons]
    exact ⟨⟨rfl, tab27_0⟩, fun _ h => by cases h⟩
/-- math/bits.Len -/
noncomputable def tab50 : List (List AV × AV) := [([.int .u64 1], .int .i64 1), ([.int .u64 0], .int .i64 0)]
theorem tab50_0 : (vcall T ext0 promo 300 50 [.int .u64 1] (lit (gls.map fun x => (x, [])) prog.globals.size)).map Prod.fst = some (.int .i64 1) := by kernel_rfl
theorem tab50_1 : (vcall T ext0 promo 300 50 [.int .u64 0] (lit (gls.map fun x => (x, [])) prog.globals.size)).map Prod.fst = some (.int .i64 0) := by kernel_rfl
theorem ext_50 : ExtOne T prog 50 (fun _ => xTab tab50) := by
  refine xTab_ok (n := 300) (gs := gls.map fun x => (x, [])) (N := prog.globals.size) tab_ok.tb ext0_ok (promo := promo) tab_ok.draws (fun x hx => litAt_none gls x (memB_mem hx)) (fun p hp => ?_) (fun p hp => ?_) (fun p hp => ?_) (fun p hp => ?_)
  · obtain ⟨x, hx, rfl⟩ := List.mem_map.1 hp
    exact gls_lt x hx
  · obtain ⟨x, hx, rfl⟩ := List.mem_map.1 hp
    rfl
  · obtain ⟨x, hx, rfl⟩ := List.mem_map.1 hp
    rfl
  · revert p
    simp only [tab50, List.forall_mem_cons]
    exact ⟨⟨rfl, tab50_0⟩, ⟨rfl, tab50_1⟩, fun _ h => by cases h⟩
/-- strconv.Itoa -/
noncomputable def tab15 : List (List AV × AV) := [([.int .i64 0], .str (PS.of [48])), ([.int .i64 1], .str (PS.of [49])), ([.int .i64 2], .str (PS.of [50])), ([.int .i64 3], .str (PS.of [51])), ([.int .i64 4], .str (PS.of [52])), ([.int .i64 5], .str (PS.of [53])), ([.int .i64 6], .str (PS.of [54])), ([.int .i64 7], .str (PS.of [55])), ([.int .i64 8], .str (PS.of [56])), ([.int .i64 9], .str (PS.of [57])), ([.int .i64 10], .str (PS.of [49, 48])), ([.int .i64 11], .str (PS.of [49, 49])), ([.int .i64 12], .str (PS.of [49, 50])), ([.int .i64 13], .str (PS.of [49, 51])), ([.int .i64 14], .str (PS.of [49, 52])), ([.int .i64 15], .str (PS.of [49, 53])), ([.int .i64 16], .str (PS.of [49, 54])), ([.int .i64 17], .str (PS.of [49, 55])), ([.int .i64 18], .str (PS.of [49, 56])), ([.int .i64 19], .str (PS.of [49, 57])), ([.int .i64 20], .str (PS.of [50, 48])), ([.int .i64 21], .str (PS.of [50, 49])), ([.int .i64 22], .str (PS.of [50, 50])), ([.int .i64 23], .str (PS.of [50, 51])), ([.int .i64 24], .str (PS.of [50, 52])), ([.int .i64 25], .str (PS.of [50, 53])), ([.int .i64 26], .str (PS.of [50, 54])), ([.int .i64 27], .str (PS.of [50, 55])), ([.int .i64 28], .str (PS.of [50, 56])), ([.int .i64 29], .str (PS.of [50, 57])), ([.int .i64 30], .str (PS.of [51, 48])), ([.int .i64 31], .str (PS.of [51, 49])), ([.int .i64 32], .str (PS.of [51, 50])), ([.int .i64 33], .str (PS.of [51, 51])), ([.int .i64 34], .str (PS.of [51, 52])), ([.int .i64 35], .str (PS.of [51, 53])), ([.int .i64 36], .str (PS.of [51, 54])), ([.int .i64 37], .str (PS.of [51, 55])), ([.int .i64 38], .str (PS.of [51, 56])), ([.int .i64 39], .str (PS.of [51, 57])), ([.int .i64 40], .str (PS.of [52, 48])), ([.int .i64 41], .str (PS.of [52, 49])), ([.int .i64 42], .str (PS.of [52, 50])), ([.int .i64 43], .str (PS.of [52, 51])), ([.int .i64 44], .str (PS.of [52, 52])), ([.int .i64 45], .str (PS.of [52, 53])), ([.int .i64 46], .str (PS.of [52, 54])), ([.int .i64 47], .str (PS.of [52, 55])), ([.int .i64 48], .str (PS.of [52, 56])), ([.int .i64 49], .str (PS.of [52, 57])), ([.int .i64 50], .str (PS.of [53, 48])), ([.int .i64 51], .str (PS.of [53, 49])), ([.int .i64 52], .str (PS.of [53, 50])), ([.int .i64 53], .str (PS.of [53, 51])), ([.int .i64 54], .str (PS.of [53, 52])), ([.int .i64 55], .str (PS.of [53, 53])), ([.int .i64 56], .str (PS.of [53, 54])), ([.int .i64 57], .str (PS.of [53, 55])), ([.int .i64 58], .str (PS.of [53, 56])), ([.int .i64 59], .str (PS.of [53, 57])), ([.int .i64 60], .str (PS.of [54, 48])), ([.int .i64 61], .str (PS.of [54, 49])), ([.int .i64 62], .str (PS.of [54, 50])), ([.int .i64 63], .str (PS.of [54, 51])), ([.int .i64 64], .str (PS.of [54, 52])), ([.int .i64 65], .str (PS.of [54, 53])), ([.int .i64 66], .str (PS.of [54, 54])), ([.int .i64 67], .str (PS.of [54, 55])), ([.int .i64 68], .str (PS.of [54, 56])), ([.int .i64 69], .str (PS.of [54, 57])), ([.int .i64 70], .str (PS.of [55, 48])), ([.int .i64 71], .str (PS.of [55, 49])), ([.int .i64 72], .str (PS.of [55, 50])), ([.int .i64 73], .str (PS.of [55, 51])), ([.int .i64 74], .str (PS.of [55, 52])), ([.int .i64 75], .str (PS.of [55, 53])), ([.int .i64 76], .str (PS.of [55, 54])), ([.int .i64 77], .str (PS.of [55, 55])), ([.int .i64 78], .str (PS.of [55, 56])), ([.int .i64 79], .str (PS.of [55, 57])), ([.int .i64 80], .str (PS.of [56, 48])), ([.int .i64 81], .str (PS.of [56, 49])), ([.int .i64 82], .str (PS.of [56, 50])), ([.int .i64 83], .str (PS.of [56, 51])), ([.int .i64 84], .str (PS.of [56, 52])), ([.int .i64 85], .str (PS.of [56, 53])), ([.int .i64 86], .str (PS.of [56, 54])), ([.int .i64 87], .str (PS.of [56, 55])), ([.int .i64 88], .str (PS.of [56, 56])), ([.int .i64 89], .str (PS.of [56, 57])), ([.int .i64 90], .str (PS.of [57, 48])), ([.int .i64 91], .str (PS.of [57, 49])), ([.int .i64 92], .str (PS.of [57, 50])), ([.int .i64 93], .str (PS.of [57, 51])), ([.int .i64 94], .str (PS.of [57, 52])), ([.int .i64 95], .str (PS.of [57, 53])), ([.int .i64 96], .str (PS.of [57, 54])), ([.int .i64 97], .str (PS.of [57, 55])), ([.int .i64 98], .str (PS.of [57, 56])), ([.int .i64 99], .str (PS.of [57, 57]))]
theorem tab15_0 : (vcall T ext0 promo 300 15 [.int .i64 0] (lit (gls.map fun x => (x, [])) prog.globals.size)).map Prod.fst = some (.str (PS.of [48])) := by kernel_rfl
theorem tab15_1 : (vcall T ext0 promo 300 15 [.int .i64 1] (lit (gls.map fun x => (x, [])) prog.globals.size)).map Prod.fst = some (.str (PS.of [49])) := by kernel_rfl
theorem tab15_2 : (vcall T ext0 promo 300 15 [.int .i64 2] (lit (gls.map fun x => (x, [])) prog.globals.size)).map Prod.fst = some (.str (PS.of [50])) := by kernel_rfl
theorem tab15_3 : (vcall T ext0 promo 300 15 [.int .i64 3] (lit (gls.map fun x => (x, [])) prog.globals.size)).map Prod.fst = some (.str (PS.of [51])) := by kernel_rfl
theorem tab15_4 : (vcall T ext0 promo 300 15 [.int .i64 4] (lit (gls.map fun x => (x, [])) prog.globals.size)).map Prod.fst = some (.str (PS.of [52])) := by kernel_rfl
theorem tab15_5 : (vcall T ext0 promo 300 15 [.int .i64 5] (lit (gls.map fun x => (x, [])) prog.globals.size)).map Prod.fst = some (.str (PS.of [53])) := by kernel_rfl
theorem tab15_6 : (vcall T ext0 promo 300 15 [.int .i64 6] (lit (gls.map fun x => (x, [])) prog.globals.size)).map Prod.fst = some (.str (PS.of [54])) := by kernel_rfl
theorem tab15_7 : (vcall T ext0 promo 300 15 [.int .i64 7] (lit (gls.map fun x => (x, [])) prog.globals.size)).map Prod.fst = some (.str (PS.of [55])) := by kernel_rfl
theorem tab15_8 : (vcall T ext0 promo 300 15 [.int .i64 8] (lit (gls.map fun x => (x, [])) prog.globals.size)).map Prod.fst = some (.str (PS.of [56])) := by kernel_rfl
theorem tab15_9 : (vcall T ext0 promo 300 15 [.int .i64 9] (lit (gls.map fun x => (x, [])) prog.globals.size)).map Prod.fst = some (.str (PS.of [57])) := by kernel_rfl
theorem tab15_10 : (vcall T ext0 promo 300 15 [.int .i64 10] (lit (gls.map fun x => (x, [])) prog.globals.size)).map Prod.fst = some (.str (PS.of [49, 48])) := by kernel_rfl
theorem tab15_11 : (vcall T ext0 promo 300 15 [.int .i64 11] (lit (gls.map fun x => (x, [])) prog.globals.size)).map Prod.fst = some (.str (PS.of [49, 49])) := by kernel_rfl
theorem tab15_12 : (vcall T ext0 promo 300 15 [.int .i64 12] (lit (gls.map fun x => (x, [])) prog.globals.size)).map Prod.fst = some (.str (PS.of [49, 50])) := by kernel_rfl
theorem tab15_13 : (vcall T ext0 promo 300 15 [.int .i64 13] (lit (gls.map fun x => (x, [])) prog.globals.size)).map Prod.fst = some (.str (PS.of [49, 51])) := by kernel_rfl
theorem tab15_14 : (vcall T ext0 promo 300 15 [.int .i64 14] (lit (gls.map fun x => (x, [])) prog.globals.size)).map Prod.fst = some (.str (PS.of [49, 52])) := by kernel_rfl
theorem tab15_15 : (vcall T ext0 promo 300 15 [.int .i64 15] (lit (gls.map fun x => (x, [])) prog.globals.size)).map Prod.fst = some (.str (PS.of [49, 53])) := by kernel_rfl
theorem tab15_16 : (vcall T ext0 promo 300 15 [.int .i64 16] (lit (gls.map fun x => (x, [])) prog.globals.size)).map Prod.fst = some (.str (PS.of [49, 54])) := by kernel_rfl
theorem tab15_17 : (vcall T ext0 promo 300 15 [.int .i64 17] (lit (gls.map fun x => (x, [])) prog.globals.size)).map Prod.fst = some (.str (PS.of [49, 55])) := by kernel_rfl
theorem tab15_18 : (vcall T ext0 promo 300 15 [.int .i64 18] (lit (gls.map fun x => (x, [])) prog.globals.size)).map Prod.fst = some (.str (PS.of [49, 56])) := by kernel_rfl
theorem tab15_19 : (vcall T ext0 promo 300 15 [.int .i64 19] (lit (gls.map fun x => (x, [])) prog.globals.size)).map Prod.fst = some (.str (PS.of [49, 57])) := by kernel_rfl
theorem tab15_20 : (vcall T ext0 promo 300 15 [.int .i64 20] (lit (gls.map fun x => (x, [])) prog.globals.size)).map Prod.fst = some (.str (PS.of [50, 48])) := by kernel_rfl
theorem tab15_21 : (vcall T ext0 promo 300 15 [.int .i64 21] (lit (gls.map fun x => (x, [])) prog.globals.size)).map Prod.fst = some (.str (PS.of [50, 49])) := by kernel_rfl
theorem tab15_22 : (vcall T ext0 promo 300 15 [.int .i64 22] (lit (gls.map fun x => (x, [])) prog.globals.size)).map Prod.fst = some (.str (PS.of [50, 50])) := by kernel_rfl
theorem tab15_23 : (vcall T ext0 promo 300 15 [.int .i64 23] (lit (gls.map fun x => (x, [])) prog.globals.size)).map Prod.fst = some (.str (PS.of [50, 51])) := by kernel_rfl
theorem tab15_24 : (vcall T ext0 promo 300 15 [.int .i64 24] (lit (gls.map fun x => (x, [])) prog.globals.size)).map Prod.fst = some (.str (PS.of [50, 52])) := by kernel_rfl
theorem tab15_25 : (vcall T ext0 promo 300 15 [.int .i64 25] (lit (gls.map fun x => (x, [])) prog.globals.size)).map Prod.fst = some (.str (PS.of [50, 53])) := by kernel_rfl
theorem tab15_26 : (vcall T ext0 promo 300 15 [.int .i64 26] (lit (gls.map fun x => (x, [])) prog.globals.size)).map Prod.fst = some (.str (PS.of [50, 54])) := by kernel_rfl
theorem tab15_27 : (vcall T ext0 promo 300 15 [.int .i64 27] (lit (gls.map fun x => (x, [])) prog.globals.size)).map Prod.fst = some (.str (PS.of [50, 55])) := by kernel_rfl
theorem tab15_28 : (vcall T ext0 promo 300 15 [.int .i64 28] (lit (gls.map fun x => (x, [])) prog.globals.size)).map Prod.fst = some (.str (PS.of [50, 56])) := by kernel_rfl
theorem tab15_29 : (vcall T ext0 promo 300 15 [.int .i64 29] (lit (gls.map fun x => (x, [])) prog.globals.size)).map Prod.fst = some (.str (PS.of [50, 57])) := by kernel_rfl
theorem tab15_30 : (vcall T ext0 promo 300 15 [.int .i64 30] (lit (gls.map fun x => (x, [])) prog.globals.size)).map Prod.fst = some (.str (PS.of [51, 48])) := by kernel_rfl
theorem tab15_31 : (vcall T ext0 promo 300 15 [.int .i64 31] (lit (gls.map fun x => (x, [])) prog.globals.size)).map Prod.fst = some (.str (PS.of [51, 49])) := by kernel_rfl
theorem tab15_32 : (vcall T ext0 promo 300 15 [.int .i64 32] (lit (gls.map fun x => (x, [])) prog.globals.size)).map Prod.fst = some (.str (PS.of [51, 50])) := by kernel_rfl
theorem tab15_33 : (vcall T ext0 promo 300 15 [.int .i64 33] (lit (gls.map fun x => (x, [])) prog.globals.size)).map Prod.fst = some (.str (PS.of [51, 51])) := by kernel_rfl
theorem tab15_34 : (vcall T ext0 promo 300 15 [.int .i64 34] (lit (gls.map fun x => (x, [])) prog.globals.size)).map Prod.fst = some (.str (PS.of [51, 52])) := by kernel_rfl
theorem tab15_35 : (vcall T ext0 promo 300 15 [.int .i64 35] (lit (gls.map fun x => (x, [])) prog.globals.size)).map Prod.fst = some (.str (PS.of [51, 53])) := by kernel_rfl
theorem tab15_36 : (vcall T ext0 promo 300 15 [.int .i64 36] (lit (gls.map fun x => (x, [])) prog.globals.size)).map Prod.fst = some (.str (PS.of [51, 54])) := by kernel_rfl
theorem tab15_37 : (vcall T ext0 promo 300 15 [.int .i64 37] (lit (gls.map fun x => (x, [])) prog.globals.size)).map Prod.fst = some (.str (PS.of [51, 55])) := by kernel_rfl
theorem tab15_38 : (vcall T ext0 promo 300 15 [.int .i64 38] (lit (gls.map fun x => (x, [])) prog.globals.size)).map Prod.fst = some (.str (PS.of [51, 56])) := by kernel_rfl
theorem tab15_39 : (vcall T ext0 promo 300 15 [.int .i64 39] (lit (gls.map fun x => (x, [])) prog.globals.size)).map Prod.fst = some (.str (PS.of [51, 57])) := by kernel_rfl
theorem tab15_40 : (vcall T ext0 promo 300 15 [.int .i64 40] (lit (gls.map fun x => (x, [])) prog.globals.size)).map Prod.fst = some (.str (PS.of [52, 48])) := by kernel_rfl
theorem tab15_41 : (vcall T ext0 promo 300 15 [.int .i64 41] (lit (gls.map fun x => (x, [])) prog.globals.size)).map Prod.fst = some (.str (PS.of [52, 49])) := by kernel_rfl
theorem tab15_42 : (vcall T ext0 promo 300 15 [.int .i64 42] (lit (gls.map fun x => (x, [])) prog.globals.size)).map Prod.fst = some (.str (PS.of [52, 50])) := by kernel_rfl
theorem tab15_43 : (vcall T ext0 promo 300 15 [.int .i64 43] (lit (gls.map fun x => (x, [])) prog.globals.size)).map Prod.fst = some (.str (PS.of [52, 51])) := by kernel_rfl
theorem tab15_44 : (vcall T ext0 promo 300 15 [.int .i64 44] (lit (gls.map fun x => (x, [])) prog.globals.size)).map Prod.fst = some (.str (PS.of [52, 52])) := by kernel_rfl
theorem tab15_45 : (vcall T ext0 promo 300 15 [.int .i64 45] (lit (gls.map fun x => (x, [])) prog.globals.size)).map Prod.fst = some (.str (PS.of [52, 53])) := by kernel_rfl
theorem tab15_46 : (vcall T ext0 promo 300 15 [.int .i64 46] (lit (gls.map fun x => (x, [])) prog.globals.size)).map Prod.fst = some (.str (PS.of [52, 54])) := by kernel_rfl
theorem tab15_47 : (vcall T ext0 promo 300 15 [.int .i64 47] (lit (gls.map fun x => (x, [])) prog.globals.size)).map Prod.fst = some (.str (PS.of [52, 55])) := by kernel_rfl
theorem tab15_48 : (vcall T ext0 promo 300 15 [.int .i64 48] (lit (gls.map fun x => (x, [])) prog.globals.size)).map Prod.fst = some (.str (PS.of [52, 56])) := by kernel_rfl
theorem tab15_49 : (vcall T ext0 promo 300 15 [.int .i64 49] (lit (gls.map fun x => (x, [])) prog.globals.size)).map Prod.fst = some (.str (PS.of [52, 57])) := by kernel_rfl
theorem tab15_50 : (vcall T ext0 promo 300 15 [.int .i64 50] (lit (gls.map fun x => (x, [])) prog.globals.size)).map Prod.fst = some (.str (PS.of [53, 48])) := by kernel_rfl
theorem tab15_51 : (vcall T ext0 promo 300 15 [.int .i64 51] (lit (gls.map fun x => (x, [])) prog.globals.size)).map Prod.fst = some (.str (PS.of [53, 49])) := by kernel_rfl
theorem tab15_52 : (vcall T ext0 promo 300 15 [.int .i64 52] (lit (gls.map fun x => (x, [])) prog.globals.size)).map Prod.fst = some (.str (PS.of [53, 50])) := by kernel_rfl
theorem tab15_53 : (vcall T ext0 promo 300 15 [.int .i64 53] (lit (gls.map fun x => (x, [])) prog.globals.size)).map Prod.fst = some (.str (PS.of [53, 51])) := by kernel_rfl
theorem tab15_54 : (vcall T ext0 promo 300 15 [.int .i64 54] (lit (gls.map fun x => (x, [])) prog.globals.size)).map Prod.fst = some (.str (PS.of [53, 52])) := by kernel_rfl
theorem tab15_55 : (vcall T ext0 promo 300 15 [.int .i64 55] (lit (gls.map fun x => (x, [])) prog.globals.size)).map Prod.fst = some (.str (PS.of [53, 53])) := by kernel_rfl
theorem tab15_56 : (vcall T ext0 promo 300 15 [.int .i64 56] (lit (gls.map fun x => (x, [])) prog.globals.size)).map Prod.fst = some (.str (PS.of [53, 54])) := by kernel_rfl
theorem tab15_57 : (vcall T ext0 promo 300 15 [.int .i64 57] (lit (gls.map fun x => (x, [])) prog.globals.size)).map Prod.fst = some (.str (PS.of [53, 55])) := by kernel_rfl
theorem tab15_58 : (vcall T ext0 promo 300 15 [.int .i64 58] (lit (gls.map fun x => (x, [])) prog.globals.size)).map Prod.fst = some (.str (PS.of [53, 56])) := by kernel_rfl
theorem tab15_59 : (vcall T ext0 promo 300 15 [.int .i64 59] (lit (gls.map fun x => (x, [])) prog.globals.size)).map Prod.fst = some (.str (PS.of [53, 57])) := by kernel_rfl
theorem tab15_60 : (vcall T ext0 promo 300 15 [.int .i64 60] (lit (gls.map fun x => (x, [])) prog.globals.size)).map Prod.fst = some (.str (PS.of [54, 48])) := by kernel_rfl
theorem tab15_61 : (vcall T ext0 promo 300 15 [.int .i64 61] (lit (gls.map fun x => (x, [])) prog.globals.size)).map Prod.fst = some (.str (PS.of [54, 49])) := by kernel_rfl
theorem tab15_62 : (vcall T ext0 promo 300 15 [.int .i64 62] (lit (gls.map fun x => (x, [])) prog.globals.size)).map Prod.fst = some (.str (PS.of [54, 50])) := by kernel_rfl
theorem tab15_63 : (vcall T ext0 promo 300 15 [.int .i64 63] (lit (gls.map fun x => (x, [])) prog.globals.size)).map Prod.fst = some (.str (PS.of [54, 51])) := by kernel_rfl
theorem tab15_64 : (vcall T ext0 promo 300 15 [.int .i64 64] (lit (gls.map fun x => (x, [])) prog.globals.size)).map Prod.fst = some (.str (PS.of [54, 52])) := by kernel_rfl
theorem tab15_65 : (vcall T ext0 promo 300 15 [.int .i64 65] (lit (gls.map fun x => (x, [])) prog.globals.size)).map Prod.fst = some (.str (PS.of [54, 53])) := by kernel_rfl
theorem tab15_66 : (vcall T ext0 promo 300 15 [.int .i64 66] (lit (gls.map fun x => (x, [])) prog.globals.size)).map Prod.fst = some (.str (PS.of [54, 54])) := by kernel_rfl
theorem tab15_67 : (vcall T ext0 promo 300 15 [.int .i64 67] (lit (gls.map fun x => (x, [])) prog.globals.size)).map Prod.fst = some (.str (PS.of [54, 55])) := by kernel_rfl
theorem tab15_68 : (vcall T ext0 promo 300 15 [.int .i64 68] (lit (gls.map fun x => (x, [])) prog.globals.size)).map Prod.fst = some (.str (PS.of [54, 56])) := by kernel_rfl
theorem tab15_69 : (vcall T ext0 promo 300 15 [.int .i64 69] (lit (gls.map fun x => (x, [])) prog.globals.size)).map Prod.fst = some (.str (PS.of [54, 57])) := by kernel_rfl
theorem tab15_70 : (vcall T ext0 promo 300 15 [.int .i64 70] (lit (gls.map fun x => (x, [])) prog.globals.size)).map Prod.fst = some (.str (PS.of [55, 48])) := by kernel_rfl
theorem tab15_71 : (vcall T ext0 promo 300 15 [.int .i64 71] (lit (gls.map fun x => (x, [])) prog.globals.size)).map Prod.fst = some (.str (PS.of [55, 49])) := by kernel_rfl
theorem tab15_72 : (vcall T ext0 promo 300 15 [.int .i64 72] (lit (gls.map fun x => (x, [])) prog.globals.size)).map Prod.fst = some (.str (PS.of [55, 50])) := by kernel_rfl
theorem tab15_73 : (vcall T ext0 promo 300 15 [.int .i64 73] (lit (gls.map fun x => (x, [])) prog.globals.size)).map Prod.fst = some (.str (PS.of [55, 51])) := by kernel_rfl
theorem tab15_74 : (vcall T ext0 promo 300 15 [.int .i64 74] (lit (gls.map fun x => (x, [])) prog.globals.size)).map Prod.fst = some (.str (PS.of [55, 52])) := by kernel_rfl
theorem tab15_75 : (vcall T ext0 promo 300 15 [.int .i64 75] (lit (gls.map fun x => (x, [])) prog.globals.size)).map Prod.fst = some (.str (PS.of [55, 53])) := by kernel_rfl
theorem tab15_76 : (vcall T ext0 promo 300 15 [.int .i64 76] (lit (gls.map fun x => (x, [])) prog.globals.size)).map Prod.fst = some (.str (PS.of [55, 54])) := by kernel_rfl
theorem tab15_77 : (vcall T ext0 promo 300 15 [.int .i64 77] (lit (gls.map fun x => (x, [])) prog.globals.size)).map Prod.fst = some (.str (PS.of [55, 55])) := by kernel_rfl
theorem tab15_78 : (vcall T ext0 promo 300 15 [.int .i64 78] (lit (gls.map fun x => (x, [])) prog.globals.size)).map Prod.fst = some (.str (PS.of [55, 56])) := by kernel_rfl
theorem tab15_79 : (vcall T ext0 promo 300 15 [.int .i64 79] (lit (gls.map fun x => (x, [])) prog.globals.size)).map Prod.fst = some (.str (PS.of [55, 57])) := by kernel_rfl
theorem tab15_80 : (vcall T ext0 promo 300 15 [.int .i64 80] (lit (gls.map fun x => (x, [])) prog.globals.size)).map Prod.fst = some (.str (PS.of [56, 48])) := by kernel_rfl
theorem tab15_81 : (vcall T ext0 promo 300 15 [.int .i64 81] (lit (gls.map fun x => (x, [])) prog.globals.size)).map Prod.fst = some (.str (PS.of [56, 49])) := by kernel_rfl
theorem tab15_82 : (vcall T ext0 promo 300 15 [.int .i64 82] (lit (gls.map fun x => (x, [])) prog.globals.size)).map Prod.fst = some (.str (PS.of [56, 50])) := by kernel_rfl
theorem tab15_83 : (vcall T ext0 promo 300 15 [.int .i64 83] (lit (gls.map fun x => (x, [])) prog.globals.size)).map Prod.fst = some (.str (PS.of [56, 51])) := by kernel_rfl
theorem tab15_84 : (vcall T ext0 promo 300 15 [.int .i64 84] (lit (gls.map fun x => (x, [])) prog.globals.size)).map Prod.fst = some (.str (PS.of [56, 52])) := by kernel_rfl
theorem tab15_85 : (vcall T ext0 promo 300 15 [.int .i64 85] (lit (gls.map fun x => (x, [])) prog.globals.size)).map Prod.fst = some (.str (PS.of [56, 53])) := by kernel_rfl
theorem tab15_86 : (vcall T ext0 promo 300 15 [.int .i64 86] (lit (gls.map fun x => (x, [])) prog.globals.size)).map Prod.fst = some (.str (PS.of [56, 54])) := by kernel_rfl
theorem tab15_87 : (vcall T ext0 promo 300 15 [.int .i64 87] (lit (gls.map fun x => (x, [])) prog.globals.size)).map Prod.fst = some (.str (PS.of [56, 55])) := by kernel_rfl
theorem tab15_88 : (vcall T ext0 promo 300 15 [.int .i64 88] (lit (gls.map fun x => (x, [])) prog.globals.size)).map Prod.fst = some (.str (PS.of [56, 56])) := by kernel_rfl
theorem tab15_89 : (vcall T ext0 promo 300 15 [.int .i64 89] (lit (gls.map fun x => (x, [])) prog.globals.size)).map Prod.fst = some (.str (PS.of [56, 57])) := by kernel_rfl
theorem tab15_90 : (vcall T ext0 promo 300 15 [.int .i64 90] (lit (gls.map fun x => (x, [])) prog.globals.size)).map Prod.fst = some (.str (PS.of [57, 48])) := by kernel_rfl
theorem tab15_91 : (vcall T ext0 promo 300 15 [.int .i64 91] (lit (gls.map fun x => (x, [])) prog.globals.size)).map Prod.fst = some (.str (PS.of [57, 49])) := by kernel_rfl
theorem tab15_92 : (vcall T ext0 promo 300 15 [.int .i64 92] (lit (gls.map fun x => (x, [])) prog.globals.size)).map Prod.fst = some (.str (PS.of [57, 50])) := by kernel_rfl
theorem tab15_93 : (vcall T ext0 promo 300 15 [.int .i64 93] (lit (gls.map fun x => (x, [])) prog.globals.size)).map Prod.fst = some (.str (PS.of [57, 51])) := by kernel_rfl
theorem tab15_94 : (vcall T ext0 promo 300 15 [.int .i64 94] (lit (gls.map fun x => (x, [])) prog.globals.size)).map Prod.fst = some (.str (PS.of [57, 52])) := by kernel_rfl
theorem tab15_95 : (vcall T ext0 promo 300 15 [.int .i64 95] (lit (gls.map fun x => (x, [])) prog.globals.size)).map Prod.fst = some (.str (PS.of [57, 53])) := by kernel_rfl
theorem tab15_96 : (vcall T ext0 promo 300 15 [.int .i64 96] (lit (gls.map fun x => (x, [])) prog.globals.size)).map Prod.fst = some (.str (PS.of [57, 54])) := by kernel_rfl
theorem tab15_97 : (vcall T ext0 promo 300 15 [.int .i64 97] (lit (gls.map fun x => (x, [])) prog.globals.size)).map Prod.fst = some (.str (PS.of [57, 55])) := by kernel_rfl
theorem tab15_98 : (vcall T ext0 promo 300 15 [.int .i64 98] (lit (gls.map fun x => (x, [])) prog.globals.size)).map Prod.fst = some (.str (PS.of [57, 56])) := by kernel_rfl
theorem tab15_99 : (vcall T ext0 promo 300 15 [.int .i64 99] (lit (gls.map fun x => (x, [])) prog.globals.size)).map Prod.fst = some (.str (PS.of [57, 57])) := by kernel_rfl
theorem ext_15 : ExtOne T prog 15 (fun _ => xTab tab15) := by
  refine xTab_ok (n := 300) (gs := gls.map fun x => (x, [])) (N := prog.globals.size) tab_ok.tb ext0_ok (promo := promo) tab_ok.draws (fun x hx => litAt_none gls x (memB_mem hx)) (fun p hp => ?_) (fun p hp => ?_) (fun p hp => ?_) (fun p hp => ?_)
  · obtain ⟨x, hx, rfl⟩ := List.mem_map.1 hp
    exact gls_lt x hx
  · obtain ⟨x, hx, rfl⟩ := List.mem_map.1 hp
    rfl
  · obtain ⟨x, hx, rfl⟩ := List.mem_map.1 hp
    rfl
  · revert p
    simp only [tab15, List.forall_mem_cons]
    exact ⟨⟨rfl, tab15_0⟩, ⟨rfl, tab15_1⟩, ⟨rfl, tab15_2⟩, ⟨rfl, tab15_3⟩, ⟨rfl, tab15_4⟩, ⟨rfl, tab15_5⟩, ⟨rfl, tab15_6⟩, ⟨rfl, tab15_7⟩, ⟨rfl, tab15_8⟩, ⟨rfl, tab15_9⟩, ⟨rfl, tab15_10⟩, ⟨rfl, tab15_11⟩, ⟨rfl, tab15_12⟩, ⟨rfl, tab15_13⟩, ⟨rfl, tab15_14⟩, ⟨rfl, tab15_15⟩, ⟨rfl, tab15_16⟩, ⟨rfl, tab15_17⟩, ⟨rfl, tab15_18⟩, ⟨rfl, tab15_19⟩, ⟨rfl, tab15_20⟩, ⟨rfl, tab15_21⟩, ⟨rfl, tab15_22⟩, ⟨rfl, tab15_23⟩, ⟨rfl, tab15_24⟩, ⟨rfl, tab15_25⟩, ⟨rfl, tab15_26⟩, ⟨rfl, tab15_27⟩, ⟨rfl, tab15_28⟩, ⟨rfl, tab15_29⟩, ⟨rfl, tab15_30⟩, ⟨rfl, tab15_31⟩, ⟨rfl, tab15_32⟩, ⟨rfl, tab15_33⟩, ⟨rfl, tab15_34⟩, ⟨rfl, tab15_35⟩, ⟨rfl, tab15_36⟩, ⟨rfl, tab15_37⟩, ⟨rfl, tab15_38⟩, ⟨rfl, tab15_39⟩, ⟨rfl, tab15_40⟩, ⟨rfl, tab15_41⟩, ⟨rfl, tab15_42⟩, ⟨rfl, tab15_43⟩, ⟨rfl, tab15_44⟩, ⟨rfl, tab15_45⟩, ⟨rfl, tab15_46⟩, ⟨rfl, tab15_47⟩, ⟨rfl, tab15_48⟩, ⟨rfl, tab15_49⟩, ⟨rfl, tab15_50⟩, ⟨rfl, tab15_51⟩, ⟨rfl, tab15_52⟩, ⟨rfl, tab15_53⟩, ⟨rfl, tab15_54⟩, ⟨rfl, tab15_55⟩, ⟨rfl, tab15_56⟩, ⟨rfl, tab15_57⟩, ⟨rfl, tab15_58⟩, ⟨rfl, tab15_59⟩, ⟨rfl, tab15_60⟩, ⟨rfl, tab15_61⟩, ⟨rfl, tab15_62⟩, ⟨rfl, tab15_63⟩, ⟨rfl, tab15_64⟩, ⟨rfl, tab15_65⟩, ⟨rfl, tab15_66⟩, ⟨rfl, tab15_67⟩, ⟨rfl, tab15_68⟩, ⟨rfl, tab15_69⟩, ⟨rfl, tab15_70⟩, ⟨rfl, tab15_71⟩, ⟨rfl, tab15_72⟩, ⟨rfl, tab15_73⟩, ⟨rfl, tab15_74⟩, ⟨rfl, tab15_75⟩, ⟨rfl, tab15_76⟩, ⟨rfl, tab15_77⟩, ⟨rfl, tab15_78⟩, ⟨rfl, tab15_79⟩, ⟨rfl, tab15_80⟩, ⟨rfl, tab15_81⟩, ⟨rfl, tab15_82⟩, ⟨rfl, tab15_83⟩, ⟨rfl, tab15_84⟩, ⟨rfl, tab15_85⟩, ⟨rfl, tab15_86⟩, ⟨rfl, tab15_87⟩, ⟨rfl, tab15_88⟩, ⟨rfl, tab15_89⟩, ⟨rfl, tab15_90⟩, ⟨rfl, tab15_91⟩, ⟨rfl, tab15_92⟩, ⟨rfl, tab15_93⟩, ⟨rfl, tab15_94⟩, ⟨rfl, tab15_95⟩, ⟨rfl, tab15_96⟩, ⟨rfl, tab15_97⟩, ⟨rfl, tab15_98⟩, ⟨rfl, tab15_99⟩, fun _ h => by cases h⟩
/-- prep.nameLen -/
noncomputable def tab53 : List (List AV × AV) := [([.str (PS.of [105, 110, 99, 108, 117, 100, 101, 32, 34, 102, 49, 34])], .int .i64 7), ([.str (PS.of [105, 110, 99, 108, 117, 100, 101, 32, 34, 102, 50, 34])], .int .i64 7), ([.str (PS.of [105, 110, 99, 108, 117, 100, 101, 32, 34, 102, 51, 34])], .int .i64 7), ([.str (PS.of [105, 110, 99, 108, 117, 100, 101, 32, 34, 102, 52, 34])], .int .i64 7)]
theorem tab53_0 : (vcall T ext0 promo 300 53 [.str (PS.of [105, 110, 99, 108, 117, 100, 101, 32, 34, 102, 49, 34])] (lit (gls.map fun x => (x, [])) prog.globals.size)).map Prod.fst = some (.int .i64 7) := by kernel_rfl
theorem tab53_1 : (vcall T ext0 promo 300 53 [.str (PS.of [105, 110, 99, 108, 117, 100, 101, 32, 34, 102, 50, 34])] (lit (gls.map fun x => (x, [])) prog.globals.size)).map Prod.fst = some (.int .i64 7) := by kernel_rfl
theorem tab53_2 : (vcall T ext0 promo 300 53 [.str (PS.of [105, 110, 99, 108, 117, 100, 101, 32, 34, 102, 51, 34])] (lit (gls.map fun x => (x, [])) prog.globals.size)).map Prod.fst = some (.int .i64 7) := by kernel_rfl
theorem tab53_3 : (vcall T ext0 promo 300 53 [.str (PS.of [105, 110, 99, 108, 117, 100, 101, 32, 34, 102, 52, 34])] (lit (gls.map fun x => (x, [])) prog.globals.size)).map Prod.fst = some (.int .i64 7) := by kernel_rfl
theorem ext_53 : ExtOne T prog 53 (fun _ => xTab tab53) := by
  refine xTab_ok (n := 300) (gs := gls.map fun x => (x, [])) (N := prog.globals.size) tab_ok.tb ext0_ok (promo := promo) tab_ok.draws (fun x hx => litAt_none gls x (memB_mem hx)) (fun p hp => ?_) (fun p hp => ?_) (fun p hp => ?_) (fun p hp => ?_)
  · obtain ⟨x, hx, rfl⟩ := List.mem_map.1 hp
    exact gls_lt x hx
  · obtain ⟨x, hx, rfl⟩ := List.mem_map.1 hp
    rfl
  · obtain ⟨x, hx, rfl⟩ := List.mem_map.1 hp
    rfl
  · revert p
    simp only [tab53, List.forall_mem_cons]
    exact ⟨⟨rfl, tab53_0⟩, ⟨rfl, tab53_1⟩, ⟨rfl, tab53_2⟩, ⟨rfl, tab53_3⟩, fun _ h => by cases h⟩
/-- prep.clean -/
noncomputable def tab88 : List (List AV × AV) := [([.str (PS.of [32, 34, 102, 49, 34])], .str (PS.of [34, 102, 49, 34])), ([.str (PS.of [32, 34, 102, 50, 34])], .str (PS.of [34, 102, 50, 34])), ([.str (PS.of [32, 34, 102, 51, 34])], .str (PS.of [34, 102, 51, 34])), ([.str (PS.of [32, 34, 102, 52, 34])], .str (PS.of [34, 102, 52, 34]))]
theorem tab88_0 : (vcall T ext0 promo 300 88 [.str (PS.of [32, 34, 102, 49, 34])] (lit (gls.map fun x => (x, [])) prog.globals.size)).map Prod.fst = some (.str (PS.of [34, 102, 49, 34])) := by kernel_rfl
theorem tab88_1 : (vcall T ext0 promo 300 88 [.str (PS.of [32, 34, 102, 50, 34])] (lit (gls.map fun x => (x, [])) prog.globals.size)).map Prod.fst = some (.str (PS.of [34, 102, 50, 34])) := by kernel_rfl
theorem tab88_2 : (vcall T ext0 promo 300 88 [.str (PS.of [32, 34, 102, 51, 34])] (lit (gls.map fun x => (x, [])) prog.globals.size)).map Prod.fst = some (.str (PS.of [34, 102, 51, 34])) := by kernel_rfl
theorem tab88_3 : (vcall T ext0 promo 300 88 [.str (PS.of [32, 34, 102, 52, 34])] (lit (gls.map fun x => (x, [])) prog.globals.size)).map Prod.fst = some (.str (PS.of [34, 102, 52, 34])) := by kernel_rfl
theorem ext_88 : ExtOne T prog 88 (fun _ => xTab tab88) := by
  refine xTab_ok (n := 300) (gs := gls.map fun x => (x, [])) (N := prog.globals.size) tab_ok.tb ext0_ok (promo := promo) tab_ok.draws (fun x hx => litAt_none gls x (memB_mem hx)) (fun p hp => ?_) (fun p hp => ?_) (fun p hp => ?_) (fun p hp => ?_)
  · obtain ⟨x, hx, rfl⟩ := List.mem_map.1 hp
    exact gls_lt x hx
  · obtain ⟨x, hx, rfl⟩ := List.mem_map.1 hp
    rfl
  · obtain ⟨x, hx, rfl⟩ := List.mem_map.1 hp
    rfl
  · revert p
    simp only [tab88, List.forall_mem_cons]
    exact ⟨⟨rfl, tab88_0⟩, ⟨rfl, tab88_1⟩, ⟨rfl, tab88_2⟩, ⟨rfl, tab88_3⟩, fun _ h => by cases h⟩
noncomputable def ext : Nat → Option (VH → List AV → Option XR)
  | 11 => some (xTabM 0 tab11)
  | 24 => some (fun _ => xTab tab24)
  | 26 => some (fun _ => xTab tab26)
  | 27 => some (fun _ => xTab tab27)
  | 50 => some (fun _ => xTab tab50)
  | 15 => some (fun _ => xTab tab15)
  | 53 => some (fun _ => xTab tab53)
  | 88 => some (fun _ => xTab tab88)
  | 32 => some (fun _ => xCount)
  | 100 => some (xIndex 0)
  | 110 => some (fun _ => xSame)
  | 111 => some (fun _ => xRoom 5)
  | 138 => some (fun _ => xIndexByte)
  | 65 => some (xIndexS 0)
  | 17 => some (fun _ => xCut Lib.trimS)
  | 55 => some (fun _ => xCut Lib.trimLeftS)
  | _ => none
theorem ext_ok : ExtOk T prog ext := by
  intro f g he
  unfold ext at he
  split at he
  · obtain rfl := Option.some.inj he
    exact ext_11
  · obtain rfl := Option.some.inj he
    exact ext_24
  · obtain rfl := Option.some.inj he
    exact ext_26
  · obtain rfl := Option.some.inj he
    exact ext_27
  · obtain rfl := Option.some.inj he
    exact ext_50
  · obtain rfl := Option.some.inj he
    exact ext_15
  · obtain rfl := Option.some.inj he
    exact ext_53
  · obtain rfl := Option.some.inj he
    exact ext_88
  · obtain rfl := Option.some.inj he
    exact ext_32
  · obtain rfl := Option.some.inj he
    exact ext_100
  · obtain rfl := Option.some.inj he
    exact ext_110
  · obtain rfl := Option.some.inj he
    exact ext_111
  · obtain rfl := Option.some.inj he
    exact ext_138
  · obtain rfl := Option.some.inj he
    exact ext_65
  · obtain rfl := Option.some.inj he
    exact ext_17
  · obtain rfl := Option.some.inj he
    exact ext_55
  · cases he
end Go.Vm.Tryz
