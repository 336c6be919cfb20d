/- The functions that have no body here, and what stands for them; strings.Index; functions at closed arguments, each run once on a memory of its own. -/
import Derived.Test.YtieocmaaloaoaaaDoorVmPro
import Derived.Test.YtieocmaaloaoaaaDoorVmDark
import Derived.Test.YtieocmaaloaoaaaDoorSh
namespace Go.Vm.Tryd
open Go.Proofs.Tryd
set_option maxRecDepth 100000
noncomputable def ext0 : Nat → Option (VH → List AV → Option XR)
  | 125 => some (fun _ => xCount)
  | 176 => some (xIndex 0)
  | 186 => some (fun _ => xIndexByte)
  | 210 => some (fun _ => xSame)
  | 211 => some (fun _ => xRoom 5)
  | 154 => some (xIndexS 0)
  | _ => none
theorem ext_125 : ExtOne T prog 125 (fun _ => xCount) :=
  xCount_ok (fn := f125) (by kernel_rfl) (by kernel_rfl) (by kernel_rfl) (by kernel_rfl) (by kernel_rfl)
theorem ext_176 : ExtOne T prog 176 (xIndex 0) :=
  xIndex_ok (fn := f176) (by kernel_rfl) (by kernel_rfl) (by kernel_rfl) (by kernel_rfl) (by kernel_rfl) (by kernel_rfl) (by kernel_rfl)
theorem ext_186 : ExtOne T prog 186 (fun _ => xIndexByte) :=
  xIndexByte_ok (fn := f186) (by kernel_rfl) (by kernel_rfl) (by kernel_rfl) (by kernel_rfl) (by kernel_rfl)
theorem ext_210 : ExtOne T prog 210 (fun _ => xSame) :=
  xSame_ok (fn := f210) (by kernel_rfl) (by kernel_rfl) (by kernel_rfl) (by kernel_rfl) (by kernel_rfl)
theorem ext_211 : ExtOne T prog 211 (fun _ => xRoom 5) :=
  xRoom_ok (fn := f211) (t := 88) (by kernel_rfl) (by kernel_rfl) (by kernel_rfl) (by kernel_rfl) (by kernel_rfl) (by kernel_rfl)
theorem ext_154 : ExtOne T prog 154 (xIndexS 0) :=
  xIndexS_ok (fn := f154) (by kernel_rfl) (by kernel_rfl) (by kernel_rfl) (by kernel_rfl) fun s sub m w hs hm => Go.Proofs.Any.stringslite_Index Go.Proofs.Tryd.lays219 s sub m w hs hm
theorem ext0_ok : ExtOk T prog ext0 := by
  intro f g he
  unfold ext0 at he
  split at he
  · obtain rfl := Option.some.inj he
    exact ext_125
  · obtain rfl := Option.some.inj he
    exact ext_176
  · obtain rfl := Option.some.inj he
    exact ext_186
  · obtain rfl := Option.some.inj he
    exact ext_210
  · obtain rfl := Option.some.inj he
    exact ext_211
  · obtain rfl := Option.some.inj he
    exact ext_154
  · cases he
theorem gls_lt : ∀ x ∈ gls, x < prog.globals.size := by decide +kernel
/-- bits.Read -/
noncomputable def tab21 : List (List AV × AV) := [([.str (PS.of [56, 39, 104, 102, 102])], .tuple [.agg [.int .i64 8, .int .u64 255, .int .u64 0], .int .i64 0]), ([.str (PS.of [52, 39, 98, 49, 48, 120, 122])], .tuple [.agg [.int .i64 4, .int .u64 10, .int .u64 3], .int .i64 0]), ([.str (PS.of [51, 39, 115, 100, 50])], .tuple [.agg [.int .i64 3, .int .u64 2, .int .u64 0], .int .i64 0]), ([.str (PS.of [54, 52, 39, 111, 49, 55])], .tuple [.agg [.int .i64 64, .int .u64 15, .int .u64 0], .int .i64 0])]
theorem tab21_0 : (vcall T ext0 promo 300 21 [.str (PS.of [56, 39, 104, 102, 102])] (lit (gls.map fun x => (x, [])) prog.globals.size)).map Prod.fst = some (.tuple [.agg [.int .i64 8, .int .u64 255, .int .u64 0], .int .i64 0]) := by kernel_rfl
theorem tab21_1 : (vcall T ext0 promo 300 21 [.str (PS.of [52, 39, 98, 49, 48, 120, 122])] (lit (gls.map fun x => (x, [])) prog.globals.size)).map Prod.fst = some (.tuple [.agg [.int .i64 4, .int .u64 10, .int .u64 3], .int .i64 0]) := by kernel_rfl
theorem tab21_2 : (vcall T ext0 promo 300 21 [.str (PS.of [51, 39, 115, 100, 50])] (lit (gls.map fun x => (x, [])) prog.globals.size)).map Prod.fst = some (.tuple [.agg [.int .i64 3, .int .u64 2, .int .u64 0], .int .i64 0]) := by kernel_rfl
theorem tab21_3 : (vcall T ext0 promo 300 21 [.str (PS.of [54, 52, 39, 111, 49, 55])] (lit (gls.map fun x => (x, [])) prog.globals.size)).map Prod.fst = some (.tuple [.agg [.int .i64 64, .int .u64 15, .int .u64 0], .int .i64 0]) := by kernel_rfl
theorem ext_21 : ExtOne T prog 21 (fun _ => xTab tab21) := by
  refine xTab_ok (n := 300) (gs := gls.map fun x => (x, [])) (N := prog.globals.size) tab_ok.tb ext0_ok (promo := promo) tab_ok.draws (fun x hx => litAt_none gls x (memB_mem hx)) (fun p hp => ?_) (fun p hp => ?_) (fun p hp => ?_) (fun p hp => ?_)
  · obtain ⟨x, hx, rfl⟩ := List.mem_map.1 hp
    exact gls_lt x hx
  · obtain ⟨x, hx, rfl⟩ := List.mem_map.1 hp
    rfl
  · obtain ⟨x, hx, rfl⟩ := List.mem_map.1 hp
    rfl
  · revert p
    simp only [tab21, List.forall_mem_cons]
    exact ⟨⟨rfl, tab21_0⟩, ⟨rfl, tab21_1⟩, ⟨rfl, tab21_2⟩, ⟨rfl, tab21_3⟩, fun _ h => by cases h⟩
/-- bits.Of -/
noncomputable def tab30 : List (List AV × AV) := [([.int .i64 32, .int .u64 0], .agg [.int .i64 32, .int .u64 0, .int .u64 0]), ([.int .i64 32, .int .u64 7], .agg [.int .i64 32, .int .u64 7, .int .u64 0]), ([.int .i64 32, .int .u64 12345], .agg [.int .i64 32, .int .u64 12345, .int .u64 0])]
theorem tab30_0 : (vcall T ext0 promo 300 30 [.int .i64 32, .int .u64 0] (lit (gls.map fun x => (x, [])) prog.globals.size)).map Prod.fst = some (.agg [.int .i64 32, .int .u64 0, .int .u64 0]) := by kernel_rfl
theorem tab30_1 : (vcall T ext0 promo 300 30 [.int .i64 32, .int .u64 7] (lit (gls.map fun x => (x, [])) prog.globals.size)).map Prod.fst = some (.agg [.int .i64 32, .int .u64 7, .int .u64 0]) := by kernel_rfl
theorem tab30_2 : (vcall T ext0 promo 300 30 [.int .i64 32, .int .u64 12345] (lit (gls.map fun x => (x, [])) prog.globals.size)).map Prod.fst = some (.agg [.int .i64 32, .int .u64 12345, .int .u64 0]) := by kernel_rfl
theorem ext_30 : ExtOne T prog 30 (fun _ => xTab tab30) := by
  refine xTab_ok (n := 300) (gs := gls.map fun x => (x, [])) (N := prog.globals.size) tab_ok.tb ext0_ok (promo := promo) tab_ok.draws (fun x hx => litAt_none gls x (memB_mem hx)) (fun p hp => ?_) (fun p hp => ?_) (fun p hp => ?_) (fun p hp => ?_)
  · obtain ⟨x, hx, rfl⟩ := List.mem_map.1 hp
    exact gls_lt x hx
  · obtain ⟨x, hx, rfl⟩ := List.mem_map.1 hp
    rfl
  · obtain ⟨x, hx, rfl⟩ := List.mem_map.1 hp
    rfl
  · revert p
    simp only [tab30, List.forall_mem_cons]
    exact ⟨⟨rfl, tab30_0⟩, ⟨rfl, tab30_1⟩, ⟨rfl, tab30_2⟩, fun _ h => by cases h⟩
/-- lex.Quote -/
noncomputable def tab96 : List (List AV × AV) := [([.str (PS.of [])], .str (PS.of [34, 34])), ([.str (PS.of [97, 32, 98])], .str (PS.of [34, 97, 32, 98, 34])), ([.str (PS.of [120, 34, 121])], .str (PS.of [34, 120, 92, 34, 121, 34])), ([.str (PS.of [92])], .str (PS.of [34, 92, 92, 34]))]
theorem tab96_0 (m : Int) : (vcall T ext0 promo 300 96 [.str (PS.of [])] (lit (gsM gls 0 m) prog.globals.size)).map Prod.fst = some (.str (PS.of [34, 34])) := by kernel_rfl
theorem tab96_1 (m : Int) : (vcall T ext0 promo 300 96 [.str (PS.of [97, 32, 98])] (lit (gsM gls 0 m) prog.globals.size)).map Prod.fst = some (.str (PS.of [34, 97, 32, 98, 34])) := by kernel_rfl
theorem tab96_2 (m : Int) : (vcall T ext0 promo 300 96 [.str (PS.of [120, 34, 121])] (lit (gsM gls 0 m) prog.globals.size)).map Prod.fst = some (.str (PS.of [34, 120, 92, 34, 121, 34])) := by kernel_rfl
theorem tab96_3 (m : Int) : (vcall T ext0 promo 300 96 [.str (PS.of [92])] (lit (gsM gls 0 m) prog.globals.size)).map Prod.fst = some (.str (PS.of [34, 92, 92, 34])) := by kernel_rfl
theorem ext_96 : ExtOne T prog 96 (xTabM 0 tab96) := by
  refine xTabM_ok (n := 300) (gls := gls) (N := prog.globals.size) tab_ok.tb ext0_ok (promo := promo) tab_ok.draws (fun x hx => memB_mem hx) gls_lt (fun p hp => ?_) (fun m p hp => ?_)
  · revert p
    simp only [tab96, List.forall_mem_cons]
    exact ⟨rfl, rfl, rfl, rfl, fun _ h => by cases h⟩
  · revert p
    simp only [tab96, List.forall_mem_cons]
    exact ⟨tab96_0 m, tab96_1 m, tab96_2 m, tab96_3 m, fun _ h => by cases h⟩
/-- strings.Contains -/
noncomputable def tab161 : List (List AV × AV) := [([.str (PS.of [56, 39, 104, 102, 102]), .str (PS.of [39, 115])], .bool false), ([.str (PS.of [52, 39, 98, 49, 48, 120, 122]), .str (PS.of [39, 115])], .bool false), ([.str (PS.of [51, 39, 115, 100, 50]), .str (PS.of [39, 115])], .bool true), ([.str (PS.of [54, 52, 39, 111, 49, 55]), .str (PS.of [39, 115])], .bool false)]
theorem tab161_0 (m : Int) : (vcall T ext0 promo 300 161 [.str (PS.of [56, 39, 104, 102, 102]), .str (PS.of [39, 115])] (lit (gsM gls 0 m) prog.globals.size)).map Prod.fst = some (.bool false) := by kernel_rfl
theorem tab161_1 (m : Int) : (vcall T ext0 promo 300 161 [.str (PS.of [52, 39, 98, 49, 48, 120, 122]), .str (PS.of [39, 115])] (lit (gsM gls 0 m) prog.globals.size)).map Prod.fst = some (.bool false) := by kernel_rfl
theorem tab161_2 (m : Int) : (vcall T ext0 promo 300 161 [.str (PS.of [51, 39, 115, 100, 50]), .str (PS.of [39, 115])] (lit (gsM gls 0 m) prog.globals.size)).map Prod.fst = some (.bool true) := by kernel_rfl
theorem tab161_3 (m : Int) : (vcall T ext0 promo 300 161 [.str (PS.of [54, 52, 39, 111, 49, 55]), .str (PS.of [39, 115])] (lit (gsM gls 0 m) prog.globals.size)).map Prod.fst = some (.bool false) := by kernel_rfl
theorem ext_161 : ExtOne T prog 161 (xTabM 0 tab161) := by
  refine xTabM_ok (n := 300) (gls := gls) (N := prog.globals.size) tab_ok.tb ext0_ok (promo := promo) tab_ok.draws (fun x hx => memB_mem hx) gls_lt (fun p hp => ?_) (fun m p hp => ?_)
  · revert p
    simp only [tab161, List.forall_mem_cons]
    exact ⟨rfl, rfl, rfl, rfl, fun _ h => by cases h⟩
  · revert p
    simp only [tab161, List.forall_mem_cons]
    exact ⟨tab161_0 m, tab161_1 m, tab161_2 m, tab161_3 m, fun _ h => by cases h⟩
/-- maskkeep1.chopped -/
noncomputable def tab53 : List (List AV × AV) := [([], .bool true)]
theorem tab53_0 (m : Int) : (vcall T ext0 promo 400 53 [] (lit (gsM gls 0 m) prog.globals.size)).map Prod.fst = some (.bool true) := by kernel_rfl
theorem ext_53 : ExtOne T prog 53 (xTabM 0 tab53) := by
  refine xTabM_ok (n := 400) (gls := gls) (N := prog.globals.size) tab_ok.tb ext0_ok (promo := promo) tab_ok.draws (fun x hx => memB_mem hx) gls_lt (fun p hp => ?_) (fun m p hp => ?_)
  · revert p
    simp only [tab53, List.forall_mem_cons]
    exact ⟨rfl, fun _ h => by cases h⟩
  · revert p
    simp only [tab53, List.forall_mem_cons]
    exact ⟨tab53_0 m, fun _ h => by cases h⟩
noncomputable def ext : Nat → Option (VH → List AV → Option XR)
  | 21 => some (fun _ => xTab tab21)
  | 30 => some (fun _ => xTab tab30)
  | 96 => some (xTabM 0 tab96)
  | 161 => some (xTabM 0 tab161)
  | 53 => some (xTabM 0 tab53)
  | 125 => some (fun _ => xCount)
  | 176 => some (xIndex 0)
  | 186 => some (fun _ => xIndexByte)
  | 210 => some (fun _ => xSame)
  | 211 => some (fun _ => xRoom 5)
  | 154 => some (xIndexS 0)
  | _ => none
theorem ext_ok : ExtOk T prog ext := by
  intro f g he
  unfold ext at he
  split at he
  · obtain rfl := Option.some.inj he
    exact ext_21
  · obtain rfl := Option.some.inj he
    exact ext_30
  · obtain rfl := Option.some.inj he
    exact ext_96
  · obtain rfl := Option.some.inj he
    exact ext_161
  · obtain rfl := Option.some.inj he
    exact ext_53
  · obtain rfl := Option.some.inj he
    exact ext_125
  · obtain rfl := Option.some.inj he
    exact ext_176
  · obtain rfl := Option.some.inj he
    exact ext_186
  · obtain rfl := Option.some.inj he
    exact ext_210
  · obtain rfl := Option.some.inj he
    exact ext_211
  · obtain rfl := Option.some.inj he
    exact ext_154
  · cases he
end Go.Vm.Tryd
