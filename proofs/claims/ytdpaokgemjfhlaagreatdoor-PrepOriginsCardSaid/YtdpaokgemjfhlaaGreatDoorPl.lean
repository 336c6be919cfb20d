/- The preprocessor: Run at one file, and one name that is defined. -/
import Derived.Test.YtdpaokgemjfhlaaGreatDoorPk
namespace Go.Vm.Tryz
set_option linter.unusedSectionVars false
set_option linter.unusedSimpArgs false
set_option linter.unusedVariables false
set_option maxRecDepth 10000
theorem noteFile_ok (n : Nat) (hn : 1 ≤ n) (H : VH) : vcall T ext promo n 24 [.str (PS.of [102])] H = some (.bool true, H) := by
  obtain ⟨n, rfl⟩ : ∃ m, n = m + 1 := ⟨n - 1, by omega⟩
  exact call_ext (g := fun _ => xTab tab24) rfl rfl
theorem macroName_ok (n : Nat) (hn : 1 ≤ n) (H : VH) : vcall T ext promo n 26 [.str (PS.of [98, 49])] H = some (.bool true, H) := by
  obtain ⟨n, rfl⟩ : ∃ m, n = m + 1 := ⟨n - 1, by omega⟩
  exact call_ext (g := fun _ => xTab tab26) rfl rfl
theorem bodyText_ok (n : Nat) (hn : 1 ≤ n) (H : VH) : vcall T ext promo n 27 [.str (PS.of [120])] H = some (.bool true, H) := by
  obtain ⟨n, rfl⟩ : ∃ m, n = m + 1 := ⟨n - 1, by omega⟩
  exact call_ext (g := fun _ => xTab tab27) rfl rfl
/-- The iterator's first step over a map of one entry. -/
theorem next1 {H : VH} {it m : Nat} {k : List UInt8} {v : AV} (hm : Map1 H m k v) (hi : H.get it = some (.map [⟨.undef, .map (some m), 1⟩] 1 0)) :
    vnext H (.ptr (some (it, 0))) = some (some (.str (PS.of k), v), H.setMap it [⟨.undef, .map (some m), 1⟩, ⟨.undef, .undef, 0⟩] 1 0) := by
  obtain ⟨ver, h⟩ := hm
  have h1 : H.iter? it = some (.map (some m), 1, [], 1, 0) := by unfold VH.iter?; rw [hi]
  simp only [vnext, h1, h, vstepIt]
  rfl
theorem next2 {H : VH} {it m ver : Nat} {k : List UInt8} {v : AV} (hm : Map1 H m k v) (hi : H.get it = some (.map [⟨.undef, .map (some m), 1⟩, ⟨.undef, .undef, 0⟩] 1 ver)) :
    vnext H (.ptr (some (it, 0))) = some (none, H) := by
  obtain ⟨vm, h⟩ := hm
  have h1 : H.iter? it = some (.map (some m), 1, [⟨.undef, .undef, 0⟩], 1, ver) := by unfold VH.iter?; rw [hi]
  simp only [vnext, h1, h, vstepIt]
  rfl
theorem entry1 {H : VH} {it m ver : Nat} {k : List UInt8} {v : AV} (hm : Map1 H m k v) (hi : H.get it = some (.map [⟨.undef, .map (some m), 1⟩, ⟨.undef, .undef, 0⟩] 1 ver)) :
    entryV H (.ptr (some (it, 0))) = some (.tuple [.str (PS.of k), v], H) := by
  obtain ⟨vm, h⟩ := hm
  have h1 : H.iter? it = some (.map (some m), 1, [⟨.undef, .undef, 0⟩], 1, ver) := by unfold VH.iter?; rw [hi]
  simp only [entryV, ventry, h1, h]
  rfl
theorem lenMap1 {H : VH} {m : Nat} {k : List UInt8} {v : AV} (h : Map1 H m k v) : vbuiltin T H .len [34] [.map (some m)] = some (.int .i64 1, H) := by
  obtain ⟨ver, h⟩ := h
  show vlen T H [34] (.map (some m)) = _
  unfold vlen
  simp only [undMap, ments, h]
  rfl
theorem range1 {H : VH} {m : Nat} {k : List UInt8} {v : AV} (h : Map1 H m k v) : vrange T H 34 (.map (some m)) = some (.ptr (some (H.next, 0)), H.newMap [⟨.undef, .map (some m), 1⟩] 1) := by
  obtain ⟨ver, h⟩ := h
  unfold vrange
  rw [undMap]
  simp only [h]
theorem mkStr1 (H : VH) : vmakeSlice T H 50 (.int .i64 0) (.int .i64 1) = some (.slice (some (H.next, 0)) 0 (some 1) 1, H.fresh (repl [AV.str (PS.of [])] 1)) := by kernel_rfl
theorem rowsLen (txt : List UInt8) : rowsOf txt ≤ txt.length + 1 := by
  unfold rowsOf
  split
  · omega
  · have h1 := chomp_len txt
    have h2 : (chomp txt).count 10 ≤ (chomp txt).length := List.count_le_length ..
    omega
theorem run_ok (n : Nat) (hn : 5000 ≤ n) {H : VH} {mf md : Nat} {txt : List UInt8} (hH : H.Ok) (hM : Mx H) (hl : txt.length < 900) (hno : ∀ x ∈ txt, x ≠ 96)
    (hf : Map1 H mf [102] (.str (PS.of txt))) (hd : Map1 H md [98, 49] (.str (PS.of [120]))) :
    ∃ v g H', vcall T ext promo n 9 [.map (some mf), .str (PS.of [102]), .map (some md)] H = some (.tuple [.agg [.str (PS.of (outOf txt)), v], .slice none 0 (some 0) 0, .int .i64 0], H') ∧
      Grow H' g tyO 3 v (rowsOf txt) (oc [102] (rowsOf txt)) ∧ Eff (fun _ => False) H H' := by
  obtain ⟨n, rfl⟩ : ∃ m, n = m + 1 := ⟨n - 1, by omega⟩
  have hfn := hf.lt hH
  have hdn := hd.lt hH
  -- the macros' map
  have o2 := newMap_ok (lo_ok hH) [] 0
  have k2 := newMap_eff (fun _ => False) (lo_ok hH) [] 0
  have hm2 : (H.lo.newMap).map? H.next = some ([], 0, 0) := map?_get ((newMap_get H.lo [] 0 H.next).trans (if_pos rfl)) rfl
  -- the run
  generalize hobj : ([.map (some mf), .map (some H.next), .str (PS.of []), .slice none 0 (some 0) 0, .int .i64 0, .slice none 0 (some 0) 0, .int .i64 0, .slice none 0 (some 0) 0, .bool false] : List AV) = obj
  have o3 := fresh_ok o2 obj
  have k3 := Eff.fresh (fun _ => False) o2 obj
  have p3 := fresh_plain o2 obj
  have hR : (H.lo.newMap).next = H.next + 1 := rfl
  -- the names
  generalize hz : repl [AV.str (PS.of [])] 1 = z
  have hz' : z = [.str (PS.of [])] := by rw [← hz]; rfl
  have o4 := fresh_ok o3 z
  have k4 := Eff.fresh (fun _ => False) o3 z
  have p4 := fresh_plain o3 z
  rw [hz'] at p4 k4 o4
  have hS : ((H.lo.newMap).fresh obj).next = H.next + 2 := rfl
  -- the iterator
  generalize hH4 : ((H.lo.newMap).fresh obj).fresh z = H4 at *
  rw [← hz', hH4] at p4 k4 o4
  have n4 : H4.next = H.next + 3 := by rw [← hH4]; rfl
  have k04 : Eff (fun _ => False) H.lo H4 := (k2.trans k3 fun x h => h.elim).trans k4 fun x h => h.elim
  have d4 := hd.lo.keep (lo_ok hH) k04.keep (fun h => h)
  have o5 := newMap_ok o4 [⟨.undef, .map (some md), 1⟩] 1
  have k5 := newMap_eff (fun _ => False) o4 [⟨.undef, .map (some md), 1⟩] 1
  generalize hH5 : H4.newMap [⟨.undef, .map (some md), 1⟩] 1 = H5 at o5 k5
  have i5 : H5.get (H.next + 3) = some (.map [⟨.undef, .map (some md), 1⟩] 1 0) := by rw [← hH5, newMap_get, n4, if_pos rfl]
  have n5 : H5.next = H.next + 4 := by rw [← hH5]; show H4.next + 1 = _; omega
  have d5 := d4.keep o4 k5.keep (fun h => h)
  have s1 := next1 d5 i5
  have k6 := setMap_eff o5 (b := H.next + 3) (by omega) [⟨.undef, .map (some md), 1⟩, ⟨.undef, .undef, 0⟩] 1 0
  have i6 : (H5.setMap (H.next + 3) [⟨.undef, .map (some md), 1⟩, ⟨.undef, .undef, 0⟩] 1 0).get (H.next + 3) = some (.map [⟨.undef, .map (some md), 1⟩, ⟨.undef, .undef, 0⟩] 1 1) := by rw [setMap_get, if_pos rfl]
  generalize hH6 : H5.setMap (H.next + 3) [⟨.undef, .map (some md), 1⟩, ⟨.undef, .undef, 0⟩] 1 0 = H6 at s1 k6 i6
  have o6 := k6.ok
  have d6 := d5.keep o5 k6.keep (by omega)
  have s2 := entry1 d6 i6
  have n6 : H6.next = H.next + 4 := by rw [← hH6]; exact n5
  -- the name is appended
  have o7 := fresh_ok o6 [.str (PS.of [98, 49])]
  have k7 := Eff.fresh (fun _ => False) o6 [.str (PS.of [98, 49])]
  have p7 : Plain (H6.fresh [.str (PS.of [98, 49])]) (H.next + 2) [.str (PS.of [])] := by
    have := ((p4.keep o4 k5.keep (fun h => h)).keep o5 k6.keep (by omega)).keep o6 k7.keep (fun h => h)
    rw [hz', hS] at this
    exact this
  obtain ⟨H8, e8, p8, k8, o8, l8, m8⟩ := p7.puts1 o7 0 (by simp) (.str (PS.of [98, 49])) rfl
  simp only [List.set_cons_zero] at p8
  have n8 : H.next + 5 ≤ H8.next := by have := k8.next; have : (H6.fresh [.str (PS.of [98, 49])]).next = H6.next + 1 := rfl; omega
  have a8 : vbuiltin T (H6.fresh [.str (PS.of [98, 49])]) .append [50, 50] [.slice (some (H.next + 2, 0)) 0 (some 1) 1, .slice (some (H6.next, 0)) 1 (some 1) 1] = some (.slice (some (H.next + 2, 0)) 1 (some 1) 1, H8) := by
    have hc : (H6.fresh [.str (PS.of [98, 49])]).cells H6.next 0 (1 * 1) = some [.str (PS.of [98, 49])] := fresh_cells o6 _ 0 1 (by simp)
    refine (app_slt sltS (x := .slice (some (H6.next, 0)) 1 (some 1) 1) (len := 0) (n := 1) (new := [.str (PS.of [98, 49])]) rfl rfl (by omega) (by omega) hc rfl).trans ?_
    simp only [appendTo]
    have e8' : (H6.fresh [.str (PS.of [98, 49])]).puts (H.next + 2) (0 + 0 * 1) [.str (PS.of [98, 49])] = some H8 := e8
    rw [e8']
    rfl
  have d8 := (d6.keep o6 k7.keep (fun h => h)).keep o7 k8 (by omega)
  have i8 : H8.get (H.next + 3) = some (.map [⟨.undef, .map (some md), 1⟩, ⟨.undef, .undef, 0⟩] 1 1) := by
    rw [k8.get (H.next + 3) (by have : (H6.fresh [.str (PS.of [98, 49])]).next = H6.next + 1 := rfl; omega) (by omega), k7.keep.get (H.next + 3) (by omega) (fun h => h)]
    exact i6
  have s3 := next2 d8 i8
  -- all that was done up to here
  have E8 : Eff (fun y => H.next ≤ y) H.lo H8 := (((k04.mono (S' := fun y => H.next ≤ y) fun _ _ h => h.elim).trans k5 fun x h => h.elim).trans (k6.mono (S' := fun y => H.next ≤ y) fun y _ e => by omega) fun x hx => .inl hx).trans ((k7.mono (S' := fun y => H.next ≤ y) fun _ _ h => h.elim).trans ((Eff.of_low k8 o8 l8 (p7.lt o7)).mono (S' := fun y => H.next ≤ y) fun y _ e => by omega) fun x hx => .inl hx) fun x hx => .inl hx
  have kR : Keep (fun y => y = H.next + 2 ∨ y = H.next + 3) (H.lo.newMap.fresh obj) H8 :=
    (((k4.keep.mono fun _ h => h.elim).trans (k5.keep.mono fun _ h => h.elim)).trans ((k6.keep.mono fun _ h => .inr h).trans ((k7.keep.mono fun _ h => h.elim).trans (k8.mono fun _ h => .inl h))))
  have pR : Plain H8 (H.next + 1) obj := p3.keep o3 kR (by omega)
  have hm8 : H8.map? H.next = some ([], 0, 0) := map?_keep (map?_keep hm2 (by omega) k3.keep (fun h => h)) (by omega) kR (by omega)
  -- the macro
  have u9 := put1 hm8 [98, 49] (.agg [.slice none 0 (some 0) 0, .bool false, .str (PS.of [120])]) undMacros
  have k9 := setMap_eff o8 (b := H.next) (by omega) [⟨.str (PS.of [98, 49]), .agg [.slice none 0 (some 0) 0, .bool false, .str (PS.of [120])], 0⟩] 1 0
  generalize hH9 : H8.setMap H.next [⟨.str (PS.of [98, 49]), .agg [.slice none 0 (some 0) 0, .bool false, .str (PS.of [120])], 0⟩] (0 + 1) 0 = H9 at u9 k9
  have E9 : Eff (fun y => H.next ≤ y) H.lo H9 := E8.trans k9 fun x hx => .inl (by omega)
  have pR9 := pR.keep o8 k9.keep (by omega)
  have f9 := hf.lo.keep (lo_ok hH) E9.keep (by omega)
  have M9 : Mx H9 := hM.lo.keep (lo_ok hH) E9.keep (by have := hM.1; omega)
  rw [← hobj] at pR9
  obtain ⟨v', q, g, z0, H10, e10, p10, g10, k10⟩ := fileA_ok n (by omega) k9.ok M9 hl hno pR9 f9 (by omega) (by omega)
  have E10 : Eff (fun y => H.next ≤ y) H.lo H10 := E9.trans k10 fun x hx => .inl (by omega)
  have hlow : H10.low = H.next := E10.flat fun x hx e => by omega
  have hv : ∃ a k c e, v' = .slice a k c e := by
    rcases g10 with ⟨_, h | ⟨q, h, _⟩⟩
    · exact ⟨_, _, _, _, h.1⟩
    · exact ⟨_, _, _, _, h⟩
  obtain ⟨va, vk, vc, ve, rfl⟩ := hv
  have key : vcall T ext promo (n + 1) 9 [.map (some mf), .str (PS.of [102]), .map (some md)] H = some (.tuple [.agg [.str (PS.of (outOf txt)), .slice va vk vc ve], .slice none 0 (some 0) 0, .int .i64 0], leave H H10 (.tuple [.agg [.str (PS.of (outOf txt)), .slice va vk vc ve], .slice none 0 (some 0) 0, .int .i64 0])) := by
    apply ok9
    unfold F9
    have lk := hf.lo.look true
    simp only [letH_mk]
    rw [lk]
    simp only [KA, KB, KD, reduceCtorEq, if_false, if_true]
    rw [noteFile_ok n (by omega)]
    simp only [KA, KB, KD, reduceCtorEq, if_false, if_true]
    rw [mk1 _ _ _ undMacros]
    simp only [KA, KB, KD, reduceCtorEq, if_false, if_true]
    have e3 : H.lo.newMap.fresh [.map (some mf), .map (some H.lo.next), .str (PS.of []), .slice none 0 (some 0) 0, .int .i64 0, .slice none 0 (some 0) 0, .int .i64 0, .slice none 0 (some 0) 0, .bool false] = H.lo.newMap.fresh obj := by rw [← hobj]; rfl
    have d3 := hd.lo.keep (lo_ok hH) (k2.trans k3 fun x h => h.elim).keep (fun h => h)
    rw [e3, lenMap1 d3]
    simp only [KA, KB, KD, reduceCtorEq, if_false, if_true]
    rw [mkStr1, hz, hH4]
    simp only [KA, KB, KD, reduceCtorEq, if_false, if_true]
    rw [range1 d4, hH5]
    simp only [KA, KB, KD, reduceCtorEq, if_false, if_true]
    have hit : H4.next = H.next + 3 := n4
    have hnm : (H.lo.newMap.fresh obj).next = H.next + 2 := hS
    rw [hit, hnm]
    obtain ⟨n, rfl⟩ : ∃ m, n = m + 2 := ⟨n - 2, by omega⟩
    rw [loopN_succ]
    generalize hlp : loopN (L9_0 (vcall T ext promo (n + 2)) (n + 2) (some (H.next + 3, 0))) (n + 1) = lp
    unfold L9_0
    simp only [KA, KB, KD, reduceCtorEq, if_false, if_true, s1, bindN, s2, a8]
    rw [← hlp, loopN_succ]
    generalize hlp2 : loopN (L9_0 (vcall T ext promo (n + 2)) (n + 2) (some (H.next + 3, 0))) n = lp
    unfold L9_0
    simp only [KA, KB, KD, reduceCtorEq, if_false, if_true, s3, bindN]
    rw [sort1_ok _ (by omega)]
    simp only [KA, KB, KD, reduceCtorEq, if_false, if_true]
    have g0 : H8.cell (H.next + 2) (0 + (0 : Int).toNat * 1) = some (.str (PS.of [98, 49])) := p8.cell 0
    have gR1 : H8.cell H.lo.newMap.next 1 = some (.map (some H.next)) := by have := pR.cell 1; rw [← hobj] at this; exact this
    have hfr : freeOf (tagMap (some (.map (some md)))) 96 7 [.idle, .idle, .idle, (.read [H.lo.newMap.next] []), .idle, .idle, .idle] = true := rfl
    have lkd := d8.look false
    have gR8 : H10.cell H.lo.newMap.next 8 = some (.bool false) := p10.cell 8
    have gR5 : H10.cell H.lo.newMap.next 5 = some (.slice none 0 (some 0) 0) := p10.cell 5
    have gR2 : H10.cells H.lo.newMap.next 2 2 = some [.str (PS.of (outOf txt)), .slice va vk vc ve] := cells_eq (cs := [.str (PS.of (outOf txt)), .slice va vk vc ve]) (fun i hi => by
      have := p10.cell (2 + i)
      rw [show H.lo.newMap.next = H.next + 1 from rfl, this]
      match i with
      | 0 => rfl
      | 1 => rfl
      | j + 2 => omega) rfl
    have e10' : vcall T ext promo (n + 2) 28 [.ptr (some (H.lo.newMap.next, 0)), .str (PS.of [102])] H9 = some (.tuple [], H10) := e10
    rw [loopN_succ]
    generalize hlp3 : loopN (L9_1 (vcall T ext promo (n + 2)) (n + 2) (some md) H.lo.newMap (some (H.next + 2, 0)) 1) (n + 1) = lp
    unfold L9_1
    simp only [KA, KB, KD, reduceCtorEq, if_false, if_true, Bool.and_eq_true]
    rw [if_pos (by omega), if_pos (by omega), g0]
    simp only [KA, KB, KD, reduceCtorEq, if_false, if_true]
    rw [macroName_ok _ (by omega)]
    simp only [KA, KB, KD, reduceCtorEq, if_false, if_true]
    rw [lkd]
    simp only [KA, KB, KD, reduceCtorEq, if_false, if_true]
    rw [bodyText_ok _ (by omega)]
    simp only [KA, KB, KD, reduceCtorEq, if_false, if_true, gR1, lkd, hfr, u9]
    rw [← hlp3, loopN_succ]
    generalize hlp4 : loopN (L9_1 (vcall T ext promo (n + 2)) (n + 2) (some md) H.lo.newMap (some (H.next + 2, 0)) 1) n = lp
    unfold L9_1
    simp only [KA, KB, KD, reduceCtorEq, if_false, if_true, Bool.and_eq_true]
    rw [show fwrap .i64 (0 + 1) = 1 from rfl, if_neg (by omega)]
    simp only [KA, KB, KD, reduceCtorEq, if_false, if_true, e10', gR8, gR5]
    rw [if_neg (by omega), gR2]
    simp only [KA, KB, KD, reduceCtorEq, if_false, if_true]
  refine ⟨_, g, _, key, ?_, ?_⟩
  · rcases leave_cases H H10 (.tuple [.agg [.str (PS.of (outOf txt)), .slice va vk vc ve], .slice none 0 (some 0) 0, .int .i64 0]) with ⟨e, _⟩ | e
    · have gg := g10
      rcases gg with ⟨hc, h | ⟨q, h, _⟩⟩
      · rw [e]
        exact ⟨hc, .inl h⟩
      · rw [h, leave_rest rfl]
        rw [h] at g10
        exact g10.low _
    · rw [e]
      exact g10.low _
  · exact (E10.leave hH _).mono fun x hx h => by omega
end Go.Vm.Tryz
