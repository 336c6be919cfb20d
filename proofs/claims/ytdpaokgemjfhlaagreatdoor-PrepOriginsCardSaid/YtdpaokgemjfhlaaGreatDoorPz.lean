/- PrepOrigins: the law. -/
import Derived.Test.YtdpaokgemjfhlaaGreatDoorPy
namespace Go.Vm.Tryz
set_option linter.unusedSectionVars false
set_option linter.unusedSimpArgs false
set_option linter.unusedVariables false
set_option maxRecDepth 10000
theorem included2_ok (n : Nat) (hn : 1 ≤ n) {H : VH} (hM : Mx H) : vcall T ext promo n 11 [] H = some (.bool true, H) := by
  obtain ⟨n, rfl⟩ : ∃ m, n = m + 1 := ⟨n - 1, by omega⟩
  obtain ⟨_, m, hm⟩ := hM
  refine call_ext (g := xTabM 0 tab11) rfl ?_
  simp only [xTabM, hm]
  rfl
theorem rwC_get : ∀ (rs : List Rw) (i : Nat) (h : i < rs.length), (rwC rs)[i * 3]? = some (.str (PS.of (fname rs[i].f))) ∧ (rwC rs)[i * 3 + 1]? = some (.int .i64 (rs[i].ln : Int)) ∧ (rwC rs)[i * 3 + 2]? = some (.bool rs[i].w)
  | [], i, h => absurd h (Nat.not_lt_zero _)
  | r :: rs, 0, h => ⟨rfl, rfl, rfl⟩
  | r :: rs, i + 1, h => by
    obtain ⟨h1, h2, h3⟩ := rwC_get rs i (by simpa using h)
    have e : rwC (r :: rs) = r.cells ++ rwC rs := rfl
    have hl : r.cells.length = 3 := rfl
    rw [e, List.getElem?_append_right (by omega), List.getElem?_append_right (by omega), List.getElem?_append_right (by omega), hl, show (i + 1) * 3 - 3 = i * 3 by omega, show (i + 1) * 3 + 1 - 3 = i * 3 + 1 by omega, show (i + 1) * 3 + 2 - 3 = i * 3 + 2 by omega]
    exact ⟨h1, h2, h3⟩
theorem rwC_cells {H : VH} {q : Nat} {rs : List Rw} (h : ∀ o, H.cell q o = (rwC rs)[o]?) (i : Nat) (hi : i < rs.length) : H.cells q (0 + (i : Int).toNat * 3) 3 = some [.str (PS.of (fname rs[i].f)), .int .i64 (rs[i].ln : Int), .bool rs[i].w] := by
  obtain ⟨h1, h2, h3⟩ := rwC_get rs i hi
  rw [Int.toNat_natCast, Nat.zero_add]
  simp only [VH.cells, h, h1, h2, h3]
theorem rwT_ot (rs : List Rw) : rwT rs = ot (rs.map Rw.l) := by
  induction rs with
  | nil => rfl
  | cons r rs ih =>
    have e : rwT (r :: rs) = (r.l ++ [10]) ++ rwT rs := rfl
    rw [e, ih]
    simp [ot]
theorem good_no {nf : Nat} (hnf : nf ≤ 5) {fs : Nat → List Ln} (hfs : ∀ j, j < nf → (fs j).length ≤ 6 ∧ ∀ l ∈ fs j, LnOk nf j l) {r : Rw} (h : GoodR nf fs r) : (10 : UInt8) ∉ r.l := by
  obtain ⟨h1, h2, ln, h3, h4⟩ := h
  obtain ⟨g1, g2⟩ := hfs r.f h1
  have hm := g2 ln (List.mem_of_getElem? h3)
  cases ln with
  | txt d => rw [h4.1]; exact (ln_ok hnf hm).2
  | inc k => rw [h4.1]; simp
theorem incPre (k : Nat) : decide ((Ln.inc k).text.take ([96, 105, 110, 99, 108, 117, 100, 101] : List UInt8).length = [96, 105, 110, 99, 108, 117, 100, 101]) = true := decide_eq_true rfl
theorem origins_loop (n : Nat) (hn : 300 ≤ n) {nf mf : Nat} (hnf : nf ≤ 5) (fs : Nat → List Ln) (hfs : ∀ j, j < nf → (fs j).length ≤ 6 ∧ ∀ l ∈ fs j, LnOk nf j l) (rs : List Rw) (hrs : ∀ r ∈ rs, GoodR nf fs r) (hlen : rs.length < 100000) (A q : Nat) :
    ∀ (m i : Nat) (H : VH), i ≤ rs.length → rs.length - i < m → H.Ok → Mx H → mf < H.next → (∃ c ver, H.map? mf = some (ents (fun j => fileT (fs j)) nf, c, ver)) → q < H.next → (∀ o, H.cell q o = (rwC rs)[o]?) → Plain H A (strCells (rs.map Rw.l ++ [[]])) →
      ∃ H', loopN (L5_2 (vcall T ext promo n) n (some mf) (some (q, 0)) rs.length (some (A, 0)) (rs.length + 1)) m [.int .i64 (i : Int)] H = some (.exit 4, [], H') := by
  intro m
  induction m with
  | zero => intro i H _ h; omega
  | succ m ih =>
    intro i H hi hm hH hM hmn ⟨c, ver, hmap⟩ hqn hq hA
    rw [loopN_succ]
    generalize hlp : loopN (L5_2 (vcall T ext promo n) n (some mf) (some (q, 0)) rs.length (some (A, 0)) (rs.length + 1)) m = lp at ih ⊢
    unfold L5_2
    simp only [KA, KB, KD, reduceCtorEq, if_false, if_true, Bool.and_eq_true]
    by_cases h : i < rs.length
    · rw [if_pos (by omega), if_pos (by omega), rwC_cells hq i h]
      obtain ⟨g1, g2, ln, g3, g4⟩ := hrs _ (List.getElem_mem h)
      generalize hr : rs[i] = r at *
      obtain ⟨k1, k2⟩ := hfs r.f g1
      have hln := k2 ln (List.mem_of_getElem? g3)
      have hlnlt : r.ln - 1 < (fs r.f).length := by
        rcases Nat.lt_or_ge (r.ln - 1) (fs r.f).length with x | x
        · exact x
        · rw [List.getElem?_eq_none x] at g3
          cases g3
      have lk := lookE hmap (by omega) g1 false
      have h10 : ∀ l ∈ (fs r.f).map Ln.text, (10 : UInt8) ∉ l := fun l hl => by
        obtain ⟨x, x1, rfl⟩ := List.mem_map.1 hl
        exact (ln_ok hnf (k2 x x1)).2
      have hsp : splits 10 (fileT (fs r.f)) = (fs r.f).map Ln.text ++ [[]] := splits_ot2 _ h10
      have hcount : (fileT (fs r.f)).count 10 + 1 = (fs r.f).length + 1 := by rw [← splits_len, hsp]; simp
      have hfl := fileT_len hnf (fs r.f) k2
      obtain ⟨H2, e2, p2, K2⟩ := split1_ok n (fileT (fs r.f)) (by omega) (by omega) 10 hH hM
      rw [hsp] at p2
      rw [hcount] at e2
      have hAn := hA.lt hH
      have A2 := hA.keep hH K2.keep (fun h => h)
      have q2 : ∀ o, H2.cell q o = (rwC rs)[o]? := fun o => by rw [keep_cell K2.keep hH hqn (fun h => h)]; exact hq o
      have m2 := map?_keep hmap hmn K2.keep (fun h => h)
      have rA : H2.cell A (0 + (i : Int).toNat * 1) = some (.str (PS.of r.l)) := by
        rw [A2.cell, Int.toNat_natCast, Nat.zero_add, Nat.mul_one, strCells, List.getElem?_map, List.getElem?_append_left (by simpa using h), List.getElem?_map, List.getElem?_eq_getElem h, hr]
        rfl
      have rF : H2.cell H.next (0 + ((r.ln - 1 : Nat) : Int).toNat * 1) = some (.str (PS.of ln.text)) := by
        rw [p2.cell, Int.toNat_natCast, Nat.zero_add, Nat.mul_one, strCells, List.getElem?_map, List.getElem?_append_left (by simpa using hlnlt), List.getElem?_map, g3]
        rfl
      have next := ih (i + 1) H2 (by omega) (by omega) K2.ok (hM.keep hH K2.keep (fun h => h)) (Nat.lt_of_lt_of_le hmn K2.keep.next) ⟨_, _, m2⟩ (Nat.lt_of_lt_of_le hqn K2.keep.next) q2 A2
      obtain ⟨H', e3⟩ := next
      refine ⟨H', ?_⟩
      have f1 : fwrap .i64 ((r.ln : Int) - 1) = ((r.ln - 1 : Nat) : Int) := fw_sub1 _ g2 (by omega)
      have f2 : fwrap .i64 ((i : Int) + 1) = ((i + 1 : Nat) : Int) := fw_add1 i (by omega)
      simp only [KA, KB, KD, reduceCtorEq, if_false, if_true, lk]
      rw [e2]
      simp only [KA, KB, KD, reduceCtorEq, if_false, if_true]
      rw [if_neg (by omega), if_neg (by omega), if_pos (by omega), rA]
      cases ln with
      | txt d =>
        obtain ⟨t1, t2⟩ := g4
        obtain ⟨w1, w2, _⟩ := txt_ok d hln
        have hne : ¬ (Ln.txt d).text = [] := fun e => by
          have : (lineW ++ dec d).length = 0 := by
            have := congrArg List.length e
            exact this
          omega
        rw [t1, t2] at *
        simp only [KA, KB, KD, reduceCtorEq, if_false, if_true, str_eq, hne, decide_false, Bool.not_false, beq_self_eq_true, Bool.not_true]
        simp only [f1]
        rw [if_pos (by omega), rF]
        simp only [KA, KB, KD, reduceCtorEq, if_false, if_true, str_eq, decide_true, Bool.not_true, f2]
        rw [if_pos (by omega)]
        simp only [KA, KB, KD, reduceCtorEq, if_false, if_true]
        exact e3
      | inc k =>
        obtain ⟨t1, t2⟩ := g4
        rw [t1, t2] at *
        simp only [KA, KB, KD, reduceCtorEq, if_false, if_true, str_eq, decide_true, Bool.not_true, beq_self_eq_true, f1]
        rw [if_pos (by omega), rF]
        simp only [KA, KB, KD, reduceCtorEq, if_false, if_true]
        have hx := (inc_ok k (by have := hln.1; omega) (by have := hln.2; omega)).1
        rw [prefix_ok n (by omega) _ _ (by show (incT k).length < 1000000; omega), incPre]
        simp only [KA, KB, KD, reduceCtorEq, if_false, if_true, Bool.not_true, f2]
        exact e3
    · rw [if_neg (by omega)]
      exact ⟨H, rfl⟩
theorem prepOrigins_vm (n : Nat) (hn : 20001 ≤ n) {H : VH} (hH : H.Ok) {m : Int} (hmx : 0 < H.next ∧ H.cell 0 0 = some (.int .i64 m)) (a : Option (Nat × Nat)) (l : Nat) (c : Option Nat) (e : Nat) (hN : Nums H H.next a l) :
    ∃ H', vcall T ext promo n 5 [.slice a l c e] H = some (.bool true, H') := by
  obtain ⟨n, rfl⟩ : ∃ m, n = m + 1 := ⟨n - 1, by omega⟩
  have hM : Mx H := ⟨hmx.1, m, hmx.2⟩
  obtain ⟨o2, s2⟩ := start hH c e hN
  have hM0 := hM.1
  have M2 : Mx (H.lo.fresh [.slice a l c e, .int .i64 0]) := hM.lo.keep (lo_ok hH) (Keep.fresh (fun _ => False) H.lo _) (fun h => h)
  obtain ⟨r, H3, e3, q1, q2, D3⟩ := range_ok n (by omega) o2 s2 (by omega) 1 5 (by omega) (by omega) (by omega)
  obtain ⟨nf, rfl⟩ : ∃ N : Nat, r = (N : Int) := ⟨r.toNat, by omega⟩
  have M3 : Mx H3 := M2.keep o2 D3.keep (by omega)
  have hn3 := D3.st.lt D3.ok
  -- the files
  have o4 := newMap_ok D3.ok [] 0
  have k4 := newMap_keep D3.ok (fun _ => False) [] 0
  have M4 := M3.keep D3.ok k4 (fun h => h)
  have S4 := D3.st.keep D3.ok k4 (fun _ _ h => h)
  have m4 : (H3.newMap).map? H3.next = some ([], 0, 0) := map?_get ((newMap_get H3 [] 0 H3.next).trans (if_pos rfl)) rfl
  obtain ⟨fl, H5, e5, hfs, o5, M5, n5, ver5, m5⟩ := files_loop n nf (by omega) (by omega) H.lo H3.next (by show H.next < H3.next; omega) (by show 0 < H.next; omega) n 0 [] H3.newMap (0 + 1) (by omega) (by omega) (by omega) rfl (fun j h => by omega) o4 M4 S4 D3.low (Nat.lt_succ_self _) ⟨0, m4⟩
  generalize hfn : (fun j => fl.getD j []) = fs at *
  have hfs' : ∀ j, j < nf → (fs j).length ≤ 6 ∧ ∀ l ∈ fs j, LnOk nf j l := by rw [← hfn]; exact hfs
  have m5' : H5.map? H3.next = some (ents (fun j => fileT (fs j)) nf, nf, ver5) := by rw [← hfn]; exact m5
  -- the run
  obtain ⟨t, va, vk, vc, ve, code, H6, e6, hv, o6, M6, c6, ver6, m6⟩ := run2_ok n (by omega) o5 M5 (by omega) (by omega) fs hfs' m5' n5
  have hmn6 : H3.next < H6.next := by
    unfold VH.map? at m6
    cases hg : H6.get H3.next with
    | none => rw [hg] at m6; cases m6
    | some x => exact o6.get _ _ hg
  have e3' : vcall T ext promo n 14 [.ptr (some (H.lo.next, 0)), .int .i64 1, .int .i64 5] (H.lo.fresh [.slice a l c e, .int .i64 0]) = some (.int .i64 (nf : Int), H3) := e3
  have e5' : loopN (L5_0 (vcall T ext promo n) n H.lo (nf : Int) (some H3.next)) n [.int .i64 0] H3.newMap = some (.exit 0, [], H5) := e5
  have e6' : vcall T ext promo n 9 [.map (some H3.next), .str (PS.of [102, 48]), .map none] H5 = _ := e6
  rcases hv with ⟨rfl, hv, rfl⟩ | ⟨g, rs, rfl, rfl, hg, hsz, hgood⟩
  · refine ⟨_, ok5 _ _ _ _ _ _ (r := (.bool true, leave H H6 (.bool true))) ?_⟩
    unfold F5
    simp only [KA, KB, KD, reduceCtorEq, if_false, if_true, e3']
    rw [mk1 _ _ _ undMap]
    simp only [KA, KB, KD, reduceCtorEq, if_false, if_true, e5', e6']
    simp only [KA, KB, KD, reduceCtorEq, if_false, if_true, ieq_dec]
    rw [included2_ok n (by omega) M6]
    simp only [KA, KB, KD, reduceCtorEq, if_false, if_true, str_eq, decide_true]
  · have h10 : ∀ l ∈ rs.map Rw.l, (10 : UInt8) ∉ l := fun l hl => by
      obtain ⟨x, x1, rfl⟩ := List.mem_map.1 hl
      exact good_no (by omega) hfs' (hgood x x1)
    have hsp : splits 10 (rwT rs) = rs.map Rw.l ++ [[]] := by rw [rwT_ot]; exact splits_ot2 _ h10
    have hcount : (rwT rs).count 10 + 1 = rs.length + 1 := by rw [← splits_len, hsp]; simp
    have hrl := rwT_len rs
    obtain ⟨H7, e7, p7, K7⟩ := split1_ok n (rwT rs) (by omega) (by omega) 10 o6 M6
    rw [hsp] at p7
    rw [hcount] at e7
    have M7 := M6.keep o6 K7.keep (fun h => h)
    have m7 := map?_keep m6 hmn6 K7.keep (fun h => h)
    obtain rfl : vk = rs.length := by
      rcases hg with ⟨_, h | ⟨q, h, _⟩⟩
      · obtain ⟨h, h0⟩ := h
        simp only [AV.slice.injEq] at h
        omega
      · simp only [AV.slice.injEq] at h
        omega
    have hloop : ∃ H8, loopN (L5_2 (vcall T ext promo n) n (some H3.next) va rs.length (some (H6.next, 0)) (rs.length + 1)) n [.int .i64 0] H7 = some (.exit 4, [], H8) := by
      rcases hg with ⟨_, ⟨h, h0⟩ | ⟨q, h, _, ht, _⟩⟩
      · refine ⟨H7, ?_⟩
        obtain ⟨n, rfl⟩ : ∃ m, n = m + 1 := ⟨n - 1, by omega⟩
        rw [loopN_succ]
        unfold L5_2
        simp only [KA, KB, KD, reduceCtorEq, if_false, if_true]
        rw [if_neg (by omega)]
      · simp only [AV.slice.injEq] at h
        obtain ⟨rfl, _⟩ := h
        have hqn := ht.lt o6
        exact origins_loop n (by omega) (by omega) fs hfs' rs hgood (by omega) H6.next q n 0 H7 (Nat.zero_le _) (by omega) K7.ok M7 (Nat.lt_of_lt_of_le hmn6 K7.keep.next) ⟨_, _, m7⟩ (Nat.lt_of_lt_of_le hqn K7.keep.next) (fun o => by rw [keep_cell K7.keep o6 hqn (fun h => h)]; exact ht.cell o) p7
    obtain ⟨H8, e8⟩ := hloop
    refine ⟨_, ok5 _ _ _ _ _ _ (r := (.bool true, leave H H8 (.bool true))) ?_⟩
    unfold F5
    simp only [KA, KB, KD, reduceCtorEq, if_false, if_true, e3']
    rw [mk1 _ _ _ undMap]
    simp only [KA, KB, KD, reduceCtorEq, if_false, if_true, e5', e6', ieq_dec]
    rw [if_neg (by omega), e7]
    simp only [KA, KB, KD, reduceCtorEq, if_false, if_true]
    rw [included2_ok n (by omega) M7]
    simp only [KA, KB, KD, reduceCtorEq, if_false, if_true, ieq_dec, fw_add1 rs.length (by omega), decide_true, Bool.not_true, e8]
end Go.Vm.Tryz
