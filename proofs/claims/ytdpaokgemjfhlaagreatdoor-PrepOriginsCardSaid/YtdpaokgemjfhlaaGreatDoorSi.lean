/- strings.Index at any needle, and strings.Split at one byte, where the variable MaxLen holds a number. -/
import Derived.Test.YtdpaokgemjfhlaaGreatDoorSp
import Derived.Lib.IndexBytes
namespace Go.Vm.Tryz
set_option linter.unusedSectionVars false
set_option linter.unusedSimpArgs false
set_option linter.unusedVariables false
set_option maxRecDepth 10000
/-- The variable MaxLen holds a number. -/
def Mx (H : VH) : Prop := 0 < H.next ∧ ∃ m, H.cell 0 0 = some (.int .i64 m)
theorem Mx.keep {S : Nat → Prop} {H H' : VH} (h : Mx H) (hH : H.Ok) (k : Keep S H H') (hs : ¬ S 0) : Mx H' := by
  obtain ⟨h1, m, h2⟩ := h
  exact ⟨Nat.lt_of_lt_of_le h1 k.next, m, by rw [keep_cell k hH h1 hs]; exact h2⟩
theorem Mx.lo {H : VH} (h : Mx H) : Mx H.lo := h
theorem slite_ok (n : Nat) (hn : 1 ≤ n) (l p : List UInt8) (hl : l.length < 100000) {H : VH} (hm : Mx H) : vcall T ext promo n 65 [.str (PS.of l), .str (PS.of p)] H = some (.int .i64 (Lib.index l p), H) := by
  obtain ⟨n, rfl⟩ : ∃ m, n = m + 1 := ⟨n - 1, by omega⟩
  obtain ⟨_, m, hm⟩ := hm
  refine call_ext (g := xIndexS 0) rfl ?_
  have : Nat.blt (PS.of l).len 4294967281 = true := by rw [blt_eq]; exact decide_eq_true (by rw [of_len]; omega)
  simp only [xIndexS, hm, this, bytes_back]
theorem sindex_ok (n : Nat) (hn : 5 ≤ n) (l p : List UInt8) (hl : l.length < 100000) {H : VH} (hm : Mx H) : vcall T ext promo n 33 [.str (PS.of l), .str (PS.of p)] H = some (.int .i64 (Lib.index l p), H) := by
  obtain ⟨n, rfl⟩ : ∃ m, n = m + 1 := ⟨n - 1, by omega⟩
  apply ok33
  unfold F33
  simp only [letH_mk]
  rw [slite_ok n (by omega) l p hl hm.lo]
  simp only [KA, KB, KD, reduceCtorEq, if_false, if_true]
  rw [leave_flat rfl rfl]
theorem index1_ok (n : Nat) (hn : 10 ≤ n) (l : List UInt8) (hl : l.length < 100000) (c : UInt8) {H : VH} (hm : Mx H) : vcall T ext promo n 33 [.str (PS.of l), .str (PS.of [c])] H = some (.int .i64 (Lib.indexByte l c), H) := by
  rw [sindex_ok n (by omega) l [c] hl hm, Lib.index_one]
theorem split_loop (n : Nat) (hn : 20 ≤ n) (c : UInt8) (all : List (List UInt8)) (p : Nat) (hp0 : p ≠ 0) (hk : all.length < 1000000) :
    ∀ (m i : Nat) (l : List UInt8) (H : VH) (cs : List AV), splits c l = all.drop i → i + 1 ≤ all.length → all.length - i < m → l.length < 100000 → Mx H → cs.length = all.length → cs.take i = strCells (all.take i) → H.Ok → Plain H p cs →
      ∃ (l' : List UInt8) (H' : VH) (cs' : List AV), loopN (L43_0 (vcall T ext promo n) n (PS.of [c]) 0 (some (p, 0)) all.length ((all.length - 1 : Nat) : Int)) m [.str (PS.of l), .int .i64 (i : Int)] H = some (.exit 0, [.str (PS.of l'), .int .i64 ((all.length - 1 : Nat) : Int)], H') ∧
        cs'.length = all.length ∧ cs'.take (all.length - 1) = strCells (all.take (all.length - 1)) ∧ all.drop (all.length - 1) = [l'] ∧ H'.Ok ∧ Plain H' p cs' ∧ Eff (· = p) H H' ∧ H'.next = H.next := by
  intro m
  induction m with
  | zero => intro i l H cs _ _ h; omega
  | succ m ih =>
    intro i l H cs hs hi hm hl hM hc ht hH hp
    rw [loopN_succ]
    generalize hlp : loopN (L43_0 (vcall T ext promo n) n (PS.of [c]) 0 (some (p, 0)) all.length ((all.length - 1 : Nat) : Int)) m = lp at ih ⊢
    unfold L43_0
    simp only [KA, KB, KD, reduceCtorEq, if_false, if_true]
    have hlen := splits_len c l
    rw [hs, List.length_drop] at hlen
    by_cases h : i < all.length - 1
    · rw [if_pos (by omega), index1_ok n (by omega) l (by omega) c hM]
      obtain ⟨k, h1, h2, h3⟩ := splits_some c l (by omega)
      simp only [KA, KB, KD, reduceCtorEq, if_false, if_true]
      rw [h1, if_neg (by omega), Int.add_zero, fw_i64 (by omega) (by omega), slStrT _ _ _ (by omega)]
      simp only [KA, KB, KD, reduceCtorEq, if_false, if_true, Bool.and_eq_true]
      rw [if_pos (by omega)]
      obtain ⟨H1, e1, p1, k1, o1, l1, n1⟩ := hp.puts1 hH i (by omega) (.str (PS.of (l.take k))) rfl
      simp only [Int.toNat_natCast, Nat.mul_one, Nat.zero_add, e1, KA, KB, KD, reduceCtorEq, if_false, if_true, of_len, List.length_singleton]
      rw [show (k : Int) + ((1 : Nat) : Int) = ((k + 1 : Nat) : Int) by omega, fw_i64 (by omega) (by omega), slStrF _ _ _ (by omega)]
      simp only [KA, KB, KD, reduceCtorEq, if_false, if_true]
      rw [fw_i64 (by omega) (by omega), show (i : Int) + 1 = ((i + 1 : Nat) : Int) by omega]
      rw [hs] at h3
      have hd : all.drop i = all[i] :: all.drop (i + 1) := List.drop_eq_getElem_cons (by omega)
      rw [hd] at h3
      obtain ⟨h4, h5⟩ := List.cons.inj h3
      obtain ⟨l', H', cs', r1, r2, r3, r4, r5, r6, r7, r8⟩ := ih (i + 1) (l.drop (k + 1)) H1 (cs.set i (.str (PS.of (l.take k)))) h5.symm (by omega) (by omega) (by simp; omega) (hM.keep hH k1 (fun e => hp0 e.symm)) (by simpa using hc) (by
        rw [List.take_add_one, List.take_add_one, strCells, List.map_append, List.take_set_of_le (Nat.le_refl _), ht]
        congr 1
        have : i < all.length := by omega
        simp [hc, this, h4]) o1 p1
      exact ⟨l', H', cs', r1, r2, r3, r4, r5, r6, (Eff.of_low k1 o1 l1 (hp.lt hH)).trans r7 fun x hx => .inl hx, by omega⟩
    · rw [if_neg (by omega)]
      have hi' : i = all.length - 1 := by omega
      subst hi'
      refine ⟨l, H, cs, rfl, hc, ht, ?_, hH, hp, .refl hH, rfl⟩
      rw [← hs]
      exact splits_none c l (by omega)
theorem genSplit_ok (n : Nat) (l : List UInt8) (hn : l.length + 50 ≤ n) (hl : l.length < 100000) (c : UInt8) (x : Int) (hx : x = -1 ∨ x = ((l.count c + 1 : Nat) : Int)) {H : VH} (hH : H.Ok) (hM : Mx H) :
    ∃ (H' : VH), vcall T ext promo n 43 [.str (PS.of l), .str (PS.of [c]), .int .i64 0, .int .i64 x] H = some (.slice (some (H.next, 0)) (l.count c + 1) (some (l.count c + 1)) 1, H') ∧ Plain H' H.next (strCells (splits c l)) ∧ Eff (fun _ => False) H H' := by
  obtain ⟨n, rfl⟩ : ∃ m, n = m + 1 := ⟨n - 1, by omega⟩
  have hlen := splits_len c l
  have hcl : l.count c ≤ l.length := List.count_le_length ..
  have o1 := fresh_ok (lo_ok hH) (repl [.str (PS.of [])] (l.count c + 1))
  have p1 := fresh_plain (lo_ok hH) (repl [.str (PS.of [])] (l.count c + 1))
  obtain ⟨l', H1, cs', r1, r2, r3, r4, r5, r6, r7, r8⟩ := split_loop n (by omega) c (splits c l) H.lo.next (Nat.pos_iff_ne_zero.1 hM.1) (by omega) n 0 l _ _ rfl (by omega) (by omega) (by omega) (hM.lo.keep (lo_ok hH) (Keep.fresh (fun _ => False) H.lo _) (fun e => e)) (by rw [repl_len]; simp [hlen]) rfl o1 p1
  rw [hlen] at r1 r2 r3 r4
  obtain ⟨H2, e2, p2, k2, o2, l2, n2⟩ := r6.puts1 r5 (l.count c) (by omega) (.str (PS.of l')) rfl
  have eff : Eff (fun _ => False) H.lo H2 := by
    refine ((Eff.fresh (fun _ => False) (lo_ok hH) _).trans r7 fun y hy => ?_).trans (Eff.of_low k2 o2 l2 (r6.lt r5)) fun y hy => ?_
    · exact .inr (Nat.le_of_eq hy.symm)
    · exact .inr (Nat.le_of_eq hy.symm)
  have h0 : ¬ x = 0 := by omega
  have hj : ∀ K : Ex → List AV → VH → Option (AV × VH), bindJ (selC (ilt x 0) (bindC (vcall T ext promo n 12 [.str (PS.of l), .str (PS.of [c])] H.lo) fun v8 H9 => asI .i64 v8 fun n10 => letN (fwrap .i64 (n10 + 1)) fun n11 => some (.normal, [.int .i64 n11], H9)) (some (.normal, [.int .i64 x], H.lo))) K = K .normal [.int .i64 ((l.count c + 1 : Nat) : Int)] H.lo := by
    intro K
    rcases hx with rfl | rfl
    · simp only [selC_eq, ilt_eq]
      rw [if_pos (by decide), count1_ok n (by omega)]
      simp only [KA, KB, KD, reduceCtorEq, if_false, if_true]
      rw [show (l.count c : Int) + 1 = ((l.count c + 1 : Nat) : Int) by omega, fw_i64 (by omega) (by omega)]
    · simp only [selC_eq, ilt_eq]
      rw [if_neg (by simp; omega)]
      simp only [KA, KB, KD, reduceCtorEq, if_false, if_true]
  refine ⟨leave H H2 (.slice (some (H.next, 0)) (l.count c + 1) (some (l.count c + 1)) 1), ok43 _ _ _ _ _ _ ?_, ?_, eff.leave hH _⟩
  · unfold F43
    simp only [letH_mk]
    rw [hj]
    simp only [KA, KB, KD, reduceCtorEq, if_false, if_true, ieq_dec, str_eq, show decide ([c] = []) = false from rfl, h0]
    simp only [of_len]
    rw [show (l.length : Int) + 1 = ((l.length + 1 : Nat) : Int) by omega, fw_i64 (by omega) (by omega)]
    rw [show imin ((l.count c + 1 : Nat) : Int) ((l.length + 1 : Nat) : Int) = ((l.count c + 1 : Nat) : Int) by simp [imin, ilt_eq]; omega]
    rw [vmakeStr _ _ (by omega)]
    simp only [KA, KB, KD, reduceCtorEq, if_false, if_true]
    rw [show ((l.count c + 1 : Nat) : Int) - 1 = ((l.count c + 1 - 1 : Nat) : Int) by omega, fw_i64 (by omega) (by omega)]
    rw [show (.int .i64 0 : AV) = .int .i64 ((0 : Nat) : Int) from rfl, r1]
    simp only [KA, KB, KD, reduceCtorEq, if_false, if_true, Bool.and_eq_true]
    rw [if_pos (by omega)]
    simp only [Int.toNat_natCast, Nat.add_sub_cancel, Nat.mul_one, Nat.zero_add]
    rw [show H.lo.next = H.next from rfl] at e2
    rw [show H.lo.next = H.next from rfl, e2]
    simp only [KA, KB, KD, reduceCtorEq, if_false, if_true]
    rw [show ((l.count c : Nat) : Int) + 1 = ((l.count c + 1 : Nat) : Int) by omega, fw_i64 (by omega) (by omega), slRowT _ _ _ _ _ _ (Nat.le_refl _)]
    simp only [KA, KB, KD, reduceCtorEq, if_false, if_true]
  · have hcs : cs'.set (l.count c) (.str (PS.of l')) = strCells (splits c l) := by
      have e1 : splits c l = (splits c l).take (l.count c) ++ [l'] := by
        rw [← r4, show l.count c + 1 - 1 = l.count c by omega, List.take_append_drop]
      rw [e1, strCells, List.map_append, List.set_eq_take_append_cons_drop, if_pos (by omega)]
      have : cs'.drop (l.count c + 1) = [] := List.drop_of_length_le (by omega)
      rw [this]
      rw [show l.count c + 1 - 1 = l.count c by omega] at r3
      rw [r3]
      rfl
    rw [leave_rest rfl]
    rw [hcs] at p2
    exact plain_low p2 _
theorem split1_ok (n : Nat) (l : List UInt8) (hn : l.length + 60 ≤ n) (hl : l.length < 100000) (c : UInt8) {H : VH} (hH : H.Ok) (hM : Mx H) :
    ∃ (H' : VH), vcall T ext promo n 19 [.str (PS.of l), .str (PS.of [c])] H = some (.slice (some (H.next, 0)) (l.count c + 1) (some (l.count c + 1)) 1, H') ∧ Plain H' H.next (strCells (splits c l)) ∧ Eff (fun _ => False) H H' := by
  obtain ⟨n, rfl⟩ : ∃ m, n = m + 1 := ⟨n - 1, by omega⟩
  obtain ⟨H', e1, e2, e3⟩ := genSplit_ok n l (by omega) hl c (-1) (.inl rfl) (lo_ok hH) hM.lo
  have e4 := e3.leave hH (.slice (some (H.next, 0)) (l.count c + 1) (some (l.count c + 1)) 1)
  refine ⟨leave H H' (.slice (some (H.next, 0)) (l.count c + 1) (some (l.count c + 1)) 1), ok19 _ _ _ _ ?_, ?_, e4⟩
  · unfold F19
    simp only [letH_mk]
    rw [e1]
    simp only [KA, KB, KD, reduceCtorEq, if_false, if_true]
    rfl
  · rw [leave_rest rfl]
    exact plain_low e2 _
end Go.Vm.Tryz
