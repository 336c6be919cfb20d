/- WidthSelected: the law, on the machine. -/
import Derived.Test.YtmlogeklbcgjnaaGreatDoorYa
import Derived.Test.YtmlogeklbcgjnaaGreatDoorW7
namespace Go.Vm.Tryz
set_option linter.unusedSectionVars false
set_option linter.unusedSimpArgs false
set_option linter.unusedVariables false
set_option maxRecDepth 10000
theorem drawBits_ok (n : Nat) (hn : 25 ≤ n) {H : VH} {b k : Nat} (hH : H.Ok) (hs : StB H b k) (hk : k < 1000000000 - 10) (w : Nat) (hw : 1 ≤ w ∧ w ≤ 64) :
    ∃ (v x : BitVec 64) (H' : VH), vcall T ext promo n 7 [.ptr (some (b, 0)), .int .i64 (w : Int)] H = some (bv w v x, H') ∧ Vec w v x ∧ Drawn H H' b (k + 9) := by
  obtain ⟨n, rfl⟩ : ∃ m, n = m + 1 := ⟨n - 1, by omega⟩
  obtain ⟨v, H1, e1, hv, d1⟩ := known_ok n (by omega) (lo_ok hH) hs.lo (by omega) w hw
  obtain ⟨r, H2, e2, l2, u2, d2⟩ := next_ok n (by omega) d1.ok d1.st (by omega) 4 (by omega)
  have d12 := d1.trans d2
  have hm := smask_ok n (by omega) w
  have hr : r = 0 ∨ r = 1 ∨ r = 2 ∨ r = 3 := by omega
  rcases hr with rfl | rfl | rfl | rfl
  · obtain ⟨u, H3, e3, d3⟩ := word_ok n (by omega) d2.ok d2.st (by omega)
    refine ⟨v, u &&& bmask w, leave H H3 (bv w v (u &&& bmask w)), ?_, ⟨hv.pos, hv.le, hv.v, mask_out w u⟩, ((d12.trans d3).up (by omega)).leave hH (hs.lt hH) (bv w v (u &&& bmask w))⟩
    apply ok7
    unfold F7
    simp only [letH_mk]
    rw [e1]
    simp only [KA, KB, KD, KE,  reduceCtorEq, if_false, if_true]
    rw [e2]
    simp only [KA, KB, KD, KE,  reduceCtorEq, if_false, if_true, ieq_dec, Int.reduceEq, decide_true, decide_false]
    rw [e3]
    simp only [KA, KB, KD, KE,  reduceCtorEq, if_false, if_true]
    rw [hm]
    simp only [KA, KB, KD, KE, KU, iandn_u64, inot_u64, sel_eq, reduceCtorEq, if_false, if_true]
  · obtain ⟨q, H3, e3, l3, u3, d3⟩ := next_ok n (by omega) d2.ok d2.st (by omega) 64 (by omega)
    refine ⟨v, (1#64 <<< (min q.toNat 64)) &&& bmask w, leave H H3 (bv w v ((1#64 <<< (min q.toNat 64)) &&& bmask w)), ?_, ⟨hv.pos, hv.le, hv.v, mask_out w _⟩, ((d12.trans d3).up (by omega)).leave hH (hs.lt hH) (bv w v ((1#64 <<< (min q.toNat 64)) &&& bmask w))⟩
    apply ok7
    unfold F7
    simp only [letH_mk]
    rw [e1]
    simp only [KA, KB, KD, KE,  reduceCtorEq, if_false, if_true]
    rw [e2]
    simp only [KA, KB, KD, KE,  reduceCtorEq, if_false, if_true, ieq_dec, Int.reduceEq, decide_true, decide_false]
    rw [e3]
    simp only [KA, KB, KD, KE,  reduceCtorEq, if_false, if_true]
    rw [show (1 : Int) = u64 1#64 from rfl, shl_var _ _ (by omega)]
    simp only [KA, KB, KD, KE,  reduceCtorEq, if_false, if_true]
    rw [hm]
    simp only [KA, KB, KD, KE, KU, iandn_u64, inot_u64, sel_eq, reduceCtorEq, if_false, if_true]
  · refine ⟨v, bmask w, leave H H2 (bv w v (bmask w)), ?_, ⟨hv.pos, hv.le, hv.v, (allx_vec hw).v⟩, (d12.up (by omega)).leave hH (hs.lt hH) (bv w v (bmask w))⟩
    apply ok7
    unfold F7
    simp only [letH_mk]
    rw [e1]
    simp only [KA, KB, KD, KE,  reduceCtorEq, if_false, if_true]
    rw [e2]
    simp only [KA, KB, KD, KE,  reduceCtorEq, if_false, if_true, ieq_dec, Int.reduceEq, decide_true, decide_false]
    rw [hm]
    simp only [KA, KB, KD, KE,  reduceCtorEq, if_false, if_true]
  · refine ⟨v, 0#64, leave H H2 (bv w v 0#64), ?_, hv, (d12.up (by omega)).leave hH (hs.lt hH) (bv w v 0#64)⟩
    apply ok7
    unfold F7
    simp only [letH_mk]
    rw [e1]
    simp only [KA, KB, KD, KE,  reduceCtorEq, if_false, if_true]
    rw [e2]
    simp only [KA, KB, KD, KE,  reduceCtorEq, if_false, if_true, ieq_dec, Int.reduceEq, decide_true, decide_false]
theorem eqBitsV (w v x : Int) : vbinOp T .eql 30 (.agg (b3 w v x)) (.agg (b3 w v x)) = some (.bool true) := by
  have key : ∀ (a b c d e f : Int), veq T 60 30 (.agg [.int .i64 a, .int .u64 b, .int .u64 c]) (.agg [.int .i64 d, .int .u64 e, .int .u64 f]) =
      (match (if kindEq .i64 .i64 then some (ieq a d) else none : Option Bool) with
        | some true => (match (if kindEq .u64 .u64 then some (ieq b e) else none : Option Bool) with
          | some true => (match (if kindEq .u64 .u64 then some (ieq c f) else none : Option Bool) with
            | some true => some true
            | r => r)
          | r => r)
        | r => r) := by
    intro a b c d e f
    kernel_rfl
  have h : veq T 60 30 (.agg [.int .i64 w, .int .u64 v, .int .u64 x]) (.agg [.int .i64 w, .int .u64 v, .int .u64 x]) = some true := by
    rw [key]
    simp [ieq_dec, show kindEq .i64 .i64 = true from rfl, show kindEq .u64 .u64 = true from rfl]
  show (veq T 60 30 _ _).map AV.bool = _
  rw [h]
  rfl
theorem widthSelected_vm (n : Nat) (hn : 401 ≤ n) {H : VH} (hH : H.Ok) {m : Int} (hmx : 0 < H.next ∧ H.cell (.blk 0) 0 = some (.int .i64 m)) (a : Option (Bk × Nat)) (l : Nat) (c : Option Nat) (e : Nat) (hN : Nums H H.next a l) :
    ∃ H', vcall T ext promo n 3 [.slice a l c e] H = some (.bool true, H') := by
  obtain ⟨n, rfl⟩ : ∃ m, n = m + 1 := ⟨n - 1, by omega⟩
  have hM : Mx H := ⟨hmx.1, m, hmx.2⟩
  have h0 := hM.1
  obtain ⟨o0, s0⟩ := start hH c e hN
  have M0 : Mx (H.lo.fresh [.slice a l c e, .int .i64 0]) := hM.lo.keep (lo_ok hH) (Keep.fresh (fun _ => False) H.lo _) (fun h => h)
  obtain ⟨r1, H1, e1, l1, u1, d1⟩ := range_ok n (by omega) o0 s0 (by omega) 1 8 (by omega) (by omega) (by omega)
  have M1 := M0.keep o0 d1.keep (by omega)
  obtain ⟨w, rfl⟩ := Int.eq_ofNat_of_zero_le (show 0 ≤ r1 by omega)
  obtain ⟨r2, H2, e2, l2, u2, d2⟩ := next_ok n (by omega) d1.ok d1.st (by omega) 4 (by omega)
  have M2 := M1.keep d1.ok d2.keep (by omega)
  obtain ⟨lsb, rfl⟩ := Int.eq_ofNat_of_zero_le (show 0 ≤ r2 by omega)
  obtain ⟨r3, H3, e3, l3, u3, d3⟩ := range_ok n (by omega) d2.ok d2.st (by omega) 1 5 (by omega) (by omega) (by omega)
  have M3 := M2.keep d2.ok d3.keep (by omega)
  obtain ⟨kw, rfl⟩ := Int.eq_ofNat_of_zero_le (show 0 ≤ r3 by omega)
  obtain ⟨kv, H4, e4, v4, d4⟩ := known_ok n (by omega) d3.ok d3.st (by omega) kw (by omega)
  have M4 := M3.keep d3.ok d4.keep (by omega)
  obtain ⟨v, x, H5, e5, v5, d5⟩ := drawBits_ok n (by omega) d4.ok d4.st (by omega) w (by omega)
  have M5 := M4.keep d4.ok d5.keep (by omega)
  obtain ⟨s, H6, e6, d6⟩ := flip_ok n (by omega) d5.ok d5.st (by omega) 3 (by omega)
  have M6 := M5.keep d5.ok d6.keep (by omega)
  have hw : 1 ≤ w ∧ w ≤ 8 := by omega
  have hk : 1 ≤ kw ∧ kw ≤ 5 := by omega
  have h3 : lsb ≤ 3 := by omega
  obtain ⟨H7, H8, q1, q2, q3, env, o8, k8⟩ := env2_make d6.ok (thL w lsb false 0) (thL kw 0 s 1)
  have M8 := M6.keep d6.ok k8 (fun h => h)
  have e9 := ownIx_ok n (by omega) (nm := PS.of [97]) (nm2 := PS.of [105]) env.lookI env.lookA (by omega) h3 hw
  have hW : kw ≤ idxW kw s lsb w ∧ idxW kw s lsb w ≤ 64 := by
    have hb := blen_le (lsb + w - 1)
    unfold idxW
    have : (if s = true then 1 else 0) ≤ 1 := by split <;> omega
    omega
  obtain ⟨v', x', hb⟩ := bitAt_sh w v x (min (ixv kw s (idxW kw s lsb w) lsb kv).toNat 64)
  obtain ⟨hxv, hxs⟩ := ptX_ok (w := w) (kw := kw) (W := idxW kw s lsb w) lsb (by omega) (by omega) hW s
  have e10 := evalExprG_ok (gs2_cx w kw) (PS.of [120]) none 0 (some 0) 0 none 0 (some 0) 0 (fun _ => rfl) rfl hxv (by omega) (by have := X.deep_le (ptX w (idx3 kw s (idxW kw s lsb w) lsb)); omega) (rs := rs2 w kw v x kv) (rc := some 2) 0
    (fun b => ev_ptX b v5 v4 hW s lsb hb) n (by omega) (by omega) o8 (fun m hm H' hH' => by subst hH'; exact designCheck2_ok m (by omega) M8.lo.lo hw hk)
    (fun m hm H' hH' => mCheckG_ok m (gs2 w kw) (some 2) (rs2 w kw v x kv) rfl (show 2 < 100000 by decide) (fun i hi => by
      have : i = 0 ∨ i = 1 := by simp at hi; omega
      rcases this with rfl | rfl
      · show (1 : Int) + 20 ≤ (m : Int)
        omega
      · show (1 : Int) + 20 ≤ (m : Int)
        omega) (by show 2 + 20 ≤ m; omega) (fun i hi => by
      have : i = 0 ∨ i = 1 := by simp at hi; omega
      rcases this with rfl | rfl
      · exact ⟨w, [(v, x)], some 1, 3, rfl, rfl, by simp, by simp, fun p hp => (List.mem_singleton.1 hp) ▸ v5, rfl⟩
      · exact ⟨kw, [(kv, 0#64)], some 1, 3, rfl, rfl, by simp, by simp, fun p hp => (List.mem_singleton.1 hp) ▸ v4, rfl⟩) (PS.of [120]) none 0 (some 0) 0 none 0 (some 0) 0 none 0 (some 0) 0 (some 2) 0 H')
  have plain := idx_plain hw hk h3 v4 s
  rw [ptX_enc] at e10
  generalize hK : idx3 kw s (idxW kw s lsb w) lsb = K at *
  suffices hg : ∃ H', F3 (vcall T ext promo n) n a l c e H = some (.bool true, H') from hg.imp fun H' h => ok3 _ _ _ _ _ _ h
  unfold F3
  have hln : H.lo.next = H.next := rfl
  simp only [letH_mk, hln]
  rw [e1]
  simp only [bindC_mk, asI_mk]
  rw [e2]
  simp only [bindC_mk, asI_mk]
  rw [e3]
  simp only [bindC_mk, asI_mk]
  rw [e4]
  simp only [KA, KB, KD, KE,  reduceCtorEq, if_false, if_true]
  rw [e5]
  simp only [KA, KB, KD, KE,  reduceCtorEq, if_false, if_true]
  rw [e6]
  simp only [KA, KB, KD, KE,  reduceCtorEq, if_false, if_true]
  rw [q1]
  simp only [KA, KB, KD, KE,  reduceCtorEq, if_false, if_true]
  rw [q2]
  simp only [KA, KB, KD, KE,  reduceCtorEq, if_false, if_true]
  rw [q3]
  simp only [KA, KB, KD, KE,  reduceCtorEq, if_false, if_true]
  have e9' : vcall T ext promo n 9 [.agg [.int .i64 81, .int .i64 0, .int .i64 0, .str (PS.of []), .str (PS.of []), .int .i64 0, .int .u64 0, .int .u64 0, .bool false, .slice (some ((.pur [.int .i64 79, .int .i64 0, .int .i64 0, .str (PS.of [97]), .str (PS.of []), .int .i64 0, .int .u64 0, .int .u64 0, .bool false, .slice none 0 (some 0) 0, .int .i64 79, .int .i64 0, .int .i64 0, .str (PS.of [105]), .str (PS.of []), .int .i64 0, .int .u64 0, .int .u64 0, .bool false, .slice none 0 (some 0) 0]), 0)) 2 (some 2) 10], .agg [.map (some H6.next), .slice none 0 (some 0) 0]] H8 = some (.tuple [.agg (ptL w K), .agg [.int .i64 1, .int .i64 0, .bool false, nilS], .agg fault0], H8) := e9
  have e10' : vcall T ext promo n 10 [.agg [.str (PS.of [120]), .slice (some ((.pur [.str (PS.of [97]), .int .i64 0, .int .i64 0, .int .i64 (w : Int), .bool false, .int .i64 1, .slice none 0 (some 0) 0, .str (PS.of [105]), .int .i64 0, .int .i64 0, .int .i64 (kw : Int), .bool false, .int .i64 1, .slice none 0 (some 0) 0]), 0)) 2 (some 2) 7, .slice none 0 (some 0) 0, .slice none 0 (some 0) 0, .slice none 0 (some 0) 0], .agg [.slice (some ((.pur [.slice (some ((.pur [.int .i64 (w : Int), .int .u64 (u64 v), .int .u64 (u64 x)]), 0)) 1 (some 1) 3, .slice (some ((.pur [.int .i64 (kw : Int), .int .u64 (u64 kv), .int .u64 (u64 0#64)]), 0)) 1 (some 1) 3]), 0)) 2 (some 2) 1, .int .u64 0], .agg (ptL w K)] H8 = some (.tuple [.agg (vb 1 v' x'), .int .i64 0], H8) := e10
  rw [e9']
  simp only [KA, KB, KD, KE,  reduceCtorEq, if_false, if_true]
  rw [e10']
  simp only [KA, KB, KD, KE,  reduceCtorEq, if_false, if_true]
  have ea : vcall T ext promo n 12 [.int .i64 1, .int .u8 120] H8 = some (bv 1 (bmask 1) (bmask 1), H8) := allx_ok n (by omega) (w := 1) (by omega) H8
  have ei := int_ok n (by omega) v4 (H := H8)
  have ec := counted_ok n (by omega) M8
  have hA : -100 ≤ numv kw kv s ∧ numv kw kv s ≤ 100 := by
    have h4 : 2 ^ kw ≤ 2 ^ 5 := Nat.pow_le_pow_right (by omega) hk.2
    unfold numv
    split
    · have := sint_range (w := kw) (by omega) kv
      omega
    · have := toInt_range hk.2 v4
      omega
  cases s
  · have hxv : fwrap .i64 (u64 kv) = numv kw kv false := fw_i64_u64 kv
    simp only [KA, KB, KD, KE,  reduceCtorEq, if_false, if_true, hxv]
    generalize numv kw kv false = A at plain hA ⊢
    generalize hj : (ixv kw false (idxW kw false lsb w) lsb kv).toNat = j at plain hb
    rw [ea]
    simp only [KA, KB, KD, KE,  reduceCtorEq, if_false, if_true]
    rw [fw_i64 (by omega) (by omega)]
    by_cases hin : 0 ≤ A - (lsb : Int) ∧ A - (lsb : Int) < (w : Int)
    · obtain ⟨i, hi⟩ := Int.eq_ofNat_of_zero_le hin.1
      have hji := plain.1 hin
      rw [hi, Int.toNat_natCast] at hji
      rw [hi] at hin ⊢
      subst hji
      have hs1 : vcall T ext promo n 13 [bv w v x, .int .i64 (j : Int), .int .i64 1] H8 = some (bv 1 ((v >>> j) &&& bmask 1) ((x >>> j) &&& bmask 1), H8) := sliceB_ok n (by omega) v5 (a := j) (m := 1) (by omega) (by omega) H8
      rw [if_pos hin.1]
      simp only [KA, KB, KD, KE,  reduceCtorEq, if_false, if_true, decide_eq_true hin.2]
      rw [hs1]
      simp only [KA, KB, KD, KE,  reduceCtorEq, if_false, if_true]
      rw [ec]
      simp only [KA, KB, KD, KE,  reduceCtorEq, if_false, if_true, ieq_dec, decide_true]
      unfold bitAt at hb
      rw [show min j 64 = j by omega, if_pos (by omega)] at hb
      rw [← hb, eqBitsV]
      simp only [KA, KB, KD, KE,  reduceCtorEq, if_false, if_true]
      exact ⟨_, rfl⟩
    · have hjw := plain.2 hin
      have hsel : ∀ (K : Ex → List AV → VH → Option R), bindJ (if 0 ≤ A - (lsb : Int) then some (Ex.normal, [AV.bool (decide (A - (lsb : Int) < (w : Int)))], H8) else some (Ex.normal, [AV.bool false], H8)) K = K .normal [.bool false] H8 := fun K => by
        by_cases h1 : 0 ≤ A - (lsb : Int)
        · rw [if_pos h1, decide_eq_false (show ¬ (A - (lsb : Int) < (w : Int)) by omega)]
          rfl
        · rw [if_neg h1]
          rfl
      rw [hsel]
      simp only [KA, KB, KD, KE,  reduceCtorEq, if_false, if_true]
      rw [ec]
      simp only [KA, KB, KD, KE,  reduceCtorEq, if_false, if_true, ieq_dec, decide_true]
      unfold bitAt at hb
      rw [if_neg (by omega)] at hb
      rw [← hb, eqBitsV]
      simp only [KA, KB, KD, KE,  reduceCtorEq, if_false, if_true]
      exact ⟨_, rfl⟩
  · have hxv : sint kw kv = numv kw kv true := rfl
    rw [hxv] at ei
    simp only [KA, KB, KD, KE,  reduceCtorEq, if_false, if_true]
    rw [ei]
    simp only [KA, KB, KD, KE,  reduceCtorEq, if_false, if_true]
    generalize numv kw kv true = A at plain hA ⊢
    generalize hj : (ixv kw true (idxW kw true lsb w) lsb kv).toNat = j at plain hb
    rw [ea]
    simp only [KA, KB, KD, KE,  reduceCtorEq, if_false, if_true]
    rw [fw_i64 (by omega) (by omega)]
    by_cases hin : 0 ≤ A - (lsb : Int) ∧ A - (lsb : Int) < (w : Int)
    · obtain ⟨i, hi⟩ := Int.eq_ofNat_of_zero_le hin.1
      have hji := plain.1 hin
      rw [hi, Int.toNat_natCast] at hji
      rw [hi] at hin ⊢
      subst hji
      have hs1 : vcall T ext promo n 13 [bv w v x, .int .i64 (j : Int), .int .i64 1] H8 = some (bv 1 ((v >>> j) &&& bmask 1) ((x >>> j) &&& bmask 1), H8) := sliceB_ok n (by omega) v5 (a := j) (m := 1) (by omega) (by omega) H8
      rw [if_pos hin.1]
      simp only [KA, KB, KD, KE,  reduceCtorEq, if_false, if_true, decide_eq_true hin.2]
      rw [hs1]
      simp only [KA, KB, KD, KE,  reduceCtorEq, if_false, if_true]
      rw [ec]
      simp only [KA, KB, KD, KE,  reduceCtorEq, if_false, if_true, ieq_dec, decide_true]
      unfold bitAt at hb
      rw [show min j 64 = j by omega, if_pos (by omega)] at hb
      rw [← hb, eqBitsV]
      simp only [KA, KB, KD, KE,  reduceCtorEq, if_false, if_true]
      exact ⟨_, rfl⟩
    · have hjw := plain.2 hin
      have hsel : ∀ (K : Ex → List AV → VH → Option R), bindJ (if 0 ≤ A - (lsb : Int) then some (Ex.normal, [AV.bool (decide (A - (lsb : Int) < (w : Int)))], H8) else some (Ex.normal, [AV.bool false], H8)) K = K .normal [.bool false] H8 := fun K => by
        by_cases h1 : 0 ≤ A - (lsb : Int)
        · rw [if_pos h1, decide_eq_false (show ¬ (A - (lsb : Int) < (w : Int)) by omega)]
          rfl
        · rw [if_neg h1]
          rfl
      rw [hsel]
      simp only [KA, KB, KD, KE,  reduceCtorEq, if_false, if_true]
      rw [ec]
      simp only [KA, KB, KD, KE,  reduceCtorEq, if_false, if_true, ieq_dec, decide_true]
      unfold bitAt at hb
      rw [if_neg (by omega)] at hb
      rw [← hb, eqBitsV]
      simp only [KA, KB, KD, KE,  reduceCtorEq, if_false, if_true]
      exact ⟨_, rfl⟩
end Go.Vm.Tryz
