/- BitsRefined on the machine. -/
import Derived.Test.YtieocmaaloaoaaaDoorBf
import Derived.Test.YtieocmaaloaoaaaDoorLd
namespace Go.Vm.Tryd
set_option linter.unusedSectionVars false
set_option linter.unusedSimpArgs false
set_option linter.unusedVariables false
set_option maxRecDepth 10000
/-- Both lists of results, and that the loop finds no difference. -/
theorem refined_lists (n : Nat) (hn : 60 ≤ n) {w u : Nat} {v x v1 x1 s y p p1 q : BitVec 64} (g : Bool) (hv : Vec w v x) (hp : Vec w p 0#64) (ap : Agree v x p) (hv1 : Vec w v1 x1) (hp1 : Vec w p1 0#64) (ap1 : Agree v1 x1 p1) (hs : Vec u s y) (hq : Vec u q 0#64) (aq : Agree s y q) :
    ∃ (W : Nat → Nat) (V X P : Nat → BitVec 64), (∀ i, i < 23 → Agree (V i) (X i) (P i)) ∧
      (∀ H : VH, H.Ok → ∃ H', vcall T ext promo (n + 1) 57 [bv w v x, bv w v1 x1, bv u s y, .bool g] H = some (.slice (some (H.next, 0)) 23 (some 23) 3, H') ∧ H'.Ok ∧ Keep (fun _ => False) H H' ∧ H'.next = H.next + 1 ∧
        ∀ i, i < 23 → H'.cells H.next (0 + i * 3) 3 = some [.int .i64 (W i : Int), .int .u64 (u64 (V i)), .int .u64 (u64 (X i))]) ∧
      ∀ H : VH, H.Ok → ∃ H', vcall T ext promo (n + 1) 57 [bv w p 0#64, bv w p1 0#64, bv u q 0#64, .bool g] H = some (.slice (some (H.next, 0)) 23 (some 23) 3, H') ∧ H'.Ok ∧ Keep (fun _ => False) H H' ∧ H'.next = H.next + 1 ∧
        ∀ i, i < 23 → H'.cells H.next (0 + i * 3) 3 = some [.int .i64 (W i : Int), .int .u64 (u64 (P i)), .int .u64 (u64 0#64)] := by
  obtain ⟨V0, X0, P0, a0, e0, f0⟩ := pair_not n hn hv hp ap
  obtain ⟨V1, X1, P1, a1, e1, f1⟩ := pair_and n hn hv hp ap hv1 hp1 ap1
  obtain ⟨V2, X2, P2, a2, e2, f2⟩ := pair_or n hn hv hp ap hv1 hp1 ap1
  obtain ⟨V3, X3, P3, a3, e3, f3⟩ := pair_xor n hn hv hp ap hv1 hp1 ap1
  obtain ⟨V4, X4, P4, a4, e4, f4⟩ := pair_redand n hn hv hp ap (known_and _)
  obtain ⟨V5, X5, P5, a5, e5, f5⟩ := pair_redor n hn hv hp ap
  obtain ⟨V6, X6, P6, a6, e6, f6⟩ := pair_redxor n hn hv hp ap
  obtain ⟨V7, X7, P7, a7, e7, f7⟩ := pair_lnot n hn hv hp ap
  obtain ⟨V8, X8, P8, a8, e8, f8⟩ := pair_land n hn hv hp ap hs hq aq
  obtain ⟨V9, X9, P9, a9, e9, f9⟩ := pair_lor n hn hv hp ap hs hq aq
  obtain ⟨V10, X10, P10, a10, e10, f10⟩ := pair_neg n hn hv hp ap
  obtain ⟨V11, X11, P11, a11, e11, f11⟩ := pair_add n hn hv hp ap hv1 hp1 ap1
  obtain ⟨V12, X12, P12, a12, e12, f12⟩ := pair_sub n hn hv hp ap hv1 hp1 ap1
  obtain ⟨V13, X13, P13, a13, e13, f13⟩ := pair_mul n hn hv hp ap hv1 hp1 ap1
  obtain ⟨V14, X14, P14, a14, e14, f14⟩ := pair_shl n hn hv hp ap hs hq aq
  obtain ⟨V15, X15, P15, a15, e15, f15⟩ := pair_shr n hn hv hp ap hs hq aq
  obtain ⟨V16, X16, P16, a16, e16, f16⟩ := pair_sar n hn hv hp ap hs hq aq
  obtain ⟨V17, X17, P17, a17, e17, f17⟩ := pair_eq n hn hv hp ap hv1 hp1 ap1
  obtain ⟨V18, X18, P18, a18, e18, f18⟩ := pair_ne n hn hv hp ap hv1 hp1 ap1
  obtain ⟨V19, X19, P19, a19, e19, f19⟩ := pair_lt n hn hv hp ap hv1 hp1 ap1 g
  obtain ⟨V20, X20, P20, a20, e20, f20⟩ := pair_le n hn hv hp ap hv1 hp1 ap1 g
  obtain ⟨V21, X21, P21, a21, e21, f21⟩ := pair_cond n hn hs hq aq hv hp ap hv1 hp1 ap1
  obtain ⟨V22, X22, P22, a22, e22, f22⟩ := pair_resize n hn hv hp ap (wide_zero w) g
  refine ⟨fun i => [w, w, w, w, 1, 1, 1, 1, 1, 1, w, w, w, w, w, w, w, 1, 1, 1, 1, w, 64].getD i 0, fun i => [V0, V1, V2, V3, V4, V5, V6, V7, V8, V9, V10, V11, V12, V13, V14, V15, V16, V17, V18, V19, V20, V21, V22].getD i 0#64, fun i => [X0, X1, X2, X3, X4, X5, X6, X7, X8, X9, X10, X11, X12, X13, X14, X15, X16, X17, X18, X19, X20, X21, X22].getD i 0#64, fun i => [P0, P1, P2, P3, P4, P5, P6, P7, P8, P9, P10, P11, P12, P13, P14, P15, P16, P17, P18, P19, P20, P21, P22].getD i 0#64, ?_, fun H hH => ?_, fun H hH => ?_⟩
  · intro i hi
    rcases i with _ | i
    · exact a0
    rcases i with _ | i
    · exact a1
    rcases i with _ | i
    · exact a2
    rcases i with _ | i
    · exact a3
    rcases i with _ | i
    · exact a4
    rcases i with _ | i
    · exact a5
    rcases i with _ | i
    · exact a6
    rcases i with _ | i
    · exact a7
    rcases i with _ | i
    · exact a8
    rcases i with _ | i
    · exact a9
    rcases i with _ | i
    · exact a10
    rcases i with _ | i
    · exact a11
    rcases i with _ | i
    · exact a12
    rcases i with _ | i
    · exact a13
    rcases i with _ | i
    · exact a14
    rcases i with _ | i
    · exact a15
    rcases i with _ | i
    · exact a16
    rcases i with _ | i
    · exact a17
    rcases i with _ | i
    · exact a18
    rcases i with _ | i
    · exact a19
    rcases i with _ | i
    · exact a20
    rcases i with _ | i
    · exact a21
    rcases i with _ | i
    · exact a22
    · omega
  · exact results_go n _ _ _ g e0 e1 e2 e3 e4 e5 e6 e7 e8 e9 e10 e11 e12 e13 e14 e15 e16 e17 e18 e19 e20 e21 e22 hH
  · exact results_go n _ _ (fun _ => 0#64) g f0 f1 f2 f3 f4 f5 f6 f7 f8 f9 f10 f11 f12 f13 f14 f15 f16 f17 f18 f19 f20 f21 f22 hH

theorem Drawn.plain {H H' : VH} {b k q : Nat} {cs : List AV} (d : Drawn H H' b k) (hp : Plain H q cs) (hH : H.Ok) (hq : q ≠ b) : Plain H' q cs ∧ allSame H H' [q] = true :=
  ⟨hp.keep hH d.keep hq, same_keep hp hH d.keep hq⟩
theorem bitsRefined_vm (n : Nat) (hn : 1000 ≤ n) {H : VH} (hH : H.Ok) (a : Option (Nat × Nat)) (l : Nat) (c : Option Nat) (e : Nat) (hN : Nums H H.next a l) :
    ∃ H', vcall T ext promo n 10 [.slice a l c e] H = some (.bool true, H') := by
  obtain ⟨n, rfl⟩ : ∃ m, n = m + 2 := ⟨n - 2, by omega⟩
  obtain ⟨o2, s2⟩ := start hH c e hN
  generalize hH2 : H.lo.fresh [.slice a l c e, .int .i64 0] = H2 at o2 s2
  have n2 : H2.next = H.next + 1 := by rw [← hH2]; rfl
  have o3 := fresh_ok o2 [.ptr none]
  have p3 := fresh_plain o2 [.ptr none]
  obtain ⟨H4, e4, p4, k4, o4, l4, n4⟩ := p3.puts1 o3 0 (by simp) (.ptr (some (H.next, 0))) rfl
  simp only [List.set_cons_zero] at p4
  have k24 : Keep (· = H2.next) H2 H4 := (Keep.fresh _ _ _).trans k4
  have s4 : StB H4 H.next 0 := s2.keep o2 k24 fun x hx e => by omega
  have hq : H2.next ≠ H.next := by omega
  obtain ⟨w, H5, e5, w1, w2, d5⟩ := width_ok (n + 1) (by omega) o4 s4 (by omega)
  obtain ⟨p5, _⟩ := d5.plain p4 o4 hq
  obtain ⟨v, x, H6, e6, hv, d6⟩ := bits_ok (n + 1) (by omega) d5.ok d5.st (by omega) w ⟨w1, w2⟩
  obtain ⟨p6, m6⟩ := d6.plain p5 d5.ok hq
  obtain ⟨v1, x1, H7, e7, hv1, d7⟩ := bits_ok (n + 1) (by omega) d6.ok d6.st (by omega) w ⟨w1, w2⟩
  obtain ⟨p7, m7⟩ := d7.plain p6 d6.ok hq
  obtain ⟨r, H8, e8, r1, r2, d8⟩ := range_ok (n + 1) (by omega) d7.ok d7.st (by omega) 1 4 (by omega) (by omega) (by omega)
  obtain ⟨p8, m8⟩ := d8.plain p7 d7.ok hq
  obtain ⟨u, rfl⟩ : ∃ u : Nat, r = (u : Int) := ⟨r.toNat, by omega⟩
  obtain ⟨s, y, H9, e9, hs, d9⟩ := bits_ok (n + 1) (by omega) d8.ok d8.st (by omega) u ⟨by omega, by omega⟩
  obtain ⟨p9, m9⟩ := d9.plain p8 d8.ok hq
  obtain ⟨g, H10, e10, d10⟩ := flip_ok (n + 1) (by omega) d9.ok d9.st (by omega) 2 (by omega)
  obtain ⟨p10, m10⟩ := d10.plain p9 d9.ok hq
  obtain ⟨z, H11, e11, d11⟩ := fix_ok (n + 1) (by omega) d10.ok d10.st (by omega) (p10.cell 0) hv
  obtain ⟨p11, m11⟩ := d11.plain p10 d10.ok hq
  obtain ⟨z1, H12, e12, d12⟩ := fix_ok (n + 1) (by omega) d11.ok d11.st (by omega) (p11.cell 0) hv1
  obtain ⟨p12, m12⟩ := d12.plain p11 d11.ok hq
  obtain ⟨z2, H13, e13, d13⟩ := fix_ok (n + 1) (by omega) d12.ok d12.st (by omega) (p12.cell 0) hs
  obtain ⟨W, V, X, P, hA, t1, t2⟩ := refined_lists n (by omega) g hv (fix_vec (y := z) hv) (agree_fix v x z) hv1 (fix_vec (y := z1) hv1) (agree_fix v1 x1 z1) hs (fix_vec (y := z2) hs) (agree_fix s y z2)
  obtain ⟨H14, e14, o14, k14, n14, c14⟩ := t1 H13 d13.ok
  obtain ⟨H15, e15, o15, k15, n15, c15⟩ := t2 H14 o14
  have c14' : ∀ i, i < 23 → H15.cells H13.next (0 + i * 3) 3 = some [.int .i64 (W i : Int), .int .u64 (u64 (V i)), .int .u64 (u64 (X i))] := fun i hi => by
    rw [keep_cells k15 o14 (by omega) (fun h => h)]
    exact c14 i hi
  have lp := refined_loop (n + 1) hA c14' c15 (n + 1) 0 (by omega) (by omega)
  have j := joined_ok (n + 1) (by omega) o15
  refine ⟨_, ok10 _ _ _ _ _ _ (r := (.bool true, leave H H15 (.bool true))) ?_⟩
  unfold F10
  simp only [letH_mk, lo_next]
  rw [hH2, e4]
  simp only [letH_mk, bindC_mk, bindV_mk, bindL_mk, bindH_mk, bindJ_mk, asB_mk, asI_mk, asS_mk, asP_mk, asSl_mk, asA_mk, asTu_mk, asSome_mk, unc_mk, endL_mk, selC_eq, condT_eq, sel_eq, letN_mk, letB_mk, case_nn, case_nr, case_ne, case_rn, case_rr, case_re, case_en, case_er, case_ee, iand_u64, ior_u64, ixor_u64, iandn_u64, inot_u64, ieq_u64_0, ieq_u64, decide_eq_true_eq, Bool.not_true, Bool.not_false, Bool.false_eq_true, if_false, if_true, Bool.not_eq_true', decide_eq_false_iff_not, ilt_eq, ile_eq, reduceCtorEq, not_false_eq_true, not_true_eq_false, p4.cell, List.getElem?_cons_zero]
  rw [e5]
  simp only [letH_mk, bindC_mk, bindV_mk, bindL_mk, bindH_mk, bindJ_mk, asB_mk, asI_mk, asS_mk, asP_mk, asSl_mk, asA_mk, asTu_mk, asSome_mk, unc_mk, endL_mk, selC_eq, condT_eq, sel_eq, letN_mk, letB_mk, case_nn, case_nr, case_ne, case_rn, case_rr, case_re, case_en, case_er, case_ee, iand_u64, ior_u64, ixor_u64, iandn_u64, inot_u64, ieq_u64_0, ieq_u64, decide_eq_true_eq, Bool.not_true, Bool.not_false, Bool.false_eq_true, if_false, if_true, Bool.not_eq_true', decide_eq_false_iff_not, ilt_eq, ile_eq, reduceCtorEq, not_false_eq_true, not_true_eq_false, p5.cell, List.getElem?_cons_zero]
  rw [e6]
  simp only [letH_mk, bindC_mk, bindV_mk, bindL_mk, bindH_mk, bindJ_mk, asB_mk, asI_mk, asS_mk, asP_mk, asSl_mk, asA_mk, asTu_mk, asSome_mk, unc_mk, endL_mk, selC_eq, condT_eq, sel_eq, letN_mk, letB_mk, case_nn, case_nr, case_ne, case_rn, case_rr, case_re, case_en, case_er, case_ee, iand_u64, ior_u64, ixor_u64, iandn_u64, inot_u64, ieq_u64_0, ieq_u64, decide_eq_true_eq, Bool.not_true, Bool.not_false, Bool.false_eq_true, if_false, if_true, Bool.not_eq_true', decide_eq_false_iff_not, ilt_eq, ile_eq, reduceCtorEq, not_false_eq_true, not_true_eq_false, p6.cell, List.getElem?_cons_zero]
  rw [if_pos (by simp [freeOf, Tag.free, m6])]
  rw [e7]
  simp only [letH_mk, bindC_mk, bindV_mk, bindL_mk, bindH_mk, bindJ_mk, asB_mk, asI_mk, asS_mk, asP_mk, asSl_mk, asA_mk, asTu_mk, asSome_mk, unc_mk, endL_mk, selC_eq, condT_eq, sel_eq, letN_mk, letB_mk, case_nn, case_nr, case_ne, case_rn, case_rr, case_re, case_en, case_er, case_ee, iand_u64, ior_u64, ixor_u64, iandn_u64, inot_u64, ieq_u64_0, ieq_u64, decide_eq_true_eq, Bool.not_true, Bool.not_false, Bool.false_eq_true, if_false, if_true, Bool.not_eq_true', decide_eq_false_iff_not, ilt_eq, ile_eq, reduceCtorEq, not_false_eq_true, not_true_eq_false, p7.cell, List.getElem?_cons_zero]
  rw [if_pos (by simp [freeOf, Tag.free, m6, m7]), if_pos (by simp [freeOf, Tag.free, m6, m7])]
  rw [e8]
  simp only [letH_mk, bindC_mk, bindV_mk, bindL_mk, bindH_mk, bindJ_mk, asB_mk, asI_mk, asS_mk, asP_mk, asSl_mk, asA_mk, asTu_mk, asSome_mk, unc_mk, endL_mk, selC_eq, condT_eq, sel_eq, letN_mk, letB_mk, case_nn, case_nr, case_ne, case_rn, case_rr, case_re, case_en, case_er, case_ee, iand_u64, ior_u64, ixor_u64, iandn_u64, inot_u64, ieq_u64_0, ieq_u64, decide_eq_true_eq, Bool.not_true, Bool.not_false, Bool.false_eq_true, if_false, if_true, Bool.not_eq_true', decide_eq_false_iff_not, ilt_eq, ile_eq, reduceCtorEq, not_false_eq_true, not_true_eq_false, p8.cell, List.getElem?_cons_zero]
  rw [if_pos (by simp [freeOf, Tag.free, m6, m7, m8, show Nat.testBit 191 5 = true from rfl, show Nat.testBit 191 2 = true from rfl])]
  rw [e9]
  simp only [letH_mk, bindC_mk, bindV_mk, bindL_mk, bindH_mk, bindJ_mk, asB_mk, asI_mk, asS_mk, asP_mk, asSl_mk, asA_mk, asTu_mk, asSome_mk, unc_mk, endL_mk, selC_eq, condT_eq, sel_eq, letN_mk, letB_mk, case_nn, case_nr, case_ne, case_rn, case_rr, case_re, case_en, case_er, case_ee, iand_u64, ior_u64, ixor_u64, iandn_u64, inot_u64, ieq_u64_0, ieq_u64, decide_eq_true_eq, Bool.not_true, Bool.not_false, Bool.false_eq_true, if_false, if_true, Bool.not_eq_true', decide_eq_false_iff_not, ilt_eq, ile_eq, reduceCtorEq, not_false_eq_true, not_true_eq_false, p9.cell, List.getElem?_cons_zero]
  rw [e10]
  simp only [letH_mk, bindC_mk, bindV_mk, bindL_mk, bindH_mk, bindJ_mk, asB_mk, asI_mk, asS_mk, asP_mk, asSl_mk, asA_mk, asTu_mk, asSome_mk, unc_mk, endL_mk, selC_eq, condT_eq, sel_eq, letN_mk, letB_mk, case_nn, case_nr, case_ne, case_rn, case_rr, case_re, case_en, case_er, case_ee, iand_u64, ior_u64, ixor_u64, iandn_u64, inot_u64, ieq_u64_0, ieq_u64, decide_eq_true_eq, Bool.not_true, Bool.not_false, Bool.false_eq_true, if_false, if_true, Bool.not_eq_true', decide_eq_false_iff_not, ilt_eq, ile_eq, reduceCtorEq, not_false_eq_true, not_true_eq_false]
  rw [e11]
  simp only [letH_mk, bindC_mk, bindV_mk, bindL_mk, bindH_mk, bindJ_mk, asB_mk, asI_mk, asS_mk, asP_mk, asSl_mk, asA_mk, asTu_mk, asSome_mk, unc_mk, endL_mk, selC_eq, condT_eq, sel_eq, letN_mk, letB_mk, case_nn, case_nr, case_ne, case_rn, case_rr, case_re, case_en, case_er, case_ee, iand_u64, ior_u64, ixor_u64, iandn_u64, inot_u64, ieq_u64_0, ieq_u64, decide_eq_true_eq, Bool.not_true, Bool.not_false, Bool.false_eq_true, if_false, if_true, Bool.not_eq_true', decide_eq_false_iff_not, ilt_eq, ile_eq, reduceCtorEq, not_false_eq_true, not_true_eq_false]
  rw [e12]
  simp only [letH_mk, bindC_mk, bindV_mk, bindL_mk, bindH_mk, bindJ_mk, asB_mk, asI_mk, asS_mk, asP_mk, asSl_mk, asA_mk, asTu_mk, asSome_mk, unc_mk, endL_mk, selC_eq, condT_eq, sel_eq, letN_mk, letB_mk, case_nn, case_nr, case_ne, case_rn, case_rr, case_re, case_en, case_er, case_ee, iand_u64, ior_u64, ixor_u64, iandn_u64, inot_u64, ieq_u64_0, ieq_u64, decide_eq_true_eq, Bool.not_true, Bool.not_false, Bool.false_eq_true, if_false, if_true, Bool.not_eq_true', decide_eq_false_iff_not, ilt_eq, ile_eq, reduceCtorEq, not_false_eq_true, not_true_eq_false]
  rw [e13]
  simp only [letH_mk, bindC_mk, bindV_mk, bindL_mk, bindH_mk, bindJ_mk, asB_mk, asI_mk, asS_mk, asP_mk, asSl_mk, asA_mk, asTu_mk, asSome_mk, unc_mk, endL_mk, selC_eq, condT_eq, sel_eq, letN_mk, letB_mk, case_nn, case_nr, case_ne, case_rn, case_rr, case_re, case_en, case_er, case_ee, iand_u64, ior_u64, ixor_u64, iandn_u64, inot_u64, ieq_u64_0, ieq_u64, decide_eq_true_eq, Bool.not_true, Bool.not_false, Bool.false_eq_true, if_false, if_true, Bool.not_eq_true', decide_eq_false_iff_not, ilt_eq, ile_eq, reduceCtorEq, not_false_eq_true, not_true_eq_false]
  rw [e14]
  simp only [letH_mk, bindC_mk, bindV_mk, bindL_mk, bindH_mk, bindJ_mk, asB_mk, asI_mk, asS_mk, asP_mk, asSl_mk, asA_mk, asTu_mk, asSome_mk, unc_mk, endL_mk, selC_eq, condT_eq, sel_eq, letN_mk, letB_mk, case_nn, case_nr, case_ne, case_rn, case_rr, case_re, case_en, case_er, case_ee, iand_u64, ior_u64, ixor_u64, iandn_u64, inot_u64, ieq_u64_0, ieq_u64, decide_eq_true_eq, Bool.not_true, Bool.not_false, Bool.false_eq_true, if_false, if_true, Bool.not_eq_true', decide_eq_false_iff_not, ilt_eq, ile_eq, reduceCtorEq, not_false_eq_true, not_true_eq_false]
  rw [e15]
  simp only [letH_mk, bindC_mk, bindV_mk, bindL_mk, bindH_mk, bindJ_mk, asB_mk, asI_mk, asS_mk, asP_mk, asSl_mk, asA_mk, asTu_mk, asSome_mk, unc_mk, endL_mk, selC_eq, condT_eq, sel_eq, letN_mk, letB_mk, case_nn, case_nr, case_ne, case_rn, case_rr, case_re, case_en, case_er, case_ee, iand_u64, ior_u64, ixor_u64, iandn_u64, inot_u64, ieq_u64_0, ieq_u64, decide_eq_true_eq, Bool.not_true, Bool.not_false, Bool.false_eq_true, if_false, if_true, Bool.not_eq_true', decide_eq_false_iff_not, ilt_eq, ile_eq, reduceCtorEq, not_false_eq_true, not_true_eq_false]
  rw [show (.int .i64 0 : AV) = .int .i64 ((0 : Nat) : Int) from rfl, lp]
  simp only [letH_mk, bindC_mk, bindV_mk, bindL_mk, bindH_mk, bindJ_mk, asB_mk, asI_mk, asS_mk, asP_mk, asSl_mk, asA_mk, asTu_mk, asSome_mk, unc_mk, endL_mk, selC_eq, condT_eq, sel_eq, letN_mk, letB_mk, case_nn, case_nr, case_ne, case_rn, case_rr, case_re, case_en, case_er, case_ee, iand_u64, ior_u64, ixor_u64, iandn_u64, inot_u64, ieq_u64_0, ieq_u64, decide_eq_true_eq, Bool.not_true, Bool.not_false, Bool.false_eq_true, if_false, if_true, Bool.not_eq_true', decide_eq_false_iff_not, ilt_eq, ile_eq, reduceCtorEq, not_false_eq_true, not_true_eq_false]
  rw [j]
  simp only [letH_mk, bindC_mk, bindV_mk, bindL_mk, bindH_mk, bindJ_mk, asB_mk, asI_mk, asS_mk, asP_mk, asSl_mk, asA_mk, asTu_mk, asSome_mk, unc_mk, endL_mk, selC_eq, condT_eq, sel_eq, letN_mk, letB_mk, case_nn, case_nr, case_ne, case_rn, case_rr, case_re, case_en, case_er, case_ee, iand_u64, ior_u64, ixor_u64, iandn_u64, inot_u64, ieq_u64_0, ieq_u64, decide_eq_true_eq, Bool.not_true, Bool.not_false, Bool.false_eq_true, if_false, if_true, Bool.not_eq_true', decide_eq_false_iff_not, ilt_eq, ile_eq, reduceCtorEq, not_false_eq_true, not_true_eq_false]
  rfl
end Go.Vm.Tryd
