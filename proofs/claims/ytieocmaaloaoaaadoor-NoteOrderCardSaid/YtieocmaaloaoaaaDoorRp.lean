/- strings.ReplaceAll of one byte by another one. -/
import Derived.Test.YtieocmaaloaoaaaDoorSb
import Derived.Test.YtieocmaaloaoaaaDoorSt
namespace Go.Vm.Tryd
set_option linter.unusedSectionVars false
set_option linter.unusedSimpArgs false
set_option linter.unusedVariables false
set_option maxRecDepth 10000
def repl1 (a b : UInt8) (l : List UInt8) : List UInt8 := l.map fun x => if x = a then b else x
theorem index_spec (c : UInt8) : ∀ l : List UInt8, 0 < l.count c → ∃ m : Nat, Lib.indexByte l c = (m : Int) ∧ m < l.length ∧ (∀ b, repl1 c b (l.take (m + 1)) = l.take m ++ [b]) ∧ (l.drop (m + 1)).count c + 1 = l.count c
  | [], h => by simp at h
  | x :: l, h => by
    by_cases e : x = c
    · subst e
      exact ⟨0, by simp [Lib.indexByte], by simp, fun b => by simp [repl1], by simp⟩
    · rw [List.count_cons_of_ne e] at h
      obtain ⟨m, h1, h2, h3, h4⟩ := index_spec c l h
      refine ⟨m + 1, ?_, by simpa using h2, fun b => ?_, ?_⟩
      · unfold Lib.indexByte
        rw [h1]
        simp [e]
      · have := h3 b
        simp only [repl1, List.take_succ_cons, List.map_cons, e, if_false, List.cons_append] at this ⊢
        rw [this]
      · rw [List.drop_succ_cons, h4, List.count_cons_of_ne e]
theorem repl1_none (a b : UInt8) : ∀ l : List UInt8, l.count a = 0 → repl1 a b l = l
  | [], _ => rfl
  | x :: l, h => by
    by_cases e : x = a
    · subst e; simp at h
    · rw [List.count_cons_of_ne e] at h
      have := repl1_none a b l h
      simp only [repl1, List.map_cons, e, if_false] at this ⊢
      rw [this]
theorem repl1_len (a b : UInt8) (l : List UInt8) : (repl1 a b l).length = l.length := by simp [repl1]
theorem repl1_app (a b : UInt8) (l r : List UInt8) : repl1 a b (l ++ r) = repl1 a b l ++ repl1 a b r := by simp [repl1]
theorem replace_loop (n : Nat) (hn : 30 ≤ n) (a b : UInt8) (s : List UInt8) (hs : s.length < 100000000) {H0 : VH} (M : Nat) (hM : M < 1000000000) :
    ∀ (m i st : Nat) (H : VH) (cs : List AV) (c : AV), H.Ok → st ≤ s.length → i ≤ M → M - i < m → (s.drop st).count a = M - i → Bld H H0.next 0 169 cs c (repl1 a b (s.take st)) → cs.length = 2 →
      ∃ (st' : Nat) (H' : VH) (cs' : List AV) (c' : AV), loopN (L157_0 (vcall T ext promo n) n (PS.of s) (PS.of [a]) (PS.of [b]) H0 (M : Int)) m [.int .i64 (st : Int), .int .i64 (i : Int)] H = some (.exit 0, [.int .i64 (st' : Int)], H') ∧
        st' ≤ s.length ∧ (s.drop st').count a = 0 ∧ Bld H' H0.next 0 169 cs' c' (repl1 a b (s.take st')) ∧ cs'.length = 2 ∧ Eff (fun x => x = H0.next ∨ BufAt c x) H H' ∧ (∀ x, BufAt c' x → BufAt c x ∨ H.next ≤ x) ∧ st ≤ st' ∧ (i < M → st < st') := by
  intro m
  induction m with
  | zero => intro i st H cs c _ _ _ h; omega
  | succ m ih =>
    intro i st H cs c hH hst hi hm hc hb hcs
    rw [loopN_succ]
    generalize hlp : loopN (L157_0 (vcall T ext promo n) n (PS.of s) (PS.of [a]) (PS.of [b]) H0 (M : Int)) m = lp at ih ⊢
    unfold L157_0
    simp only [letH_mk, bindC_mk, bindV_mk, bindH_mk, bindJ_mk, asB_mk, asI_mk, asS_mk, asP_mk, asSl_mk, asA_mk, asTu_mk, asSome_mk, unc_mk, endL_mk, selC_eq, condT_eq, letN_mk, letB_mk, case_nn, case_nr, case_ne, case_rn, case_rr, case_re, case_en, case_er, case_ee, decide_eq_true_eq, Bool.not_true, Bool.not_false, Bool.false_eq_true, if_false, if_true, Bool.not_eq_true', decide_eq_false_iff_not, ilt_eq, ile_eq, reduceCtorEq, not_false_eq_true, not_true_eq_false]
    by_cases h : i < M
    · obtain ⟨k, h1, h2, h3, h4⟩ := index_spec a (s.drop st) (by omega)
      have hk : k < s.length - st := by simpa using h2
      have htk : s.take (st + k) = s.take st ++ (s.drop st).take k := by rw [List.take_add]
      have htk1 : s.take (st + k + 1) = s.take st ++ (s.drop st).take (k + 1) := by rw [Nat.add_assoc, List.take_add]
      obtain ⟨c1, H1, e1, b1, k1, r1⟩ := write_ok n (by omega) hH hb ((s.drop st).take k) (by rw [repl1_len]; simp; omega)
      obtain ⟨c2, H2, e2, b2, k2, r2⟩ := write_ok n (by omega) k1.ok b1 [b] (by rw [List.length_append, repl1_len]; simp; omega)
      have hcont : repl1 a b (s.take st) ++ (s.drop st).take k ++ [b] = repl1 a b (s.take (st + k + 1)) := by
        rw [htk1, repl1_app, h3 b, List.append_assoc]
      rw [hcont] at b2
      have h5 : (s.drop (st + k + 1)).count a = M - (i + 1) := by
        rw [List.drop_drop] at h4
        have : st + (k + 1) = st + k + 1 := by omega
        rw [this] at h4
        omega
      obtain ⟨st', H', cs', c', q1, q2, q3, q4, q5, q6, q7, q8, q9⟩ := ih (i + 1) (st + k + 1) H2 _ c2 k2.ok (by omega) (by omega) (by omega) h5 b2 (by simp [hcs])
      refine ⟨st', H', cs', c', ?_, q2, q3, q4, q5, ?_, fun x hx => ?_, by omega, fun _ => by omega⟩
      · rw [if_pos (by omega), slStrF _ _ _ hst]
        simp only [letH_mk, bindC_mk, bindV_mk, bindH_mk, bindJ_mk, asB_mk, asI_mk, asS_mk, asP_mk, asSl_mk, asA_mk, asTu_mk, asSome_mk, unc_mk, endL_mk, selC_eq, condT_eq, letN_mk, letB_mk, case_nn, case_nr, case_ne, case_rn, case_rr, case_re, case_en, case_er, case_ee, decide_eq_true_eq, Bool.not_true, Bool.not_false, Bool.false_eq_true, if_false, if_true, Bool.not_eq_true', decide_eq_false_iff_not, ilt_eq, ile_eq, reduceCtorEq, not_false_eq_true, not_true_eq_false]
        rw [index1_ok n (by omega), h1]
        simp only [letH_mk, bindC_mk, bindV_mk, bindH_mk, bindJ_mk, asB_mk, asI_mk, asS_mk, asP_mk, asSl_mk, asA_mk, asTu_mk, asSome_mk, unc_mk, endL_mk, selC_eq, condT_eq, letN_mk, letB_mk, case_nn, case_nr, case_ne, case_rn, case_rr, case_re, case_en, case_er, case_ee, decide_eq_true_eq, Bool.not_true, Bool.not_false, Bool.false_eq_true, if_false, if_true, Bool.not_eq_true', decide_eq_false_iff_not, ilt_eq, ile_eq, reduceCtorEq, not_false_eq_true, not_true_eq_false]
        rw [show (st : Int) + (k : Int) = ((st + k : Nat) : Int) by omega, fw_i64 (by omega) (by omega), slStr _ _ _ _ (by omega) (by omega), Nat.add_sub_cancel_left]
        simp only [letH_mk, bindC_mk, bindV_mk, bindH_mk, bindJ_mk, asB_mk, asI_mk, asS_mk, asP_mk, asSl_mk, asA_mk, asTu_mk, asSome_mk, unc_mk, endL_mk, selC_eq, condT_eq, letN_mk, letB_mk, case_nn, case_nr, case_ne, case_rn, case_rr, case_re, case_en, case_er, case_ee, decide_eq_true_eq, Bool.not_true, Bool.not_false, Bool.false_eq_true, if_false, if_true, Bool.not_eq_true', decide_eq_false_iff_not, ilt_eq, ile_eq, reduceCtorEq, not_false_eq_true, not_true_eq_false]
        rw [e1]
        simp only [letH_mk, bindC_mk, bindV_mk, bindH_mk, bindJ_mk, asB_mk, asI_mk, asS_mk, asP_mk, asSl_mk, asA_mk, asTu_mk, asSome_mk, unc_mk, endL_mk, selC_eq, condT_eq, letN_mk, letB_mk, case_nn, case_nr, case_ne, case_rn, case_rr, case_re, case_en, case_er, case_ee, decide_eq_true_eq, Bool.not_true, Bool.not_false, Bool.false_eq_true, if_false, if_true, Bool.not_eq_true', decide_eq_false_iff_not, ilt_eq, ile_eq, reduceCtorEq, not_false_eq_true, not_true_eq_false]
        rw [e2]
        simp only [letH_mk, bindC_mk, bindV_mk, bindH_mk, bindJ_mk, asB_mk, asI_mk, asS_mk, asP_mk, asSl_mk, asA_mk, asTu_mk, asSome_mk, unc_mk, endL_mk, selC_eq, condT_eq, letN_mk, letB_mk, case_nn, case_nr, case_ne, case_rn, case_rr, case_re, case_en, case_er, case_ee, decide_eq_true_eq, Bool.not_true, Bool.not_false, Bool.false_eq_true, if_false, if_true, Bool.not_eq_true', decide_eq_false_iff_not, ilt_eq, ile_eq, reduceCtorEq, not_false_eq_true, not_true_eq_false, of_len, List.length_singleton]
        rw [show ((st + k : Nat) : Int) + ((1 : Nat) : Int) = ((st + k + 1 : Nat) : Int) by omega, fw_i64 (by omega) (by omega), show (i : Int) + 1 = ((i + 1 : Nat) : Int) by omega, fw_i64 (by omega) (by omega)]
        exact q1
      · refine (k1.trans k2 fun x hx => ?_).trans q6 fun x hx => ?_
        · rcases hx with hx | hx
          · exact .inl (.inl hx)
          · exact (r1 x hx).imp .inr id
        · rcases hx with hx | hx
          · exact .inl (.inl hx)
          · rcases r2 x hx with g | g
            · exact (r1 x g).imp .inr id
            · exact .inr (Nat.le_trans k1.keep.next g)
      · rcases q7 x hx with g | g
        · rcases r2 x g with g | g
          · exact r1 x g
          · exact .inr (Nat.le_trans k1.keep.next g)
        · exact .inr (Nat.le_trans (Nat.le_trans k1.keep.next k2.keep.next) g)
    · rw [if_neg (by omega)]
      exact ⟨st, H, cs, c, rfl, hst, by omega, hb, hcs, .refl hH, fun x hx => .inl hx, Nat.le_refl _, fun g => absurd g h⟩
theorem replaceAll1_ok (n : Nat) (s : List UInt8) (hn : s.length + 60 ≤ n) (hs : s.length < 100000000) (a b : UInt8) (hab : a ≠ b) {H : VH} (hH : H.Ok) :
    vcall T ext promo n 133 [.str (PS.of s), .str (PS.of [a]), .str (PS.of [b])] H = some (.str (PS.of (repl1 a b s)), H) := by
  obtain ⟨n, rfl⟩ : ∃ m, n = m + 2 := ⟨n - 2, by omega⟩
  have key : ∀ H : VH, H.Ok → vcall T ext promo (n + 1) 157 [.str (PS.of s), .str (PS.of [a]), .str (PS.of [b]), .int .i64 (-1)] H = some (.str (PS.of (repl1 a b s)), H) := by
    intro H hH
    have hcl : s.count a ≤ s.length := List.count_le_length ..
    by_cases h0 : s.count a = 0
    · refine ok157 _ _ _ _ _ _ ?_
      unfold F157
      simp only [letH_mk, bindC_mk, bindV_mk, bindH_mk, bindJ_mk, asB_mk, asI_mk, asS_mk, asP_mk, asSl_mk, asA_mk, asTu_mk, asSome_mk, unc_mk, endL_mk, selC_eq, condT_eq, letN_mk, letB_mk, case_nn, case_nr, case_ne, case_rn, case_rr, case_re, case_en, case_er, case_ee, decide_eq_true_eq, Bool.not_true, Bool.not_false, Bool.false_eq_true, if_false, if_true, Bool.not_eq_true', decide_eq_false_iff_not, ilt_eq, ile_eq, reduceCtorEq, not_false_eq_true, not_true_eq_false, str_eq, ieq_dec]
      rw [if_neg (by simpa using hab)]
      simp only [letH_mk, bindC_mk, bindV_mk, bindH_mk, bindJ_mk, asB_mk, asI_mk, asS_mk, asP_mk, asSl_mk, asA_mk, asTu_mk, asSome_mk, unc_mk, endL_mk, selC_eq, condT_eq, letN_mk, letB_mk, case_nn, case_nr, case_ne, case_rn, case_rr, case_re, case_en, case_er, case_ee, decide_eq_true_eq, Bool.not_true, Bool.not_false, Bool.false_eq_true, if_false, if_true, Bool.not_eq_true', decide_eq_false_iff_not, ilt_eq, ile_eq, reduceCtorEq, not_false_eq_true, not_true_eq_false, show decide ((-1 : Int) = 0) = false from rfl]
      rw [count1_ok n (by omega), h0]
      simp only [letH_mk, bindC_mk, bindV_mk, bindH_mk, bindJ_mk, asB_mk, asI_mk, asS_mk, asP_mk, asSl_mk, asA_mk, asTu_mk, asSome_mk, unc_mk, endL_mk, selC_eq, condT_eq, letN_mk, letB_mk, case_nn, case_nr, case_ne, case_rn, case_rr, case_re, case_en, case_er, case_ee, decide_eq_true_eq, Bool.not_true, Bool.not_false, Bool.false_eq_true, if_false, if_true, Bool.not_eq_true', decide_eq_false_iff_not, ilt_eq, ile_eq, reduceCtorEq, not_false_eq_true, not_true_eq_false, ieq_dec]
      rw [if_pos (show ((0 : Nat) : Int) = 0 from rfl)]
      simp only [letH_mk, bindC_mk, bindV_mk, bindH_mk, bindJ_mk, asB_mk, asI_mk, asS_mk, asP_mk, asSl_mk, asA_mk, asTu_mk, asSome_mk, unc_mk, endL_mk, selC_eq, condT_eq, letN_mk, letB_mk, case_nn, case_nr, case_ne, case_rn, case_rr, case_re, case_en, case_er, case_ee, decide_eq_true_eq, Bool.not_true, Bool.not_false, Bool.false_eq_true, if_false, if_true, Bool.not_eq_true', decide_eq_false_iff_not, ilt_eq, ile_eq, reduceCtorEq, not_false_eq_true, not_true_eq_false]
      rw [leave_flat rfl rfl, repl1_none a b s h0]
    · have o1 := lo_ok hH
      have o2 := freshT_ok o1 [.ptr none, .slice none 0 (some 0) 0] 169
      have p2 := freshT_plainT o1 [.ptr none, .slice none 0 (some 0) 0] 169
      have b2 : Bld (H.lo.freshT [.ptr none, .slice none 0 (some 0) 0] 169) H.lo.next 0 169 [.ptr none, .slice none 0 (some 0) 0] (.slice none 0 (some 0) 0) [] :=
        ⟨p2, ⟨by kernel_rfl, 2, sizeB, by decide, by decide⟩, .inl rfl, rfl, .inl ⟨rfl, rfl⟩, fun ⟨_, _, _, _, e⟩ => by cases e⟩
      obtain ⟨c3, cs3, H3, e3, b3, k3, r3, hcs3⟩ := growNew_ok n (by omega) o2 b2 s.length (by omega) (by omega)
      obtain ⟨st, H4, cs4, c4, e4, st4, hc4, b4, l4, k4, r4, _, hst⟩ := replace_loop n (by omega) a b s hs (H0 := H.lo) (s.count a) (by omega) n 0 0 H3 cs3 c3 k3.ok (by omega) (by omega) (by omega) (by simp) b3 (by rw [hcs3]; simp)
      obtain ⟨c5, H5, e5, b5, k5, r5⟩ := write_ok n (by omega) k4.ok b4 (s.drop st) (by rw [repl1_len]; simp; omega)
      have hcont : repl1 a b (s.take st) ++ s.drop st = repl1 a b s := by
        conv => rhs; rw [← List.take_append_drop st s]
        rw [repl1_app, repl1_none a b _ hc4]
      rw [hcont] at b5
      have hne : repl1 a b s ≠ [] := by
        intro e
        have := congrArg List.length e
        rw [repl1_len] at this
        simp at this
        subst this
        simp at h0
      obtain ⟨H6, e6, k6⟩ := string_ok n (by omega) k5.ok b5 (.inl hne) (by rw [repl1_len]; omega)
      have k26 : Eff (fun x => H.lo.next ≤ x) H.lo H6 := by
        refine (((Eff.freshT (fun x => H.lo.next ≤ x) o1 _ _).trans k3 fun x hx => ?_).trans k4 fun x hx => ?_).trans ((k5.trans k6 fun x hx => ?_)) fun x hx => ?_
        · exact .inr (Nat.le_of_eq hx.symm)
        · rcases hx with hx | hx
          · exact .inr (Nat.le_of_eq hx.symm)
          · have := r3 x hx
            simp only [freshT_next] at this
            exact .inr (by omega)
        · exact (r5 x hx).imp .inr id
        · rcases hx with hx | hx
          · exact .inr (Nat.le_of_eq hx.symm)
          · rcases r4 x hx with g | g
            · have := r3 x g
              simp only [freshT_next] at this
              exact .inr (by omega)
            · have := k3.keep.next
              simp only [freshT_next] at this
              exact .inr (by omega)
      have hlow := k26.flat fun x hx h => absurd (show H.next ≤ x from h) (by omega)
      refine ok157 _ _ _ _ _ _ ?_
      unfold F157
      simp only [letH_mk, bindC_mk, bindV_mk, bindH_mk, bindJ_mk, asB_mk, asI_mk, asS_mk, asP_mk, asSl_mk, asA_mk, asTu_mk, asSome_mk, unc_mk, endL_mk, selC_eq, condT_eq, letN_mk, letB_mk, case_nn, case_nr, case_ne, case_rn, case_rr, case_re, case_en, case_er, case_ee, decide_eq_true_eq, Bool.not_true, Bool.not_false, Bool.false_eq_true, if_false, if_true, Bool.not_eq_true', decide_eq_false_iff_not, ilt_eq, ile_eq, reduceCtorEq, not_false_eq_true, not_true_eq_false, str_eq, ieq_dec]
      rw [if_neg (by simpa using hab)]
      simp only [letH_mk, bindC_mk, bindV_mk, bindH_mk, bindJ_mk, asB_mk, asI_mk, asS_mk, asP_mk, asSl_mk, asA_mk, asTu_mk, asSome_mk, unc_mk, endL_mk, selC_eq, condT_eq, letN_mk, letB_mk, case_nn, case_nr, case_ne, case_rn, case_rr, case_re, case_en, case_er, case_ee, decide_eq_true_eq, Bool.not_true, Bool.not_false, Bool.false_eq_true, if_false, if_true, Bool.not_eq_true', decide_eq_false_iff_not, ilt_eq, ile_eq, reduceCtorEq, not_false_eq_true, not_true_eq_false, show decide ((-1 : Int) = 0) = false from rfl]
      rw [count1_ok n (by omega)]
      simp only [letH_mk, bindC_mk, bindV_mk, bindH_mk, bindJ_mk, asB_mk, asI_mk, asS_mk, asP_mk, asSl_mk, asA_mk, asTu_mk, asSome_mk, unc_mk, endL_mk, selC_eq, condT_eq, letN_mk, letB_mk, case_nn, case_nr, case_ne, case_rn, case_rr, case_re, case_en, case_er, case_ee, decide_eq_true_eq, Bool.not_true, Bool.not_false, Bool.false_eq_true, if_false, if_true, Bool.not_eq_true', decide_eq_false_iff_not, ilt_eq, ile_eq, reduceCtorEq, not_false_eq_true, not_true_eq_false, ieq_dec]
      rw [if_neg (by omega), if_pos (by omega)]
      simp only [letH_mk, bindC_mk, bindV_mk, bindH_mk, bindJ_mk, asB_mk, asI_mk, asS_mk, asP_mk, asSl_mk, asA_mk, asTu_mk, asSome_mk, unc_mk, endL_mk, selC_eq, condT_eq, letN_mk, letB_mk, case_nn, case_nr, case_ne, case_rn, case_rr, case_re, case_en, case_er, case_ee, decide_eq_true_eq, Bool.not_true, Bool.not_false, Bool.false_eq_true, if_false, if_true, Bool.not_eq_true', decide_eq_false_iff_not, ilt_eq, ile_eq, reduceCtorEq, not_false_eq_true, not_true_eq_false, of_len, List.length_singleton]
      rw [show fwrap .i64 (((1 : Nat) : Int) - ((1 : Nat) : Int)) = 0 from rfl, Int.mul_zero, show fwrap .i64 0 = 0 from rfl, Int.add_zero, fw_i64 (by omega) (by omega), e3]
      simp only [letH_mk, bindC_mk, bindV_mk, bindH_mk, bindJ_mk, asB_mk, asI_mk, asS_mk, asP_mk, asSl_mk, asA_mk, asTu_mk, asSome_mk, unc_mk, endL_mk, selC_eq, condT_eq, letN_mk, letB_mk, case_nn, case_nr, case_ne, case_rn, case_rr, case_re, case_en, case_er, case_ee, decide_eq_true_eq, Bool.not_true, Bool.not_false, Bool.false_eq_true, if_false, if_true, Bool.not_eq_true', decide_eq_false_iff_not, ilt_eq, ile_eq, reduceCtorEq, not_false_eq_true, not_true_eq_false]
      have hone : (0 : Int) < ((1 : Nat) : Int) := by omega
      simp only [hone, if_true]
      rw [show (.int .i64 0 : AV) = .int .i64 ((0 : Nat) : Int) from rfl, e4]
      simp only [letH_mk, bindC_mk, bindV_mk, bindH_mk, bindJ_mk, asB_mk, asI_mk, asS_mk, asP_mk, asSl_mk, asA_mk, asTu_mk, asSome_mk, unc_mk, endL_mk, selC_eq, condT_eq, letN_mk, letB_mk, case_nn, case_nr, case_ne, case_rn, case_rr, case_re, case_en, case_er, case_ee, decide_eq_true_eq, Bool.not_true, Bool.not_false, Bool.false_eq_true, if_false, if_true, Bool.not_eq_true', decide_eq_false_iff_not, ilt_eq, ile_eq, reduceCtorEq, not_false_eq_true, not_true_eq_false]
      rw [slStrF _ _ _ st4]
      simp only [letH_mk, bindC_mk, bindV_mk, bindH_mk, bindJ_mk, asB_mk, asI_mk, asS_mk, asP_mk, asSl_mk, asA_mk, asTu_mk, asSome_mk, unc_mk, endL_mk, selC_eq, condT_eq, letN_mk, letB_mk, case_nn, case_nr, case_ne, case_rn, case_rr, case_re, case_en, case_er, case_ee, decide_eq_true_eq, Bool.not_true, Bool.not_false, Bool.false_eq_true, if_false, if_true, Bool.not_eq_true', decide_eq_false_iff_not, ilt_eq, ile_eq, reduceCtorEq, not_false_eq_true, not_true_eq_false]
      rw [e5]
      simp only [letH_mk, bindC_mk, bindV_mk, bindH_mk, bindJ_mk, asB_mk, asI_mk, asS_mk, asP_mk, asSl_mk, asA_mk, asTu_mk, asSome_mk, unc_mk, endL_mk, selC_eq, condT_eq, letN_mk, letB_mk, case_nn, case_nr, case_ne, case_rn, case_rr, case_re, case_en, case_er, case_ee, decide_eq_true_eq, Bool.not_true, Bool.not_false, Bool.false_eq_true, if_false, if_true, Bool.not_eq_true', decide_eq_false_iff_not, ilt_eq, ile_eq, reduceCtorEq, not_false_eq_true, not_true_eq_false]
      rw [e6]
      simp only [letH_mk, bindC_mk, bindV_mk, bindH_mk, bindJ_mk, asB_mk, asI_mk, asS_mk, asP_mk, asSl_mk, asA_mk, asTu_mk, asSome_mk, unc_mk, endL_mk, selC_eq, condT_eq, letN_mk, letB_mk, case_nn, case_nr, case_ne, case_rn, case_rr, case_re, case_en, case_er, case_ee, decide_eq_true_eq, Bool.not_true, Bool.not_false, Bool.false_eq_true, if_false, if_true, Bool.not_eq_true', decide_eq_false_iff_not, ilt_eq, ile_eq, reduceCtorEq, not_false_eq_true, not_true_eq_false]
      rw [leave_flat hlow rfl]
  apply ok133
  unfold F133
  simp only [letH_mk]
  rw [key _ (lo_ok hH)]
  simp only [letH_mk, bindC_mk, bindV_mk, bindH_mk, bindJ_mk, asB_mk, asI_mk, asS_mk, asP_mk, asSl_mk, asA_mk, asTu_mk, asSome_mk, unc_mk, endL_mk, selC_eq, condT_eq, letN_mk, letB_mk, case_nn, case_nr, case_ne, case_rn, case_rr, case_re, case_en, case_er, case_ee, decide_eq_true_eq, Bool.not_true, Bool.not_false, Bool.false_eq_true, if_false, if_true, Bool.not_eq_true', decide_eq_false_iff_not, ilt_eq, ile_eq, reduceCtorEq, not_false_eq_true, not_true_eq_false]
  rw [leave_flat rfl rfl]
end Go.Vm.Tryd
