/- Vectors bit by bit: the reductions and their folds. -/
import Derived.Test.YtieocmaaloaoaaaDoorLw
namespace Go.Vm.Tryd
set_option linter.unusedSectionVars false
set_option linter.unusedSimpArgs false
set_option linter.unusedVariables false
set_option maxRecDepth 10000
/-- A bit of a vector as a number: 0, 1, or -1 for 'not known'. -/
def tri (b c : Bool) : Int := if c then -1 else if b then 1 else 0
theorem tri_cases (b c : Bool) : tri b c = 0 ∨ tri b c = 1 ∨ tri b c = -1 := by
  cases b <;> cases c <;> decide
def kand (s t : Int) : Int := if s = 0 ∨ t = 0 then 0 else if s = -1 ∨ t = -1 then -1 else 1
def kor (s t : Int) : Int := if s = 1 ∨ t = 1 then 1 else if s = -1 ∨ t = -1 then -1 else 0
def kxor (s t : Int) : Int := if s = -1 ∨ t = -1 then -1 else if s = t then 0 else 1
def bit1 (b : Bool) : BitVec 64 := if b then 1#64 else 0#64
theorem shr_bit (v : BitVec 64) (i : Nat) : v >>> i &&& bmask 1 = bit1 (v.getLsbD i) := by
  rw [show bmask 1 = 1#64 by decide, bit_one]
  rfl
theorem bit1_vec (b c : Bool) : Vec 1 (bit1 b) (bit1 c) := by
  refine ⟨by decide, by decide, fun i hi => ?_, fun i hi => ?_⟩
  · cases b
    · simp [bit1]
    · exact one_out i hi
  · cases c
    · simp [bit1]
    · exact one_out i hi
theorem kand_ok (n : Nat) (hn : 30 ≤ n) {s : Int} (hs : s = 0 ∨ s = 1 ∨ s = -1) (b c : Bool) {H : VH} (hH : H.Ok) :
    vcall T ext promo n 33 [bv 1 (tv s) (tx s), bv 1 (bit1 b) (bit1 c)] H = some (bv 1 (tv (kand s (tri b c))) (tx (kand s (tri b c))), H) := by
  rw [and_ok n hn (truth_vec hs) (bit1_vec b c) hH]
  have h : ∀ s : Int, (s = 0 ∨ s = 1 ∨ s = -1) → ((tv s &&& bit1 b &&& ~~~tx s &&& ~~~bit1 c ||| (tx s ||| bit1 c) &&& ~~~(~~~tv s &&& ~~~tx s ||| ~~~bit1 b &&& ~~~bit1 c)) &&& bmask 1 = tv (kand s (tri b c))) ∧ ((tx s ||| bit1 c) &&& ~~~(~~~tv s &&& ~~~tx s ||| ~~~bit1 b &&& ~~~bit1 c)) &&& bmask 1 = tx (kand s (tri b c)) := by
    intro s hs
    rcases hs with rfl | rfl | rfl <;> cases b <;> cases c <;> decide
  obtain ⟨h1, h2⟩ := h s hs
  unfold mk3
  rw [h1, h2]
theorem kor_ok (n : Nat) (hn : 30 ≤ n) {s : Int} (hs : s = 0 ∨ s = 1 ∨ s = -1) (b c : Bool) {H : VH} (hH : H.Ok) :
    vcall T ext promo n 34 [bv 1 (tv s) (tx s), bv 1 (bit1 b) (bit1 c)] H = some (bv 1 (tv (kor s (tri b c))) (tx (kor s (tri b c))), H) := by
  rw [or_ok n hn (truth_vec hs) (bit1_vec b c) hH]
  have h : ∀ s : Int, (s = 0 ∨ s = 1 ∨ s = -1) → ((tv s &&& ~~~tx s ||| bit1 b &&& ~~~bit1 c ||| (tx s ||| bit1 c) &&& ~~~(tv s &&& ~~~tx s ||| bit1 b &&& ~~~bit1 c)) &&& bmask 1 = tv (kor s (tri b c))) ∧ ((tx s ||| bit1 c) &&& ~~~(tv s &&& ~~~tx s ||| bit1 b &&& ~~~bit1 c)) &&& bmask 1 = tx (kor s (tri b c)) := by
    intro s hs
    rcases hs with rfl | rfl | rfl <;> cases b <;> cases c <;> decide
  obtain ⟨h1, h2⟩ := h s hs
  unfold mk3
  rw [h1, h2]
theorem kxor_ok (n : Nat) (hn : 30 ≤ n) {s : Int} (hs : s = 0 ∨ s = 1 ∨ s = -1) (b c : Bool) {H : VH} (hH : H.Ok) :
    vcall T ext promo n 35 [bv 1 (tv s) (tx s), bv 1 (bit1 b) (bit1 c)] H = some (bv 1 (tv (kxor s (tri b c))) (tx (kxor s (tri b c))), H) := by
  rw [xor_ok n hn (truth_vec hs) (bit1_vec b c) hH]
  have h : ∀ s : Int, (s = 0 ∨ s = 1 ∨ s = -1) → (((tv s ^^^ bit1 b) &&& ~~~(tx s ||| bit1 c) ||| (tx s ||| bit1 c)) &&& bmask 1 = tv (kxor s (tri b c))) ∧ (tx s ||| bit1 c) &&& bmask 1 = tx (kxor s (tri b c)) := by
    intro s hs
    rcases hs with rfl | rfl | rfl <;> cases b <;> cases c <;> decide
  obtain ⟨h1, h2⟩ := h s hs
  unfold mk3
  rw [h1, h2]
theorem kand_cases (s t : Int) : kand s t = 0 ∨ kand s t = 1 ∨ kand s t = -1 := by
  unfold kand; split
  · simp
  · split <;> simp
theorem kor_cases (s t : Int) : kor s t = 0 ∨ kor s t = 1 ∨ kor s t = -1 := by
  unfold kor; split
  · simp
  · split <;> simp
theorem kxor_cases (s t : Int) : kxor s t = 0 ∨ kxor s t = 1 ∨ kxor s t = -1 := by
  unfold kxor; split
  · simp
  · split <;> simp
/-- The folds over the first i bits. -/
def fold3 (f : Int → Int → Int) (s : Int) (v x : BitVec 64) : Nat → Int
  | 0 => s
  | i + 1 => f (fold3 f s v x i) (tri (v.getLsbD i) (x.getLsbD i))
theorem fold3_cases {f : Int → Int → Int} (hf : ∀ s t, f s t = 0 ∨ f s t = 1 ∨ f s t = -1) {s : Int} (hs : s = 0 ∨ s = 1 ∨ s = -1) (v x : BitVec 64) (i : Nat) : fold3 f s v x i = 0 ∨ fold3 f s v x i = 1 ∨ fold3 f s v x i = -1 := by
  cases i with
  | zero => exact hs
  | succ i => exact hf _ _
theorem dual_loop (n : Nat) (hn : 60 ≤ n) {w : Nat} {v x : BitVec 64} (h : Vec w v x) : ∀ (j m i : Nat), i + j = w → j < m → ∀ {H : VH}, H.Ok →
    loopN (L6_0 (vcall T ext promo n) n (w : Int) (w : Int) (u64 v) (u64 x)) m [.int .i64 (i : Int), bv 1 (tv (fold3 kand 1 v x i)) (tx (fold3 kand 1 v x i)), bv 1 (tv (fold3 kor 0 v x i)) (tx (fold3 kor 0 v x i)), bv 1 (tv (fold3 kxor 0 v x i)) (tx (fold3 kxor 0 v x i))] H =
      some (.exit 0, [bv 1 (tv (fold3 kand 1 v x w)) (tx (fold3 kand 1 v x w)), bv 1 (tv (fold3 kor 0 v x w)) (tx (fold3 kor 0 v x w)), bv 1 (tv (fold3 kxor 0 v x w)) (tx (fold3 kxor 0 v x w))], H) := by
  intro j
  have h2 := h.le
  induction j with
  | zero =>
    intro m i hi hm H hH
    obtain ⟨m, rfl⟩ : ∃ j, m = j + 1 := ⟨m - 1, by omega⟩
    obtain rfl : i = w := by omega
    rw [loopN_succ]
    generalize loopN (L6_0 (vcall T ext promo n) n (i : Int) (i : Int) (u64 v) (u64 x)) m = lp
    unfold L6_0
    simp only [letH_mk, bindC_mk, bindV_mk, bindL_mk, bindH_mk, bindJ_mk, asB_mk, asI_mk, asS_mk, asP_mk, asSl_mk, asA_mk, asTu_mk, asSome_mk, unc_mk, endL_mk, selC_eq, condT_eq, sel_eq, letN_mk, letB_mk, case_nn, case_nr, case_ne, case_rn, case_rr, case_re, case_en, case_er, case_ee, iand_u64, ior_u64, ixor_u64, iandn_u64, inot_u64, ieq_u64_0, ieq_u64, decide_eq_true_eq, Bool.not_true, Bool.not_false, Bool.false_eq_true, if_false, if_true, Bool.not_eq_true', decide_eq_false_iff_not, ilt_eq, ile_eq, reduceCtorEq, not_false_eq_true, not_true_eq_false]
    rw [if_neg (by omega)]
  | succ j ih =>
    intro m i hi hm H hH
    obtain ⟨m, rfl⟩ : ∃ j, m = j + 1 := ⟨m - 1, by omega⟩
    have ih := ih m (i + 1) (by omega) (by omega) hH
    have c1 : vcall T ext promo n 28 [bv w v x, .int .i64 (i : Int), .int .i64 1] H = some (bv 1 (v >>> i &&& bmask 1) (x >>> i &&& bmask 1), H) := slice_ok n (by omega) h i 1 (by omega) (by omega) hH
    rw [shr_bit, shr_bit] at c1
    have f1 := fold3_cases kand_cases (s := 1) (by decide) v x i
    have f2 := fold3_cases kor_cases (s := 0) (by decide) v x i
    have f3 := fold3_cases kxor_cases (s := 0) (by decide) v x i
    have c2 := kand_ok n (by omega) f1 (v.getLsbD i) (x.getLsbD i) hH
    have c3 := kor_ok n (by omega) f2 (v.getLsbD i) (x.getLsbD i) hH
    have c4 := kxor_ok n (by omega) f3 (v.getLsbD i) (x.getLsbD i) hH
    have e2 : fwrap .i64 ((i : Int) + 1) = ((i + 1 : Nat) : Int) := by rw [fw_i64 (by omega) (by omega)]; rfl
    rw [loopN_succ]
    generalize loopN (L6_0 (vcall T ext promo n) n (w : Int) (w : Int) (u64 v) (u64 x)) m = lp at ih ⊢
    unfold L6_0
    simp only [letH_mk, bindC_mk, bindV_mk, bindL_mk, bindH_mk, bindJ_mk, asB_mk, asI_mk, asS_mk, asP_mk, asSl_mk, asA_mk, asTu_mk, asSome_mk, unc_mk, endL_mk, selC_eq, condT_eq, sel_eq, letN_mk, letB_mk, case_nn, case_nr, case_ne, case_rn, case_rr, case_re, case_en, case_er, case_ee, iand_u64, ior_u64, ixor_u64, iandn_u64, inot_u64, ieq_u64_0, ieq_u64, decide_eq_true_eq, Bool.not_true, Bool.not_false, Bool.false_eq_true, if_false, if_true, Bool.not_eq_true', decide_eq_false_iff_not, ilt_eq, ile_eq, reduceCtorEq, not_false_eq_true, not_true_eq_false]
    rw [if_pos (by omega), c1]
    simp only [letH_mk, bindC_mk, bindV_mk, bindL_mk, bindH_mk, bindJ_mk, asB_mk, asI_mk, asS_mk, asP_mk, asSl_mk, asA_mk, asTu_mk, asSome_mk, unc_mk, endL_mk, selC_eq, condT_eq, sel_eq, letN_mk, letB_mk, case_nn, case_nr, case_ne, case_rn, case_rr, case_re, case_en, case_er, case_ee, iand_u64, ior_u64, ixor_u64, iandn_u64, inot_u64, ieq_u64_0, ieq_u64, decide_eq_true_eq, Bool.not_true, Bool.not_false, Bool.false_eq_true, if_false, if_true, Bool.not_eq_true', decide_eq_false_iff_not, ilt_eq, ile_eq, reduceCtorEq, not_false_eq_true, not_true_eq_false]
    rw [c2]
    simp only [letH_mk, bindC_mk, bindV_mk, bindL_mk, bindH_mk, bindJ_mk, asB_mk, asI_mk, asS_mk, asP_mk, asSl_mk, asA_mk, asTu_mk, asSome_mk, unc_mk, endL_mk, selC_eq, condT_eq, sel_eq, letN_mk, letB_mk, case_nn, case_nr, case_ne, case_rn, case_rr, case_re, case_en, case_er, case_ee, iand_u64, ior_u64, ixor_u64, iandn_u64, inot_u64, ieq_u64_0, ieq_u64, decide_eq_true_eq, Bool.not_true, Bool.not_false, Bool.false_eq_true, if_false, if_true, Bool.not_eq_true', decide_eq_false_iff_not, ilt_eq, ile_eq, reduceCtorEq, not_false_eq_true, not_true_eq_false]
    rw [c3]
    simp only [letH_mk, bindC_mk, bindV_mk, bindL_mk, bindH_mk, bindJ_mk, asB_mk, asI_mk, asS_mk, asP_mk, asSl_mk, asA_mk, asTu_mk, asSome_mk, unc_mk, endL_mk, selC_eq, condT_eq, sel_eq, letN_mk, letB_mk, case_nn, case_nr, case_ne, case_rn, case_rr, case_re, case_en, case_er, case_ee, iand_u64, ior_u64, ixor_u64, iandn_u64, inot_u64, ieq_u64_0, ieq_u64, decide_eq_true_eq, Bool.not_true, Bool.not_false, Bool.false_eq_true, if_false, if_true, Bool.not_eq_true', decide_eq_false_iff_not, ilt_eq, ile_eq, reduceCtorEq, not_false_eq_true, not_true_eq_false]
    rw [c4]
    simp only [letH_mk, bindC_mk, bindV_mk, bindL_mk, bindH_mk, bindJ_mk, asB_mk, asI_mk, asS_mk, asP_mk, asSl_mk, asA_mk, asTu_mk, asSome_mk, unc_mk, endL_mk, selC_eq, condT_eq, sel_eq, letN_mk, letB_mk, case_nn, case_nr, case_ne, case_rn, case_rr, case_re, case_en, case_er, case_ee, iand_u64, ior_u64, ixor_u64, iandn_u64, inot_u64, ieq_u64_0, ieq_u64, decide_eq_true_eq, Bool.not_true, Bool.not_false, Bool.false_eq_true, if_false, if_true, Bool.not_eq_true', decide_eq_false_iff_not, ilt_eq, ile_eq, reduceCtorEq, not_false_eq_true, not_true_eq_false]
    rw [e2]
    exact ih
/-- The first bits of a word, none of them set. -/
theorem mask_succ (y : BitVec 64) (i : Nat) (hi : i < 64) : y &&& bmask (i + 1) = 0#64 ↔ y &&& bmask i = 0#64 ∧ y.getLsbD i = false := by
  constructor
  · intro h
    have hb : ∀ j, j < 64 → (y.getLsbD j && decide (j < i + 1)) = false := by
      intro j hj
      have := congrArg (·.getLsbD j) h
      simpa only [BitVec.getLsbD_and, bmask_bit, hj, decide_true, Bool.true_and, BitVec.getLsbD_zero] using this
    refine ⟨?_, ?_⟩
    · apply BitVec.eq_of_getLsbD_eq
      intro j hj
      simp only [BitVec.getLsbD_and, bmask_bit, hj, decide_true, Bool.true_and, BitVec.getLsbD_zero]
      by_cases h1 : j < i
      · have := hb j hj
        rw [decide_eq_true (by omega : j < i + 1), Bool.and_true] at this
        simp [this]
      · simp [h1]
    · have := hb i hi
      simpa using this
  · rintro ⟨h, hb⟩
    apply BitVec.eq_of_getLsbD_eq
    intro j hj
    simp only [BitVec.getLsbD_and, bmask_bit, hj, decide_true, Bool.true_and, BitVec.getLsbD_zero]
    have h2 := congrArg (·.getLsbD j) h
    simp only [BitVec.getLsbD_and, bmask_bit, hj, decide_true, Bool.true_and, BitVec.getLsbD_zero] at h2
    by_cases h1 : j = i
    · subst h1; simp [hb]
    · by_cases h3 : j < i
      · simp only [h3, decide_true, Bool.and_true] at h2
        simp [h2]
      · have : ¬ j < i + 1 := by omega
        simp [this]
theorem mask_none (y : BitVec 64) : y &&& bmask 0 = 0#64 := by
  rw [show bmask 0 = 0#64 by decide, BitVec.and_zero]
theorem fold_and (v x : BitVec 64) : ∀ i, i ≤ 64 → fold3 kand 1 v x i = if (~~~v &&& ~~~x) &&& bmask i = 0#64 then (if x &&& bmask i = 0#64 then 1 else -1) else 0
  | 0, _ => by rw [if_pos (mask_none _), if_pos (mask_none _)]; rfl
  | i + 1, hi => by
    show kand (fold3 kand 1 v x i) _ = _
    rw [fold_and v x i (by omega)]
    have h1 := mask_succ (~~~v &&& ~~~x) i (by omega)
    have h2 := mask_succ x i (by omega)
    have h3 : (~~~v &&& ~~~x).getLsbD i = (!v.getLsbD i && !x.getLsbD i) := by
      have : i < 64 := by omega
      simp [BitVec.getLsbD_and, BitVec.getLsbD_not, this]
    rw [h3] at h1
    by_cases a1 : (~~~v &&& ~~~x) &&& bmask i = 0#64 <;> by_cases a2 : x &&& bmask i = 0#64 <;> simp only [a1, a2, h1, h2] <;> cases v.getLsbD i <;> cases x.getLsbD i <;> decide
theorem fold_or (v x : BitVec 64) : ∀ i, i ≤ 64 → fold3 kor 0 v x i = if (v &&& ~~~x) &&& bmask i = 0#64 then (if x &&& bmask i = 0#64 then 0 else -1) else 1
  | 0, _ => by rw [if_pos (mask_none _), if_pos (mask_none _)]; rfl
  | i + 1, hi => by
    show kor (fold3 kor 0 v x i) _ = _
    rw [fold_or v x i (by omega)]
    have h1 := mask_succ (v &&& ~~~x) i (by omega)
    have h2 := mask_succ x i (by omega)
    have h3 : (v &&& ~~~x).getLsbD i = (v.getLsbD i && !x.getLsbD i) := by
      have : i < 64 := by omega
      simp [BitVec.getLsbD_and, BitVec.getLsbD_not, this]
    rw [h3] at h1
    by_cases a1 : (v &&& ~~~x) &&& bmask i = 0#64 <;> by_cases a2 : x &&& bmask i = 0#64 <;> simp only [a1, a2, h1, h2] <;> cases v.getLsbD i <;> cases x.getLsbD i <;> decide
/-- Whether the number of set bits among the first i is odd. -/
def odd (v : BitVec 64) : Nat → Bool
  | 0 => false
  | i + 1 => odd v i ^^ v.getLsbD i
theorem fold_xor (v x : BitVec 64) : ∀ i, i ≤ 64 → fold3 kxor 0 v x i = if x &&& bmask i = 0#64 then (if odd v i then 1 else 0) else -1
  | 0, _ => by rw [if_pos (mask_none _)]; rfl
  | i + 1, hi => by
    show kxor (fold3 kxor 0 v x i) _ = _
    rw [fold_xor v x i (by omega)]
    have h2 := mask_succ x i (by omega)
    show _ = if x &&& bmask (i + 1) = 0#64 then (if (odd v i ^^ v.getLsbD i) then 1 else 0) else -1
    by_cases a2 : x &&& bmask i = 0#64 <;> simp only [a2, h2] <;> cases odd v i <;> cases v.getLsbD i <;> cases x.getLsbD i <;> decide
end Go.Vm.Tryd
