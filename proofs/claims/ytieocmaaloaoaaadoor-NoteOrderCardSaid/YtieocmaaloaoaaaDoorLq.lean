/- NoteOrder on the machine. -/
import Derived.Test.YtieocmaaloaoaaaDoorS9
namespace Go.Vm.Tryd
set_option linter.unusedSectionVars false
set_option linter.unusedSimpArgs false
set_option linter.unusedVariables false
set_option maxRecDepth 10000
open Go.Sort
/-- A slice that shows a list of messages. -/
inductive SrcV (H : VH) : AV → List N → Prop
  | nil (e : Nat) : SrcV H (.slice none 0 (some 0) e) []
  | at_ (b k : Nat) (c : Option Nat) (l : List N) (h : Src H (some (b, 0)) k l) : SrcV H (.slice (some (b, 0)) k c 5) l
theorem insNil (n : Nat) (hn : 2 ≤ n) (H : VH) (e : Nat) : vcall T ext promo n 163 [.slice none 0 (some 0) e, .int .i64 0, .int .i64 0, cmpF] H = some (.tuple [], H) := by
  obtain ⟨n, rfl⟩ : ∃ m, n = m + 2 := ⟨n - 2, by omega⟩
  apply ok163
  unfold F163
  simp only [letH_mk, bindC_mk, bindV_mk, bindH_mk, bindJ_mk, asB_mk, asI_mk, asS_mk, asP_mk, asSl_mk, asA_mk, asTu_mk, asSome_mk, unc_mk, endL_mk, selC_eq, condT_eq, letN_mk, letB_mk, case_nn, case_nr, case_ne, case_rn, case_rr, case_re, case_en, case_er, case_ee, decide_eq_true_eq, Bool.not_true, Bool.not_false, Bool.false_eq_true, if_false, if_true, Bool.not_eq_true', decide_eq_false_iff_not, ilt_eq, ile_eq, reduceCtorEq, not_false_eq_true, not_true_eq_false, show fwrap .i64 (0 + 1) = 1 by decide]
  rw [loopN_succ]
  generalize loopN (L163_0 (vcall T ext promo (n + 1)) (n + 1) none 0 0 0 cmpF) n = lp
  unfold L163_0
  simp only [letH_mk, bindC_mk, bindV_mk, bindH_mk, bindJ_mk, asB_mk, asI_mk, asS_mk, asP_mk, asSl_mk, asA_mk, asTu_mk, asSome_mk, unc_mk, endL_mk, selC_eq, condT_eq, letN_mk, letB_mk, case_nn, case_nr, case_ne, case_rn, case_rr, case_re, case_en, case_er, case_ee, decide_eq_true_eq, Bool.not_true, Bool.not_false, Bool.false_eq_true, if_false, if_true, Bool.not_eq_true', decide_eq_false_iff_not, ilt_eq, ile_eq, reduceCtorEq, not_false_eq_true, not_true_eq_false, show ¬ (1 : Int) < 0 by decide]
  rw [leave_flat rfl rfl]
theorem pdqNil (n : Nat) (hn : 4 ≤ n) (H : VH) (e : Nat) (lim : Int) : vcall T ext promo n 145 [.slice none 0 (some 0) e, .int .i64 0, .int .i64 0, .int .i64 lim, cmpF] H = some (.tuple [], H) := by
  obtain ⟨n, rfl⟩ : ∃ m, n = m + 2 := ⟨n - 2, by omega⟩
  apply ok145
  unfold F145
  simp only [letH_mk, bindC_mk, bindV_mk, bindH_mk, bindJ_mk, asB_mk, asI_mk, asS_mk, asP_mk, asSl_mk, asA_mk, asTu_mk, asSome_mk, unc_mk, endL_mk, selC_eq, condT_eq, letN_mk, letB_mk, case_nn, case_nr, case_ne, case_rn, case_rr, case_re, case_en, case_er, case_ee, decide_eq_true_eq, Bool.not_true, Bool.not_false, Bool.false_eq_true, if_false, if_true, Bool.not_eq_true', decide_eq_false_iff_not, ilt_eq, ile_eq, reduceCtorEq, not_false_eq_true, not_true_eq_false]
  rw [loopN_succ]
  generalize loopN (L145_0 (vcall T ext promo (n + 1)) (n + 1) none (some 0) e 0 cmpF) n = lp
  unfold L145_0
  simp only [letH_mk, bindC_mk, bindV_mk, bindH_mk, bindJ_mk, asB_mk, asI_mk, asS_mk, asP_mk, asSl_mk, asA_mk, asTu_mk, asSome_mk, unc_mk, endL_mk, selC_eq, condT_eq, letN_mk, letB_mk, case_nn, case_nr, case_ne, case_rn, case_rr, case_re, case_en, case_er, case_ee, decide_eq_true_eq, Bool.not_true, Bool.not_false, Bool.false_eq_true, if_false, if_true, Bool.not_eq_true', decide_eq_false_iff_not, ilt_eq, ile_eq, reduceCtorEq, not_false_eq_true, not_true_eq_false, show fwrap .i64 (0 - 0) = 0 by decide, show (0 : Int) ≤ 12 by decide, insNil (n + 1) (by omega)]
  rw [leave_flat rfl rfl]
theorem sortNil (n : Nat) (hn : 10 ≤ n) (H : VH) (e : Nat) : vcall T ext promo n 59 [.slice none 0 (some 0) e] H = some (.slice none 0 (some 0) 5, H) := by
  have hc : ∀ (n : Nat), 1 ≤ n → ∀ (H : VH), vcall T ext promo n 107 [.slice none 0 (some 0) e] H = some (.slice none 0 (some 0) 0, H) := by
    intro n hn H
    obtain ⟨n, rfl⟩ : ∃ m, n = m + 1 := ⟨n - 1, by omega⟩
    apply ok107
    unfold F107
    have hnil : vbinOp T .eql 64 (.slice none 0 (some 0) e) (.slice none 0 (some 0) 0) = some (.bool true) := by kernel_rfl
    simp only [letH_mk, bindC_mk, bindV_mk, bindH_mk, bindJ_mk, asB_mk, asI_mk, asS_mk, asP_mk, asSl_mk, asA_mk, asTu_mk, asSome_mk, unc_mk, endL_mk, selC_eq, condT_eq, letN_mk, letB_mk, case_nn, case_nr, case_ne, case_rn, case_rr, case_re, case_en, case_er, case_ee, decide_eq_true_eq, Bool.not_true, Bool.not_false, Bool.false_eq_true, if_false, if_true, Bool.not_eq_true', decide_eq_false_iff_not, ilt_eq, ile_eq, reduceCtorEq, not_false_eq_true, not_true_eq_false, hnil]
    rw [leave_flat rfl rfl]
  have hs : ∀ (n : Nat), 6 ≤ n → ∀ (H : VH), vcall T ext promo n 108 [.slice none 0 (some 0) 0, cmpF] H = some (.tuple [], H) := by
    intro n hn H
    obtain ⟨n, rfl⟩ : ∃ m, n = m + 1 := ⟨n - 1, by omega⟩
    apply ok108
    unfold F108
    simp only [letH_mk, bindC_mk, bindV_mk, bindH_mk, bindJ_mk, asB_mk, asI_mk, asS_mk, asP_mk, asSl_mk, asA_mk, asTu_mk, asSome_mk, unc_mk, endL_mk, selC_eq, condT_eq, letN_mk, letB_mk, case_nn, case_nr, case_ne, case_rn, case_rr, case_re, case_en, case_er, case_ee, decide_eq_true_eq, Bool.not_true, Bool.not_false, Bool.false_eq_true, if_false, if_true, Bool.not_eq_true', decide_eq_false_iff_not, ilt_eq, ile_eq, reduceCtorEq, not_false_eq_true, not_true_eq_false, fw_u64s 0 (by omega)]
    rw [len_ok n (by omega) 0 (by omega)]
    simp only [letH_mk, bindC_mk, bindV_mk, bindH_mk, bindJ_mk, asB_mk, asI_mk, asS_mk, asP_mk, asSl_mk, asA_mk, asTu_mk, asSome_mk, unc_mk, endL_mk, selC_eq, condT_eq, letN_mk, letB_mk, case_nn, case_nr, case_ne, case_rn, case_rr, case_re, case_en, case_er, case_ee, decide_eq_true_eq, Bool.not_true, Bool.not_false, Bool.false_eq_true, if_false, if_true, Bool.not_eq_true', decide_eq_false_iff_not, ilt_eq, ile_eq, reduceCtorEq, not_false_eq_true, not_true_eq_false]
    rw [show (((0 : Nat) : Int)) = 0 from rfl, pdqNil n (by omega)]
    simp only [letH_mk, bindC_mk, bindV_mk, bindH_mk, bindJ_mk, asB_mk, asI_mk, asS_mk, asP_mk, asSl_mk, asA_mk, asTu_mk, asSome_mk, unc_mk, endL_mk, selC_eq, condT_eq, letN_mk, letB_mk, case_nn, case_nr, case_ne, case_rn, case_rr, case_re, case_en, case_er, case_ee, decide_eq_true_eq, Bool.not_true, Bool.not_false, Bool.false_eq_true, if_false, if_true, Bool.not_eq_true', decide_eq_false_iff_not, ilt_eq, ile_eq, reduceCtorEq, not_false_eq_true, not_true_eq_false]
    rw [leave_flat rfl rfl]
  have hk : ∀ (n : Nat), 1 ≤ n → ∀ (H : VH), vcall T ext promo n 109 [.slice none 0 (some 0) 0] H = some (.slice none 0 (some 0) 0, H) := by
    intro n hn H
    obtain ⟨n, rfl⟩ : ∃ m, n = m + 1 := ⟨n - 1, by omega⟩
    apply ok109
    unfold F109
    simp only [letH_mk, bindC_mk, bindV_mk, bindH_mk, bindJ_mk, asB_mk, asI_mk, asS_mk, asP_mk, asSl_mk, asA_mk, asTu_mk, asSome_mk, unc_mk, endL_mk, selC_eq, condT_eq, letN_mk, letB_mk, case_nn, case_nr, case_ne, case_rn, case_rr, case_re, case_en, case_er, case_ee, decide_eq_true_eq, Bool.not_true, Bool.not_false, Bool.false_eq_true, if_false, if_true, Bool.not_eq_true', decide_eq_false_iff_not, ilt_eq, ile_eq, reduceCtorEq, not_false_eq_true, not_true_eq_false, show (((0 : Nat) : Int)) < 2 by decide]
    rw [leave_flat rfl rfl]
  obtain ⟨n, rfl⟩ : ∃ m, n = m + 1 := ⟨n - 1, by omega⟩
  apply ok59
  unfold F59
  simp only [letH_mk, bindC_mk, bindV_mk, bindH_mk, bindJ_mk, asB_mk, asI_mk, asS_mk, asP_mk, asSl_mk, asA_mk, asTu_mk, asSome_mk, unc_mk, endL_mk, selC_eq, condT_eq, letN_mk, letB_mk, case_nn, case_nr, case_ne, case_rn, case_rr, case_re, case_en, case_er, case_ee, decide_eq_true_eq, Bool.not_true, Bool.not_false, Bool.false_eq_true, if_false, if_true, Bool.not_eq_true', decide_eq_false_iff_not, ilt_eq, ile_eq, reduceCtorEq, not_false_eq_true, not_true_eq_false, hc n (by omega), hs n (by omega), hk n (by omega)]
  rw [show imin (((0 : Nat) : Int)) 20 = 0 by decide, sl_nil]
  simp only [letH_mk, bindC_mk, bindV_mk, bindH_mk, bindJ_mk, asB_mk, asI_mk, asS_mk, asP_mk, asSl_mk, asA_mk, asTu_mk, asSome_mk, unc_mk, endL_mk, selC_eq, condT_eq, letN_mk, letB_mk, case_nn, case_nr, case_ne, case_rn, case_rr, case_re, case_en, case_er, case_ee, decide_eq_true_eq, Bool.not_true, Bool.not_false, Bool.false_eq_true, if_false, if_true, Bool.not_eq_true', decide_eq_false_iff_not, ilt_eq, ile_eq, reduceCtorEq, not_false_eq_true, not_true_eq_false]
  rw [leave_flat rfl rfl]
theorem outN_empty : outN [] = [] := by simp [outN, srtN, compF]
theorem sortV_ok (n : Nat) (hn : 3001 ≤ n) {H : VH} (hH : H.Ok) {v : AV} {l : List N} (hs : SrcV H v l) (hl : l.length < 200) :
    ∃ (v' : AV) (H' : VH), vcall T ext promo n 59 [v] H = some (v', H') ∧ SrcV H' v' (outN l) ∧ Eff (fun _ => False) H H' := by
  cases hs with
  | nil e => exact ⟨_, _, sortNil n (by omega) H e, by rw [outN_empty]; exact .nil 5, Eff.refl hH⟩
  | at_ b k c l h =>
    obtain ⟨q, H', e1, h1, h2⟩ := sortN_ok n hn hH h hl c
    exact ⟨_, H', e1, .at_ q _ none _ h1, h2⟩
theorem SrcV.keep {H H' : VH} {v : AV} {l : List N} (h : SrcV H v l) (hH : H.Ok) (k : Keep (fun _ => False) H H') : SrcV H' v l := by
  cases h with
  | nil e => exact .nil e
  | at_ b k' c l h => exact .at_ b k' c l (h.keep hH k fun _ _ h => h)
/-- A list of messages that grows. -/
def GrowN (H : VH) (b : Nat) (v : AV) (l : List N) : Prop :=
  v = .slice none 0 (some 0) 0 ∧ l = [] ∨ ∃ q, v = .slice (some (q, 0)) l.length none 5 ∧ b < q ∧ Tip H q (flat l) 66 ∧ l ≠ []
theorem GrowN.keep {H H' : VH} {b : Nat} {v : AV} {l : List N} (h : GrowN H b v l) (hH : H.Ok) (k : Keep (· = b) H H') : GrowN H' b v l := by
  rcases h with h | ⟨q, e, h1, h2, h3⟩
  · exact .inl h
  · exact .inr ⟨q, e, h1, h2.keep hH k (by omega), h3⟩
theorem GrowN.src {H : VH} (hH : H.Ok) {b : Nat} {v : AV} {l : List N} (h : GrowN H b v l) : SrcV H v l := by
  rcases h with ⟨rfl, rfl⟩ | ⟨q, rfl, h1, h2, h3⟩
  · exact .nil 0
  · exact .at_ q _ none l ⟨rfl, .inr ⟨q, rfl, h2.lt hH, fun i hi => h2.cell i⟩, fun e => absurd e h3⟩
theorem GrowN.app {H : VH} {b : Nat} {v : AV} {l : List N} (h : GrowN H b v l) (hH : H.Ok) (hb : b < H.next) (hl : l.length < 1000) (x : N) (p : Nat) (hc : H.cells p 0 5 = some x.cells) :
    ∃ v' H', vbuiltin T H .append [64, 64] [v, .slice (some (p, 0)) 1 (some 1) 5] = some (v', H') ∧ GrowN H' b v' (l ++ [x]) ∧ H'.Ok ∧ Keep (fun y => b < y) H H' := by
  have hone : flat [x] = x.cells := by simp [flat]
  rcases h with ⟨rfl, rfl⟩ | ⟨q, rfl, h1, h2, h3⟩
  · refine ⟨_, _, app_notes (H := H) (v := .slice none 0 (some 0) 0) (x := .slice (some (p, 0)) 1 (some 1) 5) (len := 0) (n := 1) (new := x.cells) rfl rfl (by omega) (by omega) hc x.cells_one, .inr ⟨H.next, rfl, hb, ?_, by simp⟩, freshT_ok hH _ _, Keep.freshT _ _ _ _⟩
    rw [List.nil_append, hone]
    exact freshT_tip hH x.cells _
  · obtain ⟨H', a1, a2, a3, a4, a5, a6⟩ := h2.append hH 5 l.length 1 x.cells (by rw [flat_len]) rfl
    refine ⟨_, H', (app_notes (H := H) (v := .slice (some (q, 0)) l.length none 5) (x := .slice (some (p, 0)) 1 (some 1) 5) (len := l.length) (n := 1) (new := x.cells) rfl rfl (by omega) (by omega) hc x.cells_one).trans a1, .inr ⟨H.next, by simp, hb, ?_, by simp⟩, a4, a3.mono fun y e => by omega⟩
    rw [flat_app, hone]
    exact a2
theorem GrowN.rd {H : VH} {b : Nat} {v : AV} {l : List N} (h : GrowN H b v l) (i : Nat) (hi : i < l.length) : ∃ q, v = .slice (some (q, 0)) l.length none 5 ∧ H.cells q (0 + i * 5) 5 = some (l[i]!).cells := by
  rcases h with ⟨rfl, rfl⟩ | ⟨q, rfl, h1, h2, h3⟩
  · simp at hi
  · refine ⟨q, rfl, cells_eq (fun j hj => ?_) rfl⟩
    rw [h2.cell, Nat.zero_add, flat_get _ _ _ hj, List.getElem?_eq_getElem hi]
    simp [hi]
theorem GrowN.rdK {H : VH} {b : Nat} {v : AV} {l : List N} (h : GrowN H b v l) (hl : l ≠ []) : ∃ q, v = .slice (some (q, 0)) l.length none 5 ∧ ∀ i, i < l.length → ∀ {α : Type} (K : List AV → Option α), (if (0 : Int) ≤ (i : Int) ∧ (i : Int) < (l.length : Int) then bindL (H.cells q (0 + i * 5) 5) K else none) = K (l[i]!).cells := by
  rcases h with ⟨_, rfl⟩ | ⟨q, rfl, h1, h2, h3⟩
  · exact absurd rfl hl
  · refine ⟨q, rfl, fun i hi α K => ?_⟩
    have hc : H.cells q (0 + i * 5) 5 = some (l[i]!).cells := cells_eq (fun j hj => by
      rw [h2.cell, Nat.zero_add, flat_get _ _ _ hj, List.getElem?_eq_getElem hi]
      simp [hi]) rfl
    rw [if_pos (by omega), hc]
    rfl
theorem msgN (n : Nat) (hn : 120 ≤ n) {H : VH} {b k : Nat} (hH : H.Ok) (hs : StB H b k) (hk : k < 700000000) :
    ∃ (x : N) (H' : VH), vcall T ext promo n 58 [.ptr (some (b, 0))] H = some (.agg [.str (PS.of x.f), .int .i64 x.ln, .int .i64 x.co, .int .i64 x.cd, .str (PS.of x.t)], H') ∧ Drawn H H' b (k + 22) := by
  obtain ⟨f, ln, co, cd, t, H', e, _, d⟩ := message_ok n hn hH hs hk
  exact ⟨⟨f, ln, co, cd, t⟩, H', e, d⟩
theorem grow_fresh {H : VH} {b : Nat} {v : AV} {l : List N} (h : GrowN H b v l) (hH : H.Ok) (cs : List AV) : GrowN (H.fresh cs) b v l := by
  rcases h with g | ⟨q, e, h1, h2, h3⟩
  · exact .inl g
  · exact .inr ⟨q, e, h1, h2.keep hH (Keep.fresh (fun _ => False) H _) fun h => h, h3⟩
theorem gather (n : Nat) (hn : 200 ≤ n) (b r : Nat) (hr : r ≤ 40) (H1 : VH) (hb1 : b = H1.next) :
    ∀ (m i k : Nat) (H : VH) (v : AV) (l : List N), i ≤ r → r - i < m → k + 24 * (r - i) < 500000000 → H.Ok → StB H b k → GrowN H b v l → l.length ≤ 2 * i →
      ∃ (v' : AV) (l' : List N) (H' : VH), loopN (L12_0 (vcall T ext promo n) n H1 (r : Int)) m [v, .int .i64 (i : Int)] H = some (.exit 0, [v'], H') ∧ H'.Ok ∧ GrowN H' b v' l' ∧ l'.length ≤ 2 * r := by
  intro m
  induction m with
  | zero => intro i k H v l _ h; omega
  | succ m ih =>
    intro i k H v l hi hm hk hH hs hg hl
    rw [loopN_succ]
    generalize loopN (L12_0 (vcall T ext promo n) n H1 (r : Int)) m = lp at ih ⊢
    unfold L12_0
    obtain ⟨a, ka, ca, ea, hv⟩ : ∃ a k c e, v = .slice a k c e := by
      rcases hg with ⟨rfl, _⟩ | ⟨q, rfl, _⟩ <;> exact ⟨_, _, _, _, rfl⟩
    by_cases h : i < r
    · have h' : (i : Int) < (r : Int) := by omega
      obtain ⟨x, H2, e2, d2⟩ := msgN n (by omega) hH hs (by omega)
      have hb2 := d2.st.lt d2.ok
      have o3 := fresh_ok d2.ok x.cells
      have g3 := grow_fresh (hg.keep hH d2.keep) d2.ok x.cells
      have s3 := d2.st.fresh d2.ok x.cells
      obtain ⟨v4, H4, e4, g4, o4, k4⟩ := g3.app o3 (by show b < H2.next + 1; omega) (by omega) x H2.next (fresh_cells d2.ok _ 0 5 (by rw [N.cells_len]; omega))
      have s4 := s3.keepUp o3 k4 (fun _ h => h)
      obtain ⟨fl, H5, e5, d5⟩ := flip_ok n (by omega) o4 s4 (by omega) 4 (by omega)
      have g5 := g4.keep o4 d5.keep
      have hln : (l ++ [x]).length ≤ 2 * i + 1 := by simp; omega
      have f1 := fw_add1 i (by omega)
      obtain ⟨q, rfl, rd5⟩ := g5.rdK (by simp)
      generalize hl4 : l ++ [x] = l4 at *
      have hne : l4 ≠ [] := by rw [← hl4]; simp
      have hpos := List.length_pos_iff.2 hne
      simp only [N.cells] at e4
      subst hb1
      cases fl with
      | false =>
        obtain ⟨v', l', H', z1, z2, z3, z4⟩ := ih (i + 1) (k + 22 + 1) H5 _ l4 (by omega) (by omega) (by omega) d5.ok d5.st g5 (by omega)
        refine ⟨v', l', H', ?_, z2, z3, z4⟩
        rw [hv] at e4
        subst hv
        simp only [letH_mk, bindC_mk, bindV_mk, bindH_mk, bindJ_mk, asB_mk, asI_mk, asS_mk, asP_mk, asSl_mk, asA_mk, asTu_mk, asSome_mk, unc_mk, endL_mk, selC_eq, condT_eq, letN_mk, letB_mk, case_nn, case_nr, case_ne, case_rn, case_rr, case_re, case_en, case_er, case_ee, decide_eq_true_eq, Bool.not_true, Bool.not_false, Bool.false_eq_true, if_false, if_true, Bool.not_eq_true', decide_eq_false_iff_not, ilt_eq, ile_eq, reduceCtorEq, not_false_eq_true, not_true_eq_false, h', e2, e4, e5, f1]
        exact z1
      | true =>
        obtain ⟨z, H6, e6, z1, z2, d6⟩ := next_ok n (by omega) d5.ok d5.st (by omega) (l4.length : Int) (by omega)
        obtain ⟨j, rfl⟩ : ∃ j : Nat, z = (j : Int) := ⟨z.toNat, by omega⟩
        have g6 := g5.keep d5.ok d6.keep
        obtain ⟨q2, hq2, rd6⟩ := g6.rdK hne
        cases hq2
        have o7 := fresh_ok d6.ok (l4[j]!).cells
        have g7 := grow_fresh g6 d6.ok (l4[j]!).cells
        have s7 := d6.st.fresh d6.ok (l4[j]!).cells
        have hb6 := d6.st.lt d6.ok
        obtain ⟨v8, H8, e8, g8, o8, k8⟩ := g7.app o7 (by show H1.next < H6.next + 1; omega) (by omega) l4[j]! H6.next (fresh_cells d6.ok _ 0 5 (by rw [N.cells_len]; omega))
        have s8 := s7.keepUp o7 k8 (fun _ h => h)
        obtain ⟨q3, rfl, _⟩ := g8.rdK (by simp)
        simp only [N.cells] at e8
        obtain ⟨v', l', H', z3, z4, z5, z6⟩ := ih (i + 1) (k + 22 + 1 + 1) H8 _ _ (by omega) (by omega) (by omega) o8 s8 g8 (by simp; omega)
        refine ⟨v', l', H', ?_, z4, z5, z6⟩
        rw [hv] at e4
        subst hv
        simp only [letH_mk, bindC_mk, bindV_mk, bindH_mk, bindJ_mk, asB_mk, asI_mk, asS_mk, asP_mk, asSl_mk, asA_mk, asTu_mk, asSome_mk, unc_mk, endL_mk, selC_eq, condT_eq, letN_mk, letB_mk, case_nn, case_nr, case_ne, case_rn, case_rr, case_re, case_en, case_er, case_ee, decide_eq_true_eq, Bool.not_true, Bool.not_false, Bool.false_eq_true, if_false, if_true, Bool.not_eq_true', decide_eq_false_iff_not, ilt_eq, ile_eq, reduceCtorEq, not_false_eq_true, not_true_eq_false, h', e2, e4, e5, e6, Int.toNat_natCast, Bool.and_eq_true, rd6 j (by omega), N.cells, e8, f1]
        exact z3
    · have h' : ¬ (i : Int) < (r : Int) := by omega
      subst hv
      simp only [letH_mk, bindC_mk, bindV_mk, bindH_mk, bindJ_mk, asB_mk, asI_mk, asS_mk, asP_mk, asSl_mk, asA_mk, asTu_mk, asSome_mk, unc_mk, endL_mk, selC_eq, condT_eq, letN_mk, letB_mk, case_nn, case_nr, case_ne, case_rn, case_rr, case_re, case_en, case_er, case_ee, decide_eq_true_eq, Bool.not_true, Bool.not_false, Bool.false_eq_true, if_false, if_true, Bool.not_eq_true', decide_eq_false_iff_not, ilt_eq, ile_eq, reduceCtorEq, not_false_eq_true, not_true_eq_false, h']
      exact ⟨_, l, H, rfl, hH, hg, by omega⟩
theorem SrcV.shape {H : VH} {v : AV} {l : List N} (h : SrcV H v l) : ∃ a c e, v = .slice a l.length c e ∧ Src H a l.length l := by
  cases h with
  | nil e => exact ⟨_, _, _, rfl, rfl, .inl rfl, fun _ => rfl⟩
  | at_ b k c l h =>
    have := h.len
    subst this
    exact ⟨_, _, _, rfl, h⟩
theorem Src.some {H : VH} {a : Option (Nat × Nat)} {k : Nat} {l : List N} (h : Src H a k l) (hp : 0 < k) : ∃ b, a = .some (b, 0) := by
  rcases h.at_ with e | ⟨b, e, _⟩
  · have := h.len
    subst e
    simp at this
    omega
  · exact ⟨b, e⟩
section
variable (n : Nat) (hn : 1200 ≤ n) {H : VH} (hH : H.Ok) {a a' : Option (Nat × Nat)} {l : List N} (c c' : Option Nat) (e e' : Nat) (hs : Src H a l.length l) (hs' : Src H a' (outN l).length (outN l)) (hl : l.length < 200)
include hn hH hs hs' hl
theorem got_loop : ∀ m i, i ≤ (outN l).length → (outN l).length - i < m → loopN (L12_1 (vcall T ext promo n) n a l.length c e a' (outN l).length) m [.int .i64 (i : Int)] H = some (.exit 2, [], H) := by
  intro m
  induction m with
  | zero => intro i _ h; omega
  | succ m ih =>
    intro i hi hm
    rw [loopN_succ]
    generalize loopN (L12_1 (vcall T ext promo n) n a l.length c e a' (outN l).length) m = lp at ih ⊢
    unfold L12_1
    have h20 := outN_len l
    by_cases h : i < (outN l).length
    · have h' : (i : Int) < ((outN l).length : Int) := by omega
      obtain ⟨b', rfl⟩ := hs'.some (by omega)
      have hmem : (outN l)[i]! ∈ outN l := by
        rw [getElem!_pos _ i h]
        exact List.getElem_mem h
      have hin : decide ((outN l)[i]! ∈ l) = true := decide_eq_true (outN_mem l _ hmem)
      have f1 := fw_add1 i (by omega)
      have hcon := contains_ok n (by omega) hs (by omega) c e (outN l)[i]!
      rw [hin] at hcon
      by_cases h0 : 0 < i
      · have h0' : (0 : Int) < (i : Int) := by omega
        have f2 := fw_sub1 i h0 (by omega)
        have hlt : ltN (outN l)[i - 1]! (outN l)[i]! = true := by
          rw [getElem!_pos _ (i - 1) (by omega), getElem!_pos _ i h]
          exact List.pairwise_iff_getElem.1 (outN_inc l) (i - 1) i (by omega) h (by omega)
        have hc0 : ¬ 0 ≤ cmpN (outN l)[i - 1]! (outN l)[i]! := by have := of_decide_eq_true hlt; omega
        simp only [letH_mk, bindC_mk, bindV_mk, bindH_mk, bindJ_mk, asB_mk, asI_mk, asS_mk, asP_mk, asSl_mk, asA_mk, asTu_mk, asSome_mk, unc_mk, endL_mk, selC_eq, condT_eq, letN_mk, letB_mk, case_nn, case_nr, case_ne, case_rn, case_rr, case_re, case_en, case_er, case_ee, decide_eq_true_eq, Bool.not_true, Bool.not_false, Bool.false_eq_true, if_false, if_true, Bool.not_eq_true', decide_eq_false_iff_not, ilt_eq, ile_eq, reduceCtorEq, not_false_eq_true, not_true_eq_false, h0', Int.toNat_natCast, Bool.and_eq_true, hs'.rd i h, f2, hs'.rd (i - 1) (by omega), N.cells, cmp_ok n (by omega) _ _ hH, hc0, hcon, f1]
        rw [if_pos h']
        exact ih (i + 1) (by omega) (by omega)
      · have h0' : ¬ (0 : Int) < (i : Int) := by omega
        simp only [letH_mk, bindC_mk, bindV_mk, bindH_mk, bindJ_mk, asB_mk, asI_mk, asS_mk, asP_mk, asSl_mk, asA_mk, asTu_mk, asSome_mk, unc_mk, endL_mk, selC_eq, condT_eq, letN_mk, letB_mk, case_nn, case_nr, case_ne, case_rn, case_rr, case_re, case_en, case_er, case_ee, decide_eq_true_eq, Bool.not_true, Bool.not_false, Bool.false_eq_true, if_false, if_true, Bool.not_eq_true', decide_eq_false_iff_not, ilt_eq, ile_eq, reduceCtorEq, not_false_eq_true, not_true_eq_false, h0', Int.toNat_natCast, Bool.and_eq_true, hs'.rd i h, N.cells, hcon, f1]
        rw [if_pos h']
        exact ih (i + 1) (by omega) (by omega)
    · have h' : ¬ (i : Int) < ((outN l).length : Int) := by omega
      simp only [letH_mk, bindC_mk, bindV_mk, bindH_mk, bindJ_mk, asB_mk, asI_mk, asS_mk, asP_mk, asSl_mk, asA_mk, asTu_mk, asSome_mk, unc_mk, endL_mk, selC_eq, condT_eq, letN_mk, letB_mk, case_nn, case_nr, case_ne, case_rn, case_rr, case_re, case_en, case_er, case_ee, decide_eq_true_eq, Bool.not_true, Bool.not_false, Bool.false_eq_true, if_false, if_true, Bool.not_eq_true', decide_eq_false_iff_not, ilt_eq, ile_eq, reduceCtorEq, not_false_eq_true, not_true_eq_false, h']
theorem all_loop : ∀ m i, i ≤ l.length → l.length - i < m → loopN (L12_2 (vcall T ext promo n) n a l.length a' (outN l).length c' e') m [.int .i64 (i : Int)] H = some (.exit 4, [], H) := by
  intro m
  induction m with
  | zero => intro i _ h; omega
  | succ m ih =>
    intro i hi hm
    rw [loopN_succ]
    generalize loopN (L12_2 (vcall T ext promo n) n a l.length a' (outN l).length c' e') m = lp at ih ⊢
    unfold L12_2
    have h20 := outN_len l
    by_cases h : i < l.length
    · have h' : (i : Int) < (l.length : Int) := by omega
      obtain ⟨b, rfl⟩ := hs.some (by omega)
      have hne : l ≠ [] := fun e => by subst e; simp at h
      have hpos := List.length_pos_iff.2 (outN_nil l hne)
      obtain ⟨b', rfl⟩ := hs'.some hpos
      have hmem : l[i]! ∈ l := by
        rw [getElem!_pos _ i h]
        exact List.getElem_mem h
      have hlast : (outN l)[(outN l).length - 1]! ∈ outN l := by
        rw [getElem!_pos _ _ (by omega)]
        exact List.getElem_mem _
      have f1 := fw_add1 i (by omega)
      have f2 := fw_sub1 (outN l).length hpos (by omega)
      have k0 : ¬ (((outN l).length : Int)) = 0 := by omega
      have hcon := contains_ok n (by omega) hs' (by omega) c' e' l[i]!
      simp only [letH_mk, bindC_mk, bindV_mk, bindH_mk, bindJ_mk, asB_mk, asI_mk, asS_mk, asP_mk, asSl_mk, asA_mk, asTu_mk, asSome_mk, unc_mk, endL_mk, selC_eq, condT_eq, letN_mk, letB_mk, case_nn, case_nr, case_ne, case_rn, case_rr, case_re, case_en, case_er, case_ee, decide_eq_true_eq, Bool.not_true, Bool.not_false, Bool.false_eq_true, if_false, if_true, Bool.not_eq_true', decide_eq_false_iff_not, ilt_eq, ile_eq, reduceCtorEq, not_false_eq_true, not_true_eq_false, ieq_dec, k0, Int.toNat_natCast, Bool.and_eq_true, hs.rd i h, f2, hs'.rd ((outN l).length - 1) (by omega), N.cells, cmp_ok n (by omega) _ _ hH, cmp_lt, hcon, f1]
      rw [if_pos h']
      have done : lp [.int .i64 ((i + 1 : Nat) : Int)] H = some (.exit 4, [], H) := ih (i + 1) (by omega) (by omega)
      by_cases hc : ltN l[i]! (outN l)[(outN l).length - 1]! = true
      · have hin : l[i]! ∈ outN l := outN_least l _ _ hmem hlast hc
        rw [if_pos hc]
        simp only [hin, letH_mk, bindC_mk, bindV_mk, bindH_mk, bindJ_mk, asB_mk, asI_mk, asS_mk, asP_mk, asSl_mk, asA_mk, asTu_mk, asSome_mk, unc_mk, endL_mk, selC_eq, condT_eq, letN_mk, letB_mk, case_nn, case_nr, case_ne, case_rn, case_rr, case_re, case_en, case_er, case_ee, decide_eq_true_eq, Bool.not_true, Bool.not_false, Bool.false_eq_true, if_false, if_true, Bool.not_eq_true', decide_eq_false_iff_not, ilt_eq, ile_eq, reduceCtorEq, not_false_eq_true, not_true_eq_false, decide_true]
        by_cases hk : ((outN l).length : Int) < 20
        · simp only [hk, letH_mk, bindC_mk, bindV_mk, bindH_mk, bindJ_mk, asB_mk, asI_mk, asS_mk, asP_mk, asSl_mk, asA_mk, asTu_mk, asSome_mk, unc_mk, endL_mk, selC_eq, condT_eq, letN_mk, letB_mk, case_nn, case_nr, case_ne, case_rn, case_rr, case_re, case_en, case_er, case_ee, decide_eq_true_eq, Bool.not_true, Bool.not_false, Bool.false_eq_true, if_false, if_true, Bool.not_eq_true', decide_eq_false_iff_not, ilt_eq, ile_eq, reduceCtorEq, not_false_eq_true, not_true_eq_false, hin, decide_true]
          exact done
        · simp only [hk, letH_mk, bindC_mk, bindV_mk, bindH_mk, bindJ_mk, asB_mk, asI_mk, asS_mk, asP_mk, asSl_mk, asA_mk, asTu_mk, asSome_mk, unc_mk, endL_mk, selC_eq, condT_eq, letN_mk, letB_mk, case_nn, case_nr, case_ne, case_rn, case_rr, case_re, case_en, case_er, case_ee, decide_eq_true_eq, Bool.not_true, Bool.not_false, Bool.false_eq_true, if_false, if_true, Bool.not_eq_true', decide_eq_false_iff_not, ilt_eq, ile_eq, reduceCtorEq, not_false_eq_true, not_true_eq_false]
          exact done
      · rw [if_neg hc]
        by_cases hk : ((outN l).length : Int) < 20
        · have hin : l[i]! ∈ outN l := outN_all l _ hmem (by omega)
          simp only [hk, letH_mk, bindC_mk, bindV_mk, bindH_mk, bindJ_mk, asB_mk, asI_mk, asS_mk, asP_mk, asSl_mk, asA_mk, asTu_mk, asSome_mk, unc_mk, endL_mk, selC_eq, condT_eq, letN_mk, letB_mk, case_nn, case_nr, case_ne, case_rn, case_rr, case_re, case_en, case_er, case_ee, decide_eq_true_eq, Bool.not_true, Bool.not_false, Bool.false_eq_true, if_false, if_true, Bool.not_eq_true', decide_eq_false_iff_not, ilt_eq, ile_eq, reduceCtorEq, not_false_eq_true, not_true_eq_false, hin, decide_true]
          exact done
        · simp only [hk, letH_mk, bindC_mk, bindV_mk, bindH_mk, bindJ_mk, asB_mk, asI_mk, asS_mk, asP_mk, asSl_mk, asA_mk, asTu_mk, asSome_mk, unc_mk, endL_mk, selC_eq, condT_eq, letN_mk, letB_mk, case_nn, case_nr, case_ne, case_rn, case_rr, case_re, case_en, case_er, case_ee, decide_eq_true_eq, Bool.not_true, Bool.not_false, Bool.false_eq_true, if_false, if_true, Bool.not_eq_true', decide_eq_false_iff_not, ilt_eq, ile_eq, reduceCtorEq, not_false_eq_true, not_true_eq_false]
          exact done
    · have h' : ¬ (i : Int) < (l.length : Int) := by omega
      simp only [letH_mk, bindC_mk, bindV_mk, bindH_mk, bindJ_mk, asB_mk, asI_mk, asS_mk, asP_mk, asSl_mk, asA_mk, asTu_mk, asSome_mk, unc_mk, endL_mk, selC_eq, condT_eq, letN_mk, letB_mk, case_nn, case_nr, case_ne, case_rn, case_rr, case_re, case_en, case_er, case_ee, decide_eq_true_eq, Bool.not_true, Bool.not_false, Bool.false_eq_true, if_false, if_true, Bool.not_eq_true', decide_eq_false_iff_not, ilt_eq, ile_eq, reduceCtorEq, not_false_eq_true, not_true_eq_false, h']
end
theorem noteOrder_vm (n : Nat) (hn : 4000 ≤ n) {H : VH} (hH : H.Ok) (a : Option (Nat × Nat)) (l : Nat) (c : Option Nat) (e : Nat) (hN : Nums H H.next a l) :
    ∃ H', vcall T ext promo n 12 [.slice a l c e] H = some (.bool true, H') := by
  obtain ⟨n, rfl⟩ : ∃ m, n = m + 1 := ⟨n - 1, by omega⟩
  obtain ⟨o2, s2⟩ := start hH c e hN
  obtain ⟨r, H3, e3, r1, r2, d3⟩ := range_ok n (by omega) o2 s2 (by omega) 0 40 (by omega) (by omega) (by omega)
  obtain ⟨r, rfl⟩ : ∃ r' : Nat, r = (r' : Int) := ⟨r.toNat, by omega⟩
  obtain ⟨v4, l4, H4, e4, o4, g4, hl4⟩ := gather n (by omega) H.next r (by omega) H.lo rfl n 0 1 H3 _ [] (by omega) (by omega) (by omega) d3.ok d3.st (.inl ⟨rfl, rfl⟩) (by simp)
  have w4 := g4.src o4
  obtain ⟨v5, H5, e5, w5, k5⟩ := sortV_ok n (by omega) o4 w4 (by omega)
  have w45 := w4.keep o4 k5.keep
  obtain ⟨v6, H6, e6, w6, k6⟩ := sortV_ok n (by omega) k5.ok w5 (by have := outN_len l4; omega)
  have w56 := w5.keep k5.ok k6.keep
  rw [outN_twice] at w6
  obtain ⟨a4, c4, z4, rfl, q4⟩ := w45.shape
  obtain ⟨a5, c5, z5, rfl, q5⟩ := w5.shape
  obtain ⟨a6, c6, z6, rfl, q6⟩ := w6.shape
  obtain ⟨a7, c7, z7, hv, q7⟩ := w56.shape
  cases hv
  have h20 : ((outN l4).length : Int) ≤ 20 := by have := outN_len l4; omega
  have e0 : (.int .i64 0 : AV) = .int .i64 ((0 : Nat) : Int) := rfl
  refine ⟨_, ok12 _ _ _ _ _ _ (r := (.bool true, leave H H6 (.bool true))) ?_⟩
  unfold F12
  simp only [letH_mk, lo_next]
  rw [e3]
  simp only [bindC_mk, asI_mk]
  rw [e0, e4]
  simp only [letH_mk, bindC_mk, bindV_mk, bindH_mk, bindJ_mk, asB_mk, asI_mk, asS_mk, asP_mk, asSl_mk, asA_mk, asTu_mk, asSome_mk, unc_mk, endL_mk, selC_eq, condT_eq, letN_mk, letB_mk, case_nn, case_nr, case_ne, case_rn, case_rr, case_re, case_en, case_er, case_ee, decide_eq_true_eq, Bool.not_true, Bool.not_false, Bool.false_eq_true, if_false, if_true, Bool.not_eq_true', decide_eq_false_iff_not, ilt_eq, ile_eq, reduceCtorEq, not_false_eq_true, not_true_eq_false]
  rw [e5]
  simp only [letH_mk, bindC_mk, bindV_mk, bindH_mk, bindJ_mk, asB_mk, asI_mk, asS_mk, asP_mk, asSl_mk, asA_mk, asTu_mk, asSome_mk, unc_mk, endL_mk, selC_eq, condT_eq, letN_mk, letB_mk, case_nn, case_nr, case_ne, case_rn, case_rr, case_re, case_en, case_er, case_ee, decide_eq_true_eq, Bool.not_true, Bool.not_false, Bool.false_eq_true, if_false, if_true, Bool.not_eq_true', decide_eq_false_iff_not, ilt_eq, ile_eq, reduceCtorEq, not_false_eq_true, not_true_eq_false]
  rw [got_loop n (by omega) k5.ok c4 z4 q4 q5 (by omega) n 0 (by omega) (by have := outN_len l4; omega)]
  simp only [letH_mk, bindC_mk, bindV_mk, bindH_mk, bindJ_mk, asB_mk, asI_mk, asS_mk, asP_mk, asSl_mk, asA_mk, asTu_mk, asSome_mk, unc_mk, endL_mk, selC_eq, condT_eq, letN_mk, letB_mk, case_nn, case_nr, case_ne, case_rn, case_rr, case_re, case_en, case_er, case_ee, decide_eq_true_eq, Bool.not_true, Bool.not_false, Bool.false_eq_true, if_false, if_true, Bool.not_eq_true', decide_eq_false_iff_not, ilt_eq, ile_eq, reduceCtorEq, not_false_eq_true, not_true_eq_false]
  rw [all_loop n (by omega) k5.ok c5 z5 q4 q5 (by omega) n 0 (by omega) (by omega)]
  simp only [letH_mk, bindC_mk, bindV_mk, bindH_mk, bindJ_mk, asB_mk, asI_mk, asS_mk, asP_mk, asSl_mk, asA_mk, asTu_mk, asSome_mk, unc_mk, endL_mk, selC_eq, condT_eq, letN_mk, letB_mk, case_nn, case_nr, case_ne, case_rn, case_rr, case_re, case_en, case_er, case_ee, decide_eq_true_eq, Bool.not_true, Bool.not_false, Bool.false_eq_true, if_false, if_true, Bool.not_eq_true', decide_eq_false_iff_not, ilt_eq, ile_eq, reduceCtorEq, not_false_eq_true, not_true_eq_false]
  rw [placed_ok n (by omega)]
  simp only [letH_mk, bindC_mk, bindV_mk, bindH_mk, bindJ_mk, asB_mk, asI_mk, asS_mk, asP_mk, asSl_mk, asA_mk, asTu_mk, asSome_mk, unc_mk, endL_mk, selC_eq, condT_eq, letN_mk, letB_mk, case_nn, case_nr, case_ne, case_rn, case_rr, case_re, case_en, case_er, case_ee, decide_eq_true_eq, Bool.not_true, Bool.not_false, Bool.false_eq_true, if_false, if_true, Bool.not_eq_true', decide_eq_false_iff_not, ilt_eq, ile_eq, reduceCtorEq, not_false_eq_true, not_true_eq_false, h20, e6]
  rw [equalNotes_ok n (by omega) q6 q7 (by have := outN_len l4; omega)]
  simp only [letH_mk, bindC_mk, bindV_mk, bindH_mk, bindJ_mk, asB_mk, asI_mk, asS_mk, asP_mk, asSl_mk, asA_mk, asTu_mk, asSome_mk, unc_mk, endL_mk, selC_eq, condT_eq, letN_mk, letB_mk, case_nn, case_nr, case_ne, case_rn, case_rr, case_re, case_en, case_er, case_ee, decide_eq_true_eq, Bool.not_true, Bool.not_false, Bool.false_eq_true, if_false, if_true, Bool.not_eq_true', decide_eq_false_iff_not, ilt_eq, ile_eq, reduceCtorEq, not_false_eq_true, not_true_eq_false]
end Go.Vm.Tryd
