/- The stream of draws: what its functions answer. -/
import Derived.Test.YtmlogeklbcgjnaaGreatDoorP0
import Derived.Test.YtmlogeklbcgjnaaGreatDoorVmStr
import Derived.Test.YtmlogeklbcgjnaaGreatDoorVmX
namespace Go.Vm.Tryz
set_option linter.unusedSectionVars false
set_option linter.unusedSimpArgs false
set_option linter.unusedVariables false

/-- The numbers behind a stream. -/
def Nums (H : VH) (b : Nat) (a : Option (Bk × Nat)) (l : Nat) : Prop :=
  l < 9223372036854775808 ∧ (0 < l → ∃ (p : Nat) (o : Nat), a = some ((p : Bk), o) ∧ p < b ∧ p < H.next ∧ ∀ i, i < l → ∃ x : Int, H.cell p (o + i) = some (.int .i64 x) ∧ -9223372036854775808 ≤ x ∧ x < 9223372036854775808)
/-- A stream at a block, k numbers drawn. -/
def St (H : VH) (b k : Nat) : Prop := ∃ a l c e, Plain H b [.slice a l c e, .int .i64 (k : Int)] ∧ Nums H b a l
/-- At most K numbers drawn. -/
def StB (H : VH) (b K : Nat) : Prop := ∃ k, k ≤ K ∧ St H b k
theorem Nums.keep {H H' : VH} {b : Nat} {a : Option (Bk × Nat)} {l : Nat} (h : Nums H b a l) (hH : H.Ok) (k : Keep (· = b) H H') : Nums H' b a l := by
  refine ⟨h.1, fun hl => ?_⟩
  obtain ⟨p, o, rfl, h1, h2, h3⟩ := h.2 hl
  exact ⟨p, o, rfl, h1, Nat.lt_of_lt_of_le h2 k.next, fun i hi => by rw [keep_cell k hH h2 (Nat.ne_of_lt h1)]; exact h3 i hi⟩
/-- What a draw leaves. -/
structure Drawn (H H' : VH) (b k : Nat) : Prop where
  st : StB H' b k
  keep : Keep (· = b) H H'
  ok : H'.Ok
  low : H'.low ≤ b

theorem below_ok (n : Nat) (hn : 1 ≤ n) (x m : Int) (_hx : -9223372036854775808 ≤ x ∧ x < 9223372036854775808) (hm : 1 ≤ m ∧ m < 9223372036854775808) (H : VH) :
    vcall T ext promo n 15 [.int .i64 x, .int .i64 m] H = some (.int .i64 (x % m), H) := by
  obtain ⟨n, rfl⟩ : ∃ m, n = m + 1 := ⟨n - 1, by omega⟩
  apply ok15
  unfold F15
  simp only [letH_mk, selC_eq, ilt_eq, decide_eq_true_eq]
  rw [if_neg (by omega), rem_i64 _ _ (by omega)]
  simp only [bindV_mk, asI_mk]
  have h1 := Int.emod_nonneg x (show m ≠ 0 by omega)
  have h2 := Int.emod_lt_of_pos x (show 0 < m by omega)
  have h3 := Int.tmod_eq_emod (a := x) (b := m)
  have hn : (m.natAbs : Int) = m := by omega
  by_cases hc : 0 ≤ x ∨ m ∣ x
  · rw [if_pos hc] at h3
    rw [if_neg (by omega)]
    simp only [bindJ_mk, case_nn, unc_mk, asI_mk, endL_mk]
    rw [leave_flat rfl rfl, h3]
    congr 3
    omega
  · rw [if_neg hc, hn] at h3
    rw [if_pos (by omega)]
    simp only [letN_mk, bindJ_mk, case_nn, unc_mk, asI_mk, endL_mk]
    rw [leave_flat rfl rfl, h3, fw_i64 (by omega) (by omega)]
    congr 3
    omega

theorem next_ok (n : Nat) (hn : 5 ≤ n) {H : VH} {b K : Nat} (hH : H.Ok) (hs0 : StB H b K) (hk0 : K < 1000000000) (m : Int) (hm : 1 ≤ m ∧ m < 9223372036854775808) :
    ∃ r H', vcall T ext promo n 5 [.ptr (some (b, 0)), .int .i64 m] H = some (.int .i64 r, H') ∧ 0 ≤ r ∧ r < m ∧ Drawn H H' b (K + 1) := by
  obtain ⟨n, rfl⟩ : ∃ m, n = m + 1 := ⟨n - 1, by omega⟩
  obtain ⟨k, hkK, a, l, c, e, hp, hnum⟩ := hs0
  have hk : k < 1000000000 := by omega
  have hb := hp.lt hH
  obtain ⟨H1, e1, p1, k1, o1, l1, n1⟩ := hp.lo.puts1 (lo_ok hH) 1 (by simp) (.int .i64 ((k + 1 : Nat) : Int)) rfl
  simp only [List.set_cons_succ, List.set_cons_zero] at p1
  have k1 := k1.from_lo
  have c0 : H1.cell b 0 = some (.slice a l c e) := p1.cell 0
  have c1 : H1.cell b 1 = some (.int .i64 ((k + 1 : Nat) : Int)) := p1.cell 1
  have fin : ∀ r : Int, 0 ≤ r → r < m → F5 (vcall T ext promo n) n (some (b, 0)) m H = some (.int .i64 r, leave H H1 (.int .i64 r)) →
      ∃ r H', vcall T ext promo (n + 1) 5 [.ptr (some (b, 0)), .int .i64 m] H = some (.int .i64 r, H') ∧ 0 ≤ r ∧ r < m ∧ Drawn H H' b (K + 1) := by
    intro r h1 h2 h3
    refine ⟨r, _, ok5 _ _ _ _ h3, h1, h2, ?_⟩
    have hlow : H1.low = b := by
      rw [l1, lo_low]
      exact Nat.min_eq_right (Nat.le_of_lt hb)
    rw [leave_eff (by rw [hlow]; exact hb)]
    exact ⟨⟨k + 1, by omega, a, l, c, e, plain_low p1 _, (hnum.keep hH (keep_low k1 _))⟩, keep_low k1 _, ok_low o1 _, by
      show min H.low H1.low ≤ b
      rw [hlow]
      exact Nat.min_le_right _ _⟩
  have hput : fwrap .i64 ((k : Int) + 1) = ((k + 1 : Nat) : Int) := by rw [fw_i64 (by omega) (by omega)]; rfl
  have hsub : fwrap .i64 (((k + 1 : Nat) : Int) - 1) = (k : Int) := by rw [fw_i64 (by omega) (by omega)]; omega
  by_cases hl : l = 0
  · subst hl
    refine fin (fwrap .i64 (((k + 1 : Nat) : Int) * 7919) % m) (Int.emod_nonneg _ (by omega)) (Int.emod_lt_of_pos _ (by omega)) ?_
    unfold F5
    simp only [letH_mk, asSome_mk, lo_cell, hp.cell, List.getElem?_cons_succ, List.getElem?_cons_zero, bindV_mk, asI_mk, letN_mk, Nat.zero_add, hput, e1, bindH_mk, c0, c1, asSl_mk, selC_eq, ieq_dec, decide_eq_true_eq]
    rw [if_pos (show ((0 : Nat) : Int) = 0 from rfl), below_ok n (by omega) _ _ (fw_range _) hm]
    rfl
  · obtain ⟨p, o, rfl, h1, h2, h3⟩ := hnum.2 (by omega)
    have hlt := hnum.1
    have r1 : ((k : Int)).tmod (l : Int) = ((k % l : Nat) : Int) := rfl
    obtain ⟨x, hx, hxr⟩ := h3 (k % l) (Nat.mod_lt _ (by omega))
    have hx1 : H1.cell p (o + k % l) = some (.int .i64 x) := by rw [keep_cell k1 hH h2 (Nat.ne_of_lt h1)]; exact hx
    have hml := Nat.mod_lt k (show 0 < l by omega)
    have hq : ((k : Int)).tdiv (l : Int) = ((k / l : Nat) : Int) := rfl
    have hfq : fwrap .i64 ((k / l : Nat) : Int) = ((k / l : Nat) : Int) := by
      have h1 : (0 : Int) ≤ ((k / l : Nat) : Int) := Int.natCast_nonneg _
      have h2 : ((k / l : Nat) : Int) ≤ (k : Int) := Int.ofNat_le.2 (Nat.div_le_self k l)
      generalize ((k / l : Nat) : Int) = q at *
      exact fw_i64 (by omega) (by omega)
    refine fin (fwrap .i64 (x % 1073741824 + fwrap .i64 (((k / l : Nat) : Int) * fwrap .i64 (7919 + ((k % l : Nat) : Int)))) % m) (Int.emod_nonneg _ (by omega)) (Int.emod_lt_of_pos _ (by omega)) ?_
    unfold F5
    simp only [letH_mk, asSome_mk, lo_cell, hp.cell, List.getElem?_cons_succ, List.getElem?_cons_zero, bindV_mk, asI_mk, letN_mk, Nat.zero_add, hput, e1, bindH_mk, c0, c1, asSl_mk, selC_eq, ieq_dec, decide_eq_true_eq]
    rw [if_neg (by omega), hsub, rem_i64 _ _ (by omega), quo_i64 _ _ (by omega), r1, hq, hfq]
    simp only [bindV_mk, asI_mk, condT_eq, ile_eq, ilt_eq, Bool.and_eq_true, decide_eq_true_eq, Int.toNat_natCast, Nat.mul_one]
    rw [if_pos ⟨Int.natCast_nonneg _, Int.ofNat_lt.2 hml⟩, hx1]
    simp only [bindV_mk, asI_mk]
    rw [below_ok n (by omega) _ _ hxr (by omega)]
    simp only [bindC_mk, asI_mk]
    rw [below_ok n (by omega) _ _ (fw_range _) hm]
    rfl

theorem Drawn.trans {H H1 H2 : VH} {b k k' : Nat} (h : Drawn H H1 b k) (h' : Drawn H1 H2 b k') : Drawn H H2 b k' := ⟨h'.st, h.keep.trans h'.keep, h'.ok, h'.low⟩
theorem StB.lt {H : VH} {b k : Nat} (h : StB H b k) (hH : H.Ok) : b < H.next := by
  obtain ⟨_, _, _, _, _, _, hp, _⟩ := h
  exact hp.lt hH
theorem StB.lo {H : VH} {b k : Nat} (h : StB H b k) : StB H.lo b k := by
  obtain ⟨i, hi, a, l, c, e, hp, hn⟩ := h
  exact ⟨i, hi, a, l, c, e, hp.lo, hn⟩
theorem StB.keep {S : Nat → Prop} {H H' : VH} {b k : Nat} (h : StB H b k) (hH : H.Ok) (hk : Keep S H H') (hs : ∀ x, x < H.next → ¬ S x) : StB H' b k := by
  obtain ⟨i, hi, a, l, c, e, hp, hn1, hn⟩ := h
  refine ⟨i, hi, a, l, c, e, hp.keep hH hk (hs b (hp.lt hH)), hn1, fun hl => ?_⟩
  obtain ⟨p, o, rfl, h1, h2, h3⟩ := hn hl
  exact ⟨p, o, rfl, h1, Nat.lt_of_lt_of_le h2 hk.next, fun j hj => by rw [keep_cell hk hH h2 (hs p h2)]; exact h3 j hj⟩
/-- Blocks behind the stream's may be written. -/
theorem StB.keepUp {S : Nat → Prop} {H H' : VH} {b k : Nat} (h : StB H b k) (hH : H.Ok) (hk : Keep S H H') (hs : ∀ x, S x → b < x) : StB H' b k := by
  obtain ⟨i, hi, a, l, c, e, hp, hn1, hn⟩ := h
  refine ⟨i, hi, a, l, c, e, hp.keep hH hk (fun g => Nat.lt_irrefl _ (hs b g)), hn1, fun hl => ?_⟩
  obtain ⟨p, o, rfl, h1, h2, h3⟩ := hn hl
  exact ⟨p, o, rfl, h1, Nat.lt_of_lt_of_le h2 hk.next, fun j hj => by rw [keep_cell hk hH h2 (fun g => by have := hs p g; omega)]; exact h3 j hj⟩
theorem StB.fresh {H : VH} {b k : Nat} (h : StB H b k) (hH : H.Ok) (cs : List AV) : StB (H.fresh cs) b k := h.keep hH (Keep.fresh (fun _ => False) H cs) (fun _ _ e => e)
/-- A function that draws. -/
theorem Drawn.leave {H H' : VH} {b k : Nat} (_hH : H.Ok) (hb : b < H.next) (h : Drawn H.lo H' b k) (v : AV) : Drawn H (leave H H' v) b k := by
  have hlow := h.low
  rw [leave_eff (by omega)]
  obtain ⟨i, hi, a, l, c, e, hp, hn⟩ := h.st
  exact ⟨⟨i, hi, a, l, c, e, plain_low hp _, hn⟩, keep_low h.keep.from_lo _, ok_low h.ok _, by
    show min H.low H'.low ≤ b
    omega⟩
theorem range_ok (n : Nat) (hn : 10 ≤ n) {H : VH} {b k : Nat} (hH : H.Ok) (hs : StB H b k) (hk : k < 1000000000) (lo hi : Int) (hl : lo ≤ hi) (h1 : -1000000000000 ≤ lo) (h2 : hi ≤ 1000000000000) :
    ∃ r H', vcall T ext promo n 4 [.ptr (some (b, 0)), .int .i64 lo, .int .i64 hi] H = some (.int .i64 r, H') ∧ lo ≤ r ∧ r ≤ hi ∧ Drawn H H' b (k + 1) := by
  obtain ⟨n, rfl⟩ : ∃ m, n = m + 1 := ⟨n - 1, by omega⟩
  obtain ⟨r, H', e1, e2, e3, e4⟩ := next_ok n (by omega) (lo_ok hH) hs.lo hk (hi - lo + 1) (by omega)
  refine ⟨lo + r, _, ok4 _ _ _ _ _ ?_, by omega, by omega, e4.leave hH (hs.lt hH) (.int .i64 (lo + r))⟩
  unfold F4
  simp only [letH_mk, selC_eq, ilt_eq, decide_eq_true_eq, letN_mk]
  rw [if_neg (by omega), fw_i64 (n := hi - lo) (by omega) (by omega), fw_i64 (n := hi - lo + 1) (by omega) (by omega), e1]
  simp only [bindC_mk, asI_mk]
  rw [fw_i64 (by omega) (by omega)]
theorem flip_ok (n : Nat) (hn : 10 ≤ n) {H : VH} {b k : Nat} (hH : H.Ok) (hs : StB H b k) (hk : k < 1000000000) (m : Int) (hm : 1 ≤ m ∧ m < 9223372036854775808) :
    ∃ r H', vcall T ext promo n 8 [.ptr (some (b, 0)), .int .i64 m] H = some (.bool r, H') ∧ Drawn H H' b (k + 1) := by
  obtain ⟨n, rfl⟩ : ∃ m, n = m + 1 := ⟨n - 1, by omega⟩
  obtain ⟨r, H', e1, e2, e3, e4⟩ := next_ok n (by omega) (lo_ok hH) hs.lo hk m hm
  refine ⟨ieq r 0, _, ok8 _ _ _ _ ?_, e4.leave hH (hs.lt hH) (.bool (ieq r 0))⟩
  unfold F8
  simp only [letH_mk, e1, bindC_mk, asI_mk]
theorem StB.up {H : VH} {b k k' : Nat} (h : StB H b k) (hk : k ≤ k') : StB H b k' := by
  obtain ⟨i, hi, hs⟩ := h
  exact ⟨i, Nat.le_trans hi hk, hs⟩
theorem Drawn.up {H H' : VH} {b k k' : Nat} (h : Drawn H H' b k) (hk : k ≤ k') : Drawn H H' b k' := ⟨h.st.up hk, h.keep, h.ok, h.low⟩
theorem start {H : VH} (hH : H.Ok) {a : Option (Bk × Nat)} {l : Nat} (c : Option Nat) (e : Nat) (hN : Nums H H.next a l) :
    (H.lo.fresh [.slice a l c e, .int .i64 0]).Ok ∧ StB (H.lo.fresh [.slice a l c e, .int .i64 0]) H.next 0 :=
  ⟨fresh_ok (lo_ok hH) _, 0, Nat.le_refl _, a, l, c, e, fresh_plain (lo_ok hH) _, by
    refine ⟨hN.1, fun hl => ?_⟩
    obtain ⟨p, o, rfl, h1, h2, h3⟩ := hN.2 hl
    exact ⟨p, o, rfl, h1, Nat.lt_succ_of_lt h2, fun i hi => by rw [fresh_cell (lo_ok hH), if_neg (show ¬ p = H.lo.next from Nat.ne_of_lt h1)]; exact h3 i hi⟩⟩
end Go.Vm.Tryz
