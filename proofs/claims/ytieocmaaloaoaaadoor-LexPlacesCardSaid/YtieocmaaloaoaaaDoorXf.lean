/- Tokens: numbers. -/
import Derived.Test.YtieocmaaloaoaaaDoorXe
namespace Go.Vm.Tryd
set_option linter.unusedSectionVars false
set_option linter.unusedSimpArgs false
set_option linter.unusedVariables false
set_option maxRecDepth 10000
def valD : Nat → List UInt8 → Nat
  | a, [] => a
  | a, c :: l => valD (10 * a + (c.toNat - 48)) l
theorem valD_nil (a : Nat) : valD a [] = a := rfl
theorem valD_le : ∀ (l : List UInt8) (a : Nat), a ≤ valD a l
  | [], a => Nat.le_refl _
  | c :: l, a => Nat.le_trans (by omega) (valD_le l _)
theorem num_loop (n : Nat) (s : List UInt8) (hl : s.length < 90000) (b : Nat) (p : Pos) {H : VH} (hs : Scan H b s p) (N : Nat) (hN : N < 90000) (r : List UInt8) :
    ∀ (u : List UInt8) (m i a : Nat), u.length < m → i + u.length = N → s.drop (p.at_ + i) = u ++ r → (∀ x ∈ u, figB x = true) → valD a u < 2147483648 →
      loopN (L141_0 (vcall T ext promo n) n (some (b, 0)) (N : Int)) m [.int .u64 (a : Int), .int .i64 (i : Int)] H = some (.exit 0, [.int .u64 ((valD a u : Nat) : Int)], H) := by
  have c0 : H.cell b 0 = some (.str (PS.of s)) := Plain.cell hs 0
  have c1 : H.cell b (0 + 1) = some (.int .i64 (p.at_ : Int)) := Plain.cell hs 1
  intro u
  induction u with
  | nil =>
    intro m i a hm hi hd hu hv
    obtain ⟨m, rfl⟩ : ∃ m', m = m' + 1 := ⟨m - 1, by omega⟩
    have h' : ¬ (i : Int) < (N : Int) := by simp at hi; omega
    rw [loopN_succ]
    unfold L141_0
    simp only [KA, KB, KD, reduceCtorEq, if_false, if_true, h', valD_nil]
  | cons c u ih =>
    intro m i a hm hi hd hu hv
    obtain ⟨m, rfl⟩ : ∃ m', m = m' + 1 := ⟨m - 1, by omega⟩
    rw [List.length_cons] at hm hi
    obtain ⟨hlt, hc0, hd1⟩ := drop_lt (by rw [List.cons_append] at hd; exact hd)
    have hf : 48 ≤ c.toNat ∧ c.toNat ≤ 57 := by have := hu c (.head _); simpa [figB] using this
    have hle := valD_le u (10 * a + (c.toNat - 48))
    rw [show valD a (c :: u) = valD (10 * a + (c.toNat - 48)) u from rfl] at hv ⊢
    generalize hx : c.toNat - 48 = x at *
    have h' : (i : Int) < (N : Int) := by omega
    have n2 : (0 : Int) ≤ ((p.at_ + i : Nat) : Int) := Int.natCast_nonneg _
    have n3 : ((p.at_ + i : Nat) : Int) < (s.length : Int) := by omega
    have hcx : (c.toNat : Int) - 48 = (x : Int) := by omega
    have hx9 : x ≤ 9 := by omega
    have ha9 : 10 * a + x < 2147483648 := Nat.lt_of_le_of_lt hle hv
    have f1 : fwrap .u64 (10 * (a : Int)) = ((10 * a : Nat) : Int) := by rw [fw_u64]; omega
    have f2 : fwrap .u8 ((c.toNat : Int) - 48) = (x : Int) := by rw [fw_u8, hcx]; omega
    have f3 : fwrap .u64 (x : Int) = (x : Int) := by rw [fw_u64]; omega
    have f4 : fwrap .u64 (((10 * a : Nat) : Int) + (x : Int)) = ((10 * a + x : Nat) : Int) := by rw [fw_u64]; omega
    have f5 : imin ((10 * a + x : Nat) : Int) 1099511627776 = ((10 * a + x : Nat) : Int) := by
      simp only [imin, ilt_eq, decide_eq_true_eq]
      split <;> omega
    rw [loopN_succ]
    generalize hlp : loopN (L141_0 (vcall T ext promo n) n (some (b, 0)) (N : Int)) m = lp
    unfold L141_0
    simp only [KA, KB, KD, reduceCtorEq, if_false, if_true, h', c0, c1, of_len, fw_addn p.at_ i (by omega), n2, n3, and_self, Bool.and_eq_true, byte_opt hc0, f1, f2, f3, f4, f5, fw_add1 i (by omega)]
    rw [← hlp]
    exact ih m (i + 1) _ (by omega) (by omega) hd1 (fun x hx => hu x (.tail _ hx)) hv
theorem not_word_fig {d : UInt8} (h : wordB d = false) : figB d = false := by
  unfold wordB at h
  simp only [Bool.or_eq_false_iff] at h
  exact h.2
theorem fig_word {d : UInt8} (h : figB d = true) : wordB d = true := by
  unfold wordB
  rw [h, Bool.or_true]
theorem fig_not_let {d : UInt8} (h : figB d = true) : letB d = false := by
  simp only [figB, decide_eq_true_eq] at h
  simp only [letB, decide_eq_false_iff_not]
  omega
def Tok.num (w v x : Int) (sg : Bool) : Tok := ⟨3, [], false, w, v, x, sg⟩
theorem token_num (c : UInt8) (w r : List UInt8) (hw : ∀ x ∈ c :: w, figB x = true) (hr : ∀ d t, r = d :: t → wordB d = false ∧ d ≠ 39) (h0 : w = [] ∨ c ≠ 48) (hv : valD 0 (c :: w) < 2147483648)
    (hof : ∀ n, 1 ≤ n → ∀ H, vcall T ext promo n 30 [.int .i64 32, .int .u64 ((valD 0 (c :: w) : Nat) : Int)] H = some (.agg [.int .i64 32, .int .u64 ((valD 0 (c :: w) : Nat) : Int), .int .u64 0], H)) :
    TokAt (c :: w ++ r) (Tok.num 32 ((valD 0 (c :: w) : Nat) : Int) 0 true) (c :: w).length := by
  intro n s b q p ln co H hn hl hbq hq0 hd hat hH hM hs hq
  obtain ⟨n, rfl⟩ : ∃ m, n = m + 2 := ⟨n - 2, by omega⟩
  have hqlt := hq.lt hH
  have hlw : (c :: w).length + r.length = s.length - p.at_ := by rw [← List.length_append, ← hd, List.length_drop]
  obtain ⟨hlt, hc0, _⟩ := drop_lt (by rw [List.cons_append] at hd; exact hd)
  have hs0 := hs.lo
  have c0 : H.lo.cell b 0 = some (.str (PS.of s)) := Plain.cell hs0 0
  have c1 : H.lo.cell b (0 + 1) = some (.int .i64 (p.at_ : Int)) := Plain.cell hs0 1
  have hA0 : (0 : Int) ≤ (p.at_ : Int) := Int.natCast_nonneg _
  have hA1 : (p.at_ : Int) < (s.length : Int) := by omega
  have hfc := hw c (.head _)
  have hfn : 48 ≤ c.toNat ∧ c.toNat ≤ 57 := by simpa [figB] using hfc
  have elet := letter_ok (n + 1) (by omega) c H.lo
  rw [fig_not_let hfc] at elet
  have efig := figure_ok (n + 1) (by omega) c H.lo
  rw [hfc] at efig
  -- the function for numbers
  obtain ⟨H2, e2, p2, k2⟩ := plain_put hq.lo.lo (lo_ok (lo_ok hH)) 0 (by simp [Tok.cells]) (.int .i64 3) rfl
  have s2 := hs0.lo.did (lo_ok (lo_ok hH)) k2 hbq
  have d0 : H2.cell b 0 = some (.str (PS.of s)) := Plain.cell s2 0
  have d1 : H2.cell b (0 + 1) = some (.int .i64 (p.at_ : Int)) := Plain.cell s2 1
  have er := run_ok n figure_ok s2 (by omega) hat 0 (by omega) (c :: w) r (by omega) (by rw [Nat.add_zero]; exact hd) hw (fun d t e => not_word_fig (hr d t e).1)
  rw [Nat.zero_add] at er
  have er1 : vcall T ext promo n 135 [.ptr (some (b, 0)), .int .i64 0, .func 139 [] []] H2 = some (.int .i64 (((c :: w).length : Nat) : Int), H2) := er
  have hd2 : s.drop (p.at_ + (c :: w).length) = r := by rw [← List.drop_drop, hd, List.drop_left]
  have er2 := run_ok n (wordP_ok _ (.inr rfl)) s2 (by omega) hat (c :: w).length (by omega) [] r (by simp; omega) hd2 (fun _ h => by cases h) (fun d t e => (hr d t e).1)
  rw [List.length_nil, Nat.add_zero] at er2
  have el := num_loop n s hl b p s2 (c :: w).length (by omega) r (c :: w) n 0 0 (by omega) (by omega) hd hw hv
  have el' : loopN (L141_0 (vcall T ext promo n) n (some (b, 0)) (((c :: w).length : Nat) : Int)) n [.int .u64 0, .int .i64 0] H2 = some (.exit 0, [.int .u64 ((valD 0 (c :: w) : Nat) : Int)], H2) := el
  obtain ⟨H3, e3, p3, k3⟩ := plain_puts0 [.int .i64 32, .int .u64 ((valD 0 (c :: w) : Nat) : Int), .int .u64 0] (0 + 5) p2 k2.eff.ok (by simp [Tok.cells]) rfl
  obtain ⟨H4, e4, p4, k4⟩ := plain_put p3 k3.eff.ok (0 + 8) (by simp [Tok.cells]) (.bool true) rfl
  have d4 := (k2.trans k3).trans k4
  have hbig : ¬ (2147483647 : Int) < ((valD 0 (c :: w) : Nat) : Int) := by omega
  have hnn : ¬ (((c :: w).length : Nat) : Int) < (((c :: w).length : Nat) : Int) := Int.lt_irrefl _
  have e5 : vcall T ext promo (n + 1) 141 [.ptr (some (b, 0)), .ptr (some (q, 0))] H.lo = some (.tuple [.int .i64 (((c :: w).length : Nat) : Int), .int .i64 0], leave H.lo H4 (.tuple [.int .i64 (((c :: w).length : Nat) : Int), .int .i64 0])) := by
    refine ok141 _ _ _ _ ?_
    unfold F141
    have hz : ¬ (1 : Int) < (((c :: w).length : Nat) : Int) ∨ ¬ (c.toNat : Int) = 48 := by
      rcases h0 with rfl | h0
      · left; simp
      · right; exact u8_ne h0
    cases r with
    | nil =>
      have n4 : ¬ ((p.at_ + (c :: w).length : Nat) : Int) < (s.length : Int) := by simp at hlw; simp; omega
      rcases hz with hz | hz
      · simp only [KA, KB, KD, reduceCtorEq, if_false, if_true, e2, er1, d0, d1, of_len, fw_addn p.at_ (c :: w).length (by omega), n4, er2, hnn, hz, el', hbig, hof n (by omega), e3, e4]
      · simp only [KA, KB, KD, reduceCtorEq, if_false, if_true, e2, er1, d0, d1, of_len, fw_addn p.at_ (c :: w).length (by omega), n4, er2, hnn, hA0, hA1, and_self, Bool.and_eq_true, byte_opt hc0, ieq_dec, hz, decide_false, el', hbig, hof n (by omega), e3, e4, ite_self]
    | cons d t =>
      obtain ⟨g1, g2, _⟩ := drop_lt hd2
      have n4 : ((p.at_ + (c :: w).length : Nat) : Int) < (s.length : Int) := by omega
      have n5 : (0 : Int) ≤ ((p.at_ + (c :: w).length : Nat) : Int) := Int.natCast_nonneg _
      have n6 : ¬ (d.toNat : Int) = 39 := u8_ne (hr d t rfl).2
      rcases hz with hz | hz
      · simp only [KA, KB, KD, reduceCtorEq, if_false, if_true, e2, er1, d0, d1, of_len, fw_addn p.at_ (c :: w).length (by omega), n4, n5, and_self, Bool.and_eq_true, byte_opt g2, ieq_dec, n6, decide_false, er2, hnn, hz, el', hbig, hof n (by omega), e3, e4]
      · simp only [KA, KB, KD, reduceCtorEq, if_false, if_true, e2, er1, d0, d1, of_len, fw_addn p.at_ (c :: w).length (by omega), n4, n5, and_self, Bool.and_eq_true, byte_opt g2, n6, er2, hnn, hA0, hA1, byte_opt hc0, ieq_dec, hz, decide_false, el', hbig, hof n (by omega), e3, e4, ite_self]
  have d5 := d4.leave (lo_ok hH) (by simpa using hqlt) (.tuple [.int .i64 (((c :: w).length : Nat) : Int), .int .i64 0])
  have p5 := plain_leave (lo_ok hH) (by simpa using hqlt) p4 d4 (.tuple [.int .i64 (((c :: w).length : Nat) : Int), .int .i64 0])
  refine ⟨_, ok98 _ _ _ _ (r := (_, leave H (leave H.lo H4 (.tuple [.int .i64 (((c :: w).length : Nat) : Int), .int .i64 0])) (.tuple [.int .i64 (((c :: w).length : Nat) : Int), .int .i64 0]))) ?_, plain_leave hH hqlt p5 d5 _, d5.leave hH hqlt _⟩
  unfold F98
  simp only [KA, KB, KD, reduceCtorEq, if_false, if_true, c0, c1, of_len, hA0, hA1, and_self, Bool.and_eq_true, byte_opt hc0, elet, efig, e5]
/-- A number with its width. -/
theorem token_numq (c : UInt8) (d e r : List UInt8) (W V X : Int) (sg : Bool) (hw : ∀ x ∈ c :: d, figB x = true) (he : ∀ x ∈ e, wordB x = true) (hr : ∀ x t, r = x :: t → wordB x = false)
    (hread : ∀ n, 1 ≤ n → ∀ H, vcall T ext promo n 21 [.str (PS.of (c :: d ++ 39 :: e))] H = some (.tuple [.agg [.int .i64 W, .int .u64 V, .int .u64 X], .int .i64 0], H))
    (hcon : ∀ n, 1 ≤ n → ∀ H, Mx H → vcall T ext promo n 161 [.str (PS.of (c :: d ++ 39 :: e)), .str (PS.of [39, 115])] H = some (.bool sg, H)) :
    TokAt ((c :: d ++ 39 :: e) ++ r) (Tok.num W V X sg) (c :: d ++ 39 :: e).length := by
  intro n s b q p ln co H hn hl hbq hq0 hd hat hH hM hs hq
  obtain ⟨n, rfl⟩ : ∃ m, n = m + 2 := ⟨n - 2, by omega⟩
  have hqlt := hq.lt hH
  have hlw : (c :: d ++ 39 :: e).length + r.length = s.length - p.at_ := by rw [← List.length_append, ← hd, List.length_drop]
  have hwl : (c :: d ++ 39 :: e).length = (c :: d).length + 1 + e.length := by simp; omega
  obtain ⟨hlt, hc0, _⟩ := drop_lt (by rw [List.cons_append, List.cons_append] at hd; exact hd)
  have hs0 := hs.lo
  have c0 : H.lo.cell b 0 = some (.str (PS.of s)) := Plain.cell hs0 0
  have c1 : H.lo.cell b (0 + 1) = some (.int .i64 (p.at_ : Int)) := Plain.cell hs0 1
  have hA0 : (0 : Int) ≤ (p.at_ : Int) := Int.natCast_nonneg _
  have hA1 : (p.at_ : Int) < (s.length : Int) := by omega
  have hfc := hw c (.head _)
  have elet := letter_ok (n + 1) (by omega) c H.lo
  rw [fig_not_let hfc] at elet
  have efig := figure_ok (n + 1) (by omega) c H.lo
  rw [hfc] at efig
  obtain ⟨H2, e2, p2, k2⟩ := plain_put hq.lo.lo (lo_ok (lo_ok hH)) 0 (by simp [Tok.cells]) (.int .i64 3) rfl
  have s2 := hs0.lo.did (lo_ok (lo_ok hH)) k2 hbq
  have d0 : H2.cell b 0 = some (.str (PS.of s)) := Plain.cell s2 0
  have d1 : H2.cell b (0 + 1) = some (.int .i64 (p.at_ : Int)) := Plain.cell s2 1
  have hsp : s.drop p.at_ = (c :: d) ++ (39 :: (e ++ r)) := by rw [hd]; simp
  have er := run_ok n figure_ok s2 (by omega) hat 0 (by omega) (c :: d) (39 :: (e ++ r)) (by omega) (by rw [Nat.add_zero]; exact hsp) hw (fun x t ex => by obtain ⟨rfl, _⟩ := List.cons.inj ex; decide)
  rw [Nat.zero_add] at er
  have er1 : vcall T ext promo n 135 [.ptr (some (b, 0)), .int .i64 0, .func 139 [] []] H2 = some (.int .i64 (((c :: d).length : Nat) : Int), H2) := er
  have hd2 : s.drop (p.at_ + (c :: d).length) = 39 :: (e ++ r) := by rw [← List.drop_drop, hsp, List.drop_left]
  obtain ⟨g1, g2, g3⟩ := drop_lt hd2
  have er2 := run_ok n (wordP_ok _ (.inr rfl)) s2 (by omega) hat ((c :: d).length + 1) (by omega) e r (by omega) g3 he hr
  rw [← hwl] at er2
  have hsub := sub_str (H := H2) hd hat
  obtain ⟨H3, e3, p3, k3⟩ := plain_puts0 [.int .i64 W, .int .u64 V, .int .u64 X] (0 + 5) p2 k2.eff.ok (by simp [Tok.cells]) rfl
  obtain ⟨H4, e4, p4, k4⟩ := plain_put p3 k3.eff.ok (0 + 8) (by simp [Tok.cells]) (.bool sg) rfl
  have d4 := (k2.trans k3).trans k4
  have n4 : ((p.at_ + (c :: d).length : Nat) : Int) < (s.length : Int) := by omega
  have n5 : (0 : Int) ≤ ((p.at_ + (c :: d).length : Nat) : Int) := Int.natCast_nonneg _
  have hM2 : Mx H2 := hM.lo.lo.did (lo_ok (lo_ok hH)) k2 hq0
  have e5 : vcall T ext promo (n + 1) 141 [.ptr (some (b, 0)), .ptr (some (q, 0))] H.lo = some (.tuple [.int .i64 (((c :: d ++ 39 :: e).length : Nat) : Int), .int .i64 0], leave H.lo H4 (.tuple [.int .i64 (((c :: d ++ 39 :: e).length : Nat) : Int), .int .i64 0])) := by
    refine ok141 _ _ _ _ ?_
    unfold F141
    simp only [KA, KB, KD, reduceCtorEq, if_false, if_true, e2, er1, d0, d1, of_len, fw_addn p.at_ (c :: d).length (by omega), n4, n5, and_self, Bool.and_eq_true, byte_opt g2, ieq_dec, show ((UInt8.toNat 39 : Nat) : Int) = 39 from rfl, decide_true, fw_add1 (c :: d).length (by omega), er2, fw_addn p.at_ (c :: d ++ 39 :: e).length (by omega), hsub, hread n (by omega), hcon n (by omega) H2 hM2, e3, e4]
  have d5 := d4.leave (lo_ok hH) (by simpa using hqlt) (.tuple [.int .i64 (((c :: d ++ 39 :: e).length : Nat) : Int), .int .i64 0])
  have p5 := plain_leave (lo_ok hH) (by simpa using hqlt) p4 d4 (.tuple [.int .i64 (((c :: d ++ 39 :: e).length : Nat) : Int), .int .i64 0])
  refine ⟨_, ok98 _ _ _ _ (r := (_, leave H (leave H.lo H4 (.tuple [.int .i64 (((c :: d ++ 39 :: e).length : Nat) : Int), .int .i64 0])) (.tuple [.int .i64 (((c :: d ++ 39 :: e).length : Nat) : Int), .int .i64 0]))) ?_, plain_leave hH hqlt p5 d5 _, d5.leave hH hqlt _⟩
  unfold F98
  simp only [KA, KB, KD, reduceCtorEq, if_false, if_true, c0, c1, of_len, hA0, hA1, and_self, Bool.and_eq_true, byte_opt hc0, elet, efig, e5]
end Go.Vm.Tryd
