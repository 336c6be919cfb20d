/- Tokens: names, words, signs. -/
import Derived.Test.YtieocmaaloaoaaaDoorXc
import Derived.Test.YtieocmaaloaoaaaDoorGr
namespace Go.Vm.Tryd
set_option linter.unusedSectionVars false
set_option linter.unusedSimpArgs false
set_option linter.unusedVariables false
set_option maxRecDepth 10000
structure Tok where
  kind : Int
  text : List UInt8
  quoted : Bool
  w : Int
  v : Int
  x : Int
  sg : Bool
def Tok.cells (t : Tok) (ln co : Nat) : List AV := [.int .i64 t.kind, .int .i64 (ln : Int), .int .i64 (co : Int), .str (PS.of t.text), .bool t.quoted, .int .i64 t.w, .int .u64 t.v, .int .u64 t.x, .bool t.sg]
def Tok.zero : Tok := ⟨0, [], false, 0, 0, 0, false⟩
theorem plain_put {H : VH} {q : Nat} {cs : List AV} (h : Plain H q cs) (hH : H.Ok) (o : Nat) (ho : o < cs.length) (v : AV) (hv : v.one = true) : ∃ H', H.puts q o [v] = some H' ∧ Plain H' q (cs.set o v) ∧ Did q H H' := by
  obtain ⟨H', e, p, k, w, l, _⟩ := h.puts1 hH o ho v hv
  exact ⟨H', e, p, ⟨.of_low k w l (h.lt hH), fun hx => by omega⟩⟩
theorem Did.new {q : Nat} {H0 H1 H2 : VH} {S : Nat → Prop} (h : Did q H0 H1) (hq : q < H0.next) (k : Eff S H1 H2) (hs : ∀ x, S x → H0.next ≤ x) : Did q H0 H2 := by
  refine ⟨h.eff.trans k fun x hx => .inr (hs x hx), fun hl => ?_⟩
  rw [keep_row k.keep (Nat.lt_of_lt_of_le hq h.eff.keep.next) (fun e => by have := hs q e; omega)]
  exact h.same (Nat.lt_of_lt_of_le hl k.low)
theorem Scan.did {H H' : VH} {b q : Nat} {s : List UInt8} {p : Pos} (h : Scan H b s p) (hH : H.Ok) (k : Did q H H') (hq : b ≠ q) : Scan H' b s p := Plain.keep h hH k.eff.keep hq
/-- At this text the scanner finds this token, of so many bytes. -/
def TokAt (tl : List UInt8) (t : Tok) (k : Nat) : Prop :=
  ∀ (n : Nat) (s : List UInt8) (b q : Nat) (p : Pos) (ln co : Nat) (H : VH), s.length + 200 ≤ n → s.length < 90000 → b ≠ q → q ≠ 0 → s.drop p.at_ = tl → p.at_ ≤ s.length → H.Ok → Mx H → Scan H b s p → Plain H q (Tok.zero.cells ln co) →
    ∃ H', vcall T ext promo n 98 [.ptr (some (b, 0)), .ptr (some (q, 0))] H = some (.tuple [.int .i64 (k : Int), .int .i64 0], H') ∧ Plain H' q (t.cells ln co) ∧ Did q H H'
theorem sub_str {s w r : List UInt8} {a : Nat} (hd : s.drop a = w ++ r) (ha : a ≤ s.length) (H : VH) : vslice T H 9 (.v (.str (PS.of s))) (some (.int .i64 (a : Int))) (some (.int .i64 ((a + w.length : Nat) : Int))) = some (.str (PS.of w)) := by
  have hl : w.length + r.length = s.length - a := by rw [← List.length_append, ← hd, List.length_drop]
  rw [slStr H s a (a + w.length) (by omega) (by omega), show a + w.length - a = w.length by omega, hd, List.take_left]
theorem token_word (c : UInt8) (w r : List UInt8) (hc : letB c = true) (hw : ∀ x ∈ c :: w, wordB x = true) (hr : ∀ d t, r = d :: t → wordB d = false) (h40 : (c :: w).length ≤ 40) :
    TokAt (c :: w ++ r) ⟨if bsF words (c :: w) then 2 else 1, c :: w, false, 0, 0, 0, false⟩ (c :: w).length := by
  intro n s b q p ln co H hn hl hbq hq0 hd hat hH hM hs hq
  obtain ⟨n, rfl⟩ : ∃ m, n = m + 1 := ⟨n - 1, by omega⟩
  have hqlt := hq.lt hH
  have hlw : (c :: w).length + r.length = s.length - p.at_ := by rw [← List.length_append, ← hd, List.length_drop]
  obtain ⟨hlt, hc0, _⟩ := drop_lt (by rw [List.cons_append] at hd; exact hd)
  have hs0 := hs.lo
  have c0 : H.lo.cell b 0 = some (.str (PS.of s)) := Plain.cell hs0 0
  have c1 : H.lo.cell b (0 + 1) = some (.int .i64 (p.at_ : Int)) := Plain.cell hs0 1
  have hA0 : (0 : Int) ≤ (p.at_ : Int) := Int.natCast_nonneg _
  have hA1 : (p.at_ : Int) < (s.length : Int) := by omega
  have er := run_ok n (wordP_ok _ (.inl rfl)) hs0 (by omega) hat 0 (by omega) (c :: w) r (by omega) (by rw [Nat.add_zero]; exact hd) hw hr
  rw [Nat.zero_add] at er
  have er' : vcall T ext promo n 135 [.ptr (some (b, 0)), .int .i64 0, .func 138 [] []] H.lo = some (.int .i64 (((c :: w).length : Nat) : Int), H.lo) := er
  have elet := letter_ok n (by omega) c H.lo
  rw [hc] at elet
  obtain ⟨H2, e2, p2, k2⟩ := plain_put hq.lo (lo_ok hH) 0 (by simp [Tok.cells]) (.int .i64 1) rfl
  obtain ⟨H3, e3, p3, k3⟩ := plain_put p2 k2.eff.ok (0 + 3) (by simp [Tok.cells]) (.str (PS.of (c :: w))) rfl
  obtain ⟨H4, e4, p4, k4⟩ := words_ok n (by omega) k3.eff.ok
  have p34 := p3.keep k3.eff.ok k4.keep (fun h => h)
  have hcq : H4.cell q (0 + 3) = some (.str (PS.of (c :: w))) := p34.cell 3
  have hsame : allSame H3 H4 [q] = true := same_keep p3 k3.eff.ok k4.keep (fun h => h)
  have hfree : freeOf (.read [q] []) 14 4 [.idle, .idle, .idle, (.eff H3 H4)] = true := by simp [freeOf, Tag.free, hsame]
  obtain ⟨i, e5⟩ := bs_ok n words (c :: w) (by decide) (by rw [show words.length = 54 from rfl]; omega) H3.next (some 54) 1 p4
  rw [show words.length = 54 from rfl] at e5
  have d4 : Did q H.lo H4 := (k2.trans k3).new (by simpa using hqlt) k4 (fun _ h => h.elim)
  have h40' : ¬ (40 : Int) < (((c :: w).length : Nat) : Int) := by omega
  by_cases hb : bsF words (c :: w) = true
  · rw [hb] at e5
    obtain ⟨H5, e6, p5, k5⟩ := plain_put p34 k4.ok 0 (by simp [Tok.cells]) (.int .i64 2) rfl
    have d5 := d4.trans k5
    refine ⟨leave H H5 (.tuple [.int .i64 (((c :: w).length : Nat) : Int), .int .i64 0]), ok98 _ _ _ _ ?_, ?_, d5.leave hH hqlt _⟩
    · unfold F98
      simp only [KA, KB, KD, reduceCtorEq, if_false, if_true, c0, c1, of_len, hA0, hA1, and_self, Bool.and_eq_true, byte_opt hc0, elet, er', fw_addn p.at_ (c :: w).length (by omega), sub_str hd hat, e2, e3, e4, hcq, hfree, e5, e6, h40']
    · rw [if_pos hb]
      exact plain_leave hH hqlt p5 d5 _
  · have hb' : bsF words (c :: w) = false := by simpa using hb
    rw [hb'] at e5
    refine ⟨leave H H4 (.tuple [.int .i64 (((c :: w).length : Nat) : Int), .int .i64 0]), ok98 _ _ _ _ ?_, ?_, d4.leave hH hqlt _⟩
    · unfold F98
      simp only [KA, KB, KD, reduceCtorEq, if_false, if_true, c0, c1, of_len, hA0, hA1, and_self, Bool.and_eq_true, byte_opt hc0, elet, er', fw_addn p.at_ (c :: w).length (by omega), sub_str hd hat, e2, e3, e4, hcq, hfree, e5, h40']
    · rw [hb']
      exact plain_leave hH hqlt p34 d4 _
theorem sign_loop (n : Nat) (hn : 20 ≤ n) (s : List UInt8) (b q sq : Nat) (p : Pos) (ln co : Nat) (hat : p.at_ ≤ s.length) (g : List UInt8) {H : VH} (hH : H.Ok) (hs : Scan H b s p) (hq : Plain H q (Tok.zero.cells ln co)) (hsq : Plain H sq (strCells signs)) :
    ∀ (m i : Nat), 39 - i < m → i ≤ 39 → (signs.drop i).find? (fun x => x.isPrefixOf (s.drop p.at_)) = some g →
      ∃ H', loopN (L98_0 (vcall T ext promo n) n (some (b, 0)) (some (q, 0)) (some (sq, 0)) 39) m [.int .i64 (i : Int)] H = some (.ret, [.int .i64 (g.length : Int), .int .i64 0], H') ∧ Plain H' q ((⟨5, g, false, 0, 0, 0, false⟩ : Tok).cells ln co) ∧ Did q H H' := by
  intro m
  induction m with
  | zero => intro i h; omega
  | succ m ih =>
    intro i hm hi hf
    rw [loopN_succ]
    generalize hlp : loopN (L98_0 (vcall T ext promo n) n (some (b, 0)) (some (q, 0)) (some (sq, 0)) 39) m = lp at ih ⊢
    unfold L98_0
    by_cases h : i < 39
    · have hlen : signs.length = 39 := rfl
      have h' : (i : Int) < ((39 : Nat) : Int) := by omega
      have h0 : (0 : Int) ≤ (i : Int) := Int.natCast_nonneg _
      obtain ⟨y, hy, hdy⟩ : ∃ y, signs[i]? = some y ∧ signs.drop i = y :: signs.drop (i + 1) := ⟨signs[i]'(by omega), List.getElem?_eq_getElem (by omega), List.drop_eq_getElem_cons (by omega)⟩
      have hcell : H.cell sq (0 + i * 1) = some (.str (PS.of y)) := by
        rw [Nat.zero_add, Nat.mul_one, hsq.cell]
        unfold strCells
        rw [List.getElem?_map, hy]
        rfl
      rw [hdy, List.find?_cons] at hf
      cases hp : y.isPrefixOf (s.drop p.at_) with
      | true =>
        rw [hp] at hf
        obtain rfl := Option.some.inj hf
        obtain ⟨H2, e2, p2, k2⟩ := plain_put hq hH 0 (by simp [Tok.cells]) (.int .i64 5) rfl
        obtain ⟨H3, e3, p3, k3⟩ := plain_put p2 k2.eff.ok (0 + 3) (by simp [Tok.cells]) (.str (PS.of y)) rfl
        refine ⟨H3, ?_, p3, k2.trans k3⟩
        simp only [KA, KB, KD, reduceCtorEq, if_false, if_true, h', h0, and_self, Bool.and_eq_true, Int.toNat_natCast, hcell, has_ok n (by omega) hs hat, hp, e2, e3, of_len]
      | false =>
        rw [hp] at hf
        obtain ⟨H', e1, p1, k1⟩ := ih (i + 1) (by omega) (by omega) hf
        refine ⟨H', ?_, p1, k1⟩
        simp only [KA, KB, KD, reduceCtorEq, if_false, if_true, h', h0, and_self, Bool.and_eq_true, Int.toNat_natCast, hcell, has_ok n (by omega) hs hat, hp, fw_add1 i (by omega), e1]
    · have : i = 39 := by omega
      subst this
      rw [List.drop_of_length_le (l := signs) (show signs.length ≤ 39 by decide)] at hf
      cases hf
theorem token_sign (c : UInt8) (t g : List UInt8) (h1 : letB c = false) (h2 : figB c = false) (h3 : c ≠ 34) (h4 : c ≠ 92) (hf : signs.find? (fun x => x.isPrefixOf (c :: t)) = some g) : TokAt (c :: t) ⟨5, g, false, 0, 0, 0, false⟩ g.length := by
  intro n s b q p ln co H hn hl hbq hq0 hd hat hH hM hs hq
  obtain ⟨n, rfl⟩ : ∃ m, n = m + 1 := ⟨n - 1, by omega⟩
  have hqlt := hq.lt hH
  obtain ⟨hlt, hc0, _⟩ := drop_lt hd
  have hs0 := hs.lo
  have c0 : H.lo.cell b 0 = some (.str (PS.of s)) := Plain.cell hs0 0
  have c1 : H.lo.cell b (0 + 1) = some (.int .i64 (p.at_ : Int)) := Plain.cell hs0 1
  have hA0 : (0 : Int) ≤ (p.at_ : Int) := Int.natCast_nonneg _
  have hA1 : (p.at_ : Int) < (s.length : Int) := by omega
  have elet := letter_ok n (by omega) c H.lo
  rw [h1] at elet
  have efig := figure_ok n (by omega) c H.lo
  rw [h2] at efig
  obtain ⟨H2, e2, p2, k2⟩ := signs_ok n (by omega) (lo_ok hH)
  have q2 := hq.lo.keep (lo_ok hH) k2.keep (fun h => h)
  have s2 : Scan H2 b s p := Plain.keep hs0 (lo_ok hH) k2.keep (fun h => h)
  obtain ⟨H3, e3, p3, k3⟩ := sign_loop n (by omega) s b q H.lo.next p ln co hat g k2.ok s2 q2 p2 n 0 (by omega) (by omega) (by rw [hd]; exact hf)
  have d3 : Did q H.lo H3 := ((Did.refl (lo_ok hH)).new (by simpa using hqlt) k2 (fun _ h => h.elim)).trans k3
  refine ⟨leave H H3 (.tuple [.int .i64 (g.length : Int), .int .i64 0]), ok98 _ _ _ _ ?_, plain_leave hH hqlt p3 d3 _, d3.leave hH hqlt _⟩
  unfold F98
  have e3' : loopN (L98_0 (vcall T ext promo n) n (some (b, 0)) (some (q, 0)) (some (H.lo.next, 0)) 39) n [.int .i64 0] H2 = some (.ret, [.int .i64 (g.length : Int), .int .i64 0], H3) := e3
  simp only [KA, KB, KD, reduceCtorEq, if_false, if_true, c0, c1, of_len, hA0, hA1, and_self, Bool.and_eq_true, byte_opt hc0, elet, efig, ieq_dec, show ¬ (c.toNat : Int) = 34 from u8_ne h3, show ¬ (c.toNat : Int) = 92 from u8_ne h4, decide_false, e2, e3']
def quoB (c : UInt8) : Bool := decide (32 < c.toNat ∧ c.toNat ≤ 126) && decide (Lib.indexByte [46, 91, 93, 96, 34, 92] c < 0)
theorem sIndexByte_ok (n : Nat) (hn : 4 ≤ n) (l : List UInt8) (c : UInt8) (H : VH) : vcall T ext promo n 144 [.str (PS.of l), .int .u8 (c.toNat : Int)] H = some (.int .i64 (Lib.indexByte l c), H) := by
  obtain ⟨n, rfl⟩ : ∃ m, n = m + 1 := ⟨n - 1, by omega⟩
  apply ok144
  unfold F144
  simp only [KA, KB, KD, reduceCtorEq, if_false, if_true, indexByte_ok n (by omega)]
  rw [leave_flat rfl rfl]
theorem quotable_ok : Pred 143 quoB := by
  intro n hn c H
  obtain ⟨n, rfl⟩ : ∃ m, n = m + 1 := ⟨n - 1, by omega⟩
  apply ok143
  unfold F143
  have key : ∀ b, leave H H.lo (.bool b) = H := fun b => leave_flat rfl rfl
  simp only [KA, KB, KD, reduceCtorEq, if_false, if_true, sIndexByte_ok n (by omega), key]
  unfold quoB
  by_cases h1 : 32 < c.toNat
  · by_cases h2 : c.toNat ≤ 126
    · rw [if_pos (by omega), if_pos (by omega), decide_eq_true (show 32 < c.toNat ∧ c.toNat ≤ 126 from ⟨h1, h2⟩), Bool.true_and]
    · rw [if_pos (by omega), if_neg (by omega), decide_eq_false (show ¬ (32 < c.toNat ∧ c.toNat ≤ 126) from fun h => h2 h.2), Bool.false_and]
  · rw [if_neg (by omega), decide_eq_false (show ¬ (32 < c.toNat ∧ c.toNat ≤ 126) from fun h => h1 h.1), Bool.false_and]
theorem blankByte (d : UInt8) (h : d = 32 ∨ d = 9 ∨ d = 10) : ¬ Lib.indexByte [32, 9, 10] d < 0 := by
  rcases h with rfl | rfl | rfl <;> decide
theorem token_quoted (w r : List UInt8) (hw0 : w ≠ []) (hw : ∀ x ∈ w, quoB x = true) (hr : ∀ d t, r = d :: t → quoB d = false ∧ (d = 32 ∨ d = 9 ∨ d = 10)) (h40 : w.length ≤ 40) : TokAt (92 :: (w ++ r)) ⟨1, w, true, 0, 0, 0, false⟩ (w.length + 1) := by
  intro n s b q p ln co H hn hl hbq hq0 hd hat hH hM hs hq
  obtain ⟨n, rfl⟩ : ∃ m, n = m + 1 := ⟨n - 1, by omega⟩
  have hqlt := hq.lt hH
  obtain ⟨hlt, hc0, hd1⟩ := drop_lt hd
  have hwl : 0 < w.length := List.length_pos_iff.2 hw0
  have hlw : w.length + r.length = s.length - (p.at_ + 1) := by rw [← List.length_append, ← hd1, List.length_drop]
  have hs0 := hs.lo
  have c0 : H.lo.cell b 0 = some (.str (PS.of s)) := Plain.cell hs0 0
  have c1 : H.lo.cell b (0 + 1) = some (.int .i64 (p.at_ : Int)) := Plain.cell hs0 1
  have hA0 : (0 : Int) ≤ (p.at_ : Int) := Int.natCast_nonneg _
  have hA1 : (p.at_ : Int) < (s.length : Int) := by omega
  have elet : vcall T ext promo n 137 [.int .u8 92] H.lo = some (.bool false, H.lo) := letter_ok n (by omega) 92 H.lo
  have efig : vcall T ext promo n 139 [.int .u8 92] H.lo = some (.bool false, H.lo) := figure_ok n (by omega) 92 H.lo
  have er := run_ok n quotable_ok hs0 (by omega) hat 1 (by omega) w r (by omega) hd1 hw (fun d t e => (hr d t e).1)
  have er' : vcall T ext promo n 135 [.ptr (some (b, 0)), .int .i64 1, .func 143 [] []] H.lo = some (.int .i64 ((1 + w.length : Nat) : Int), H.lo) := er
  obtain ⟨H2, e2, p2, k2⟩ := plain_put hq.lo (lo_ok hH) 0 (by simp [Tok.cells]) (.int .i64 1) rfl
  obtain ⟨H3, e3, p3, k3⟩ := plain_put p2 k2.eff.ok (0 + 3) (by simp [Tok.cells]) (.str (PS.of w)) rfl
  obtain ⟨H4, e4, p4, k4⟩ := plain_put p3 k3.eff.ok (0 + 4) (by simp [Tok.cells]) (.bool true) rfl
  have d4 := (k2.trans k3).trans k4
  have s4 := hs0.did (lo_ok hH) d4 hbq
  have f0 : H4.cell b 0 = some (.str (PS.of s)) := Plain.cell s4 0
  have f1 : H4.cell b (0 + 1) = some (.int .i64 (p.at_ : Int)) := Plain.cell s4 1
  have hsub := sub_str (H := H.lo) hd1 (by omega)
  rw [show p.at_ + 1 + w.length = p.at_ + (1 + w.length) by omega] at hsub
  have n1 : ¬ ((1 + w.length : Nat) : Int) = 1 := by omega
  have n2 : fwrap .i64 (((1 + w.length : Nat) : Int) - 1) = (w.length : Int) := by rw [fw_sub1 (1 + w.length) (by omega) (by omega)]; congr 1; omega
  have n3 : ¬ (40 : Int) < (w.length : Int) := by omega
  refine ⟨leave H H4 (.tuple [.int .i64 ((w.length + 1 : Nat) : Int), .int .i64 0]), ok98 _ _ _ _ ?_, plain_leave hH hqlt p4 d4 _, d4.leave hH hqlt _⟩
  unfold F98
  rw [show ((w.length + 1 : Nat) : Int) = ((1 + w.length : Nat) : Int) by omega]
  cases r with
  | nil =>
    have n4 : ¬ ((p.at_ + (1 + w.length) : Nat) : Int) < (s.length : Int) := by simp at hlw; omega
    simp only [KA, KB, KD, reduceCtorEq, if_false, if_true, c0, c1, of_len, hA0, hA1, and_self, Bool.and_eq_true, byte_opt hc0, elet, efig, ieq_dec, show ((UInt8.toNat 92 : Nat) : Int) = 92 from rfl, show ¬ (92 : Int) = 34 by decide, decide_false, decide_true, er', fw_add1 p.at_ (by omega), fw_addn p.at_ (1 + w.length) (by omega), hsub, e2, e3, e4, n1, f0, f1, n4, n2, n3]
  | cons d t =>
    have hd2 : s.drop (p.at_ + (1 + w.length)) = d :: t := by rw [show p.at_ + (1 + w.length) = p.at_ + 1 + w.length by omega, ← List.drop_drop, hd1, List.drop_left]
    obtain ⟨g1, g2, _⟩ := drop_lt hd2
    have n4 : ((p.at_ + (1 + w.length) : Nat) : Int) < (s.length : Int) := by omega
    have n5 : (0 : Int) ≤ ((p.at_ + (1 + w.length) : Nat) : Int) := Int.natCast_nonneg _
    have n6 := blankByte d (hr d t rfl).2
    simp only [KA, KB, KD, reduceCtorEq, if_false, if_true, c0, c1, of_len, hA0, hA1, and_self, Bool.and_eq_true, byte_opt hc0, elet, efig, ieq_dec, show ((UInt8.toNat 92 : Nat) : Int) = 92 from rfl, show ¬ (92 : Int) = 34 by decide, decide_false, decide_true, er', fw_add1 p.at_ (by omega), fw_addn p.at_ (1 + w.length) (by omega), hsub, e2, e3, e4, n1, f0, f1, n4, n5, n2, n3, byte_opt g2, sIndexByte_ok n (by omega), n6]
end Go.Vm.Tryd
