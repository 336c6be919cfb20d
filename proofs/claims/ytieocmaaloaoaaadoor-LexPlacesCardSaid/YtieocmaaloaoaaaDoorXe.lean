/- Tokens: strings and numbers. -/
import Derived.Test.YtieocmaaloaoaaaDoorXd
namespace Go.Vm.Tryd
set_option linter.unusedSectionVars false
set_option linter.unusedSimpArgs false
set_option linter.unusedVariables false
set_option maxRecDepth 10000
theorem sltByte : SlT 88 5 1 := ⟨by kernel_rfl, ⟨Go.Proofs.Tryd.t5, by kernel_rfl, by kernel_rfl, by decide⟩, by kernel_rfl, by decide⟩
theorem Grow.sl {H : VH} {b e sz : Nat} {v : AV} {len : Nat} {cs : List AV} (h : Grow H b e sz v len cs) : ∃ a c e', v = .slice a len c e' := by
  obtain ⟨_, ⟨rfl, rfl⟩ | ⟨q, rfl, _⟩⟩ := h
  · exact ⟨_, _, _, rfl⟩
  · exact ⟨_, _, _, rfl⟩
theorem byteCells_snoc (l : List UInt8) (c : UInt8) : byteCells (l ++ [c]) = byteCells l ++ [.int .u8 (c.toNat : Int)] := by simp [byteCells]
theorem und_bytes : T.und 88 = some (.slice 5) := by kernel_rfl
theorem und_byte : T.und 5 = some (.int .u8) := by kernel_rfl
theorem conv_grow {H : VH} {b : Nat} {v : AV} {l : List UInt8} (h : Grow H b 5 1 v l.length (byteCells l)) : vconvert T H 88 9 v = some (.str (PS.of l), H) := by
  obtain ⟨_, ⟨rfl, e⟩ | ⟨q, rfl, _, ht, _⟩⟩ := h
  · obtain rfl := List.length_eq_zero_iff.1 e
    unfold vconvert
    rw [und_bytes, undStr]
    simp only [und_byte]
    rfl
  · have hc : H.cells q 0 l.length = some (byteCells l) := cells_eq (fun i hi => by rw [Nat.zero_add, ht.cell]) (by simp [byteCells])
    unfold vconvert
    rw [und_bytes, undStr]
    simp only [und_byte, hc, conv_go, Option.map_some]
/-- A text behind its opening quotation mark: its content, and its length with the closing mark. -/
inductive Tx : List UInt8 → List UInt8 → Nat → Prop
  | fin (r : List UInt8) : Tx (34 :: r) [] 1
  | esc (c : UInt8) (tl t : List UInt8) (k : Nat) (h : c = 34 ∨ c = 92) (x : Tx tl t k) : Tx (92 :: c :: tl) (c :: t) (k + 2)
  | ch (c : UInt8) (tl t : List UInt8) (k : Nat) (h1 : 32 ≤ c.toNat) (h2 : c.toNat ≤ 126) (h3 : c ≠ 34) (h4 : c ≠ 92) (x : Tx tl t k) : Tx (c :: tl) (c :: t) (k + 1)
def Tok.str (t : List UInt8) : Tok := ⟨4, t, false, 0, 0, 0, false⟩
theorem text_loop (n : Nat) (s : List UInt8) (hl : s.length < 90000) (b q : Nat) (p : Pos) (ln co : Nat) (hbq : b ≠ q) {H0 : VH} (hq0 : q < H0.next) (hb0 : b < H0.next) :
    ∀ (tl t : List UInt8) (k : Nat), Tx tl t k → ∀ (m i : Nat) (acc : List UInt8) (v : AV) (H : VH), k < m → s.drop (p.at_ + i) = tl → acc.length + t.length ≤ 200 → Did q H0 H → Scan H b s p → Plain H q ((Tok.str []).cells ln co) → Grow H (H0.next - 1) 5 1 v acc.length (byteCells acc) →
      ∃ H', loopN (L142_0 (vcall T ext promo n) n (some (b, 0)) (some (q, 0))) m [.int .i64 (i : Int), v] H = some (.ret, [.int .i64 ((i + k : Nat) : Int), .int .i64 0], H') ∧ Plain H' q ((Tok.str (acc ++ t)).cells ln co) ∧ Did q H0 H' := by
  -- one byte more
  have step : ∀ (c : UInt8) (acc : List UInt8) (v : AV) (H : VH), acc.length < 200 → Did q H0 H → Scan H b s p → Plain H q ((Tok.str []).cells ln co) → Grow H (H0.next - 1) 5 1 v acc.length (byteCells acc) →
      ∃ a c' e H', vbuiltin T (H.fresh [.int .u8 (c.toNat : Int)]) .append [88, 88] [v, .slice (some (H.next, 0)) 1 (some 1) 1] = some (.slice a (acc.length + 1) c' e, H') ∧ Did q H0 H' ∧ Scan H' b s p ∧ Plain H' q ((Tok.str []).cells ln co) ∧ Grow H' (H0.next - 1) 5 1 (.slice a (acc.length + 1) c' e) (acc.length + 1) (byteCells (acc ++ [c])) := by
    intro c acc v H ha hd hs hp hg
    have hn := hd.eff.keep.next
    have o1 := fresh_ok hd.eff.ok [.int .u8 (c.toNat : Int)]
    have hg1 := hg.keep hd.eff.ok (Keep.fresh (fun _ => False) H [.int .u8 (c.toNat : Int)]) (fun _ h => h.elim)
    obtain ⟨v', H', a1, a2, a3, a4, a5⟩ := Grow.app sltByte hg1 o1 (by simp only [fresh_next]; omega) (by omega) (p := H.next) (c := some 1) (es := 1) (new := [.int .u8 (c.toNat : Int)]) (fresh_cells hd.eff.ok _ 0 1 (by simp)) rfl rfl
    obtain ⟨a, c', e, rfl⟩ := a2.sl
    have e2 : Eff (fun y => H0.next ≤ y) H H' := (Eff.fresh _ hd.eff.ok _).trans a4 fun x hx => .inl (by omega)
    refine ⟨a, c', e, H', a1, hd.new hq0 e2 (fun _ h => h), Plain.keep hs hd.eff.ok e2.keep (by omega), hp.keep hd.eff.ok e2.keep (by omega), ?_⟩
    rw [byteCells_snoc]
    exact a2
  intro tl t k hx
  induction hx with
  | fin r =>
    intro m i acc v H hm hd hlen hdid hs hp hg
    obtain ⟨m, rfl⟩ : ∃ m', m = m' + 1 := ⟨m - 1, by omega⟩
    have c0 : H.cell b 0 = some (.str (PS.of s)) := Plain.cell hs 0
    have c1 : H.cell b (0 + 1) = some (.int .i64 (p.at_ : Int)) := Plain.cell hs 1
    obtain ⟨hlt, hc0, hd1⟩ := drop_lt hd
    have n1 : ¬ (s.length : Int) ≤ ((p.at_ + i : Nat) : Int) := by omega
    have n2 : (0 : Int) ≤ ((p.at_ + i : Nat) : Int) := Int.natCast_nonneg _
    have n3 : ((p.at_ + i : Nat) : Int) < (s.length : Int) := by omega
    have n4 : ¬ (200 : Int) < (acc.length : Int) := by simp at hlen; omega
    have hcv := conv_grow hg
    obtain ⟨a, c', e, rfl⟩ := hg.sl
    obtain ⟨H1, e1, p1, k1⟩ := plain_put hp hdid.eff.ok (0 + 3) (by simp [Tok.cells]) (.str (PS.of acc)) rfl
    refine ⟨H1, ?_, ?_, hdid.trans k1⟩
    · rw [loopN_succ]
      unfold L142_0
      simp only [KA, KB, KD, reduceCtorEq, if_false, if_true, c0, c1, of_len, fw_addn p.at_ i (by omega), n1, n2, n3, and_self, Bool.and_eq_true, byte_opt hc0, ieq_dec, show ((UInt8.toNat 34 : Nat) : Int) = 34 from rfl, show ¬ (34 : Int) = 10 by decide, decide_false, decide_true, fw_add1 i (by omega), hcv, e1, n4]
    · rw [List.append_nil]
      exact p1
  | esc c tl t k h x ih =>
    intro m i acc v H hm hd hlen hdid hs hp hg
    obtain ⟨m, rfl⟩ : ∃ m', m = m' + 1 := ⟨m - 1, by omega⟩
    have c0 : H.cell b 0 = some (.str (PS.of s)) := Plain.cell hs 0
    have c1 : H.cell b (0 + 1) = some (.int .i64 (p.at_ : Int)) := Plain.cell hs 1
    obtain ⟨hlt, hc0, hd1⟩ := drop_lt hd
    obtain ⟨hlt2, hc2, hd2⟩ := drop_lt hd1
    have n1 : ¬ (s.length : Int) ≤ ((p.at_ + i : Nat) : Int) := by omega
    have n2 : (0 : Int) ≤ ((p.at_ + i : Nat) : Int) := Int.natCast_nonneg _
    have n3 : ((p.at_ + i : Nat) : Int) < (s.length : Int) := by omega
    have m1 : ¬ (s.length : Int) ≤ ((p.at_ + i + 1 : Nat) : Int) := by omega
    have m2 : (0 : Int) ≤ ((p.at_ + i + 1 : Nat) : Int) := Int.natCast_nonneg _
    have m3 : ((p.at_ + i + 1 : Nat) : Int) < (s.length : Int) := by omega
    have fm : fwrap .i64 ((p.at_ : Int) + ((i + 1 : Nat) : Int)) = ((p.at_ + i + 1 : Nat) : Int) := by rw [fw_addn p.at_ (i + 1) (by omega)]; rfl
    rw [List.length_cons] at hlen
    obtain ⟨a1, c1', e1', H1, e1, g1, g2, g3, g4⟩ := step c acc v H (by omega) hdid hs hp hg
    obtain ⟨a, c', e, rfl⟩ := hg.sl
    obtain ⟨H2, e2, p2, k2⟩ := ih m (i + 2) (acc ++ [c]) (.slice a1 (acc.length + 1) c1' e1') H1 (by omega) (by rw [show p.at_ + (i + 2) = p.at_ + i + 1 + 1 by omega]; exact hd2) (by simp; omega) g1 g2 g3 (by simpa using g4)
    refine ⟨H2, ?_, ?_, k2⟩
    · rw [loopN_succ]
      generalize hlp : loopN (L142_0 (vcall T ext promo n) n (some (b, 0)) (some (q, 0))) m = lp at e2 ⊢
      unfold L142_0
      rw [show i + (k + 2) = i + 2 + k by omega, ← e2]
      rcases h with rfl | rfl
      · have e1 : vbuiltin T (H.fresh [.int .u8 34]) .append [88, 88] [.slice a acc.length c' e, .slice (some (H.next, 0)) 1 (some 1) 1] = some (.slice a1 (acc.length + 1) c1' e1', H1) := e1
        simp only [KA, KB, KD, reduceCtorEq, if_false, if_true, c0, c1, of_len, fw_addn p.at_ i (by omega), n1, n2, n3, and_self, Bool.and_eq_true, byte_opt hc0, byte_opt hc2, ieq_dec, show ((UInt8.toNat 92 : Nat) : Int) = 92 from rfl, show ((UInt8.toNat 34 : Nat) : Int) = 34 from rfl, show ¬ (92 : Int) = 10 by decide, show ¬ (92 : Int) = 34 by decide, decide_false, decide_true, fw_add1 i (by omega), fm, m1, m2, m3, fw_add1 (i + 1) (by omega), e1]
      · have e1 : vbuiltin T (H.fresh [.int .u8 92]) .append [88, 88] [.slice a acc.length c' e, .slice (some (H.next, 0)) 1 (some 1) 1] = some (.slice a1 (acc.length + 1) c1' e1', H1) := e1
        simp only [KA, KB, KD, reduceCtorEq, if_false, if_true, c0, c1, of_len, fw_addn p.at_ i (by omega), n1, n2, n3, and_self, Bool.and_eq_true, byte_opt hc0, byte_opt hc2, ieq_dec, show ((UInt8.toNat 92 : Nat) : Int) = 92 from rfl, show ((UInt8.toNat 34 : Nat) : Int) = 34 from rfl, show ¬ (92 : Int) = 10 by decide, show ¬ (92 : Int) = 34 by decide, decide_false, decide_true, fw_add1 i (by omega), fm, m1, m2, m3, fw_add1 (i + 1) (by omega), e1]
    · rw [List.append_assoc, List.singleton_append] at p2
      exact p2
  | ch c tl t k h1 h2 h3 h4 x ih =>
    intro m i acc v H hm hd hlen hdid hs hp hg
    obtain ⟨m, rfl⟩ : ∃ m', m = m' + 1 := ⟨m - 1, by omega⟩
    have c0 : H.cell b 0 = some (.str (PS.of s)) := Plain.cell hs 0
    have c1 : H.cell b (0 + 1) = some (.int .i64 (p.at_ : Int)) := Plain.cell hs 1
    obtain ⟨hlt, hc0, hd1⟩ := drop_lt hd
    have n1 : ¬ (s.length : Int) ≤ ((p.at_ + i : Nat) : Int) := by omega
    have n2 : (0 : Int) ≤ ((p.at_ + i : Nat) : Int) := Int.natCast_nonneg _
    have n3 : ((p.at_ + i : Nat) : Int) < (s.length : Int) := by omega
    rw [List.length_cons] at hlen
    obtain ⟨a1, c1', e1', H1, e1, g1, g2, g3, g4⟩ := step c acc v H (by omega) hdid hs hp hg
    obtain ⟨a, c', e, rfl⟩ := hg.sl
    obtain ⟨H2, e2, p2, k2⟩ := ih m (i + 1) (acc ++ [c]) (.slice a1 (acc.length + 1) c1' e1') H1 (by omega) hd1 (by simp; omega) g1 g2 g3 (by simpa using g4)
    refine ⟨H2, ?_, ?_, k2⟩
    · rw [loopN_succ]
      generalize hlp : loopN (L142_0 (vcall T ext promo n) n (some (b, 0)) (some (q, 0))) m = lp at e2 ⊢
      unfold L142_0
      rw [show i + (k + 1) = i + 1 + k by omega, ← e2]
      simp only [KA, KB, KD, reduceCtorEq, if_false, if_true, c0, c1, of_len, fw_addn p.at_ i (by omega), n1, n2, n3, and_self, Bool.and_eq_true, byte_opt hc0, ieq_dec, show ¬ (c.toNat : Int) = 10 by omega, show ¬ (c.toNat : Int) = 34 from u8_ne h3, show ¬ (c.toNat : Int) = 92 from u8_ne h4, show ¬ (c.toNat : Int) < 32 by omega, show ¬ (126 : Int) < (c.toNat : Int) by omega, decide_false, decide_true, fw_add1 i (by omega), e1]
    · rw [List.append_assoc, List.singleton_append] at p2
      exact p2
theorem token_text (tl t : List UInt8) (k : Nat) (hx : Tx tl t k) (ht : t.length ≤ 200) (hk : k ≤ tl.length) : TokAt (34 :: tl) (Tok.str t) (k + 1) := by
  intro n s b q p ln co H hn hl hbq hq0 hd hat hH hM hs hq
  obtain ⟨n, rfl⟩ : ∃ m, n = m + 2 := ⟨n - 2, by omega⟩
  have hqlt := hq.lt hH
  have hblt := hs.lt hH
  obtain ⟨hlt, hc0, hd1⟩ := drop_lt hd
  have htl : tl.length = s.length - (p.at_ + 1) := by rw [← hd1, List.length_drop]
  have hs0 := hs.lo
  have c0 : H.lo.cell b 0 = some (.str (PS.of s)) := Plain.cell hs0 0
  have c1 : H.lo.cell b (0 + 1) = some (.int .i64 (p.at_ : Int)) := Plain.cell hs0 1
  have hA0 : (0 : Int) ≤ (p.at_ : Int) := Int.natCast_nonneg _
  have hA1 : (p.at_ : Int) < (s.length : Int) := by omega
  have elet : vcall T ext promo (n + 1) 137 [.int .u8 34] H.lo = some (.bool false, H.lo) := letter_ok (n + 1) (by omega) 34 H.lo
  have efig : vcall T ext promo (n + 1) 139 [.int .u8 34] H.lo = some (.bool false, H.lo) := figure_ok (n + 1) (by omega) 34 H.lo
  obtain ⟨H2, e2, p2, k2⟩ := plain_put hq.lo.lo (lo_ok (lo_ok hH)) 0 (by simp [Tok.cells]) (.int .i64 4) rfl
  obtain ⟨H3, e3, p3, k3⟩ := text_loop n s hl b q p ln co hbq (H0 := H.lo.lo) (by simpa using hqlt) (by simpa using hblt) tl t k hx n 1 [] (.slice none 0 (some 0) 0) H2 (by omega) hd1 (by simp; omega) k2 (hs0.lo.did (lo_ok (lo_ok hH)) k2 hbq) p2 (Grow.nil _ _ _ _)
  have e4 : vcall T ext promo (n + 1) 142 [.ptr (some (b, 0)), .ptr (some (q, 0))] H.lo = some (.tuple [.int .i64 ((1 + k : Nat) : Int), .int .i64 0], leave H.lo H3 (.tuple [.int .i64 ((1 + k : Nat) : Int), .int .i64 0])) := by
    refine ok142 _ _ _ _ ?_
    unfold F142
    have e3' : loopN (L142_0 (vcall T ext promo n) n (some (b, 0)) (some (q, 0))) n [.int .i64 1, .slice none 0 (some 0) 0] H2 = _ := e3
    simp only [KA, KB, KD, reduceCtorEq, if_false, if_true, e2, e3']
  have d4 := k3.leave (lo_ok hH) (by simpa using hqlt) (.tuple [.int .i64 ((1 + k : Nat) : Int), .int .i64 0])
  have p4 := plain_leave (lo_ok hH) (by simpa using hqlt) p3 k3 (.tuple [.int .i64 ((1 + k : Nat) : Int), .int .i64 0])
  rw [show k + 1 = 1 + k by omega]
  refine ⟨_, ok98 _ _ _ _ (r := (_, leave H (leave H.lo H3 (.tuple [.int .i64 ((1 + k : Nat) : Int), .int .i64 0])) (.tuple [.int .i64 ((1 + k : Nat) : Int), .int .i64 0]))) ?_, plain_leave hH hqlt p4 d4 _, d4.leave hH hqlt _⟩
  unfold F98
  simp only [KA, KB, KD, reduceCtorEq, if_false, if_true, c0, c1, of_len, hA0, hA1, and_self, Bool.and_eq_true, byte_opt hc0, elet, efig, ieq_dec, show ((UInt8.toNat 34 : Nat) : Int) = 34 from rfl, decide_true, e4]
end Go.Vm.Tryd
