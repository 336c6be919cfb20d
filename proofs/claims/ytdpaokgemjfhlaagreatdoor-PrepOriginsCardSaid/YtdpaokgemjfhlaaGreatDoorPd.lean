/- The preprocessor: a line is put out. -/
import Derived.Test.YtdpaokgemjfhlaaGreatDoorPc
import Derived.Test.YtdpaokgemjfhlaaGreatDoorGr
namespace Go.Vm.Tryz
set_option linter.unusedSectionVars false
set_option linter.unusedSimpArgs false
set_option linter.unusedVariables false
set_option maxRecDepth 10000
abbrev tyO : Nat := 39
theorem sltO : SlT 27 tyO 3 := ⟨by kernel_rfl, ⟨Go.Proofs.Tryz.t39, by kernel_rfl, by kernel_rfl, by decide +kernel⟩, by kernel_rfl, by decide⟩
theorem emit_ok (n : Nat) (hn : 1 ≤ n) {H : VH} {b : Nat} {c0 c1 c5 c6 c7 v : AV} {txt l : List UInt8} {sz k g : Nat} {cs : List AV} (hbg : b ≤ g) (hgn : g < H.next) (hH : H.Ok) (hp : Plain H b [c0, c1, .str (PS.of txt), v, .int .i64 (sz : Int), c5, c6, c7, .bool false])
    (hg : Grow H g tyO 3 v k cs) (hk : k < 100000) (hs : sz + l.length + 1 ≤ 16000) (ht : txt.length < 100000) (f : List UInt8) (line : Int) (w : Bool) :
    ∃ v' H', vcall T ext promo n 56 [.ptr (some (b, 0)), .agg [.str (PS.of f), .int .i64 line], .str (PS.of l), .bool w] H = some (.tuple [], H') ∧
      Plain H' b [c0, c1, .str (PS.of (txt ++ l ++ [10])), v', .int .i64 ((sz + l.length + 1 : Nat) : Int), c5, c6, c7, .bool false] ∧ Grow H' g tyO 3 v' (k + 1) (cs ++ [.str (PS.of f), .int .i64 line, .bool w]) ∧ Eff (fun y => y = b ∨ g < y) H H' := by
  obtain ⟨n, rfl⟩ : ∃ m, n = m + 1 := ⟨n - 1, by omega⟩
  have hb := hp.lt hH
  obtain ⟨H1, e1, p1, k1, o1, l1, n1⟩ := hp.lo.puts1 (lo_ok hH) 4 (by simp) (.int .i64 ((sz + l.length + 1 : Nat) : Int)) rfl
  simp only [List.set_cons_succ, List.set_cons_zero] at p1
  obtain ⟨H2, e2, p2, k2, o2, l2, n2⟩ := p1.puts1 o1 2 (by simp) (.str (PS.of (txt ++ l ++ [10]))) rfl
  simp only [List.set_cons_succ, List.set_cons_zero] at p2
  have o3 := fresh_ok o2 [.str (PS.of f), .int .i64 line, .bool w]
  have p3 := p2.keep o2 (Keep.fresh (fun _ => False) H2 [.str (PS.of f), .int .i64 line, .bool w]) (fun h => h)
  have g2 : Grow H2 g tyO 3 v k cs := (hg.lo.keep (lo_ok hH) k1 (fun x e => .inl (by omega))).keep o1 k2 (fun x e => .inl (by omega))
  have g3 := g2.keep o2 (Keep.fresh (fun _ => False) H2 [.str (PS.of f), .int .i64 line, .bool w]) (fun _ h => h.elim)
  have hb1 : b < H1.next := p1.lt o1
  have hb2 : b < H2.next := p2.lt o2
  obtain ⟨v', H4, a1, a2, a3, a4, a5⟩ := Grow.app sltO g3 o3 (by simp only [fresh_next]; have : H.lo.next = H.next := rfl; omega) (by omega) (p := H2.next) (c := some 1) (es := 3) (new := [.str (PS.of f), .int .i64 line, .bool w]) (fresh_cells o2 _ 0 3 (by simp)) rfl rfl
  have p4 := p3.keep o3 a4.keep (Nat.not_lt.2 hbg)
  obtain ⟨H5, e5, p5, k5, o5, l5, n5⟩ := p4.puts1 a3 3 (by simp) v' (by
    rcases a2 with ⟨_, h | ⟨q, h, _⟩⟩
    · rw [h.1]; rfl
    · rw [h]; rfl)
  simp only [List.set_cons_succ, List.set_cons_zero] at p5
  have g5 := a2.keep a3 k5 (fun x e => .inl (by omega))
  have hsame := same_keep p2 o2 (Keep.fresh (fun _ => False) H2 [.str (PS.of f), .int .i64 line, .bool w]) (fun h => h)
  have hb4 : b < H4.next := p4.lt a3
  have eff : Eff (fun y => y = b ∨ g < y) H.lo H5 := by
    refine ((((Eff.of_low k1 o1 l1 hb).mono (S' := fun y => y = b ∨ g < y) fun y _ e => .inl e).trans ((Eff.of_low k2 o2 l2 hb1).mono (S' := fun y => y = b ∨ g < y) fun y _ e => .inl e) fun x hx => .inl hx).trans (Eff.fresh (fun y => y = b ∨ g < y) o2 _) fun x hx => .inl hx).trans ((a4.mono (S' := fun y => y = b ∨ g < y) fun y _ e => .inr e).trans ((Eff.of_low k5 o5 l5 hb4).mono (S' := fun y => y = b ∨ g < y) fun y _ e => .inl e) fun x hx => .inl hx) fun x hx => .inl hx
  have hlow : H5.low < H.next := by
    have h1 := l5
    have : H5.low ≤ b := by rw [l5]; exact Nat.min_le_right _ _
    omega
  refine ⟨v', leave H H5 (.tuple []), ok56 _ _ _ _ _ _ _ ?_, ?_, ?_, eff.leave hH _⟩
  · obtain ⟨va, vn, vc, ve, rfl⟩ : ∃ a n c e, v = .slice a n c e := by
      rcases hg with ⟨_, h | ⟨q, h, _⟩⟩
      · exact ⟨_, _, _, _, h.1⟩
      · exact ⟨_, _, _, _, h⟩
    obtain ⟨wa, wn, wc, we, rfl⟩ : ∃ a n c e, v' = .slice a n c e := by
      rcases a2 with ⟨_, h | ⟨q, h, _⟩⟩
      · exact ⟨_, _, _, _, h.1⟩
      · exact ⟨_, _, _, _, h⟩
    unfold F56
    have r4 : H.lo.cell b (0 + 4) = some (.int .i64 (sz : Int)) := hp.lo.cell 4
    have r4' : H1.cell b (0 + 4) = some (.int .i64 ((sz + l.length + 1 : Nat) : Int)) := p1.cell 4
    have r2 : H1.cell b (0 + 2) = some (.str (PS.of txt)) := p1.cell 2
    have r3 : H2.cell b (0 + 2 + 1) = some (.slice va vn vc ve) := p2.cell 3
    have f1 : fwrap .i64 ((l.length : Int) + 1) = ((l.length + 1 : Nat) : Int) := by rw [fw_i64 (by omega) (by omega)]; rfl
    have f2 : fwrap .i64 ((sz : Int) + ((l.length + 1 : Nat) : Int)) = ((sz + l.length + 1 : Nat) : Int) := by rw [fw_i64 (by omega) (by omega)]; omega
    have e1' : H.lo.puts b (0 + 4) [.int .i64 ((sz + l.length + 1 : Nat) : Int)] = some H1 := e1
    have s1 : vstrOp .add (PS.of l) (PS.of [10]) = some (.str (PS.of (l ++ [10]))) := str_add _ _ (by simp; omega)
    have s2 : vstrOp .add (PS.of txt) (PS.of (l ++ [10])) = some (.str (PS.of (txt ++ l ++ [10]))) := by
      rw [str_add _ _ (by simp; omega), List.append_assoc]
    have e2' : H1.puts b (0 + 2) [.str (PS.of (txt ++ l ++ [10]))] = some H2 := e2
    have e5' : H4.puts b (0 + 2 + 1) [.slice wa wn wc we] = some H5 := e5
    have hfree : freeOf (.eff H2 (H2.fresh [.str (PS.of f), .int .i64 line, .bool w])) 4032 12 [.idle, .idle, (.read [] [5]), (.read [] [5]), (.read [] [5]), (.read [] [5]), (.read [b] []), .idle, .idle, .idle, .idle, .idle] = true := by
      have hsame' : H2.same (H2.fresh [.str (PS.of f), .int .i64 line, .bool w]) b = true := by simpa [allSame] using hsame
      simp [freeOf, Tag.free, allSame, hsame']
    simp only [KA, KB, KD, reduceCtorEq, if_false, if_true, r4, of_len, f1, f2, e1', r4']
    rw [if_neg (by omega)]
    simp only [KA, KB, KD, reduceCtorEq, if_false, if_true, r2, s1, s2, e2', r3, hfree]
    rw [a1]
    simp only [KA, KB, KD, reduceCtorEq, if_false, if_true, e5']
  · rw [leave_eff hlow]
    exact plain_low p5 _
  · rw [leave_eff hlow]
    exact g5.low _
end Go.Vm.Tryz
