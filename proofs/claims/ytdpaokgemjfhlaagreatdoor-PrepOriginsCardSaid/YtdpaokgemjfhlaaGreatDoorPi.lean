/- The preprocessor: a file. -/
import Derived.Test.YtdpaokgemjfhlaaGreatDoorPg
namespace Go.Vm.Tryz
set_option linter.unusedSectionVars false
set_option linter.unusedSimpArgs false
set_option linter.unusedVariables false
set_option maxRecDepth 10000
theorem sltS : SlT 50 9 1 := ⟨by kernel_rfl, ⟨Go.Proofs.Tryz.t9, by kernel_rfl, by kernel_rfl, by decide +kernel⟩, by kernel_rfl, by decide⟩
theorem cutNone (H : VH) (q : Nat) : vslice T H 50 (.v (.slice (some (q, 0)) 1 none 1)) none (some (.int .i64 0)) = some (.slice (some (q, 0)) 0 none 1) := by
  unfold vslice
  rw [show T.und 50 = some (.slice 9) by kernel_rfl]
  simp only [show sizeOfT T 9 = some 1 by kernel_rfl]
  rfl
theorem file_ok (n : Nat) (hn : 4000 ≤ n) {H : VH} {R mf c v : Nat} {c1 c5 c6 : AV} {txt : List UInt8} (hH : H.Ok) (hM : Mx H) (h0 : txt ≠ []) (hl : txt.length < 900) (hno : ∀ x ∈ txt, x ≠ 96)
    (hp : Plain H R [.map (some mf), c1, .str (PS.of []), .slice none 0 (some 0) 0, .int .i64 0, c5, c6, .slice none 0 (some 0) 0, .bool false])
    (hm : H.map? mf = some ([⟨.str (PS.of [102]), .str (PS.of txt), 0⟩], c, v)) (hmR : mf < R) (hR : R ≠ 0) :
    ∃ v' q g H', vcall T ext promo n 28 [.ptr (some (R, 0)), .str (PS.of [102])] H = some (.tuple [], H') ∧
      Plain H' R [.map (some mf), c1, .str (PS.of (chomp txt ++ [10])), v', .int .i64 ((chomp txt ++ [10]).length : Int), c5, c6, q, .bool false] ∧ Grow H' g tyO 3 v' ((chomp txt).count 10 + 1) (oc [102] ((chomp txt).count 10 + 1)) ∧ Eff (fun y => R ≤ y) H H' := by
  obtain ⟨n, rfl⟩ : ∃ m, n = m + 1 := ⟨n - 1, by omega⟩
  have hRn := hp.lt hH
  have o2 := fresh_ok (lo_ok hH) [.str (PS.of [102])]
  have p2 := hp.lo.keep (lo_ok hH) (Keep.fresh (fun _ => False) H.lo [.str (PS.of [102])]) (fun h => h)
  have M2 : Mx (H.lo.fresh [.str (PS.of [102])]) := hM.lo.keep (lo_ok hH) (Keep.fresh (fun _ => False) H.lo [.str (PS.of [102])]) (fun h => h)
  obtain ⟨v1, H3, a1, a2, a3, a4, a5⟩ := Grow.app sltS (Grow.nil (H.lo.fresh [.str (PS.of [102])]) R 9 1) o2 (p2.lt o2) (by omega) (p := H.lo.next) (c := some 1) (es := 1) (new := [.str (PS.of [102])]) (fresh_cells (lo_ok hH) _ 0 1 (by simp)) rfl rfl
  obtain ⟨q1, hq1, _, _⟩ : ∃ q, v1 = .slice (some (q, 0)) 1 none 1 ∧ True ∧ True := by
    rcases a2 with ⟨_, h | ⟨q, h, _⟩⟩
    · omega
    · exact ⟨q, h, trivial, trivial⟩
  subst hq1
  have p3 := p2.keep o2 a4.keep (Nat.lt_irrefl _)
  have M3 := M2.keep o2 a4.keep (by omega)
  obtain ⟨H4, e4, p4, k4, o4, l4, n4⟩ := p3.puts1 a3 7 (by simp) (.slice (some (q1, 0)) 1 none 1) rfl
  simp only [List.set_cons_succ, List.set_cons_zero] at p4
  have M4 := M3.keep a3 k4 (by omega)
  have o5 := fresh_ok o4 [.slice none 0 (some 0) 0]
  have c5' := fresh_plain o4 [.slice none 0 (some 0) 0]
  have p5 := p4.keep o4 (Keep.fresh (fun _ => False) H4 [.slice none 0 (some 0) 0]) (fun h => h)
  have M5 := M4.keep o4 (Keep.fresh (fun _ => False) H4 [.slice none 0 (some 0) 0]) (fun h => h)
  have hmn : mf < H.next := by omega
  have hn2 : H.lo.next ≤ (H.lo.fresh [.str (PS.of [102])]).next := (Keep.fresh (fun _ => False) H.lo [.str (PS.of [102])]).next
  have m2 := map?_keep (S := fun _ => False) (H := H.lo) hm hmn (Keep.fresh _ H.lo [.str (PS.of [102])]) (fun h => h)
  have m3 := map?_keep m2 (by have : H.lo.next = H.next := rfl; omega) a4.keep (by omega)
  have m4 := map?_keep m3 (by have := a4.keep.next; have : H.lo.next = H.next := rfl; omega) k4 (by omega)
  have m5 := map?_keep (S := fun _ => False) m4 (by have := p4.lt o4; omega) (Keep.fresh _ H4 [.slice none 0 (some 0) 0]) (fun h => h)
  obtain ⟨H6, e6, p6, k6⟩ := lines_ok n txt (by omega) (by omega) h0 o5 M5
  have hlen : (splits 10 (chomp txt)).length = (chomp txt).count 10 + 1 := splits_len 10 (chomp txt)
  have hcl := chomp_len txt
  have hcnt : (chomp txt).count 10 ≤ (chomp txt).length := List.count_le_length ..
  have hot : ot (splits 10 (chomp txt)) = chomp txt ++ [10] := splits_ot _
  have hls : ∀ l ∈ splits 10 (chomp txt), l.length < 1000 ∧ ∀ x ∈ l, x ≠ 96 := fun l hl2 => by
    obtain ⟨g1, g2⟩ := splits_mem 10 (chomp txt) l hl2
    exact ⟨by omega, fun x hx => hno x (chomp_mem txt x (g2 x hx))⟩
  have hR4 := p4.lt o4
  have hA : (H4.fresh [.slice none 0 (some 0) 0]).next = H4.next + 1 := rfl
  have F0 : FileI H6 H6 R (H4.next + 1) (H4.next + 1) H4.next (.map (some mf)) c1 c5 c6 (.slice (some (q1, 0)) 1 none 1) [102] (splits 10 (chomp txt)) 0 := by
    refine ⟨k6.ok, M5.keep o5 k6.keep (fun h => h), ⟨.slice none 0 (some 0) 0, p5.keep o5 k6.keep (fun h => h), Grow.nil _ _ _ _⟩, p6, c5'.keep o5 k6.keep (fun h => h), ⟨by omega, Nat.le_refl _, by omega, by omega, by omega, hR⟩, p6.lt k6.ok, .refl k6.ok⟩
  obtain ⟨H7, e7, F7⟩ := file_loop n (by omega) [102] (splits 10 (chomp txt)) (by omega) hls (by rw [hot]; simp; omega) H6 H4 R (H4.next + 1) (H4.next + 1) (.map (some mf)) c1 c5 c6 (.slice (some (q1, 0)) 1 none 1) n 0 false H6 (by omega) (by omega) F0
  obtain ⟨v', p7, g7⟩ := F7.run
  rw [List.take_length, hot] at p7
  rw [hlen] at g7
  obtain ⟨H8, e8, p8, k8, o8, l8, n8⟩ := p7.puts1 F7.ok 7 (by simp) (.slice (some (q1, 0)) 0 none 1) rfl
  simp only [List.set_cons_succ, List.set_cons_zero] at p8
  have hR7 := p7.lt F7.ok
  have g8 := g7.keep F7.ok k8 (fun x e => .inl (by omega))
  have eff : Eff (fun y => R ≤ y) H.lo H8 := by
    have E1 : Eff (fun y => R ≤ y) H.lo H3 := (Eff.fresh (fun y => R ≤ y) (lo_ok hH) [.str (PS.of [102])]).trans (a4.mono (S' := fun y => R ≤ y) fun y _ e => Nat.le_of_lt e) fun x hx => .inl hx
    have E2 : Eff (fun y => R ≤ y) H3 H6 := ((Eff.of_low k4 o4 l4 (p3.lt a3)).mono (S' := fun y => R ≤ y) fun y _ e => Nat.le_of_eq e.symm).trans ((Eff.fresh (fun y => R ≤ y) o4 [.slice none 0 (some 0) 0]).trans (k6.mono (S' := fun y => R ≤ y) fun _ _ h => h.elim) fun x hx => .inl hx) fun x hx => .inl hx
    have E3 : Eff (fun y => R ≤ y) H6 H8 := (F7.eff.mono (S' := fun y => R ≤ y) fun y _ e => by omega).trans ((Eff.of_low k8 o8 l8 hR7).mono (S' := fun y => R ≤ y) fun y _ e => Nat.le_of_eq e.symm) fun x hx => .inl hx
    exact (E1.trans E2 fun x hx => .inl hx).trans E3 fun x hx => .inl hx
  have hlow : H8.low < H.next := by
    have : H8.low ≤ R := by rw [l8]; exact Nat.min_le_right _ _
    omega
  refine ⟨v', .slice (some (q1, 0)) 0 none 1, H4.next + 1, leave H H8 (.tuple []), ok28 _ _ _ _ ?_, ?_, ?_, eff.leave hH _⟩
  rotate_left
  · rw [leave_eff hlow]
    exact plain_low p8 _
  · rw [leave_eff hlow]
    exact g8.low _
  · unfold F28
    have r7 : H.lo.cell R (0 + 7) = some (.slice none 0 (some 0) 0) := hp.lo.cell 7
    have e4' : H3.puts R (0 + 7) [.slice (some (q1, 0)) 1 none 1] = some H4 := e4
    have r0 : (H4.fresh [.slice none 0 (some 0) 0]).cell R 0 = some (.map (some mf)) := p5.cell 0
    have lk := look1 m5 false
    have rc : H7.cell H4.next 0 = some (.slice none 0 (some 0) 0) := F7.cd.cell 0
    have r7' : H7.cell R (0 + 7) = some (.slice (some (q1, 0)) 1 none 1) := p7.cell 7
    have e8' : H7.puts R (0 + 7) [.slice (some (q1, 0)) 0 none 1] = some H8 := e8
    rw [hlen] at e7
    have e7' : loopN (L28_0 (vcall T ext promo n) n (some (R, 0)) (PS.of [102]) H4 (some ((H4.fresh [.slice none 0 (some 0) 0]).next, 0)) ((chomp txt).count 10 + 1)) n [.bool false, .int .i64 0] H6 = some (.exit 0, [], H7) := e7
    simp only [KA, KB, KD, reduceCtorEq, if_false, if_true, r7]
    rw [a1]
    simp only [KA, KB, KD, reduceCtorEq, if_false, if_true, e4', r0]
    rw [lk]
    simp only [KA, KB, KD, reduceCtorEq, if_false, if_true]
    rw [e6]
    simp only [KA, KB, KD, reduceCtorEq, if_false, if_true]
    rw [e7']
    simp only [KA, KB, KD, reduceCtorEq, if_false, if_true, rc]
    obtain ⟨n, rfl⟩ : ∃ m, n = m + 1 := ⟨n - 1, by omega⟩
    rw [loopN_succ]
    unfold L28_1
    simp only [KA, KB, KD, reduceCtorEq, if_false, if_true]
    rw [if_neg (by omega)]
    simp only [KA, KB, KD, reduceCtorEq, if_false, if_true, r7']
    rw [show fwrap .i64 (((1 : Nat) : Int) - 1) = 0 from rfl, cutNone]
    simp only [KA, KB, KD, reduceCtorEq, if_false, if_true, e8']
end Go.Vm.Tryz
