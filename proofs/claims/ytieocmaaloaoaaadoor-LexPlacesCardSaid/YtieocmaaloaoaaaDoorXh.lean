/- The parts of a text: how they are drawn. -/
import Derived.Test.YtieocmaaloaoaaaDoorXp
namespace Go.Vm.Tryd
set_option linter.unusedSectionVars false
set_option linter.unusedSimpArgs false
set_option linter.unusedVariables false
set_option maxRecDepth 10000
/-- What a run that draws has left: the stream at b; all new blocks lie behind it. -/
structure Run (H0 H : VH) (b K : Nat) : Prop where
  st : StB H b K
  ok : H.Ok
  mx : Mx H
  keep : Keep (fun y => b ≤ y) H0 H
  low : H.low ≤ b
  lt : b < H.next
  b0 : b ≠ 0
theorem Run.drawn {H0 H H' : VH} {b K K' : Nat} (h : Run H0 H b K) (d : Drawn H H' b K') : Run H0 H' b K' :=
  ⟨d.st, d.ok, h.mx.keep h.ok d.keep (fun e => h.b0 e.symm), h.keep.trans (d.keep.mono fun y e => by omega), d.low, Nat.lt_of_lt_of_le h.lt d.keep.next, h.b0⟩
theorem Run.eff {H0 H H' : VH} {b K : Nat} {S : Nat → Prop} (h : Run H0 H b K) (e : Eff S H H') (hs : ∀ x, S x → b < x) : Run H0 H' b K :=
  ⟨h.st.keepUp h.ok e.keep hs, e.ok, h.mx.keep h.ok e.keep (fun g => by have := hs _ g; omega), h.keep.trans (e.keep.mono fun y g => Nat.le_of_lt (hs y g)), Nat.le_trans e.low h.low, Nat.lt_of_lt_of_le h.lt e.keep.next, h.b0⟩
theorem Run.fresh {H0 H : VH} {b K : Nat} (h : Run H0 H b K) (cs : List AV) : Run H0 (H.fresh cs) b K := h.eff (Eff.fresh (fun _ => False) h.ok cs) (fun _ g => g.elim)
theorem Grow.drawn {H H' : VH} {b e sz len K : Nat} {v : AV} {cs : List AV} (h : Grow H b e sz v len cs) (hH : H.Ok) (d : Drawn H H' b K) : Grow H' b e sz v len cs := h.keep hH d.keep (fun x e => .inl (by omega))
theorem Grow.fresh {H : VH} {b e sz len : Nat} {v : AV} {cs : List AV} (h : Grow H b e sz v len cs) (hH : H.Ok) (x : List AV) : Grow (H.fresh x) b e sz v len cs := h.keep hH (Keep.fresh (fun _ => False) H x) (fun _ g => g.elim)
theorem Grow.new {H H' : VH} {b e sz len : Nat} {v : AV} {cs : List AV} (h : Grow H b e sz v len cs) (hH : H.Ok) (k : Eff (fun _ => False) H H') : Grow H' b e sz v len cs := h.keep hH k.keep (fun _ g => g.elim)
theorem sltStr : SlT 27 9 1 := ⟨by kernel_rfl, ⟨Go.Proofs.Tryd.t9, by kernel_rfl, by kernel_rfl, by decide⟩, by kernel_rfl, by decide⟩
theorem strCells_len (l : List (List UInt8)) : (strCells l).length = l.length := by simp [strCells]
theorem strCells_snoc (l : List (List UInt8)) (p : List UInt8) : strCells (l ++ [p]) = strCells l ++ [.str (PS.of p)] := by simp [strCells]
theorem getD_mem {l : List (List UInt8)} {i : Nat} (h : i < l.length) : l.getD i [] ∈ l := by
  rw [List.getD_eq_getElem?_getD, List.getElem?_eq_getElem h]
  exact List.getElem_mem h
theorem strCells_getD (l : List (List UInt8)) (i : Nat) (h : i < l.length) : (strCells l)[i]? = some (.str (PS.of (l.getD i []))) := by
  rw [strCells_get l i h, List.getD_eq_getElem?_getD, List.getElem?_eq_getElem h]
  rfl
/-- One of a few strings is drawn. -/
theorem pick_ok (n : Nat) (hn : 10 ≤ n) {H0 H : VH} {b K : Nat} (R : Run H0 H b K) (hK : K < 900000000) (ls : List (List UInt8)) (h1 : 1 ≤ ls.length) (h2 : ls.length ≤ 1000) :
    ∃ (i : Nat) (H' : VH), i < ls.length ∧ vcall T ext promo n 15 [.ptr (some (b, 0)), .int .i64 (ls.length : Int)] (H.fresh (strCells ls)) = some (.int .i64 (i : Int), H') ∧ H'.cell H.next (0 + i * 1) = some (.str (PS.of (ls.getD i []))) ∧ Run H0 H' b (K + 1) ∧
      (∀ e sz v len cs, Grow H b e sz v len cs → Grow H' b e sz v len cs) := by
  have R1 := R.fresh (strCells ls)
  obtain ⟨r, H', e1, r1, r2, d1⟩ := next_ok n (by omega) R1.ok R1.st (by omega) (ls.length : Int) (by omega)
  obtain ⟨r, rfl⟩ : ∃ r' : Nat, r = (r' : Int) := ⟨r.toNat, by omega⟩
  have hp := (fresh_plain R.ok (strCells ls)).keep R1.ok d1.keep (show ¬ H.next = b by have := R.lt; omega)
  refine ⟨r, H', by omega, e1, ?_, R1.drawn d1, fun e sz v len cs g => (g.fresh R.ok _).drawn R1.ok d1⟩
  rw [Nat.zero_add, Nat.mul_one, hp.cell]
  exact strCells_getD ls r (by omega)
/-- A part is appended. -/
theorem app_part {H0 H : VH} {b K : Nat} (R : Run H0 H b K) {v : AV} {ps : List (List UInt8)} (hg : Grow H b 9 1 v ps.length (strCells ps)) (hl : ps.length < 1000) (p : List UInt8) :
    ∃ a c e H', vbuiltin T (H.fresh [.str (PS.of p)]) .append [27, 27] [v, .slice (some (H.next, 0)) 1 (some 1) 1] = some (.slice a (ps.length + 1) c e, H') ∧ Grow H' b 9 1 (.slice a (ps.length + 1) c e) (ps ++ [p]).length (strCells (ps ++ [p])) ∧ Run H0 H' b K := by
  have R1 := R.fresh [.str (PS.of p)]
  obtain ⟨v', H', a1, a2, a3, a4, a5⟩ := Grow.app sltStr (hg.fresh R.ok [.str (PS.of p)]) R1.ok R1.lt (by omega) (p := H.next) (c := some 1) (es := 1) (new := [.str (PS.of p)]) (fresh_cells R.ok _ 0 1 (by simp)) rfl rfl
  obtain ⟨a, c, e, rfl⟩ := a2.sl
  refine ⟨a, c, e, H', a1, ?_, R1.eff a4 (fun x h => h)⟩
  rw [strCells_snoc, List.length_append]
  exact a2
theorem parts_loop (n : Nat) (hn : 200 ≤ n) {H0 : VH} {b k : Nat} (hk : k < 800000000) (N : Nat) (hN : N ≤ 30) :
    ∀ (m i : Nat) (v : AV) (ps : List (List UInt8)) (H : VH), i ≤ N → N - i < m → ps.length = i → (∀ p ∈ ps, PartOk p) → Run H0 H b (k + 2 * i) → Grow H b 9 1 v ps.length (strCells ps) →
      ∃ v' ps' H', loopN (L54_0 (vcall T ext promo n) n (some (b, 0)) (N : Int)) m [v, .int .i64 (i : Int)] H = some (.exit 0, [v'], H') ∧ ps'.length = N ∧ (∀ p ∈ ps', PartOk p) ∧ Run H0 H' b (k + 2 * N) ∧ Grow H' b 9 1 v' ps'.length (strCells ps') := by
  intro m
  induction m with
  | zero => intro i v ps H _ h; omega
  | succ m ih =>
    intro i v ps H hi hm hps hpo R hg
    rw [loopN_succ]
    generalize hlp : loopN (L54_0 (vcall T ext promo n) n (some (b, 0)) (N : Int)) m = lp at ih ⊢
    unfold L54_0
    by_cases h : i < N
    · have h' : (i : Int) < (N : Int) := by omega
      obtain ⟨r, H1, e1, r1, r2, d1⟩ := next_ok n (by omega) R.ok R.st (by omega) 6 (by omega)
      have R1 := R.drawn d1
      have g1 := hg.drawn R.ok d1
      -- a part is drawn: what follows
      have fin : ∀ (H2 : VH) (p : List UInt8), PartOk p → Run H0 H2 b (k + 2 * (i + 1)) → Grow H2 b 9 1 v ps.length (strCells ps) →
          ∃ a c e H3, vbuiltin T (H2.fresh [.str (PS.of p)]) .append [27, 27] [v, .slice (some (H2.next, 0)) 1 (some 1) 1] = some (.slice a (ps.length + 1) c e, H3) ∧
            ∃ v' ps' H', lp [.slice a (ps.length + 1) c e, .int .i64 ((i + 1 : Nat) : Int)] H3 = some (.exit 0, [v'], H') ∧ ps'.length = N ∧ (∀ p ∈ ps', PartOk p) ∧ Run H0 H' b (k + 2 * N) ∧ Grow H' b 9 1 v' ps'.length (strCells ps') := by
        intro H2 p hp R2 g2
        obtain ⟨a, c, e, H3, a1, a2, a3⟩ := app_part R2 g2 (by omega) p
        exact ⟨a, c, e, H3, a1, ih (i + 1) _ (ps ++ [p]) H3 (by omega) (by omega) (by simp [hps]) (fun x hx => by
          rcases List.mem_append.1 hx with hx | hx
          · exact hpo x hx
          · rw [List.mem_singleton.1 hx]; exact hp) a3 a2⟩
      have hf := fw_add1 i (by omega)
      have hKe : k + 2 * (i + 1) = k + 2 * i + 1 + 1 := by omega
      obtain ⟨va, vc, ve, rfl⟩ := hg.sl
      have hr : r = 0 ∨ r = 1 ∨ r = 2 ∨ r = 3 ∨ r = 4 ∨ r = 5 := by omega
      rcases hr with rfl | rfl | rfl | rfl | rfl | rfl
      · obtain ⟨H2, e2, p2, k2⟩ := signs_ok n (by omega) R1.ok
        obtain ⟨H3, e3, p3, k3⟩ := signs_ok n (by omega) k2.ok
        have R3 := (R1.eff k2 (fun _ g => g.elim)).eff k3 (fun _ g => g.elim)
        obtain ⟨j, H4, e4, j1, j2, d4⟩ := next_ok n (by omega) R3.ok R3.st (by omega) 39 (by omega)
        obtain ⟨j, rfl⟩ : ∃ j' : Nat, j = (j' : Int) := ⟨j.toNat, by omega⟩
        have hlt1 := R1.lt
        have hc : H4.cell H1.next (0 + j * 1) = some (.str (PS.of (signs.getD j []))) := by
          rw [Nat.zero_add, Nat.mul_one, ((p2.keep k2.ok k3.keep (fun g => g)).keep R3.ok d4.keep (show ¬ H1.next = b by omega)).cell]
          exact strCells_getD signs j (by show j < 39; omega)
        have hj1 : (0 : Int) ≤ (j : Int) := by omega
        have hj2 : (j : Int) < ((39 : Nat) : Int) := by omega
        obtain ⟨a, c, e, H5, a1, w⟩ := fin H4 (signs.getD j []) (signs_part _ (getD_mem (by show j < 39; omega))) (by rw [hKe]; exact R3.drawn d4) (((g1.new R1.ok k2).new k2.ok k3).drawn R3.ok d4)
        have e4' : vcall T ext promo n 15 [.ptr (some (b, 0)), .int .i64 ((39 : Nat) : Int)] H3 = some (.int .i64 (j : Int), H4) := e4
        simp only [KA, KB, KD, reduceCtorEq, if_false, if_true, h', e1, ieq_dec, decide_true, e2, e3, e4', hj1, hj2, and_self, Bool.and_eq_true, Int.toNat_natCast, hc, a1, hf]
        exact w
      · obtain ⟨H2, e2, p2, k2⟩ := words_ok n (by omega) R1.ok
        obtain ⟨H3, e3, p3, k3⟩ := words_ok n (by omega) k2.ok
        have R3 := (R1.eff k2 (fun _ g => g.elim)).eff k3 (fun _ g => g.elim)
        obtain ⟨j, H4, e4, j1, j2, d4⟩ := next_ok n (by omega) R3.ok R3.st (by omega) 54 (by omega)
        obtain ⟨j, rfl⟩ : ∃ j' : Nat, j = (j' : Int) := ⟨j.toNat, by omega⟩
        have hlt1 := R1.lt
        have hc : H4.cell H1.next (0 + j * 1) = some (.str (PS.of (words.getD j []))) := by
          rw [Nat.zero_add, Nat.mul_one, ((p2.keep k2.ok k3.keep (fun g => g)).keep R3.ok d4.keep (show ¬ H1.next = b by omega)).cell]
          exact strCells_getD words j (by show j < 54; omega)
        have hj1 : (0 : Int) ≤ (j : Int) := by omega
        have hj2 : (j : Int) < ((54 : Nat) : Int) := by omega
        obtain ⟨a, c, e, H5, a1, w⟩ := fin H4 (words.getD j []) (words_part _ (getD_mem (by show j < 54; omega))) (by rw [hKe]; exact R3.drawn d4) (((g1.new R1.ok k2).new k2.ok k3).drawn R3.ok d4)
        have e4' : vcall T ext promo n 15 [.ptr (some (b, 0)), .int .i64 ((54 : Nat) : Int)] H3 = some (.int .i64 (j : Int), H4) := e4
        simp only [KA, KB, KD, reduceCtorEq, if_false, if_true, h', e1, ieq_dec, decide_true, show ¬ (1 : Int) = 0 by decide, decide_false, e2, e3, e4', hj1, hj2, and_self, Bool.and_eq_true, Int.toNat_natCast, hc, a1, hf]
        exact w
      · obtain ⟨j, H2, j1, e2, hc, R2, G2⟩ := pick_ok n (by omega) R1 (by omega) nums (by decide) (by decide)
        obtain ⟨a, c, e, H5, a1, w⟩ := fin H2 _ (nums_part _ (getD_mem j1)) (by rw [hKe]; exact R2) (G2 _ _ _ _ _ g1)
        have hj1 : (0 : Int) ≤ (j : Int) := by omega
        have hj2 : (j : Int) < ((7 : Nat) : Int) := by have : j < 7 := j1; omega
        have e2' : vcall T ext promo n 15 [.ptr (some (b, 0)), .int .i64 7] (H1.fresh [.str (PS.of [48]), .str (PS.of [55]), .str (PS.of [49, 50, 51, 52, 53]), .str (PS.of [56, 39, 104, 102, 102]), .str (PS.of [52, 39, 98, 49, 48, 120, 122]), .str (PS.of [51, 39, 115, 100, 50]), .str (PS.of [54, 52, 39, 111, 49, 55])]) = some (.int .i64 (j : Int), H2) := e2
        simp only [KA, KB, KD, reduceCtorEq, if_false, if_true, h', e1, ieq_dec, decide_true, show ¬ (2 : Int) = 0 by decide, show ¬ (2 : Int) = 1 by decide, decide_false, e2', hj1, hj2, and_self, Bool.and_eq_true, Int.toNat_natCast, hc, a1, hf]
        exact w
      · obtain ⟨j, H2, j1, e2, hc, R2, G2⟩ := pick_ok n (by omega) R1 (by omega) raws (by decide) (by decide)
        have j4 : j < 4 := j1
        obtain ⟨a, c, e, H5, a1, w⟩ := fin H2 (quots.getD j []) (quots_part _ (getD_mem j4)) (by rw [hKe]; exact R2) (G2 _ _ _ _ _ g1)
        have hj1 : (0 : Int) ≤ (j : Int) := by omega
        have hj2 : (j : Int) < ((4 : Nat) : Int) := by omega
        have e2' : vcall T ext promo n 15 [.ptr (some (b, 0)), .int .i64 4] (H1.fresh [.str (PS.of []), .str (PS.of [97, 32, 98]), .str (PS.of [120, 34, 121]), .str (PS.of [92])]) = some (.int .i64 (j : Int), H2) := e2
        simp only [KA, KB, KD, reduceCtorEq, if_false, if_true, h', e1, ieq_dec, decide_true, show ¬ (3 : Int) = 0 by decide, show ¬ (3 : Int) = 1 by decide, show ¬ (3 : Int) = 2 by decide, decide_false, e2', hj1, hj2, and_self, Bool.and_eq_true, Int.toNat_natCast, hc, quote_ok j j4 n (by omega) H2 R2.mx, a1, hf]
        exact w
      · obtain ⟨j, H2, j1, e2, hc, R2, G2⟩ := pick_ok n (by omega) R1 (by omega) tails (by decide) (by decide)
        have j4 : j < 4 := j1
        have hlt : (tails.getD j []).length ≤ 19 := by have := (tails_part _ (getD_mem j1)).len; simp only [List.length_append, List.length_cons, List.length_nil] at this; omega
        obtain ⟨a, c, e, H5, a1, w⟩ := fin H2 ([92, 113] ++ tails.getD j []) (tails_part _ (getD_mem j1)) (by rw [hKe]; exact R2) (G2 _ _ _ _ _ g1)
        have hj1 : (0 : Int) ≤ (j : Int) := by omega
        have hj2 : (j : Int) < ((4 : Nat) : Int) := by omega
        have e2' : vcall T ext promo n 15 [.ptr (some (b, 0)), .int .i64 4] (H1.fresh [.str (PS.of [43]), .str (PS.of [47, 42]), .str (PS.of [49, 39, 98, 48]), .str (PS.of [47, 47])]) = some (.int .i64 (j : Int), H2) := e2
        have hadd := str_add [92, 113] (tails.getD j []) (by simp only [List.length_cons, List.length_nil]; omega)
        simp only [KA, KB, KD, reduceCtorEq, if_false, if_true, h', e1, ieq_dec, decide_true, show ¬ (4 : Int) = 0 by decide, show ¬ (4 : Int) = 1 by decide, show ¬ (4 : Int) = 2 by decide, show ¬ (4 : Int) = 3 by decide, decide_false, e2', hj1, hj2, and_self, Bool.and_eq_true, Int.toNat_natCast, hc, hadd, a1, hf]
        exact w
      · obtain ⟨j, H2, j1, e2, hc, R2, G2⟩ := pick_ok n (by omega) R1 (by omega) nams (by decide) (by decide)
        obtain ⟨a, c, e, H5, a1, w⟩ := fin H2 _ (nams_part _ (getD_mem j1)) (by rw [hKe]; exact R2) (G2 _ _ _ _ _ g1)
        have hj1 : (0 : Int) ≤ (j : Int) := by omega
        have hj2 : (j : Int) < ((5 : Nat) : Int) := by have : j < 5 := j1; omega
        have e2' : vcall T ext promo n 15 [.ptr (some (b, 0)), .int .i64 5] (H1.fresh [.str (PS.of [97]), .str (PS.of [98, 49]), .str (PS.of [95]), .str (PS.of [119, 104, 105, 108]), .str (PS.of [77, 111, 100, 117, 108, 101])]) = some (.int .i64 (j : Int), H2) := e2
        simp only [KA, KB, KD, reduceCtorEq, if_false, if_true, h', e1, ieq_dec, decide_true, show ¬ (5 : Int) = 0 by decide, show ¬ (5 : Int) = 1 by decide, show ¬ (5 : Int) = 2 by decide, show ¬ (5 : Int) = 3 by decide, show ¬ (5 : Int) = 4 by decide, decide_false, e2', hj1, hj2, and_self, Bool.and_eq_true, Int.toNat_natCast, hc, a1, hf]
        exact w
    · have h' : ¬ (i : Int) < (N : Int) := by omega
      obtain ⟨va, vc, ve, rfl⟩ := hg.sl
      simp only [KA, KB, KD, reduceCtorEq, if_false, if_true, h']
      have hiN : i = N := by omega
      subst hiN
      exact ⟨_, ps, H, rfl, hps, hpo, R, hg⟩
theorem parts_ok (n : Nat) (hn : 300 ≤ n) {H : VH} {b k : Nat} (hH : H.Ok) (hM : Mx H) (hs : StB H b k) (hk : k < 700000000) (hb0 : b ≠ 0) :
    ∃ v ps H', vcall T ext promo n 54 [.ptr (some (b, 0))] H = some (v, H') ∧ ps.length ≤ 30 ∧ (∀ p ∈ ps, PartOk p) ∧ Run H H' b (k + 61) ∧ Grow H' b 9 1 v ps.length (strCells ps) := by
  obtain ⟨n, rfl⟩ : ∃ m, n = m + 1 := ⟨n - 1, by omega⟩
  have hblt := hs.lt hH
  obtain ⟨N, H1, e1, N1, N2, d1⟩ := range_ok n (by omega) (lo_ok hH) hs.lo (by omega) 0 30 (by omega) (by omega) (by omega)
  obtain ⟨N, rfl⟩ : ∃ N' : Nat, N = (N' : Int) := ⟨N.toNat, by omega⟩
  have R1 : Run H.lo H1 b (k + 1) := ⟨d1.st, d1.ok, hM.lo.keep (lo_ok hH) d1.keep (fun e => hb0 e.symm), d1.keep.mono fun y e => by omega, d1.low, Nat.lt_of_lt_of_le (by simpa using hblt) d1.keep.next, hb0⟩
  obtain ⟨v, ps, H2, e2, hl, hpo, R2, g2⟩ := parts_loop n (by omega) (by omega) N (by omega) n 0 (.slice none 0 (some 0) 0) [] H1 (by omega) (by omega) rfl (fun _ h => by cases h) R1 (Grow.nil _ _ _ _)
  obtain ⟨va, vc, ve, rfl⟩ := g2.sl
  have hlv : H2.low < H.next := Nat.lt_of_le_of_lt R2.low hblt
  refine ⟨_, ps, _, ok54 _ _ _ (r := (.slice va ps.length vc ve, leave H H2 (.slice va ps.length vc ve))) ?_, by omega, hpo, ?_, ?_⟩
  · unfold F54
    have e2' : loopN (L54_0 (vcall T ext promo n) n (some (b, 0)) (N : Int)) n [.slice none 0 (some 0) 0, .int .i64 0] H1 = _ := e2
    simp only [letH_mk]
    rw [e1]
    simp only [KA, KB, KD, reduceCtorEq, if_false, if_true, e2']
  · rw [leave_eff hlv]
    obtain ⟨i, h1, a, l, c, e, hp, hn⟩ := R2.st
    refine ⟨⟨i, by omega, a, l, c, e, plain_low hp _, hn⟩, ok_low R2.ok _, R2.mx, keep_low R2.keep.from_lo _, ?_, R2.lt, hb0⟩
    show min H.low H2.low ≤ b
    have := R2.low
    omega
  · rw [leave_eff hlv]
    exact g2.low _
end Go.Vm.Tryd
