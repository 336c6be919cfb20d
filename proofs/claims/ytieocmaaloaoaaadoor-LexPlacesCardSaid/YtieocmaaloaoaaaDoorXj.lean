/- LexPlaces on the machine: each token stands where its place says. -/
import Derived.Test.YtieocmaaloaoaaaDoorXi
namespace Go.Vm.Tryd
set_option linter.unusedSectionVars false
set_option linter.unusedSimpArgs false
set_option linter.unusedVariables false
set_option maxRecDepth 10000
theorem lastL_snoc (c x : UInt8) : ∀ w : List UInt8, lastL c (w ++ [x]) = if x = c then (w.length : Int) else lastL c w
  | [] => by simp [lastL]
  | b :: w => by
    have ih := lastL_snoc c x w
    have hr := lastL_range c w
    simp only [List.cons_append, lastL, ih]
    by_cases h : x = c
    · simp only [h, if_true]
      rw [if_pos (by omega), List.length_cons]
      omega
    · simp only [h, if_false]
theorem go_place : ∀ (n : Nat) (w : List UInt8), w.length = n → pos0.go w = ⟨w.length, w.count 10 + 1, ((w.length : Int) - lastL 10 w).toNat⟩
  | 0, w, h => by
    obtain rfl := List.length_eq_zero_iff.1 h
    rfl
  | n + 1, w, h => by
    obtain ⟨u, x, rfl⟩ : ∃ u x, w = u ++ [x] := by
      rcases List.eq_nil_or_concat w with e | ⟨u, x, e⟩
      · subst e; simp at h
      · exact ⟨u, x, by simpa using e⟩
    have hu : u.length = n := by simpa using h
    have ih := go_place n u hu
    have hr := lastL_range 10 u
    rw [Pos.go_app, ih, lastL_snoc]
    show Pos.step _ x = _
    unfold Pos.step
    by_cases hx : x = 10
    · subst hx
      simp only [if_true, List.length_append, List.count_append, List.length_singleton, List.count_singleton, beq_self_eq_true, Pos.mk.injEq, true_and]
      omega
    · simp only [hx, if_false, List.length_append, List.count_append, List.length_singleton, List.count_singleton, beq_iff_eq, Pos.mk.injEq, true_and, Nat.add_zero]
      omega
def gaps2 : List (List UInt8) := [[32], [10], [32, 32], [32, 47, 42, 10, 42, 47, 32]]
theorem gaps2_gap : ∀ g ∈ gaps2, GapOk g := by
  intro g hg
  simp only [gaps2, List.mem_cons, List.not_mem_nil, or_false] at hg
  rcases hg with rfl | rfl | rfl | rfl
  · exact ⟨by decide, gap_sep (by decide), fun r h => .ws _ _ 0 (.inl rfl) (.stop _ h)⟩
  · exact ⟨by decide, gap_sep (by decide), fun r h => .ws _ _ 0 (.inr (.inr rfl)) (.stop _ h)⟩
  · exact ⟨by decide, gap_sep (by decide), fun r h => .ws _ _ 1 (.inl rfl) (.ws _ _ 0 (.inl rfl) (.stop _ h))⟩
  · exact ⟨by decide, gap_sep (by decide), fun r h => .ws _ _ 6 (.inl rfl) (.block [10] (32 :: r) 1 (by rfl) (.ws _ _ 0 (.inl rfl) (.stop _ h)))⟩
/-- Where the tokens begin. -/
def startsF : Nat → List It → List Nat
  | _, [] => []
  | o, x :: l => o :: startsF (o + (x.p.length + x.g.length)) l
theorem startsF_len : ∀ (l : List It) (o : Nat), (startsF o l).length = l.length
  | [], _ => rfl
  | x :: l, o => by simp only [startsF, List.length_cons, startsF_len l]
theorem startsF_get : ∀ (l : List It) (o i : Nat), i ≤ l.length → (startsF o l ++ [o + (fl l).length])[i]? = some (o + (fl (l.take i)).length)
  | [], o, i, hi => by
    obtain rfl : i = 0 := by simpa using hi
    rfl
  | x :: l, o, 0, hi => by simp [startsF, fl]
  | x :: l, o, i + 1, hi => by
    have h1 : (fl (x :: l)).length = x.p.length + x.g.length + (fl l).length := by simp only [fl, List.length_append]; omega
    have h2 : (fl ((x :: l).take (i + 1))).length = x.p.length + x.g.length + (fl (l.take i)).length := by simp only [List.take_succ_cons, fl, List.length_append]; omega
    simp only [startsF, List.cons_append, List.getElem?_cons_succ]
    rw [h1, h2, show o + (x.p.length + x.g.length + (fl l).length) = o + (x.p.length + x.g.length) + (fl l).length by omega, show o + (x.p.length + x.g.length + (fl (l.take i)).length) = o + (x.p.length + x.g.length) + (fl (l.take i)).length by omega]
    exact startsF_get l _ i (by simpa using hi)
theorem fl_take : ∀ (l : List It) (i : Nat), (fl l).take (fl (l.take i)).length = fl (l.take i) ∧ (fl (l.take i)).length ≤ (fl l).length
  | [], i => by simp [fl]
  | x :: l, 0 => by simp [fl]
  | x :: l, i + 1 => by
    obtain ⟨h1, h2⟩ := fl_take l i
    simp only [List.take_succ_cons, fl]
    constructor
    · rw [← List.append_assoc, ← List.append_assoc, List.length_append, List.take_length_add_append, h1]
    · simp only [List.length_append]
      omega
def intCells (l : List Nat) : List AV := l.map fun (x : Nat) => AV.int .i64 (x : Int)
theorem sltInt : SlT 22 3 1 := ⟨by kernel_rfl, ⟨Go.Proofs.Tryd.t3, by kernel_rfl, by kernel_rfl, by decide⟩, by kernel_rfl, by decide⟩
theorem intCells_snoc (l : List Nat) (x : Nat) : intCells (l ++ [x]) = intCells l ++ [.int .i64 (x : Int)] := by simp [intCells]
theorem Grow.appQ {st e sz : Nat} (ht : SlT st e sz) {H : VH} {b : Nat} {v : AV} {len : Nat} {cs : List AV} (h : Grow H b e sz v len cs) (hH : H.Ok) (hb : b < H.next) (hl : len < 1000000) {p : Nat} {c : Option Nat} {es : Nat} {new : List AV} (hc : H.cells p 0 (1 * sz) = some new) (hn : new.length = sz) (ho : allOne new = true) :
    ∃ v' H', vbuiltin T H .append [st, st] [v, .slice (some (p, 0)) 1 c es] = some (v', H') ∧ Grow H' b e sz v' (len + 1) (cs ++ new) ∧ H'.Ok ∧ Keep (fun y => AtB v y) H H' := by
  obtain ⟨hcs, h⟩ := h
  have hlen : (cs ++ new).length = (len + 1) * sz := by rw [List.length_append, hcs, hn, Nat.succ_mul]
  rcases h with ⟨rfl, rfl⟩ | ⟨q, rfl, h1, h2, h3⟩
  · have : cs = [] := List.length_eq_zero_iff.1 (by rw [hcs]; simp)
    subst this
    refine ⟨_, _, app_slt ht (H := H) (v := .slice none 0 (some 0) 0) (x := .slice (some (p, 0)) 1 c es) (len := 0) (n := 1) (new := new) rfl rfl (by omega) (by omega) hc ho, ⟨hlen, .inr ⟨H.next, rfl, hb, ?_, by omega⟩⟩, freshT_ok hH _ _, Keep.freshT _ _ _ _⟩
    rw [List.nil_append]
    exact freshT_tip hH new _
  · obtain ⟨H', a1, a2, a3, a4, a5, a6⟩ := h2.append hH sz len 1 new hcs.symm (by rw [hn, Nat.one_mul])
    exact ⟨_, H', (app_slt ht (H := H) (v := .slice (some (q, 0)) len none sz) (x := .slice (some (p, 0)) 1 c es) (len := len) (n := 1) (new := new) rfl rfl (by omega) (by omega) hc ho).trans a1, ⟨hlen, .inr ⟨H.next, rfl, hb, a2, by omega⟩⟩, a4, a3.mono fun y e => by subst e; exact ⟨_, _, _, _, rfl⟩⟩
theorem pick_keep (n : Nat) (hn : 10 ≤ n) {H0 H : VH} {b K : Nat} (R : Run H0 H b K) (hK : K < 900000000) (ls : List (List UInt8)) (h1 : 1 ≤ ls.length) (h2 : ls.length ≤ 1000) (i : Nat) (H' : VH)
    (he : vcall T ext promo n 15 [.ptr (some (b, 0)), .int .i64 (ls.length : Int)] (H.fresh (strCells ls)) = some (.int .i64 (i : Int), H')) : Keep (fun y => y = b) (H.fresh (strCells ls)) H' := by
  have R1 := R.fresh (strCells ls)
  obtain ⟨r, H2, e1, _, _, d1⟩ := next_ok n (by omega) R1.ok R1.st (by omega) (ls.length : Int) (by omega)
  rw [he] at e1
  obtain ⟨_, rfl⟩ := Prod.mk.inj (Option.some.inj e1)
  exact d1.keep
/-- A number is appended to a list that lies behind b2. -/
theorem app_int {H0 H : VH} {b K b2 : Nat} (R : Run H0 H b K) (hb : b ≤ b2) (hb2 : b2 < H.next) {v : AV} {ns : List Nat} (hg : Grow H b2 3 1 v ns.length (intCells ns)) (hl : ns.length < 1000) (x : Nat) :
    ∃ a c e H', vbuiltin T (H.fresh [.int .i64 (x : Int)]) .append [22, 22] [v, .slice (some (H.next, 0)) 1 (some 1) 1] = some (.slice a (ns.length + 1) c e, H') ∧ Grow H' b2 3 1 (.slice a (ns.length + 1) c e) (ns ++ [x]).length (intCells (ns ++ [x])) ∧ Run H0 H' b K ∧ Eff (fun y => b2 < y) H H' := by
  have R1 := R.fresh [.int .i64 (x : Int)]
  obtain ⟨v', H', a1, a2, a3, a4, a5⟩ := Grow.app sltInt (hg.fresh R.ok [.int .i64 (x : Int)]) R1.ok (by simp only [fresh_next]; omega) (by omega) (p := H.next) (c := some 1) (es := 1) (new := [.int .i64 (x : Int)]) (fresh_cells R.ok _ 0 1 (by simp)) rfl rfl
  obtain ⟨a, c, e, rfl⟩ := a2.sl
  refine ⟨a, c, e, H', a1, ?_, R1.eff a4 (fun y h => Nat.lt_of_le_of_lt hb h), (Eff.fresh _ R.ok _).trans a4 fun y hy => .inl hy⟩
  rw [intCells_snoc, List.length_append]
  exact a2
theorem lq_loop (n : Nat) (hn : 100 ≤ n) {H0 H3 : VH} {K b2 : Nat} (ps : List (List UInt8)) (hps : ps.length ≤ 30) (hpo : ∀ p ∈ ps, PartOk p) (hK : K < 800000000) (a8 : Option (Nat × Nat)) (c8 : Option Nat) (e8 : Nat) (hb : H3.next ≤ b2) (h8 : ∀ q, AtB (.slice a8 ps.length c8 e8) q → q ≤ b2) :
    ∀ (rest : List (List UInt8)) (m i : Nat) (tx : List UInt8) (ns : List Nat) (v : AV) (H : VH), ps.drop i = rest → i ≤ ps.length → rest.length < m → tx.length ≤ 30 * i → ns.length = i → b2 < H.next → Run H0 H H3.next (K + i) → Grow H H3.next 9 1 (.slice a8 ps.length c8 e8) ps.length (strCells ps) → Grow H b2 3 1 v ns.length (intCells ns) →
      ∃ gs v' H', gs.length = rest.length ∧ (∀ g ∈ gs, GapOk g) ∧ loopN (L11_0 (vcall T ext promo n) n H3 a8 ps.length) m [.str (PS.of tx), v, .int .i64 (i : Int)] H = some (.exit 0, [.str (PS.of (tx ++ fl (its rest gs))), v'], H') ∧
        Run H0 H' H3.next (K + i + rest.length) ∧ Grow H' b2 3 1 v' (ns ++ startsF tx.length (its rest gs)).length (intCells (ns ++ startsF tx.length (its rest gs))) ∧ b2 < H'.next := by
  intro rest
  induction rest with
  | nil =>
    intro m i tx ns v H hd hi hm h1 hns hb2 R hg hq
    obtain ⟨m, rfl⟩ : ∃ m', m = m' + 1 := ⟨m - 1, by omega⟩
    have hlen : ps.length ≤ i := by
      have := congrArg List.length hd
      rw [List.length_drop] at this
      simp at this
      omega
    have h' : ¬ (i : Int) < (ps.length : Int) := by omega
    obtain ⟨a, c, e, rfl⟩ := hq.sl
    refine ⟨[], _, H, rfl, (fun _ h => by cases h), ?_, R, by simpa [its, startsF] using hq, hb2⟩
    rw [loopN_succ]
    unfold L11_0
    simp only [KA, KB, KD, reduceCtorEq, if_false, if_true, h', its, fl, List.append_nil]
  | cons p rest ih =>
    intro m i tx ns v H hd hi hm h1 hns hb2 R hg hq
    obtain ⟨m, rfl⟩ : ∃ m', m = m' + 1 := ⟨m - 1, by omega⟩
    rw [List.length_cons] at hm
    obtain ⟨hlt, hp, hd'⟩ := drop_getD hd
    have P : PartOk p := hpo p (by rw [← hp]; exact getD_mem hlt)
    have hpl := P.len
    obtain ⟨q, hq1, hq2, hq3⟩ := hg.cells (by omega)
    have hqb : q ≤ b2 := h8 q ⟨_, _, _, _, hq1⟩
    simp only [AV.slice.injEq] at hq1
    obtain ⟨rfl, _, rfl, rfl⟩ := hq1
    have hcell : H.cell q (0 + i * 1) = some (.str (PS.of p)) := by
      rw [Nat.zero_add, Nat.mul_one, hq3, strCells_getD ps i hlt, hp]
    obtain ⟨a, c, e, H1, a1, a2, a3, a4⟩ := app_int R hb hb2 hq (by omega) tx.length
    obtain ⟨va, vc, ve, rfl⟩ := hq.sl
    have hn1 := a4.keep.next
    have g1 := hg.keepQ R.ok a4.keep (fun y hy _ h => by
      obtain ⟨o, k, c', e', he⟩ := hy
      simp only [AV.slice.injEq, Option.some.injEq, Prod.mk.injEq] at he
      omega)
    obtain ⟨j, H2, j1, e2, hc, R2, G2⟩ := pick_ok n (by omega) a3 (by omega) gaps2 (by decide) (by decide)
    have hgap := gaps2_gap _ (getD_mem j1)
    have hgl := hgap.len
    generalize hgj : gaps2.getD j [] = gj at hc hgap hgl
    have g2 := G2 _ _ _ _ _ g1
    have q2 : Grow H2 b2 3 1 (.slice a (ns.length + 1) c e) (ns ++ [tx.length]).length (intCells (ns ++ [tx.length])) := by
      -- neither the fresh strings nor the draw touch it
      have k2 : Keep (fun y => y = H3.next) H1 H2 := by
        obtain ⟨k1, k2, k3⟩ := (Keep.fresh (fun y => y = H3.next) H1 (strCells gaps2)).trans (pick_keep n (by omega) a3 (by omega) gaps2 (by decide) (by decide) j H2 e2)
        exact ⟨k1, k2, k3⟩
      exact a2.keep a3.ok k2 (fun x hx => .inl (by omega))
    have e2' : vcall T ext promo n 15 [.ptr (some (H3.next, 0)), .int .i64 4] (H1.fresh [.str (PS.of [32]), .str (PS.of [10]), .str (PS.of [32, 32]), .str (PS.of [32, 47, 42, 10, 42, 47, 32])]) = some (.int .i64 (j : Int), H2) := e2
    have hj2 : (j : Int) < ((4 : Nat) : Int) := by have : j < 4 := j1; omega
    have hj1 : (0 : Int) ≤ (j : Int) := by omega
    have h' : (i : Int) < (ps.length : Int) := by omega
    have h0 : (0 : Int) ≤ (i : Int) := by omega
    have hn2 : H1.next ≤ H2.next := by
      have := (pick_keep n (by omega) a3 (by omega) gaps2 (by decide) (by decide) j H2 e2).next
      simp only [fresh_next] at this
      omega
    obtain ⟨gs, v', H', f1, f2, f3, f4, f5, f6⟩ := ih m (i + 1) (tx ++ (p ++ gj)) (ns ++ [tx.length]) _ H2 hd' (by omega) (by omega) (by simp; omega) (by simp [hns]) (by omega) (by rw [← Nat.add_assoc]; exact R2) g2 q2
    have hst : ns ++ startsF tx.length (its (p :: rest) (gj :: gs)) = ns ++ [tx.length] ++ startsF (tx ++ (p ++ gj)).length (its rest gs) := by
      simp only [its, startsF, List.length_append, List.append_assoc, List.singleton_append]
    refine ⟨gj :: gs, v', H', by simp [f1], (fun g hg => by
      rcases List.mem_cons.1 hg with rfl | hg
      · exact hgap
      · exact f2 g hg), ?_, by rw [List.length_cons, show K + i + (rest.length + 1) = K + (i + 1) + rest.length by omega]; exact f4, by rw [hst]; exact f5, f6⟩
    rw [loopN_succ]
    generalize loopN (L11_0 (vcall T ext promo n) n H3 (some (q, 0)) ps.length) m = lp at f3 ⊢
    unfold L11_0
    simp only [KA, KB, KD, reduceCtorEq, if_false, if_true, h', h0, and_self, Bool.and_eq_true, Int.toNat_natCast, hcell, of_len, a1, e2', hj1, hj2, hc, str_add p gj (by omega), str_add tx (p ++ gj) (by simp; omega), fw_add1 i (by omega), f3]
    simp only [its, fl, List.append_assoc]
theorem intCells_get (l : List Nat) (i x : Nat) (h : l[i]? = some x) : (intCells l)[i]? = some (.int .i64 (x : Int)) := by
  unfold intCells
  rw [List.getElem?_map, h]
  rfl
theorem at_loop (n : Nat) (hn : 2000 ≤ n) (L : List It) (hL : L.length ≤ 30) (hl : (fl L).length ≤ 900) (q6 q8 : Nat) (H : VH) (c6 : ∀ o, H.cell q6 o = (toks L pos0)[o]?) (c8 : ∀ o, H.cell q8 o = (intCells (startsF 0 L ++ [(fl L).length]))[o]?) :
    ∀ (m i : Nat), i ≤ L.length + 1 → L.length + 1 - i < m →
      loopN (L11_1 (vcall T ext promo n) n (PS.of (fl L)) (some (q6, 0)) (L.length + 1) (some (q8, 0)) (L.length + 1)) m [.int .i64 (i : Int)] H = some (.exit 2, [], H) := by
  intro m
  induction m with
  | zero => intro i _ h; omega
  | succ m ih =>
    intro i hi hm
    rw [loopN_succ]
    generalize loopN (L11_1 (vcall T ext promo n) n (PS.of (fl L)) (some (q6, 0)) (L.length + 1) (some (q8, 0)) (L.length + 1)) m = lp at ih ⊢
    unfold L11_1
    by_cases h : i < L.length + 1
    · have h' : (i : Int) < ((L.length + 1 : Nat) : Int) := by omega
      have h0 : (0 : Int) ≤ (i : Int) := by omega
      obtain ⟨t1, t2⟩ := fl_take L i
      have hg := startsF_get L 0 i (by omega)
      rw [Nat.zero_add, Nat.zero_add] at hg
      have r8 : H.cell q8 (0 + i * 1) = some (.int .i64 ((fl (L.take i)).length : Int)) := by rw [Nat.zero_add, Nat.mul_one, c8]; exact intCells_get _ _ _ hg
      have hpl := place_ok n (fl L) (by omega) (by omega) (fl (L.take i)).length t2 H
      rw [t1] at hpl
      have hgo := go_place _ (fl (L.take i)) rfl
      have hr := lastL_range 10 (fl (L.take i))
      have r1 : H.cell q6 ((0 + i * 9) + 1) = some (.int .i64 (((fl (L.take i)).count 10 : Nat) + 1 : Int)) := by
        rw [Nat.zero_add, c6, toks_get L pos0 i 1 (by omega) (by omega), hgo]
        rfl
      have r2 : H.cell q6 ((0 + i * 9) + 2) = some (.int .i64 (((fl (L.take i)).length : Int) - lastL 10 (fl (L.take i)))) := by
        rw [Nat.zero_add, c6, toks_get L pos0 i 2 (by omega) (by omega), hgo]
        show some (AV.int .i64 (((((fl (L.take i)).length : Int) - lastL 10 (fl (L.take i))).toNat : Nat) : Int)) = _
        rw [Int.toNat_of_nonneg (by omega)]
      simp only [KA, KB, KD, reduceCtorEq, if_false, if_true, h', h0, and_self, Bool.and_eq_true, Int.toNat_natCast, r8, hpl, r1, r2, ieq_dec, decide_true, fw_add1 i (by omega)]
      exact ih (i + 1) (by omega) (by omega)
    · have h' : ¬ (i : Int) < ((L.length + 1 : Nat) : Int) := by omega
      simp only [KA, KB, KD, reduceCtorEq, if_false, if_true, h']
theorem lexPlaces_vm (n : Nat) (hn : 3001 ≤ n) {H : VH} (hH : H.Ok) {m : Int} (hmx : 0 < H.next ∧ H.cell 0 0 = some (.int .i64 m)) (a : Option (Nat × Nat)) (l : Nat) (c : Option Nat) (e : Nat) (hN : Nums H H.next a l) :
    ∃ H', vcall T ext promo n 11 [.slice a l c e] H = some (.bool true, H') := by
  obtain ⟨n, rfl⟩ : ∃ m, n = m + 1 := ⟨n - 1, by omega⟩
  have hM : Mx H := ⟨hmx.1, m, hmx.2⟩
  obtain ⟨o2, s2⟩ := start hH c e hN
  have M2 : Mx (H.lo.fresh [.slice a l c e, .int .i64 0]) := hM.lo.keep (lo_ok hH) (Keep.fresh (fun _ => False) H.lo _) (fun h => h)
  have hb0 : H.next ≠ 0 := Nat.ne_of_gt hM.1
  obtain ⟨v, ps, H7, e7, hps, hpo, R7, g7⟩ := parts_ok n (by omega) o2 M2 s2 (by omega) hb0
  obtain ⟨a8, c8, e8, rfl⟩ := g7.sl
  have hlt7 := R7.lt
  obtain ⟨gs, vs, H8, l8, gap8, f8, R8, q8, n8⟩ := lq_loop n (by omega) (H3 := H.lo) (b2 := H7.next - 1) ps hps hpo (by omega) a8 c8 e8 (by simp only [lo_next]; omega) (fun q hq => by have := g7.atLt R7.ok q hq; omega) ps n 0 [] [] (.slice none 0 (some 0) 0) H7 rfl (by omega) (by omega) (by simp) rfl (by omega) R7 g7 (Grow.nil _ _ _ _)
  simp only [List.nil_append] at q8 f8
  obtain ⟨u1, u2, u3, u4⟩ := fl_its ps gs hpo gap8
  have hLl := its_len ps gs l8
  obtain ⟨vt, H9, e9, g9, k9⟩ := tokens_ok n (its ps gs) (by omega) (by omega) (by omega) (by omega) u1 u2 R8.ok R8.mx
  obtain ⟨qt, rfl, _, ct⟩ := g9.cells (by omega)
  rw [hLl] at e9
  have hqt : qt < H9.next := g9.atLt k9.ok qt ⟨_, _, _, _, rfl⟩
  have R9 := R8.eff k9 (fun _ h => h.elim)
  have q9 := q8.new R8.ok k9
  have hn9 := k9.keep.next
  have hsl : (startsF ([] : List UInt8).length (its ps gs)).length = ps.length := by rw [startsF_len, hLl]
  have of := fresh_ok k9.ok [.int .i64 ((fl (its ps gs)).length : Int)]
  obtain ⟨vx, H10, a1, a2, a3, a4⟩ := Grow.appQ sltInt (q9.fresh k9.ok [.int .i64 ((fl (its ps gs)).length : Int)]) of (by simp only [fresh_next]; omega) (by omega) (p := H9.next) (c := some 1) (es := 1) (new := [.int .i64 ((fl (its ps gs)).length : Int)]) (fresh_cells k9.ok _ 0 1 (by simp)) rfl rfl
  rw [hsl] at a2
  obtain ⟨va, vc, ve, rfl⟩ := q8.sl
  rw [hsl] at a1 f8
  obtain ⟨qx, rfl, _, cx⟩ := a2.cells (by simp)
  obtain ⟨_, hqt2⟩ : True ∧ H8.next < qt := by
    obtain ⟨_, ⟨h, _⟩ | ⟨q', h, h2, _⟩⟩ := g9
    · cases h
    · simp only [AV.slice.injEq, Option.some.injEq, Prod.mk.injEq] at h
      exact ⟨trivial, by rw [h.1.1]; exact h2⟩
  have hat : ∀ y, AtB (.slice va (startsF ([] : List UInt8).length (its ps gs)).length vc ve) y → y < H8.next := fun y hy => q8.atLt R8.ok y hy
  have hlow : ∀ o, H10.cell qt o = (toks (its ps gs) pos0)[o]? := fun o => by
    rw [keep_cell a4 of (by simp only [fresh_next]; omega) (fun h => by have := hat qt h; omega) o, fresh_cell k9.ok, if_neg (by omega)]
    exact ct o
  have e11 := at_loop n (by omega) (its ps gs) (by omega) (by omega) qt qx H10 hlow (fun o => by rw [cx, intCells_snoc]; rfl) n 0 (by omega) (by omega)
  rw [hLl] at e11
  refine ⟨_, ok11 _ _ _ _ _ _ (r := (.bool true, leave H H10 (.bool true))) ?_⟩
  unfold F11
  have e7' : vcall T ext promo n 54 [.ptr (some (H.lo.next, 0))] (H.lo.fresh [.slice a l c e, .int .i64 0]) = some (.slice a8 ps.length c8 e8, H7) := e7
  have h1 : fwrap .i64 ((ps.length : Int) + 1) = ((ps.length + 1 : Nat) : Int) := fw_add1 ps.length (by omega)
  have f8' : loopN (L11_0 (vcall T ext promo n) n H.lo a8 ps.length) n [.str (PS.of []), .slice none 0 (some 0) 0, .int .i64 0] H7 = some (.exit 0, [.str (PS.of (fl (its ps gs))), .slice va ps.length vc ve], H8) := f8
  have e11' : loopN (L11_1 (vcall T ext promo n) n (PS.of (fl (its ps gs))) (some (qt, 0)) (ps.length + 1) (some (qx, 0)) (ps.length + 1)) n [.int .i64 0] H10 = some (.exit 2, [], H10) := e11
  simp only [KA, KB, KD, reduceCtorEq, if_false, if_true, chopped_ok n (by omega) hM.lo, e7', f8', e9, ieq_dec, decide_true, h1, of_len, a1, e11']
end Go.Vm.Tryd
