/- The preprocessor: the state of a run; a line put out. -/
import Derived.Test.YtdpaokgemjfhlaaGreatDoorPo
namespace Go.Vm.Tryz
set_option linter.unusedSectionVars false
set_option linter.unusedSimpArgs false
set_option linter.unusedVariables false
set_option maxRecDepth 10000
/-- A line that was put out: its text, its file, its number there, whether it is whole. -/
structure Rw where
  l : List UInt8
  f : Nat
  ln : Nat
  w : Bool
def rwT (rs : List Rw) : List UInt8 := rs.flatMap fun r => r.l ++ [10]
def Rw.cells (r : Rw) : List AV := [.str (PS.of (fname r.f)), .int .i64 (r.ln : Int), .bool r.w]
def rwC (rs : List Rw) : List AV := rs.flatMap Rw.cells
theorem rwT_snoc (rs : List Rw) (r : Rw) : rwT (rs ++ [r]) = rwT rs ++ r.l ++ [10] := by simp [rwT]
theorem rwC_snoc (rs : List Rw) (r : Rw) : rwC (rs ++ [r]) = rwC rs ++ r.cells := by simp [rwC]
/-- The cells of a run. -/
def obj (mf : Nat) (c1 : AV) (t : PS) (v : AV) (z : Int) (q : AV) (big : Bool) : List AV := [.map (some mf), c1, .str t, v, .int .i64 z, .slice none 0 (some 0) 0, .int .i64 0, q, .bool big]
/-- A run, with what it has put out, or too large a text. -/
def RSt (H : VH) (R mf : Nat) (c1 : AV) (st : Option (List Rw)) (v q : AV) : Prop :=
  match st with
  | some rs => Plain H R (obj mf c1 (PS.of (rwT rs)) v ((rwT rs).length : Int) q false) ∧ Grow H R tyO 3 v rs.length (rwC rs) ∧ (rwT rs).length ≤ 16000
  | none => ∃ t z, Plain H R (obj mf c1 t v z q true)
theorem rwT_len (rs : List Rw) : rs.length ≤ (rwT rs).length := by
  induction rs with
  | nil => exact Nat.le_refl _
  | cons r rs ih =>
    have : rwT (r :: rs) = (r.l ++ [10]) ++ rwT rs := rfl
    rw [this, List.length_cons, List.length_append, List.length_append, List.length_singleton]
    omega
theorem RSt.lt {H : VH} {R mf : Nat} {c1 : AV} {st : Option (List Rw)} {v q : AV} (h : RSt H R mf c1 st v q) (hH : H.Ok) : R < H.next := by
  cases st with
  | some rs => exact h.1.lt hH
  | none => obtain ⟨_, _, h⟩ := h; exact h.lt hH
theorem RSt.keep {S : Nat → Prop} {H H' : VH} {R mf : Nat} {c1 : AV} {st : Option (List Rw)} {v q : AV} (h : RSt H R mf c1 st v q) (hH : H.Ok) (k : Keep S H H') (hR : ¬ S R) (hv : ∀ x, TipAt v x → ¬ S x) : RSt H' R mf c1 st v q := by
  cases st with
  | some rs => exact ⟨h.1.keep hH k hR, h.2.1.keep2 hH k hv, h.2.2⟩
  | none => obtain ⟨t, z, h⟩ := h; exact ⟨t, z, h.keep hH k hR⟩
theorem RSt.lo {H : VH} {R mf : Nat} {c1 : AV} {st : Option (List Rw)} {v q : AV} (h : RSt H R mf c1 st v q) : RSt H.lo R mf c1 st v q := by
  cases st with
  | some rs => exact ⟨h.1.lo, h.2.1.lo, h.2.2⟩
  | none => obtain ⟨t, z, h⟩ := h; exact ⟨t, z, h.lo⟩
theorem RSt.low {H : VH} {R mf : Nat} {c1 : AV} {st : Option (List Rw)} {v q : AV} (h : RSt H R mf c1 st v q) (m : Nat) : RSt { H with low := m } R mf c1 st v q := by
  cases st with
  | some rs => exact ⟨plain_low h.1 _, h.2.1.low _, h.2.2⟩
  | none => obtain ⟨t, z, h⟩ := h; exact ⟨t, z, plain_low h _⟩
/-- The open files and the maps' cell in whatever state. -/
theorem RSt.cells {H : VH} {R mf : Nat} {c1 : AV} {st : Option (List Rw)} {v q : AV} (h : RSt H R mf c1 st v q) : H.cell R 0 = some (.map (some mf)) ∧ H.cell R (0 + 7) = some q ∧ H.cell R (0 + 8) = some (.bool st.isNone) ∧ H.cell R (0 + 1) = some c1 := by
  cases st with
  | some rs => exact ⟨h.1.cell 0, h.1.cell 7, h.1.cell 8, h.1.cell 1⟩
  | none => obtain ⟨t, z, h⟩ := h; exact ⟨h.cell 0, h.cell 7, h.cell 8, h.cell 1⟩
/-- Another list of open files. -/
theorem RSt.setQ {H : VH} {R mf : Nat} {c1 : AV} {st : Option (List Rw)} {v q : AV} (h : RSt H R mf c1 st v q) (hH : H.Ok) (hv : ∀ x, TipAt v x → x ≠ R) (q' : AV) (hq : q'.one = true) :
    ∃ H', H.puts R (0 + 7) [q'] = some H' ∧ RSt H' R mf c1 st v q' ∧ Eff (· = R) H H' ∧ H'.next = H.next ∧ H'.low = min H.low R := by
  cases st with
  | some rs =>
    have hb := h.1.lt hH
    obtain ⟨H1, e1, p1, k1, o1, l1, n1⟩ := h.1.puts1 hH 7 (by simp [obj]) q' hq
    exact ⟨H1, e1, ⟨p1, h.2.1.keep2 hH k1 (fun x hx => hv x hx), h.2.2⟩, Eff.of_low k1 o1 l1 hb, n1, l1⟩
  | none =>
    obtain ⟨t, z, h⟩ := h
    have hb := h.lt hH
    obtain ⟨H1, e1, p1, k1, o1, l1, n1⟩ := h.puts1 hH 7 (by simp [obj]) q' hq
    exact ⟨H1, e1, ⟨t, z, p1⟩, Eff.of_low k1 o1 l1 hb, n1, l1⟩
theorem emit2_ok (n : Nat) (hn : 1 ≤ n) {H : VH} {R mf : Nat} {c1 v q : AV} {rs : List Rw} (hH : H.Ok) (hs : RSt H R mf c1 (some rs) v q) (l : List UInt8) (hl : l.length < 1000) (f ln : Nat) (w : Bool) :
    ∃ v' H' st', vcall T ext promo n 56 [.ptr (some (R, 0)), .agg [.str (PS.of (fname f)), .int .i64 (ln : Int)], .str (PS.of l), .bool w] H = some (.tuple [], H') ∧
      RSt H' R mf c1 st' v' q ∧ ((st' = none ∧ v' = v) ∨ st' = some (rs ++ [⟨l, f, ln, w⟩])) ∧ Eff (fun y => y = R ∨ TipAt v y) H H' ∧ ∀ x, TipAt v' x → TipAt v x ∨ H.next ≤ x := by
  obtain ⟨n, rfl⟩ : ∃ m, n = m + 1 := ⟨n - 1, by omega⟩
  obtain ⟨hp, hg, hz⟩ := hs
  have hlen := rwT_len rs
  have hb := hp.lt hH
  generalize hsz : (rwT rs).length = sz at *
  obtain ⟨H1, e1, p1, k1, o1, l1, n1⟩ := hp.lo.puts1 (lo_ok hH) 4 (by simp [obj]) (.int .i64 ((sz + l.length + 1 : Nat) : Int)) rfl
  simp only [obj, List.set_cons_succ, List.set_cons_zero] at p1
  have hb1 : R < H1.next := p1.lt o1
  have E1 : Eff (fun y => y = R ∨ TipAt v y) H.lo H1 := (Eff.of_low k1 o1 l1 hb).mono fun y _ e => .inl e
  have r4 : H.lo.cell R (0 + 4) = some (.int .i64 (sz : Int)) := hp.lo.cell 4
  have r4' : H1.cell R (0 + 4) = some (.int .i64 ((sz + l.length + 1 : Nat) : Int)) := p1.cell 4
  have f1 : fwrap .i64 ((l.length : Int) + 1) = ((l.length + 1 : Nat) : Int) := by rw [fw_i64 (by omega) (by omega)]; rfl
  have f2 : fwrap .i64 ((sz : Int) + ((l.length + 1 : Nat) : Int)) = ((sz + l.length + 1 : Nat) : Int) := by rw [fw_i64 (by omega) (by omega)]; omega
  have e1' : H.lo.puts R (0 + 4) [.int .i64 ((sz + l.length + 1 : Nat) : Int)] = some H1 := e1
  by_cases hbig : 16000 < sz + l.length + 1
  · obtain ⟨H2, e2, p2, k2, o2, l2, n2⟩ := p1.puts1 o1 8 (by simp) (.bool true) rfl
    simp only [List.set_cons_succ, List.set_cons_zero] at p2
    have E2 : Eff (fun y => y = R ∨ TipAt v y) H.lo H2 := E1.trans ((Eff.of_low k2 o2 l2 hb1).mono (S' := fun y => y = R ∨ TipAt v y) fun y _ e => .inl e) fun x hx => .inl hx
    have hlow : H2.low < H.next := by
      have : H2.low ≤ R := by rw [l2]; exact Nat.min_le_right _ _
      omega
    refine ⟨v, leave H H2 (.tuple []), none, ok56 _ _ _ _ _ _ _ ?_, ⟨PS.of (rwT rs), ((sz + l.length + 1 : Nat) : Int), ?_⟩, .inl ⟨rfl, rfl⟩, E2.leave hH _, fun x hx => .inl hx⟩
    · unfold F56
      have e2' : H1.puts R (0 + 8) [.bool true] = some H2 := e2
      simp only [KA, KB, KD, reduceCtorEq, if_false, if_true, r4, of_len, f1, f2, e1', r4']
      rw [if_pos (by omega)]
      simp only [KA, KB, KD, reduceCtorEq, if_false, if_true, e2']
    · rw [leave_eff hlow]
      exact plain_low p2 _
  · obtain ⟨H2, e2, p2, k2, o2, l2, n2⟩ := p1.puts1 o1 2 (by simp) (.str (PS.of (rwT rs ++ l ++ [10]))) rfl
    simp only [List.set_cons_succ, List.set_cons_zero] at p2
    have hb2 : R < H2.next := p2.lt o2
    have o3 := fresh_ok o2 [.str (PS.of (fname f)), .int .i64 (ln : Int), .bool w]
    have p3 := p2.keep o2 (Keep.fresh (fun _ => False) H2 [.str (PS.of (fname f)), .int .i64 (ln : Int), .bool w]) (fun h => h)
    have hvR : ∀ x, TipAt v x → x ≠ R := fun x hx => by have := TipAt.lt hg hH hx; omega
    have g2 : Grow H2 R tyO 3 v rs.length (rwC rs) := (hg.lo.keep2 (lo_ok hH) k1 hvR).keep2 o1 k2 hvR
    have g3 := g2.keep o2 (Keep.fresh (fun _ => False) H2 [.str (PS.of (fname f)), .int .i64 (ln : Int), .bool w]) (fun _ h => h.elim)
    obtain ⟨v', H4, a1, a2, a3, a4, a5, a6⟩ := Grow.app2 sltO g3 o3 (by simp only [fresh_next]; omega) (by omega) (p := H2.next) (c := some 1) (es := 3) (new := [.str (PS.of (fname f)), .int .i64 (ln : Int), .bool w]) (fresh_cells o2 _ 0 3 (by simp)) rfl rfl
    have p4 := p3.keep o3 a4.keep (fun e => hvR R e rfl)
    have hb4 : R < H4.next := p4.lt a3
    obtain ⟨H5, e5, p5, k5, o5, l5, n5⟩ := p4.puts1 a3 3 (by simp) v' (by
      rcases a2 with ⟨_, h | ⟨q, h, _⟩⟩
      · rw [h.1]; rfl
      · rw [h]; rfl)
    simp only [List.set_cons_succ, List.set_cons_zero] at p5
    have hv'R : ∀ x, TipAt v' x → x ≠ R := fun x hx => by have := a5 x hx; simp only [fresh_next] at this; omega
    have g5 := a2.keep2 a3 k5 hv'R
    have hsame := same_keep p2 o2 (Keep.fresh (fun _ => False) H2 [.str (PS.of (fname f)), .int .i64 (ln : Int), .bool w]) (fun h => h)
    have eff : Eff (fun y => y = R ∨ TipAt v y) H.lo H5 := by
      refine (((E1.trans ((Eff.of_low k2 o2 l2 hb1).mono (S' := fun y => y = R ∨ TipAt v y) fun y _ e => .inl e) fun x hx => .inl hx).trans (Eff.fresh (fun y => y = R ∨ TipAt v y) o2 _) fun x hx => .inl hx).trans (a4.mono (S' := fun y => y = R ∨ TipAt v y) fun y _ e => .inr e) fun x hx => .inl hx).trans ((Eff.of_low k5 o5 l5 hb4).mono (S' := fun y => y = R ∨ TipAt v y) fun y _ e => .inl e) fun x hx => .inl hx
    have hlow : H5.low < H.next := by
      have : H5.low ≤ R := by rw [l5]; exact Nat.min_le_right _ _
      omega
    refine ⟨v', leave H H5 (.tuple []), some (rs ++ [⟨l, f, ln, w⟩]), ok56 _ _ _ _ _ _ _ ?_, ?_, .inr rfl, eff.leave hH _, fun x hx => .inr ?_⟩
    · obtain ⟨va, vn, vc, ve, rfl⟩ : ∃ a n c e, v = .slice a n c e := by
        rcases hg with ⟨_, h | ⟨q, h, _⟩⟩
        · exact ⟨_, _, _, _, h.1⟩
        · exact ⟨_, _, _, _, h⟩
      obtain ⟨wa, wn, wc, we, rfl⟩ : ∃ a n c e, v' = .slice a n c e := by
        rcases a2 with ⟨_, h | ⟨q, h, _⟩⟩
        · exact ⟨_, _, _, _, h.1⟩
        · exact ⟨_, _, _, _, h⟩
      unfold F56
      have r2 : H1.cell R (0 + 2) = some (.str (PS.of (rwT rs))) := p1.cell 2
      have r3 : H2.cell R (0 + 2 + 1) = some (.slice va vn vc ve) := p2.cell 3
      have s1 : vstrOp .add (PS.of l) (PS.of [10]) = some (.str (PS.of (l ++ [10]))) := str_add _ _ (by simp; omega)
      have s2 : vstrOp .add (PS.of (rwT rs)) (PS.of (l ++ [10])) = some (.str (PS.of (rwT rs ++ l ++ [10]))) := by
        rw [str_add _ _ (by simp; omega), List.append_assoc]
      have e2' : H1.puts R (0 + 2) [.str (PS.of (rwT rs ++ l ++ [10]))] = some H2 := e2
      have e5' : H4.puts R (0 + 2 + 1) [.slice wa wn wc we] = some H5 := e5
      have hfree : freeOf (.eff H2 (H2.fresh [.str (PS.of (fname f)), .int .i64 (ln : Int), .bool w])) 4032 12 [.idle, .idle, (.read [] [5]), (.read [] [5]), (.read [] [5]), (.read [] [5]), (.read [R] []), .idle, .idle, .idle, .idle, .idle] = true := by
        have hsame' : H2.same (H2.fresh [.str (PS.of (fname f)), .int .i64 (ln : Int), .bool w]) R = true := by simpa [allSame] using hsame
        simp [freeOf, Tag.free, allSame, hsame']
      simp only [KA, KB, KD, reduceCtorEq, if_false, if_true, r4, of_len, f1, f2, e1', r4']
      rw [if_neg (by omega)]
      simp only [KA, KB, KD, reduceCtorEq, if_false, if_true, r2, s1, s2, e2', r3, hfree]
      rw [a1]
      simp only [KA, KB, KD, reduceCtorEq, if_false, if_true, e5']
    · have hT : (rwT (rs ++ [⟨l, f, ln, w⟩])).length = sz + l.length + 1 := by rw [rwT_snoc]; simp; omega
      refine ⟨?_, ?_, by rw [hT]; omega⟩
      · rw [leave_eff hlow, hT, rwT_snoc]
        exact plain_low p5 _
      · rw [leave_eff hlow, rwC_snoc, List.length_append]
        exact g5.low _
    · have := a5 x hx
      simp only [fresh_next] at this
      have h1 : H.lo.next = H.next := rfl
      omega
end Go.Vm.Tryz
