/- design.Name: at every text, by the parts between its dots. -/
import Derived.Test.YtmlogeklbcgjnaaGreatDoorQi
namespace Go.Proofs.Tryz
open Go.RowKit Go.Shelf
attribute [local go_sem] Oper.semAt_some
set_option maxRecDepth 100000
theorem keeps_of_below {W W' : World} (h : Below W.heap.size W W') : KeepsOthers W W' := ⟨h.size, fun k o hk _ => (h.block k (Array.getElem?_eq_some_iff.1 hk).1).trans hk⟩
theorem cell_of_box {W : World} {B : Nat} {t : TypeId} {v : Value} (h : Boxed W B t v) : W.cell? ⟨B, 0, none⟩ = some v := h.cell
/-- A store of what lies there changes nothing. -/
theorem below_same {W : World} {B m : Nat} {t : TypeId} {v : Value} (h : Boxed W B t v) : Below m W (W.setCell ⟨B, 0, none⟩ v) := by
  refine ⟨rfl, rfl, rfl, by simp, fun k _ => ?_⟩
  by_cases e : k = B
  · subst e
    exact (h.set v).trans h.symm
  · exact Below.heap_setCell W ⟨B, 0, none⟩ v k e
theorem name_in (n : Nat) (hn : 10 ≤ n) (s : ByteArray) (xs : List ByteArray) (hx : Cuts s xs) (w : World) (mx : Int) (h0w : 0 < w.heap.size) (h0 : w.cell? ⟨0, 0, none⟩ = some (.int .i64 mx)) (good : ByteArray → Bool)
    (hP : ∀ (k : Nat) (p : ByteArray) (w1 : World), Below w.heap.size w w1 → CallsIn Fence.wide k prog 57 #[.string p] w1 fun e w2 => e = .returned (.bool (good p)) ∧ Below w1.heap.size w1 w2) :
    CallsIn Fence.wide n prog 96 #[.string s] w fun e w' => e = .returned (.bool (decide (s.size ≤ 120) && xs.all good)) ∧ Below w.heap.size w w' := by
  have h1 : 1 ≤ n := by omega
  refine callsIn_of_wp_marks (f := 96) func96 rfl trivial ?_ rfl
  simp only [ntmps96, List.size_toArray, List.length_cons, List.length_nil, Nat.reduceAdd, Nat.reduceSub, Array.replicate_succ, Array.replicate_zero, List.push_toArray, List.append_toArray, List.nil_append, List.cons_append]
  by_cases hlen : s.size ≤ 120
  · gi_wp2_with (refine ⟨trivial, ?_⟩; gi_at_call 150; refine (split_in (n - 1) (by omega) s dot _).mono ?_; rintro e w' ⟨rfl, rfl⟩)
    have sz1 : (w.alloc (.cells #[.bool false] 4)).heap.size = w.heap.size + 1 := by simp
    have sz : (boxes3 s dot (w.alloc (.cells #[.bool false] 4))).heap.size = w.heap.size + 4 := by simp [boxes3]
    have bR : Boxed (boxes3 s dot (w.alloc (.cells #[.bool false] 4))) w.heap.size 4 (.bool false) := (((Boxed.new w 4 (.bool false)).alloc _).alloc _).alloc _
    have bs : Boxed (boxes3 s dot (w.alloc (.cells #[.bool false] 4))) (w.heap.size + 1) 9 (.string s) := by
      have := ((Boxed.new (w.alloc (.cells #[.bool false] 4)) 9 (.string s)).alloc (.cells #[.string dot] 9)).alloc (.cells #[.int .i64 0] 3)
      rwa [sz1] at this
    have bp : Boxed (boxes3 s dot (w.alloc (.cells #[.bool false] 4))) (w.heap.size + 2) 9 (.string dot) := by
      have := (Boxed.new ((w.alloc (.cells #[.bool false] 4)).alloc (.cells #[.string s] 9)) 9 (.string dot)).alloc (.cells #[.int .i64 0] 3)
      rwa [World.size_alloc, sz1] at this
    have bv : Boxed (boxes3 s dot (w.alloc (.cells #[.bool false] 4))) (w.heap.size + 3) 3 (.int .i64 0) := by
      have := Boxed.new (((w.alloc (.cells #[.bool false] 4)).alloc (.cells #[.string s] 9)).alloc (.cells #[.string dot] 9)) 3 (.int .i64 0)
      rwa [World.size_alloc, World.size_alloc, sz1] at this
    have hB : Below w.heap.size w (boxes3 s dot (w.alloc (.cells #[.bool false] 4))) := ((((Below.refl _ w).alloc (Nat.le_refl _) _).alloc (by simp) _).alloc (by simp; omega) _).alloc (by simp; omega) _
    have h0' := (hB.cell (p := ⟨0, 0, none⟩) h0w).trans h0
    generalize hW : boxes3 s dot (w.alloc (.cells #[.bool false] 4)) = W0 at *
    refine Go.Vm.wpIn_range_box (w0 := w) (n₀ := w.heap.size) (Bs := w.heap.size + 1) rfl h1 (gf := 239) (lb := #[.pointer (some ⟨w.heap.size + 2, 0, none⟩), .pointer (some ⟨w.heap.size + 1, 0, none⟩), .pointer (some ⟨w.heap.size + 3, 0, none⟩)]) (by show splitFn _ = _; simp only [splitFn, sz1, Nat.add_assoc, Nat.reduceAdd]) trivial (enters_of func239 (by kernel_rfl) rfl)
      (split_box (n - 1) (by omega) W0.heap.size (w.heap.size + 2) (w.heap.size + 1) (w.heap.size + 3) mx s xs hx (by omega) W0 (by omega) (by omega) (by omega) (by omega) (Nat.le_refl _) (by omega) (by omega) (by omega) bp bs bv h0') (fun _ => rfl) (by omega) (by omega) (Nat.le_refl _) hB good
      (fun x => { tmps := #[.string s, undef, .pointer (some ⟨w.heap.size, 0, none⟩), .string x, .string s, .int .i64 (s.size : Int), .bool (decide (120 < (s.size : Int))), .string s, splitFn (w.alloc (.cells #[.bool false] 4)), .string x, undef, undef, undef], defers := [] }) ?assign ?body ?done ?stop
    case assign =>
      intro l x W K hK
      gi_wp2
      exact hK
    case body =>
      rintro l x W hb hk hsz
      have cR : Boxed W w.heap.size 4 (.bool false) := (hk _ (by omega) (by omega)).trans bR
      have c1 := cR.cell
      have c2 := cR.frozen
      have hWs : W0.heap.size ≤ W.heap.size := hsz
      have hn2 : 1 ≤ n - 1 - 1 := by omega
      gi_wp2_with (refine ⟨trivial, ?_⟩; gi_at_call 57; refine (CallsIn.inRound l (hP _ x W hb)).mono ?_; rintro e W2 ⟨rfl, hB2⟩; have cR2 : Boxed W2 w.heap.size 4 (.bool false) := (hB2.block _ (by omega)).trans cR; have c3 := cR2.cell; have c4 := cR2.frozen; have kB : Below W0.heap.size W W2 := hB2.mono hWs)
      · rename_i hgx
        exact ⟨(keeps_of_below hB2).trans (KeepsOthers.setCell _ _ _), sz ▸ kB.trans (below_same cR2), by simpa using hgx⟩
      · rename_i hgx
        exact ⟨keeps_of_below hB2, sz ▸ kB, by simpa using hgx⟩
    case done =>
      rintro D W hD hg hb hk hK
      have cR : Boxed W w.heap.size 4 (.bool false) := (hk _ (by omega) (by omega)).trans bR
      have c1 := cR.cell
      have c2 := cR.frozen
      gi_wp2
      have hK' := (KeepsOthers.setCell W ⟨w.heap.size, 0, none⟩ (.bool true)).same D _ hK rfl
      refine ⟨by simp, .inl ⟨_, _, rfl, run_takeDeferred hK', ?_⟩⟩
      have hc5 := cell_kept (cR.set (.bool true)).cell (grownBy_putObj' _ D (.deferred none)) (fun r e => by cases e; exact ⟨_, hK', rfl⟩)
      refine ⟨.bool true, ?_, ?_, (hb.setCell (p := ⟨w.heap.size, 0, none⟩) (Nat.le_refl _) _).trans (belowK_b (w := w) (Nat.le_refl _) _ D _ _ (by omega) hK' rfl rfl)⟩
      · simp [results, f96, go_sem, hc5]
      · rw [decide_eq_true hlen, List.all_eq_true.2 hg]
        rfl
    case stop =>
      rintro D W hD hg hb hk hK
      have cR : Boxed W w.heap.size 4 (.bool false) := (hk _ (by omega) (by omega)).trans bR
      have c1 := cR.cell
      gi_wp2
      refine ⟨by simp, .inl ⟨_, _, rfl, run_takeDeferred hK, ?_⟩⟩
      have hc5 := cell_kept c1 (grownBy_putObj' _ D (.deferred none)) (fun r e => by cases e; exact ⟨_, hK, rfl⟩)
      refine ⟨.bool false, ?_, ?_, hb.trans (belowK_b (w := w) (Nat.le_refl _) W D _ _ (by omega) hK rfl rfl)⟩
      · simp [results, f96, go_sem, hc5]
      · obtain ⟨x, x1, x2⟩ := hg
        have : xs.all good = false := by
          cases h : xs.all good with
          | false => rfl
          | true => rw [List.all_eq_true.1 h x x1] at x2; cases x2
        rw [this, Bool.and_false]
  · have hnew := cell_of_box (Boxed.new w 4 (.bool false))
    gi_wp2
    refine ⟨.bool false, ?_, ?_, (Below.refl _ w).alloc (Nat.le_refl _) _⟩
    · simp [results, f96, go_sem, hnew]
    · rw [decide_eq_false hlen, Bool.false_and]
end Go.Proofs.Tryz
