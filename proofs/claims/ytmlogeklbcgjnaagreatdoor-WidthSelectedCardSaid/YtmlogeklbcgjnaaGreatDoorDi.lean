/- What a function did that may have written one old block; indices. -/
import Derived.Test.YtmlogeklbcgjnaaGreatDoorSm
namespace Go.Vm.Tryz
set_option linter.unusedSectionVars false
set_option linter.unusedSimpArgs false
set_option linter.unusedVariables false
set_option maxRecDepth 10000
/-- What was done in a heap beside new blocks: block b alone may have been written. -/
structure Did (b : Nat) (H H' : VH) : Prop where
  eff : Eff (· = b) H H'
  same : b < H'.low → H'.row? b = H.row? b
theorem Did.refl {b : Nat} {H : VH} (h : H.Ok) : Did b H H := ⟨.refl h, fun _ => rfl⟩
theorem Did.trans {b : Nat} {H H1 H2 : VH} (h : Did b H H1) (k : Did b H1 H2) : Did b H H2 :=
  ⟨h.eff.trans k.eff fun x hx => .inl hx, fun hb => (k.same hb).trans (h.same (Nat.lt_of_lt_of_le hb k.eff.low))⟩
theorem Did.fresh {b : Nat} {H : VH} (h : H.Ok) (hb : b < H.next) (cs : List AV) : Did b H (H.fresh cs) :=
  ⟨.fresh _ h cs, fun _ => by unfold VH.row?; rw [fresh_get, if_neg (by omega)]⟩
theorem plain_ofRow {H H' : VH} {b : Nat} {cs : List AV} (h : Plain H' b cs) (hH : H.Ok) {S : Nat → Prop} (k : Keep S H H') (e : H'.row? b = H.row? b) : Plain H b cs := by
  obtain ⟨r, h1, h2, h3, h4, h5, h6⟩ := h.row
  rw [e] at h1
  exact ⟨r, h1, h2, h3, h4, h5, by rw [← keep_from k (hH.lin b r h1)]; exact h6⟩
theorem leave_cases (H H' : VH) (v : AV) : (leave H H' v = H ∧ H'.low = H.next) ∨ leave H H' v = { H' with low := min H.low H'.low } := by
  unfold leave
  split
  · rename_i h
    simp only [Bool.and_eq_true, Nat.beq_eq] at h
    first
      | exact .inl ⟨rfl, h.1⟩
      | exact .inl ⟨rfl, h.2⟩
      | exact .inl ⟨rfl, h.1.symm⟩
  · exact .inr rfl
theorem Did.leave {b : Nat} {H H' : VH} (hH : H.Ok) (hb : b < H.next) (h : Did b H.lo H') (v : AV) : Did b H (leave H H' v) := by
  refine ⟨h.eff.leave hH v, fun hl => ?_⟩
  rcases leave_cases H H' v with ⟨e, _⟩ | e
  · rw [e]
  · rw [e] at hl ⊢
    exact h.same (Nat.lt_of_lt_of_le hl (Nat.min_le_right _ _))
theorem fw_add1 (i : Nat) (h : i < 9223372036854775807) : fwrap .i64 ((i : Int) + 1) = ((i + 1 : Nat) : Int) := fw_i64 (by omega) (by omega)
theorem fw_sub1 (i : Nat) (h1 : 1 ≤ i) (h : i < 9223372036854775807) : fwrap .i64 ((i : Int) - 1) = ((i - 1 : Nat) : Int) := by
  rw [fw_i64 (by omega) (by omega)]
  omega
theorem fw_addn (i j : Nat) (h : i + j < 9223372036854775807) : fwrap .i64 ((i : Int) + (j : Int)) = ((i + j : Nat) : Int) := fw_i64 (by omega) (by omega)
theorem fw_subn (i j : Nat) (h1 : j ≤ i) (h : i < 9223372036854775807) : fwrap .i64 ((i : Int) - (j : Int)) = ((i - j : Nat) : Int) := by
  rw [fw_i64 (by omega) (by omega)]
  omega
theorem fw_muln (i j : Nat) (h : i * j < 9223372036854775807) : fwrap .i64 ((i : Int) * (j : Int)) = ((i * j : Nat) : Int) := by
  have h1 : ((i * j : Nat) : Int) = (i : Int) * (j : Int) := by push_cast; rfl
  rw [← h1]
  exact fw_i64 (by omega) (by omega)

theorem plain_leave {H H' : VH} {b q : Nat} {cs : List AV} (hH : H.Ok) (hb : b < H.next) (h : Plain H' b cs) (k : Did q H.lo H') (v : AV) : Plain (leave H H' v) b cs := by
  rcases leave_cases H H' v with ⟨e, hl⟩ | e
  · rw [e]
    refine plain_ofRow h hH k.eff.keep.from_lo ?_
    by_cases e2 : b = q
    · subst e2
      exact k.same (by rw [hl]; exact hb)
    · exact keep_row k.eff.keep.from_lo hb e2
  · rw [e]
    exact plain_low h _
theorem plain_put1 {H : VH} {q : Nat} {z v : AV} (h : Plain H q [z]) (hH : H.Ok) (hv : v.one = true) : ∃ H', H.puts q 0 [v] = some H' ∧ Plain H' q [v] ∧ Did q H H' := by
  obtain ⟨H', e, p, k, o, l, _⟩ := h.puts1 hH 0 (by simp) v hv
  exact ⟨H', e, p, ⟨.of_low k o l (h.lt hH), fun hx => by omega⟩⟩
end Go.Vm.Tryz
