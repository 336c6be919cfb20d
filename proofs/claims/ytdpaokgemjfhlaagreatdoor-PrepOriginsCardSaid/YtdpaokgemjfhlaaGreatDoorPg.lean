/- The preprocessor: maps of one entry; a file. -/
import Derived.Test.YtdpaokgemjfhlaaGreatDoorPf
namespace Go.Vm.Tryz
set_option linter.unusedSectionVars false
set_option linter.unusedSimpArgs false
set_option linter.unusedVariables false
set_option maxRecDepth 10000
theorem undMap : T.und 34 = some (.map 9 9) := by kernel_rfl
theorem fitStr (k : PS) : keyFit T 9 (.str k) = true := by
  unfold keyFit
  rw [show T.und 9 = some .string by kernel_rfl]
theorem find1 (k : List UInt8) (v : AV) (b i : Nat) : mfind (.str (PS.of k)) [⟨.str (PS.of k), v, b⟩] i = some (some (i, ⟨.str (PS.of k), v, b⟩)) := by
  have : kEq (.str (PS.of k)) (.str (PS.of k)) = some true := by
    show some ((PS.of k).eq (PS.of k)) = some true
    rw [str_eq]
    simp
  simp only [mfind, this]
theorem look1 {H : VH} {m : Nat} {k : List UInt8} {val : AV} {b c v : Nat} (h : H.map? m = some ([⟨.str (PS.of k), val, b⟩], c, v)) (ok : Bool) :
    vlookup T H 34 (.map (some m)) (.str (PS.of k)) ok = some (match ok with | true => .tuple [val, .bool true] | false => val) := by
  unfold vlookup
  rw [undMap]
  have hz : zeroOf T 9 = some (.str (PS.of [])) := by kernel_rfl
  simp only [fitStr, ments, h, find1, hz]
  cases ok <;> rfl
theorem map?_keep {S : Nat → Prop} {H H' : VH} {m : Nat} {x : List ME × Nat × Nat} (h : H.map? m = some x) (hm : m < H.next) (k : Keep S H H') (hs : ¬ S m) : H'.map? m = some x := by
  unfold VH.map? at h ⊢
  rw [k.get m hm hs]
  exact h
theorem splits_ot : ∀ l : List UInt8, ot (splits 10 l) = l ++ [10]
  | [] => rfl
  | b :: l => by
    have ih := splits_ot l
    unfold splits
    by_cases h : b = 10
    · rw [if_pos h]
      show [] ++ [10] ++ ot (splits 10 l) = _
      rw [ih, h]
      rfl
    · rw [if_neg h]
      have hl := splits_len 10 l
      cases hs : splits 10 l with
      | nil => rw [hs] at hl; simp at hl
      | cons x xs =>
        rw [hs] at ih
        have e : x ++ [10] ++ ot xs = l ++ [10] := ih
        show (b :: x) ++ [10] ++ ot xs = _
        rw [List.cons_append, List.cons_append, e]
        rfl
theorem splits_mem (c : UInt8) : ∀ l : List UInt8, ∀ x ∈ splits c l, x.length ≤ l.length ∧ ∀ y ∈ x, y ∈ l
  | [], x, hx => by
    have : x = [] := by simpa [splits] using hx
    subst this
    exact ⟨Nat.le_refl _, fun y hy => by cases hy⟩
  | b :: l, x, hx => by
    have ih := splits_mem c l
    unfold splits at hx
    by_cases h : b = c
    · rw [if_pos h] at hx
      rcases List.mem_cons.1 hx with rfl | hx
      · exact ⟨Nat.zero_le _, fun y hy => by cases hy⟩
      · obtain ⟨h1, h2⟩ := ih x hx
        exact ⟨Nat.le_succ_of_le h1, fun y hy => List.mem_cons_of_mem _ (h2 y hy)⟩
    · rw [if_neg h] at hx
      cases hs : splits c l with
      | nil => have hl := splits_len c l; rw [hs] at hl; simp at hl
      | cons z zs =>
        rw [hs] at hx ih
        rcases List.mem_cons.1 hx with rfl | hx
        · obtain ⟨h1, h2⟩ := ih z List.mem_cons_self
          refine ⟨Nat.succ_le_succ h1, fun y hy => ?_⟩
          rcases List.mem_cons.1 hy with rfl | hy
          · exact List.mem_cons_self
          · exact List.mem_cons_of_mem _ (h2 y hy)
        · obtain ⟨h1, h2⟩ := ih x (List.mem_cons_of_mem _ hx)
          exact ⟨Nat.le_succ_of_le h1, fun y hy => List.mem_cons_of_mem _ (h2 y hy)⟩
/-- What stands behind the preprocessor: a text with a line feed at its end. -/
theorem chomp_nl (t : List UInt8) : chomp t ++ [10] = if t.drop (t.length - 1) = [10] then t else t ++ [10] := by
  unfold chomp
  split
  · rename_i h
    rw [← h, List.take_append_drop]
  · rfl
theorem chomp_mem (t : List UInt8) : ∀ x ∈ chomp t, x ∈ t := by
  intro x hx
  unfold chomp at hx
  split at hx
  · exact List.mem_of_mem_take hx
  · exact hx
end Go.Vm.Tryz
