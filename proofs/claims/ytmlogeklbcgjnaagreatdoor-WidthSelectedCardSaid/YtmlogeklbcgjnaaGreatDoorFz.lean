/- Results that are frozen at the return. -/
import Derived.Test.YtmlogeklbcgjnaaGreatDoorGr
namespace Go.Vm.Tryz
set_option linter.unusedSectionVars false
set_option linter.unusedSimpArgs false
set_option linter.unusedVariables false
set_option maxRecDepth 10000
/-- Freezing changes nothing. -/
def FrzId (n : Nat) (v : AV) : Prop := ∀ H : VH, frz n v H = (v, H)
def FrzIds (n : Nat) (vs : List AV) : Prop := ∀ H : VH, frzL (frz n) vs H = (vs, H)
theorem FrzIds.nil (n : Nat) : FrzIds n [] := fun _ => rfl
theorem FrzIds.cons {n : Nat} {v : AV} {vs : List AV} (h : FrzId n v) (k : FrzIds n vs) : FrzIds n (v :: vs) := fun H => by
  show ((frz n v H).1 :: (frzL (frz n) vs (frz n v H).2).1, (frzL (frz n) vs (frz n v H).2).2) = _
  rw [h H]
  show (v :: (frzL (frz n) vs H).1, (frzL (frz n) vs H).2) = _
  rw [k H]
theorem FrzId.agg {n : Nat} {cs : List AV} (h : FrzIds n cs) : FrzId (n + 1) (.agg cs) := fun H => by
  show (AV.agg (frzL (frz n) cs H).1, (frzL (frz n) cs H).2) = _
  rw [h H]
theorem FrzId.tuple {n : Nat} {cs : List AV} (h : FrzIds n cs) : FrzId (n + 1) (.tuple cs) := fun H => by
  show (AV.tuple (frzL (frz n) cs H).1, (frzL (frz n) cs H).2) = _
  rw [h H]
theorem FrzId.pur {n : Nat} {cs : List AV} {o len : Nat} {cap : Option Nat} {e : Nat} (h : FrzIds n cs) : FrzId (n + 1) (.slice (some (.pur cs, o)) len cap e) := fun H => by
  show (AV.slice (some (.pur (frzL (frz n) cs H).1, o)) len cap e, (frzL (frz n) cs H).2) = _
  rw [h H]
theorem back_pure {H : VH} {v : AV} (h : FrzId 5 v) (hf : flat v = true) : back true H H.lo v = (v, H) := by
  unfold back frzV
  simp only [h H.lo]
  rw [leave_flat rfl hf]
theorem frzL_last {n : Nat} {x : AV} : ∀ {pre : List AV} {H : VH}, (∀ v ∈ pre, FrzId n v) → frzL (frz n) (pre ++ [x]) H = (pre ++ [(frz n x H).1], (frz n x H).2)
  | [], H, _ => rfl
  | v :: pre, H, h => by
    have h1 : frz n v H = (v, H) := h v List.mem_cons_self H
    show ((frz n v H).1 :: (frzL (frz n) (pre ++ [x]) (frz n v H).2).1, (frzL (frz n) (pre ++ [x]) (frz n v H).2).2) = _
    rw [h1]
    show (v :: (frzL (frz n) (pre ++ [x]) H).1, (frzL (frz n) (pre ++ [x]) H).2) = _
    rw [frzL_last (fun u hu => h u (List.mem_cons_of_mem _ hu))]
    rfl
theorem flats_append : ∀ (a b : List AV), flats (a ++ b) = (flats a && flats b)
  | [], b => rfl
  | v :: a, b => by
    show (flat v && flats (a ++ b)) = ((flat v && flats a) && flats b)
    rw [flats_append a b, Bool.and_assoc]
theorem frz_row {H' : VH} {b : Nat} {cs : List AV} {e len : Nat} {cap : Option Nat} {sz n : Nat} (h : Tip H' b cs e) (hc : FrzIds n cs) : ∃ r, frz (n + 1) (.slice (some (.blk b, 0)) len cap sz) H' = (.slice (some (.pur cs, 0)) len cap sz, H'.dead b r) := by
  obtain ⟨r, h1, h2, h3, h4, h5, h6⟩ := h.row
  have hcells : H'.cells b 0 r.n = some cs := by
    have := h.cells 0 cs.length (by omega)
    rw [List.drop_zero, List.take_length] at this
    rw [h2]
    exact this
  have hrow : rowCells H' b = some cs := by
    unfold rowCells
    rw [h1]
    have hr : (r.live && H'.readable r) = true := by
      rw [h4]
      exact Nat.ble_eq_true_of_le h5
    simp only [hr]
    exact hcells
  have hkill : killRow H' b = some (H'.dead b r) := by
    unfold killRow
    rw [h1]
    simp only [h4]
  refine ⟨r, ?_⟩
  rw [frz]
  simp only [hrow, hc H', hkill]
/-- A structure whose last field is a list that was made here. -/
theorem back_agg {H H' : VH} {b : Nat} {cs : List AV} {e len : Nat} {cap : Option Nat} {sz : Nat} {pre : List AV} (h : Tip H' b cs e) (hb : H.next ≤ b) (hl : H'.low = H.next) (hc : FrzIds 3 cs) (hp : ∀ v ∈ pre, FrzId 4 v) (hf : flats cs = true) (hfs : flats pre = true) :
    back true H H' (.agg (pre ++ [.slice (some (b, 0)) len cap sz])) = (.agg (pre ++ [.slice (some (.pur cs, 0)) len cap sz]), H) := by
  obtain ⟨r, hr⟩ := frz_row (len := len) (cap := cap) (sz := sz) h hc
  have h5s : frz 5 (.agg (pre ++ [.slice (some (.blk b, 0)) len cap sz])) H' = (.agg (pre ++ [.slice (some (.pur cs, 0)) len cap sz]), H'.dead b r) := by
    show (AV.agg (frzL (frz 4) (pre ++ [.slice (some (.blk b, 0)) len cap sz]) H').1, (frzL (frz 4) (pre ++ [.slice (some (.blk b, 0)) len cap sz]) H').2) = _
    rw [frzL_last hp, hr]
  unfold back frzV
  simp only [h5s]
  rw [leave_flat]
  · show min H'.low b = H.next
    omega
  · show flats (pre ++ [.slice (some (.pur cs, 0)) len cap sz]) = true
    rw [flats_append, hfs]
    show (true && ((flats cs) && true)) = true
    rw [hf]
    rfl
/-- A list that was made here: its cells are known from now on, and the heap is given back. -/
theorem back_row {H H' : VH} {b : Nat} {cs : List AV} {e len : Nat} {cap : Option Nat} {sz : Nat} {vs : List AV} (h : Tip H' b cs e) (hH : H'.Ok) (hb : H.next ≤ b) (hl : H'.low = H.next) (hc : FrzIds 3 cs) (hv : FrzIds 4 vs) (hf : flats cs = true) (hfs : flats vs = true) :
    back true H H' (.tuple (.slice (some (b, 0)) len cap sz :: vs)) = (.tuple (.slice (some (.pur cs, 0)) len cap sz :: vs), H) := by
  obtain ⟨r, h1, h2, h3, h4, h5, h6⟩ := h.row
  have hcells : H'.cells b 0 r.n = some cs := by
    have := h.cells 0 cs.length (by omega)
    rw [List.drop_zero, List.take_length] at this
    rw [h2]
    exact this
  have hrow : rowCells H' b = some cs := by
    unfold rowCells
    rw [h1]
    have hr : (r.live && H'.readable r) = true := by
      rw [h4]
      exact Nat.ble_eq_true_of_le h5
    simp only [hr]
    exact hcells
  have hkill : killRow H' b = some (H'.dead b r) := by
    unfold killRow
    rw [h1]
    simp only [h4]
  have h4s : frz 4 (.slice (some (.blk b, 0)) len cap sz) H' = (.slice (some (.pur cs, 0)) len cap sz, H'.dead b r) := by
    rw [frz]
    simp only [hrow, hc H', hkill]
  have h5s : frz 5 (.tuple (.slice (some (.blk b, 0)) len cap sz :: vs)) H' = (.tuple (.slice (some (.pur cs, 0)) len cap sz :: vs), H'.dead b r) := by
    show (AV.tuple ((frz 4 (.slice (some (.blk b, 0)) len cap sz) H').1 :: (frzL (frz 4) vs (frz 4 (.slice (some (.blk b, 0)) len cap sz) H').2).1), (frzL (frz 4) vs (frz 4 (.slice (some (.blk b, 0)) len cap sz) H').2).2) = _
    rw [h4s]
    simp only [hv (H'.dead b r)]
  unfold back frzV
  simp only [h5s]
  rw [leave_flat]
  · show min H'.low b = H.next
    omega
  · show (flatB (.pur cs) && flats vs) = true
    rw [hfs]
    show (flats cs && true) = true
    rw [hf]
    rfl
end Go.Vm.Tryz
