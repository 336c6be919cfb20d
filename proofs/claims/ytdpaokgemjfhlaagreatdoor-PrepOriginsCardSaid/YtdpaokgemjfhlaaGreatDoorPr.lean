/- The preprocessor: a lineage that is cut; the list of open files; look-ups in the files. -/
import Derived.Test.YtdpaokgemjfhlaaGreatDoorPq
import Derived.Test.YtdpaokgemjfhlaaGreatDoorHl
namespace Go.Vm.Tryz
set_option linter.unusedSectionVars false
set_option linter.unusedSimpArgs false
set_option linter.unusedVariables false
set_option maxRecDepth 10000
/-- All is kept but for the blocks S; the lineage L may be cut. -/
structure KeepL (L : Nat) (S : Nat → Prop) (H H' : VH) : Prop where
  next : H.next ≤ H'.next
  get : ∀ b, b < H.next → ¬ S b → H'.get b = H.get b
  wg : ∀ l, l < H.next → l ≠ L → H'.wg.get l = H.wg.get l
theorem Keep.toL {S : Nat → Prop} {H H' : VH} (h : Keep S H H') (L : Nat) : KeepL L S H H' := ⟨h.next, h.get, fun l hl _ => h.wg l hl⟩
theorem KeepL.refl (L : Nat) (S : Nat → Prop) (H : VH) : KeepL L S H H := ⟨Nat.le_refl _, fun _ _ _ => rfl, fun _ _ _ => rfl⟩
theorem KeepL.trans {L : Nat} {S S' : Nat → Prop} {a b c : VH} (h : KeepL L S a b) (k : KeepL L S' b c) (hs : ∀ x, S' x → S x ∨ a.next ≤ x) : KeepL L S a c :=
  ⟨Nat.le_trans h.next k.next, fun x hx hn => (k.get x (Nat.lt_of_lt_of_le hx h.next) fun e => (hs x e).elim hn fun g => by omega).trans (h.get x hx hn), fun l hl hn => (k.wg l (Nat.lt_of_lt_of_le hl h.next) hn).trans (h.wg l hl hn)⟩
theorem KeepL.mono {L : Nat} {S S' : Nat → Prop} {H H' : VH} (h : KeepL L S H H') (hs : ∀ x, x < H.next → S x → S' x) : KeepL L S' H H' := ⟨h.next, fun x hx hn => h.get x hx fun e => hn (hs x hx e), h.wg⟩
theorem KeepL.low {L : Nat} {S : Nat → Prop} {H H' : VH} (h : KeepL L S H H') (m : Nat) : KeepL L S H { H' with low := m } := ⟨h.next, h.get, h.wg⟩
/-- A row of another lineage. -/
def NL (H : VH) (b L : Nat) : Prop := ∃ r, H.row? b = some r ∧ r.lin ≠ L
theorem NL.lt {H : VH} {b L : Nat} (h : NL H b L) (hH : H.Ok) : b < H.next := by
  obtain ⟨r, h, _⟩ := h
  exact hH.get b _ (VH.row?_get h)
theorem NL.hs {H H' : VH} {b L : Nat} (h : NL H b L) (hH : H.Ok) (hL : L < H.next) (k : Hs H H') : NL H' b L := by
  obtain ⟨r, h1, h2⟩ := h
  obtain ⟨r', k1, k2, _⟩ := (k.lins (L := L) hH.get hL).old b r h1
  exact ⟨r', k1, by rw [k2]; exact h2⟩
theorem NL.keep {S : Nat → Prop} {H H' : VH} {b L : Nat} (h : NL H b L) (hH : H.Ok) (k : KeepL L S H H') (hs : ¬ S b) : NL H' b L := by
  obtain ⟨r, h1, h2⟩ := h
  refine ⟨r, ?_, h2⟩
  unfold VH.row? at h1 ⊢
  rw [k.get b (NL.lt ⟨r, h1, h2⟩ hH) hs]
  exact h1
theorem nl_old {H : VH} {b L : Nat} {r : Row} (hH : H.Ok) (hr : H.row? b = some r) (hL : H.next ≤ L) : NL H b L := ⟨r, hr, by have := hH.lin b r hr; omega⟩
theorem keepL_row {L : Nat} {S : Nat → Prop} {H H' : VH} (h : KeepL L S H H') {b : Nat} (hb : b < H.next) (hs : ¬ S b) : H'.row? b = H.row? b := by
  unfold VH.row?
  rw [h.get b hb hs]
theorem keepL_from {L : Nat} {S : Nat → Prop} {H H' : VH} (h : KeepL L S H H') {l : Nat} (hl : l < H.next) (hn : l ≠ L) : H'.from_ l = H.from_ l := by
  unfold VH.from_
  rw [h.wg l hl hn]
theorem plain_keepL {L : Nat} {S : Nat → Prop} {H H' : VH} {b : Nat} {cs : List AV} (h : Plain H b cs) (hH : H.Ok) (nl : NL H b L) (k : KeepL L S H H') (hs : ¬ S b) : Plain H' b cs := by
  have hb := h.lt hH
  obtain ⟨r, h1, h2, h3, h4, h5, h6⟩ := h.row
  obtain ⟨r', n1, n2⟩ := nl
  rw [h1] at n1
  obtain rfl := Option.some.inj n1
  exact ⟨r, by rw [keepL_row k hb hs]; exact h1, h2, h3, h4, h5, by rw [keepL_from k (hH.lin b r h1) n2]; exact h6⟩
theorem cell_keepL {L : Nat} {S : Nat → Prop} {H H' : VH} {b o : Nat} {v : AV} (h : H.cell b o = some v) (hH : H.Ok) (nl : NL H b L) (k : KeepL L S H H') (hs : ¬ S b) : H'.cell b o = some v := by
  obtain ⟨r, n1, n2⟩ := nl
  have hb : b < H.next := hH.get b _ (VH.row?_get n1)
  unfold VH.cell at h ⊢
  rw [keepL_row k hb hs]
  rw [n1] at h ⊢
  simp only at h ⊢
  have : H'.readable r = H.readable r := by
    unfold VH.readable
    rw [keepL_from k (hH.lin b r n1) n2]
  rw [this]
  exact h
theorem grow_keepL {L : Nat} {S : Nat → Prop} {H H' : VH} {b e sz : Nat} {v : AV} {len : Nat} {cs : List AV} (h : Grow H b e sz v len cs) (hH : H.Ok) (nl : ∀ x, TipAt v x → NL H x L) (k : KeepL L S H H') (hs : ∀ x, TipAt v x → ¬ S x) : Grow H' b e sz v len cs := by
  obtain ⟨hc, h | ⟨q, e1, h1, h2, h3⟩⟩ := h
  · exact ⟨hc, .inl h⟩
  · have ht : TipAt v q := ⟨0, len, none, sz, e1⟩
    refine ⟨hc, .inr ⟨q, e1, h1, ?_, h3⟩⟩
    have hb := h2.lt hH
    obtain ⟨r, g1, g2, g3, g4, g5, g6⟩ := h2.row
    obtain ⟨r', n1, n2⟩ := nl q ht
    rw [g1] at n1
    obtain rfl := Option.some.inj n1
    exact ⟨r, by rw [keepL_row k hb (hs q ht)]; exact g1, g2, g3, g4, by rw [keepL_from k (hH.lin q r g1) n2]; exact g5, g6⟩
theorem mx_keepL {L : Nat} {S : Nat → Prop} {H H' : VH} (h : Mx H) (hH : H.Ok) (nl : NL H 0 L) (k : KeepL L S H H') (hs : ¬ S 0) : Mx H' := by
  obtain ⟨h1, m, h2⟩ := h
  exact ⟨Nat.lt_of_lt_of_le h1 k.next, m, cell_keepL h2 hH nl k hs⟩
theorem map?_keepL {L : Nat} {S : Nat → Prop} {H H' : VH} {m : Nat} {x : List ME × Nat × Nat} (h : H.map? m = some x) (hm : m < H.next) (k : KeepL L S H H') (hs : ¬ S m) : H'.map? m = some x := by
  unfold VH.map? at h ⊢
  rw [k.get m hm hs]
  exact h
/-! The list of open files. -/
def Opn (H : VH) (q : AV) (ns : List (List UInt8)) (L : Nat) : Prop :=
  ∃ b r, q = .slice (some (b, 0)) ns.length none 1 ∧ H.row? b = some r ∧ r.lin = L ∧ r.live = true ∧ H.from_ L ≤ r.gen ∧ ns.length ≤ r.n ∧ ∀ i, i < ns.length → r.t.get i = (strCells ns)[i]?
theorem Opn.tip {H : VH} {q : AV} {ns : List (List UInt8)} {L : Nat} (h : Opn H q ns L) {x : Nat} (hx : TipAt q x) : ∃ r, H.row? x = some r ∧ r.lin = L ∧ r.live = true := by
  obtain ⟨b, r, e, h1, h2, h3, _⟩ := h
  obtain ⟨_, _, _, _, e2⟩ := hx
  rw [e] at e2
  simp only [AV.slice.injEq, Option.some.injEq, Prod.mk.injEq] at e2
  rw [← e2.1.1]
  exact ⟨r, h1, h2, h3⟩
theorem Opn.ne {H : VH} {q : AV} {ns : List (List UInt8)} {L b : Nat} (h : Opn H q ns L) (nl : NL H b L) : ¬ TipAt q b := fun hx => by
  obtain ⟨r, h1, h2, _⟩ := h.tip hx
  obtain ⟨r', n1, n2⟩ := nl
  rw [h1] at n1
  obtain rfl := Option.some.inj n1
  exact n2 h2
theorem Opn.keep {S : Nat → Prop} {H H' : VH} {q : AV} {ns : List (List UInt8)} {L : Nat} (h : Opn H q ns L) (hH : H.Ok) (k : Keep S H H') (hs : ∀ x, TipAt q x → ¬ S x) : Opn H' q ns L := by
  obtain ⟨b, r, e, h1, h2, h3, h4, h5⟩ := h
  have hb : b < H.next := hH.get b _ (VH.row?_get h1)
  refine ⟨b, r, e, by rw [keep_row k hb (hs b ⟨0, _, _, _, e⟩)]; exact h1, h2, h3, ?_, h5⟩
  rw [keep_from k (by have := hH.lin b r h1; omega)]
  exact h4
theorem Opn.lo {H : VH} {q : AV} {ns : List (List UInt8)} {L : Nat} (h : Opn H q ns L) : Opn H.lo q ns L := h
theorem Opn.low {H : VH} {q : AV} {ns : List (List UInt8)} {L : Nat} (h : Opn H q ns L) (m : Nat) : Opn { H with low := m } q ns L := h
theorem Opn.cell {H : VH} {q : AV} {ns : List (List UInt8)} {L : Nat} (h : Opn H q ns L) : ∃ b, q = .slice (some (b, 0)) ns.length none 1 ∧ ∀ i, i < ns.length → H.cell b (0 + i * 1) = (strCells ns)[i]? := by
  obtain ⟨b, r, e, h1, h2, h3, h4, h5, h6⟩ := h
  refine ⟨b, e, fun i hi => ?_⟩
  unfold VH.cell
  rw [h1]
  have : H.readable r = true := Nat.ble_eq_true_of_le (by rw [h2]; exact h4)
  simp only [this, if_true]
  rw [blt_eq, Nat.zero_add, Nat.mul_one, decide_eq_true (by omega), if_pos rfl, h6 i hi]
/-- The last name is taken away. -/
theorem Opn.pop {H : VH} {q : AV} {ns : List (List UInt8)} {s : List UInt8} {L : Nat} (h : Opn H q (ns ++ [s]) L) : ∃ b, q = .slice (some (b, 0)) (ns.length + 1) none 1 ∧ Opn H (.slice (some (b, 0)) ns.length none 1) ns L := by
  obtain ⟨b, r, e, h1, h2, h3, h4, h5, h6⟩ := h
  rw [List.length_append, List.length_singleton] at e h5 h6
  refine ⟨b, e, b, r, rfl, h1, h2, h3, h4, by omega, fun i hi => ?_⟩
  rw [h6 i (by omega)]
  unfold strCells
  rw [List.map_append, List.getElem?_append_left (by simpa using hi)]
theorem cutOpen (H : VH) (b m : Nat) : vslice T H 50 (.v (.slice (some (b, 0)) (m + 1) none 1)) none (some (.int .i64 (m : Int))) = some (.slice (some (b, 0)) m none 1) := by
  unfold vslice
  rw [show T.und 50 = some (.slice 9) by kernel_rfl]
  simp only [show sizeOfT T 9 = some 1 by kernel_rfl]
  unfold vsliceRow
  have h1 : (Option.isSome (some (b, 0)) && !Nat.beq 1 1) = false := rfl
  simp only [h1, bound, Option.getD_none, ile_eq]
  rw [if_pos (by simp; omega)]
  simp
/-- A name is appended. -/
theorem Opn.app {H : VH} {q : AV} {ns : List (List UInt8)} {L : Nat} (h : Opn H q ns L) (hH : H.Ok) (hl : ns.length < 1000) {p : Nat} {c : Option Nat} {es : Nat} {s : List UInt8} (hc : H.cells p 0 (1 * 1) = some [.str (PS.of s)]) :
    ∃ q' H', vbuiltin T H .append [50, 50] [q, .slice (some (p, 0)) 1 c es] = some (q', H') ∧ Opn H' q' (ns ++ [s]) L ∧ H'.Ok ∧ KeepL L (TipAt q) H H' ∧ (∀ x, TipAt q' x → x = H.next) ∧ H'.next = H.next + 1 ∧ H'.low ≤ H.low ∧ q'.one = true := by
  obtain ⟨b, r, rfl, h1, h2, h3, h4, h5, h6⟩ := h
  have hb : b < H.next := hH.get b _ (VH.row?_get h1)
  have hrd : H.readable r = true := Nat.ble_eq_true_of_le (by rw [h2]; exact h4)
  have hlin := hH.lin b r h1
  generalize hq : Nat.beq (0 + ns.length * 1) r.n = qq
  have e1 : appendTo H 9 1 (.slice (some (b, 0)) ns.length none 1) 1 [.str (PS.of s)] = some (.slice (some (H.next, 0)) (ns.length + 1) none 1, (H.cutIf qq r.lin (r.gen + 1)).grow b r (ns.length * 1 + 1 * 1) (Tr.setList r.t (ns.length * 1) [.str (PS.of s)]) (growE 0 r.ety 9)) := by
    unfold appendTo
    have hesz : (!Nat.beq 1 1) = false := rfl
    have : Nat.ble (0 + ns.length * 1) r.n = true := Nat.ble_eq_true_of_le (by omega)
    simp only [hesz, Bool.false_eq_true, if_false, h1, h3, hrd, Bool.true_and, this, if_true, hq]
  have hn : (H.cutIf qq r.lin (r.gen + 1)).next = H.next := next_cutIf _ _ _ _
  have hget : ∀ x, ((H.cutIf qq r.lin (r.gen + 1)).grow b r (ns.length * 1 + 1 * 1) (Tr.setList r.t (ns.length * 1) [.str (PS.of s)]) (growE 0 r.ety 9)).get x = if x = H.next then some (.row { n := ns.length * 1 + 1 * 1, t := Tr.setList r.t (ns.length * 1) [.str (PS.of s)], live := true, lin := r.lin, gen := r.gen + 1, ver := 0, ety := growE 0 r.ety 9 }) else if x = b then some (.row { r with live := false }) else H.get x := by
    intro x
    show (((H.cutIf qq r.lin (r.gen + 1)).set b (.row { r with live := false })).alloc _).get x = _
    rw [get_valloc, get_vset, get_cutIf]
    show (if x = (H.cutIf qq r.lin (r.gen + 1)).next then _ else _) = _
    rw [hn]
  have hfrom : ∀ l, ((H.cutIf qq r.lin (r.gen + 1)).grow b r (ns.length * 1 + 1 * 1) (Tr.setList r.t (ns.length * 1) [.str (PS.of s)]) (growE 0 r.ety 9)).wg.get l = (H.cutIf qq r.lin (r.gen + 1)).wg.get l := fun _ => rfl
  have hcutwg : ∀ l, l ≠ L → (H.cutIf qq r.lin (r.gen + 1)).wg.get l = H.wg.get l := by
    intro l hl
    cases qq with
    | true => rfl
    | false =>
      show (H.cut r.lin (r.gen + 1)).wg.get l = _
      unfold VH.cut
      split
      · rfl
      · show (H.wg.set r.lin (r.gen + 1)).get l = _
        rw [Tr.get_set, if_neg (by omega)]
  refine ⟨_, _, (app_slt sltS (v := .slice (some (b, 0)) ns.length none 1) (x := .slice (some (p, 0)) 1 c es) (len := ns.length) (n := 1) (new := [.str (PS.of s)]) rfl rfl (by omega) (by omega) hc rfl).trans e1, ⟨H.next, { n := ns.length * 1 + 1 * 1, t := Tr.setList r.t (ns.length * 1) [.str (PS.of s)], live := true, lin := r.lin, gen := r.gen + 1, ver := 0, ety := growE 0 r.ety 9 }, by rw [List.length_append, List.length_singleton], by unfold VH.row?; rw [hget, if_pos rfl], h2, rfl, ?_, by simp, fun i hi => ?_⟩, ⟨fun x y hx => ?_, fun l g hg => ?_, fun x y hx => ?_⟩, ⟨?_, fun x hx hs => ?_, fun l hl hn2 => ?_⟩, fun x ⟨_, _, _, _, e⟩ => ?_, ?_, ?_, rfl⟩
  · show ((H.cutIf qq r.lin (r.gen + 1)).from_ L) ≤ r.gen + 1
    cases qq with
    | true => show H.from_ L ≤ _; omega
    | false =>
      show (H.cut r.lin (r.gen + 1)).from_ L ≤ _
      rw [from_cut]
      split <;> omega
  · rw [Tr.get_setList]
    simp only [List.length_append, List.length_singleton] at hi
    unfold strCells
    rw [List.map_append]
    by_cases hc : ns.length * 1 ≤ i ∧ i < ns.length * 1 + [AV.str (PS.of s)].length
    · rw [if_pos hc, List.getElem?_append_right (by simp; omega)]
      simp only [List.length_map, List.map_cons, List.map_nil, Nat.mul_one]
    · rw [if_neg hc, List.getElem?_append_left (by simp at hc ⊢; omega)]
      simp only [List.length_singleton] at hc
      exact h6 i (by omega)
  · rw [hget] at hx
    show x < (H.cutIf qq r.lin (r.gen + 1)).next + 1
    rw [hn]
    split at hx
    · omega
    · split at hx
      · omega
      · have := hH.get x y hx; omega
  · show l < (H.cutIf qq r.lin (r.gen + 1)).next + 1
    rw [hn]
    rw [hfrom] at hg
    by_cases hlL : l = L
    · omega
    · rw [hcutwg l hlL] at hg
      have := hH.wg l g hg; omega
  · unfold VH.row? at hx
    rw [hget] at hx
    show y.lin < (H.cutIf qq r.lin (r.gen + 1)).next + 1
    rw [hn]
    by_cases u1 : x = H.next
    · simp only [if_pos u1, Option.some.injEq] at hx
      subst hx
      exact Nat.lt_succ_of_lt hlin
    · by_cases u2 : x = b
      · subst u2
        simp only [if_neg u1, if_pos, Option.some.injEq] at hx
        subst hx
        exact Nat.lt_succ_of_lt hlin
      · simp only [if_neg u1, if_neg u2] at hx
        exact Nat.lt_succ_of_lt (hH.lin x y hx)
  · show H.next ≤ (H.cutIf qq r.lin (r.gen + 1)).next + 1
    rw [hn]; omega
  · rw [hget, if_neg (by omega), if_neg (fun e => hs ⟨0, ns.length, none, 1, by rw [e]⟩)]
  · rw [hfrom, hcutwg l hn2]
  · simp only [AV.slice.injEq, Option.some.injEq, Prod.mk.injEq] at e
    exact e.1.1.symm
  · show (H.cutIf qq r.lin (r.gen + 1)).next + 1 = _
    rw [hn]
  · show min (H.cutIf qq r.lin (r.gen + 1)).low b ≤ _
    rw [low_cutIf]
    exact Nat.min_le_left _ _
end Go.Vm.Tryz
