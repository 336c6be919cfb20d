/- Whatever the machine does: rows keep their lineage, and a lineage whose live row stays live gets no new rows. -/
import Derived.Test.YtdpaokgemjfhlaaGreatDoorVmX
namespace Go.Vm
set_option linter.unusedSectionVars false
set_option linter.unusedSimpArgs false
set_option linter.unusedVariables false
structure Lins (L : Nat) (H H' : VH) : Prop where
  old : ∀ b r, H.row? b = some r → ∃ r', H'.row? b = some r' ∧ r'.lin = r.lin ∧ (r.live = false → r'.live = false)
  new : ∀ b r', H'.row? b = some r' → r'.lin = L → (∃ r, H.row? b = some r ∧ r.lin = L) ∨ ∃ c r r2, H.row? c = some r ∧ r.lin = L ∧ r.live = true ∧ H'.row? c = some r2 ∧ r2.live = false
theorem Lins.refl (L : Nat) (H : VH) : Lins L H H := ⟨fun b r h => ⟨r, h, rfl, id⟩, fun b r h e => .inl ⟨r, h, e⟩⟩
theorem Lins.trans {L : Nat} {a b c : VH} (h : Lins L a b) (k : Lins L b c) : Lins L a c := by
  refine ⟨fun x r hx => ?_, fun x r' hx e => ?_⟩
  · obtain ⟨r1, h1, h2, h3⟩ := h.old x r hx
    obtain ⟨r2, k1, k2, k3⟩ := k.old x r1 h1
    exact ⟨r2, k1, k2.trans h2, fun e => k3 (h3 e)⟩
  · rcases k.new x r' hx e with ⟨r1, h1, h2⟩ | ⟨y, r1, r2, h1, h2, h3, h4, h5⟩
    · rcases h.new x r1 h1 h2 with h6 | ⟨y, s1, s2, g1, g2, g3, g4, g5⟩
      · exact .inl h6
      · obtain ⟨s3, q1, q2, q3⟩ := k.old y s2 g4
        exact .inr ⟨y, s1, s3, g1, g2, g3, q1, q3 g5⟩
    · rcases h.new y r1 h1 h2 with ⟨s, g1, g2⟩ | ⟨z, s1, s2, g1, g2, g3, g4, g5⟩
      · cases hl : s.live with
        | true => exact .inr ⟨y, s, r2, g1, g2, hl, h4, h5⟩
        | false =>
          obtain ⟨s', q1, q2, q3⟩ := h.old y s g1
          rw [h1] at q1
          obtain rfl := Option.some.inj q1
          rw [q3 hl] at h3
          cases h3
      · obtain ⟨s3, q1, q2, q3⟩ := k.old z s2 g4
        exact .inr ⟨z, s1, s3, g1, g2, g3, q1, q3 g5⟩
theorem Lins.set {L : Nat} {H H' : VH} {b : Nat} {r r1 : Row} (hr : H.row? b = some r) (h : ∀ x, H'.row? x = if x = b then some r1 else H.row? x) (hl : r1.lin = r.lin) (hv : r.live = false → r1.live = false) : Lins L H H' := by
  refine ⟨fun x s hx => ?_, fun x s hx e => ?_⟩
  · rw [h]
    by_cases e : x = b
    · subst e
      rw [hr] at hx
      obtain rfl := Option.some.inj hx
      exact ⟨r1, if_pos rfl, hl, hv⟩
    · rw [if_neg e]
      exact ⟨s, hx, rfl, id⟩
  · rw [h] at hx
    split at hx
    · rename_i e2
      subst e2
      obtain rfl := Option.some.inj hx
      exact .inl ⟨r, hr, by rw [← hl]; exact e⟩
    · exact .inl ⟨s, hx, e⟩
theorem Lins.mk' {L : Nat} {H H' : VH} {r1 : Row} (hn : H.row? H.next = none) (h : ∀ x, H'.row? x = if x = H.next then some r1 else H.row? x) (hL : r1.lin = L → ∃ c r r2, H.row? c = some r ∧ r.lin = L ∧ r.live = true ∧ H'.row? c = some r2 ∧ r2.live = false) : Lins L H H' := by
  refine ⟨fun x s hx => ?_, fun x s hx e => ?_⟩
  · rw [h]
    have : x ≠ H.next := fun e => by rw [e, hn] at hx; cases hx
    rw [if_neg this]
    exact ⟨s, hx, rfl, id⟩
  · rw [h] at hx
    split at hx
    · obtain rfl := Option.some.inj hx
      exact .inr (hL e)
    · exact .inl ⟨s, hx, e⟩
theorem Lins.same {L : Nat} {H H' : VH} (h : ∀ x, H'.row? x = H.row? x) : Lins L H H' := ⟨fun x s hx => ⟨s, by rw [h]; exact hx, rfl, id⟩, fun x s hx e => .inl ⟨s, by rw [← h]; exact hx, e⟩⟩
theorem row_none {H : VH} (hw : WfH H) : H.row? H.next = none := by
  cases e : H.row? H.next with
  | none => rfl
  | some r => exact absurd (hw _ _ (VH.row?_get e)) (Nat.lt_irrefl _)
theorem Hs.lins {H H' : VH} (h : Hs H H') : ∀ {L : Nat}, WfH H → L < H.next → Lins L H H' := by
  induction h with
  | refl H => exact fun _ _ => .refl _ _
  | trans h1 h2 ih1 ih2 => exact fun hw hL => (ih1 hw hL).trans (ih2 (h1.later hw).2.1 (Nat.lt_of_lt_of_le hL (h1.later hw).1))
  | @put H H' b o v hp =>
    intro L hw hL
    obtain ⟨r, hr, rfl⟩ : ∃ r, H.row? b = some r ∧ H' = (H.cut r.lin r.gen).set b (.row { r with t := r.t.set o v, ver := r.ver + 1 }) := by
      obtain ⟨r, hr, _, _, _, e⟩ := put_spec hp
      exact ⟨r, hr, e⟩
    exact .set (r1 := { r with t := r.t.set o v, ver := r.ver + 1 }) hr (fun x => by rw [row?_vset, row?_cut]) rfl id
  | mk H n t e =>
    intro L hw hL
    refine .mk' (row_none hw) (fun x => row?_valloc _ _ _) fun e => ?_
    simp only at e
    omega
  | @dead H b r hr hlive =>
    intro L hw hL
    exact .set (r1 := { r with live := false }) hr (fun x => row?_vset _ _ _ _) rfl fun _ => rfl
  | @grow H b r q n t e hr hlive =>
    intro L hw hL
    have hn : ((H.cutIf q r.lin (r.gen + 1)).set b (.row { r with live := false })).next = H.next := by
      cases q
      · exact next_cut _ _ _
      · rfl
    have hrow : ∀ x, ((H.cutIf q r.lin (r.gen + 1)).grow b r n t e).row? x = if x = H.next then some { n := n, t := t, live := true, lin := r.lin, gen := r.gen + 1, ver := 0, ety := e } else if x = b then some { r with live := false } else H.row? x := by
      intro x
      have : ((H.cutIf q r.lin (r.gen + 1)).grow b r n t e).row? x = _ := row?_valloc ((H.cutIf q r.lin (r.gen + 1)).set b (.row { r with live := false })) _ x
      rw [this, hn]
      by_cases e1 : x = H.next
      · rw [if_pos e1, if_pos e1]
      · rw [if_neg e1, if_neg e1]
        cases q <;> simp only [VH.cutIf, row?_vset, row?_cut]
    have hb : b ≠ H.next := fun e => by rw [e, row_none hw] at hr; cases hr
    refine ⟨fun x s hx => ?_, fun x s hx e => ?_⟩
    · rw [hrow, if_neg (fun e => by rw [e, row_none hw] at hx; cases hx)]
      by_cases e1 : x = b
      · subst e1
        rw [hr] at hx
        obtain rfl := Option.some.inj hx
        exact ⟨_, if_pos rfl, rfl, fun _ => rfl⟩
      · rw [if_neg e1]
        exact ⟨s, hx, rfl, id⟩
    · rw [hrow] at hx
      split at hx
      · obtain rfl := Option.some.inj hx
        exact .inr ⟨b, r, { r with live := false }, hr, e, hlive, by rw [hrow, if_neg hb, if_pos rfl], rfl⟩
      · split at hx
        · rename_i e1
          subst e1
          obtain rfl := Option.some.inj hx
          exact .inl ⟨r, hr, e⟩
        · exact .inl ⟨s, hx, e⟩
  | newMap H es c =>
    intro L hw hL
    refine .same fun x => ?_
    have hg : (H.newMap es c).get x = if x = H.next then some (.map es c 0) else H.get x := get_valloc _ _ _
    by_cases e : x = H.next
    · have hn := row_none hw
      rw [← e] at hn
      rw [hn]
      unfold VH.row?
      rw [hg, if_pos e]
    · unfold VH.row?
      rw [hg, if_neg e]
  | @setMap H b es c v es' c' hm =>
    intro L hw hL
    refine .same fun x => ?_
    have hg : (H.setMap b es' c' v).get x = if x = b then some (.map es' c' (v + 1)) else H.get x := get_vset _ _ _ _
    by_cases e : x = b
    · unfold VH.row?
      rw [hg, if_pos e, e, hm]
    · unfold VH.row?
      rw [hg, if_neg e]
  | @call H H' v hs ih =>
    intro L hw hL
    have h1 : Lins L { H with low := H.next } H' := ih hw hL
    unfold leave
    split
    · exact .refl _ _
    · exact ⟨h1.old, h1.new⟩
end Go.Vm
