/- Rows that are not written from now on become cells that are never written. -/
import Derived.Test.YtmlogeklbcgjnaaGreatDoorVmOp
namespace Go.Vm
set_option linter.unusedSimpArgs false
set_option linter.unusedVariables false
set_option linter.unusedSectionVars false
/-- A block without a live row is never written from now on. -/
theorem still_sim {ρ : Rho} {G : Nat → Prop} {H : VH} {w : World} (h : RelH ρ G H w) {k : Nat} {c : Array Value} {et : TypeId} {f : Nat × Nat} (hk : w.heap[k]? = some (.cells c et f)) (hG : ¬ G k)
    (hdead : ∀ b pl r, ρ b = some pl → pl.rb = k → H.row? b = some r → r.live = false) (hz : ρ.fz k = none) : RelH (ρ.lit k c) G H w := by
  have hle : ρ.le (ρ.lit k c) := Rho.le_lit c hz
  refine ⟨h.has, h.g, fun b pl r hb hr => ?_, h.sep, h.lin, h.wgl, h.lt, h.ety, ?_, fun j hj => ?_, fun j c' e => ?_⟩
  · obtain ⟨d, et', fz, e1, e2, e3, e4, e5⟩ := h.row b pl r hb hr
    refine ⟨d, et', fz, e1, e2, e3, fun hl => ⟨(e4 hl).1, fun e => ?_⟩, fun hd i a hi ha => ?_⟩
    · rcases e with e | e
      · exact (e4 hl).2 e
      · rw [hdead b pl r hb e hr] at hl
        cases hl
    · obtain ⟨u, hu, hv⟩ := e5 hd i a hi ha
      exact ⟨u, hu, hv.mono hle⟩
  · intro b pl es c' v hb he
    obtain ⟨⟨q1, q2⟩, ⟨o, h3, h4⟩, h5⟩ := h.map b pl es c' v hb he
    refine ⟨⟨fun e => ?_, q2⟩, ⟨o, h3, h4.mono hle⟩, h5⟩
    rcases e with e | e
    · exact q1 e
    · rw [e, hk] at h3
      obtain rfl := Option.some.inj h3
      exact h4.isM
  · rcases hj with hj | hj
    · exact h.qlt j hj
    · rw [hj]; exact (Array.getElem?_eq_some_iff.1 hk).1
  · have e' : (if j = k then some c else ρ.fz j) = some c' := e
    split at e'
    · rename_i ek
      obtain rfl := Option.some.inj e'
      subst ek
      exact ⟨.inr rfl, hG, et, f, hk⟩
    · obtain ⟨h1, h2, h3⟩ := h.fz j c' e'
      exact ⟨.inl h1, h2, h3⟩
theorem post_still {ρ : Rho} {B : Nat → Prop} {w : World} {b : Nat} {pl : Pl} (hb : ρ b = some pl) (c : Array Value) (hz : ρ.fz pl.rb = none) : Post ρ (ρ.lit pl.rb c) B w w where
  le := Rho.le_lit c hz
  os := rfl
  tape := rfl
  output := rfl
  size := Nat.le_refl _
  frame := fun _ _ _ _ => rfl
  fresh := fun b pl hb => .inr ⟨b, pl, hb, rfl⟩
  qs := fun k e => e.elim .inl fun e => .inr (.inr ⟨b, pl, hb, e.symm⟩)
/-- What is shown of such a turn. -/
def Still (ρ : Rho) (G : Nat → Prop) (H H' : VH) (w : World) (P : Rho → Prop) : Prop := ∃ ρ', Post ρ ρ' (fun _ => False) w w ∧ RelH ρ' G H' w ∧ P ρ' ∧ Hs H H'
theorem Still.refl {ρ : Rho} {G : Nat → Prop} {H : VH} {w : World} {P : Rho → Prop} (h : RelH ρ G H w) (p : P ρ) : Still ρ G H H w P := ⟨ρ, .refl _ _ _, h, p, .refl _⟩
def FrzOk (f : AV → VH → AV × VH) : Prop := ∀ (ρ : Rho) (G : Nat → Prop) (H : VH) (w : World) (v : AV) (u : Value), RelH ρ G H w → VR ρ v u → Still ρ G H (f v H).2 w fun ρ' => VR ρ' (f v H).1 u
theorem frzL_ok {f : AV → VH → AV × VH} (hf : FrzOk f) : ∀ (vs : List AV) (ρ : Rho) (G : Nat → Prop) (H : VH) (w : World) (us : List Value), RelH ρ G H w → VRs ρ vs us → Still ρ G H (frzL f vs H).2 w fun ρ' => VRs ρ' (frzL f vs H).1 us
  | [], ρ, G, H, w, us, h, hv => Still.refl h hv
  | v :: vs, ρ, G, H, w, _, h, ⟨u, us, rfl, h1, h2⟩ => by
    obtain ⟨ρ1, p1, r1, v1, s1⟩ := hf ρ G H w v u h h1
    obtain ⟨ρ2, p2, r2, v2, s2⟩ := frzL_ok hf vs ρ1 G _ w us r1 (VRs.mono p1.le _ _ h2)
    exact ⟨ρ2, p1.trans p2, r2, ⟨u, us, rfl, VR.mono p2.le _ _ v1, v2⟩, s1.trans s2⟩
theorem frzL_len (f : AV → VH → AV × VH) : ∀ (vs : List AV) (H : VH), (frzL f vs H).1.length = vs.length
  | [], _ => rfl
  | v :: vs, H => by simp only [frzL, List.length_cons, frzL_len f vs]
theorem rowCells_spec {H : VH} {b : Nat} {cs : List AV} (h : rowCells H b = some cs) : ∃ r, H.row? b = some r ∧ r.live = true ∧ H.readable r = true ∧ H.cells b 0 r.n = some cs := by
  unfold rowCells at h
  split at h
  · rename_i r hr
    split at h
    · rename_i hc
      simp only [Bool.and_eq_true] at hc
      exact ⟨r, hr, hc.1, hc.2, h⟩
    · cases h
  · cases h
theorem killRow_spec {H H' : VH} {b : Nat} (h : killRow H b = some H') : ∃ r, H.row? b = some r ∧ r.live = true ∧ H' = H.dead b r := by
  unfold killRow at h
  split at h
  · rename_i r hr
    split at h
    · rename_i hl
      exact ⟨r, hr, hl, (Option.some.inj h).symm⟩
    · cases h
  · cases h
theorem frz_ok : ∀ n, FrzOk (frz n)
  | 0 => fun ρ G H w v u h hv => Still.refl h hv
  | n + 1 => fun ρ G H w v u h hv => by
    have ih := frzL_ok (frz_ok n)
    unfold frz
    split
    · rename_i cs
      obtain ⟨a, e, r, s⟩ := hv
      obtain ⟨ρ', p, r', v', hs⟩ := ih cs ρ G H w _ h r
      exact ⟨ρ', p, r', ⟨a, e, v', s⟩, hs⟩
    · rename_i cs
      obtain ⟨a, e, r⟩ := hv
      obtain ⟨ρ', p, r', v', hs⟩ := ih cs ρ G H w _ h r
      exact ⟨ρ', p, r', ⟨a, e, v'⟩, hs⟩
    · rename_i cs o len cap esz
      obtain ⟨pl, ro, rc, ⟨us, vs, c, e1, e2, e3, e4, e5⟩, k2⟩ := hv
      obtain ⟨ρ', p, r', v', hs⟩ := ih cs ρ G H w us h e4
      exact ⟨ρ', p, r', ⟨pl, ro, rc, ⟨us, vs, c, p.le.fz _ _ e1, e2, e3, v', e5⟩, k2⟩, hs⟩
    · rename_i b o len cap esz
      split
      · rename_i cs hcs
        obtain ⟨r, hr, hl, hrd, hc⟩ := rowCells_spec hcs
        obtain ⟨pl, ro, rc, k1, k2⟩ := hv
        have hb : ρ b = some pl := k1
        obtain ⟨us, g1, g2, g3, g4⟩ := cells_read h (b := b) k1 hc
        obtain ⟨ρ1, p1, r1, v1, s1⟩ := ih cs ρ G H w us h g2
        have hb1 : ρ1 b = some pl := p1.le b pl hb
        split
        · rename_i H' hk
          obtain ⟨r2, hr2, hl2, rfl⟩ := killRow_spec hk
          have r3 : RelH ρ1 G ((frzL (frz n) cs H).2.dead b r2) w := retire_sim r1 hr2 true
          obtain ⟨c, et, fz, w1, w2, w3, w4, w5⟩ := r1.row b pl r2 hb1 hr2
          obtain ⟨d, et0, fz0, x1, x2, x3, x4, x5⟩ := h.row b pl r hb hr
          rw [w1] at x1
          simp only [Option.some.injEq, Obj.cells.injEq] at x1
          obtain ⟨rfl, rfl, rfl⟩ := x1
          have hnq := (w4 hl2).2
          have hz : ρ1.fz pl.rb = none := by
            cases e : ρ1.fz pl.rb with
            | none => rfl
            | some c' => exact absurd (r1.fz _ c' e).1 hnq
          have hrow : ∀ k, ((frzL (frz n) cs H).2.dead b r2).row? k = if k = b then some { r2 with live := false } else (frzL (frz n) cs H).2.row? k := fun k => row?_vset _ _ _ _
          have hdead : ∀ k pk rk, ρ1 k = some pk → pk.rb = pl.rb → ((frzL (frz n) cs H).2.dead b r2).row? k = some rk → rk.live = false := by
            intro k pk rk hk' erb hrk
            rw [hrow] at hrk
            split at hrk
            · obtain rfl := Option.some.inj hrk; rfl
            · rename_i ek
              cases hlk : rk.live with
              | false => rfl
              | true =>
                exfalso
                obtain ⟨q1, a1, a2, a3, _⟩ := r1.sep b k pl pk r2 hb1 hk' erb.symm hr2 hl2 ek
                obtain ⟨q2, b1, b2, b3, _⟩ := r1.sep k b pk pl rk hk' hb1 erb hrk hlk (Ne.symm ek)
                rw [hrk] at a1
                obtain rfl := Option.some.inj a1
                rw [hr2] at b1
                obtain rfl := Option.some.inj b1
                omega
          have hcs' : c.toList.drop pl.base = us ++ c.toList.drop (pl.base + us.length) := by
            have : us = (c.toList.drop pl.base).take us.length := by
              apply List.ext_getElem?
              intro j
              rw [List.getElem?_take]
              by_cases hj : j < us.length
              · rw [if_pos hj]
                have hx : us[j]? = some us[j] := List.getElem?_eq_getElem hj
                have hy := g4 j _ hx
                simp only [World.cell?, w1] at hy
                simp only [Option.isSome_none, Bool.false_eq_true, if_false, Nat.add_zero] at hy
                rw [hx, List.getElem?_drop, Array.getElem?_toList, ← hy]
              · rw [if_neg hj]
                exact List.getElem?_eq_none (by omega)
            conv => lhs; rw [← List.take_append_drop us.length (c.toList.drop pl.base)]
            rw [← this, List.drop_drop]
          refine ⟨ρ1.lit pl.rb c, p1.trans (post_still hb1 c hz), still_sim r3 w1 (r1.has b pl hb1).1 hdead hz, ⟨pl, ro, rc, ⟨us, c.toList.drop (pl.base + us.length), c, ?_, w2, hcs', VRs.mono (Rho.le_lit c hz) _ _ v1, g3⟩, k2⟩, s1.trans (.dead hr2 hl2)⟩
          show (if pl.rb = pl.rb then some c else ρ1.fz pl.rb) = some c
          rw [if_pos rfl]
        · exact ⟨ρ1, p1, r1, VR.mono p1.le _ _ ⟨pl, ro, rc, k1, k2⟩, s1⟩
      · exact Still.refl h hv
    · exact Still.refl h hv
theorem frzSrc_ok (q : Bool) (b : Builtin) {ρ : Rho} {G : Nat → Prop} {H : VH} {w : World} {vs : List AV} {us : List Value} (h : RelH ρ G H w) (hv : VRs ρ vs us) : Still ρ G H (frzSrc q b vs H).2 w fun ρ' => VRs ρ' (frzSrc q b vs H).1 us := by
  unfold frzSrc
  split
  · exact Still.refl h hv
  · split
    · rename_i v x
      obtain ⟨u, us1, rfl, h1, u2, us2, rfl, h2, h3⟩ := hv
      obtain ⟨ρ', p, r, v', s⟩ := frz_ok 5 ρ G H w x u2 h h2
      exact ⟨ρ', p, r, ⟨u, _, rfl, VR.mono p.le _ _ h1, u2, us2, rfl, v', h3⟩, s⟩
    · exact Still.refl h hv
theorem frzArgs_ok (q : Bool) {ρ : Rho} {G : Nat → Prop} {H : VH} {w : World} {vs : List AV} {us : List Value} (h : RelH ρ G H w) (hv : VRs ρ vs us) : Still ρ G H (frzArgs q vs H).2 w fun ρ' => VRs ρ' (frzArgs q vs H).1 us := by
  unfold frzArgs
  split
  · exact Still.refl h hv
  · exact frzL_ok (frz_ok 5) vs ρ G H w us h hv
theorem frzV_ok (q : Bool) {ρ : Rho} {G : Nat → Prop} {H : VH} {w : World} {v : AV} {u : Value} (h : RelH ρ G H w) (hv : VR ρ v u) : Still ρ G H (frzV q v H).2 w fun ρ' => VR ρ' (frzV q v H).1 u := by
  unfold frzV
  split
  · exact Still.refl h hv
  · exact frz_ok 5 ρ G H w v u h hv
/-! The heap's own side. -/
theorem frzL_hs {f : AV → VH → AV × VH} (hf : ∀ v H, Hs H (f v H).2) : ∀ (vs : List AV) (H : VH), Hs H (frzL f vs H).2
  | [], H => .refl _
  | v :: vs, H => (hf v H).trans (frzL_hs hf vs _)
theorem frz_hs : ∀ (n : Nat) (v : AV) (H : VH), Hs H (frz n v H).2
  | 0, _, _ => .refl _
  | n + 1, v, H => by
    have ih := frzL_hs (frz_hs n)
    unfold frz
    split
    · exact ih _ _
    · exact ih _ _
    · exact ih _ _
    · split
      · split
        · rename_i hk
          obtain ⟨r, hr, hl, rfl⟩ := killRow_spec hk
          exact (ih _ _).trans (.dead hr hl)
        · exact ih _ _
      · exact .refl _
    · exact .refl _
theorem frzSrc_hs (q : Bool) (b : Builtin) (vs : List AV) (H : VH) : Hs H (frzSrc q b vs H).2 := by
  unfold frzSrc
  split
  · exact .refl _
  · split
    · exact frz_hs 5 _ _
    · exact .refl _
theorem frzArgs_hs (q : Bool) (vs : List AV) (H : VH) : Hs H (frzArgs q vs H).2 := by
  unfold frzArgs
  split
  · exact .refl _
  · exact frzL_hs (frz_hs 5) _ _
theorem frzV_hs (q : Bool) (v : AV) (H : VH) : Hs H (frzV q v H).2 := by
  unfold frzV
  split
  · exact .refl _
  · exact frz_hs 5 _ _
theorem frzArgs_len (q : Bool) (vs : List AV) (H : VH) : (frzArgs q vs H).1.length = vs.length := by
  unfold frzArgs
  split
  · rfl
  · exact frzL_len _ _ _
theorem frzSrc_not (q : Bool) {b : Builtin} (h : b ≠ .append) (vs : List AV) (H : VH) : frzSrc q b vs H = (vs, H) := by
  unfold frzSrc
  split
  · rfl
  · split
    · exact absurd rfl h
    · rfl
end Go.Vm
