/- The abstract machine's library functions of the language against the model's. -/
import Derived.Test.YtieocmaaloaoaaaDoorVmSim6
namespace Go.Vm
set_option linter.unusedSimpArgs false
set_option linter.unusedVariables false
set_option linter.unusedSectionVars false
section
variable {ρ : Rho} {G : Nat → Prop} {n0 : Nat} {lam : Nat → Option Nat} {fr : Fr} {a : Act} {w : World}
variable {T : Tb} {P : Program} (hT : TbOk T P) {H : VH} (hF : RelF ρ G n0 lam fr a.tmps w) (hH : RelH ρ G H w) {o : Oper} {promo : Nat → Bool} {r : RV} {fr' : Fr} {H' : VH}

theorem max_ok : ∀ {vs : List AV} {us : List Value} {v r : AV} {u : Value}, VR ρ v u → VRs ρ vs us → vminmax true v vs = some r → ∃ x, VR ρ r x ∧ (us.foldlM Builtin.max2 u).run P w = .ok x w
  | [], us, v, r, u, hv, hs, h => by
    simp only [vminmax, Option.some.injEq] at h
    subst h
    obtain rfl : us = [] := hs
    exact ⟨u, hv, by simp⟩
  | b :: vs, us, v, r, u, hv, ⟨u', us', e, h1, h2⟩, h => by
    subst e
    unfold vminmax at h
    split at h
    · rename_i e; cases e
    · rename_i k x k' y rest e
      obtain ⟨rfl, rfl⟩ := List.cons.inj e
      split at h
      · obtain rfl : u = _ := hv
        obtain rfl : u' = _ := h1
        obtain ⟨z, h3, h4⟩ := max_ok (u := .int k (if x < y then y else x)) (show VR ρ (.int k (if x < y then y else x)) _ from rfl) h2 (by simpa [ilt_eq] using h)
        exact ⟨z, h3, by simpa [Builtin.max2] using h4⟩
      · cases h
    · cases h
theorem min_ok : ∀ {vs : List AV} {us : List Value} {v r : AV} {u : Value}, VR ρ v u → VRs ρ vs us → vminmax false v vs = some r → ∃ x, VR ρ r x ∧ (us.foldlM Builtin.min2 u).run P w = .ok x w
  | [], us, v, r, u, hv, hs, h => by
    simp only [vminmax, Option.some.injEq] at h
    subst h
    obtain rfl : us = [] := hs
    exact ⟨u, hv, by simp⟩
  | b :: vs, us, v, r, u, hv, ⟨u', us', e, h1, h2⟩, h => by
    subst e
    unfold vminmax at h
    split at h
    · rename_i e; cases e
    · rename_i k x k' y rest e
      obtain ⟨rfl, rfl⟩ := List.cons.inj e
      split at h
      · obtain rfl : u = _ := hv
        obtain rfl : u' = _ := h1
        obtain ⟨z, h3, h4⟩ := min_ok (u := .int k (if y < x then y else x)) (show VR ρ (.int k (if y < x then y else x)) _ from rfl) h2 (by simpa [ilt_eq] using h)
        exact ⟨z, h3, by simpa [Builtin.min2] using h4⟩
      · cases h
    · cases h

abbrev BSim (P : Program) (ρ : Rho) (G : Nat → Prop) (w : World) (H : VH) (v : AV) (H' : VH) (s : Sem Value) : Prop :=
  ∃ u w' ρ', s.run P w = .ok u w' ∧ Post ρ ρ' (fun _ => False) w w' ∧ RelH ρ' G H' w' ∧ VR ρ' v u ∧ Hs H H'

include hT hH in
theorem sim_len {ts : List Nat} {x v : AV} {u : Value} {ty : Nat} (hx : VR ρ x u) (h : vlen T H ts x = some (v, H')) : BSim P ρ G w H v H' (Builtin.len_ ts.toArray ty #[u]) := by
  unfold vlen at h
  split at h
  · split at h
    · rename_i s hu
      simp only [Option.some.injEq, Prod.mk.injEq] at h
      obtain ⟨rfl, rfl⟩ := h
      obtain ⟨b, rfl, rfl⟩ := hx
      exact ⟨_, w, ρ, by simp [Builtin.len_, run_und hT hu]; rfl, .refl _ _ _, hH, rfl, .refl _⟩
    · rename_i e ad n c esz hu
      simp only [Option.some.injEq, Prod.mk.injEq] at h
      obtain ⟨rfl, rfl⟩ := h
      cases ad with
      | none => obtain ⟨rfl, rfl, _⟩ := hx; exact ⟨_, w, ρ, by simp [Builtin.len_, run_und hT hu]; rfl, .refl _ _ _, hH, rfl, .refl _⟩
      | some ad => obtain ⟨_, _, _, _, rfl, _⟩ := hx; exact ⟨_, w, ρ, by simp [Builtin.len_, run_und hT hu]; rfl, .refl _ _ _, hH, rfl, .refl _⟩
    · cases h
  · cases h
include hT hH in
theorem sim_cap {ts : List Nat} {x v : AV} {u : Value} {ty : Nat} (hx : VR ρ x u) (h : vcap T H ts x = some (v, H')) : BSim P ρ G w H v H' (Builtin.cap_ ts.toArray ty #[u]) := by
  unfold vcap at h
  split at h
  · split at h
    · rename_i e ad n c esz hu
      simp only [Option.some.injEq, Prod.mk.injEq] at h
      obtain ⟨rfl, rfl⟩ := h
      cases ad with
      | none =>
        obtain ⟨rfl, rfl, e3⟩ := hx
        obtain rfl := Option.some.inj e3
        exact ⟨_, w, ρ, by simp [Builtin.cap_, run_und hT hu]; rfl, .refl _ _ _, hH, rfl, .refl _⟩
      | some ad =>
        obtain ⟨_, _, rc, _, rfl, _, e3, _⟩ := hx
        obtain rfl := e3 _ rfl
        exact ⟨_, w, ρ, by simp [Builtin.cap_, run_und hT hu]; rfl, .refl _ _ _, hH, rfl, .refl _⟩
    · cases h
  · cases h

include hT hH in
theorem sim_clear {ts : List Nat} {x v : AV} {u : Value} {ty : Nat} (hx : VR ρ x u) (h : vclear T H ts x = some (v, H')) : BSim P ρ G w H v H' (Builtin.clear_ ts.toArray ty #[u]) := by
  unfold vclear at h
  split at h
  · split at h
    · rename_i n c esz e0 e1 e hu
      simp only [Option.some.injEq, Prod.mk.injEq] at h
      obtain ⟨rfl, rfl⟩ := h
      obtain ⟨rfl, _⟩ := hx
      exact ⟨.tuple #[], w, ρ, by simp [Builtin.clear_, run_und hT hu], .refl _ _ _, hH, ⟨#[], rfl, rfl⟩, .refl _⟩
    · rename_i elem b off len c esz hu
      obtain ⟨pl, ro, rc, k1, rfl, k3, k4, k5, k6⟩ := hx
      split at h
      · rename_i h0
        obtain rfl : len = 0 := Nat.eq_of_beq_eq_true h0
        simp only [Option.some.injEq, Prod.mk.injEq] at h
        obtain ⟨rfl, rfl⟩ := h
        exact ⟨.tuple #[], w, ρ, by simp [Builtin.clear_, run_und hT hu], .refl _ _ _, hH, ⟨#[], rfl, rfl⟩, .refl _⟩
      · rename_i h0
        split at h
        · rename_i z hz
          split at h
          · rename_i hc
            simp only [Bool.and_eq_true, Nat.blt_eq] at hc
            split at h
            · rename_i H1 hp
              simp only [Option.some.injEq, Prod.mk.injEq] at h
              obtain ⟨rfl, rfl⟩ := h
              have hl0 : len ≠ 0 := fun e => by rw [e] at h0; cases h0
              obtain rfl : ro = pl.base + off := k5 (by omega)
              obtain ⟨vz, hzr, _, hz1, hz2⟩ := run_zero hT hz w
              have hzs : vz.cells.size = z.cells.length := by have := (hz1 ρ).length; rw [Array.length_toList] at this; exact this
              have hze := zeros_eq vz.cells z.cells.length hzs hc.2 len
              have hv : VRs ρ (repl z.cells len) (Builtin.zeroCells vz.cells len).toList := by
                have : (Builtin.zeroCells vz.cells len).toList = List.flatten (List.replicate len vz.cells.toList) := by
                  rw [← hze, ← hzs]; rfl
                rw [this]
                exact repl_rel (hz1 ρ) _
              obtain ⟨m1, m2⟩ := run_puts (P := P) hH k1 hv hp
              refine ⟨.tuple #[], _, ρ, ?_, post_puts hH k1 hv hp, m2, ⟨#[], rfl, rfl⟩, .puts hp⟩
              simp [Builtin.clear_, run_und hT hu, hzr, m1]
            · cases h
          · cases h
        · cases h
    · cases h
  · cases h

include hT hH in
theorem sim_copy {ts : List Nat} {x y v : AV} {u1 u2 : Value} {ty : Nat} (hx : VR ρ x u1) (hy : VR ρ y u2) (h : vcopy T H ts x y = some (v, H')) : BSim P ρ G w H v H' (Builtin.copy_ ts.toArray ty #[u1, u2]) := by
  unfold vcopy at h
  split at h
  · split at h
    · rename_i elem hu
      split at h
      · rename_i sz n c esz m hs hm
        simp only [Option.some.injEq, Prod.mk.injEq] at h
        obtain ⟨rfl, rfl⟩ := h
        obtain ⟨rfl, rfl, _⟩ := hx
        have hl := lenOf_ok (P := P) hy hm w
        have hf := first_zero (P := P) (sz := sz) hy hm w
        exact ⟨.int .i64 0, w, ρ, by simp [Builtin.copy_, run_und hT hu, hl, run_size hT hs, hf, goInt], .refl _ _ _, hH, rfl, .refl _⟩
      · rename_i sz b off len c esz m hs hm
        split at h
        · rename_i cs hcs
          split at h
          · rename_i hone
            split at h
            · rename_i H1 hp
              simp only [Option.some.injEq, Prod.mk.injEq] at h
              obtain ⟨rfl, rfl⟩ := h
              obtain ⟨pl, ro, rc, k1, rfl, k3, k4, k5, k6⟩ := hx
              have hl := lenOf_ok (P := P) hy hm w
              obtain ⟨us, g1, g2, g3, g4⟩ := source_ok (P := P) hH hy hm (Nat.min_le_left m len) hcs
              have hmin : Nat.min m len = min m len := rfl
              by_cases h0 : min m len = 0
              · rw [h0, Nat.zero_mul] at g2
                obtain rfl := List.eq_nil_of_length_eq_zero g2
                have hcs0 : cs = [] := List.eq_nil_of_length_eq_zero (by rw [← g1.length]; rfl)
                subst hcs0
                simp only [VH.puts, Option.some.injEq] at hp
                subst hp
                have g4' := g4 w rfl
                refine ⟨_, w, ρ, ?_, .refl _ _ _, hH, rfl, .refl _⟩
                simp [Builtin.copy_, run_und hT hu, hl, run_size hT hs, hmin, g4', storeCells, goInt]
              · obtain rfl : ro = pl.base + off := k5 (by omega)
                obtain ⟨m1, m2⟩ := run_puts (P := P) hH k1 g1 hp
                have g4' := g4 w rfl
                refine ⟨_, _, ρ, ?_, post_puts hH k1 g1 hp, m2, rfl, .puts hp⟩
                simp [Builtin.copy_, run_und hT hu, hl, run_size hT hs, hmin, g4', m1, goInt]
            · cases h
          · cases h
        · cases h
      · cases h
    · cases h
  · cases h

include hT hH in
theorem sim_builtin {b : Builtin} {ts : Array TypeId} {cn : Array Bool} {ty : Nat} {args : List AV} {us : Array Value} {v : AV} (hv : VRs ρ args us.toList) (h : vbuiltin T H b ts.toList args = some (v, H')) :
    ∃ u w' ρ', (builtin b ts ty cn us).run P w = .ok (.value u) w' ∧ Post ρ ρ' (fun _ => False) w w' ∧ RelH ρ' G H' w' ∧ VR ρ' v u ∧ Hs H H' := by
  have one : ∀ {x : AV}, VRs ρ [x] us.toList → ∃ u, us = #[u] ∧ VR ρ x u := fun ⟨u, l, e, h1, h2⟩ => ⟨u, by apply Array.ext'; rw [e, show l = [] from h2], h1⟩
  have two : ∀ {x y : AV}, VRs ρ [x, y] us.toList → ∃ u v, us = #[u, v] ∧ VR ρ x u ∧ VR ρ y v := fun ⟨u, l, e, h1, v, l', e', h2, h3⟩ => ⟨u, v, by apply Array.ext'; rw [e, e', show l' = [] from h3], h1, h2⟩
  have fin : ∀ {s : Sem Value}, builtin b ts ty cn us = (do pure (.value (← s))) → BSim P ρ G w H v H' s → ∃ u w' ρ', (builtin b ts ty cn us).run P w = .ok (.value u) w' ∧ Post ρ ρ' (fun _ => False) w w' ∧ RelH ρ' G H' w' ∧ VR ρ' v u ∧ Hs H H' := by
    rintro s e ⟨u, w', ρ', h1, h2⟩
    exact ⟨u, w', ρ', by rw [e]; simp [h1], h2⟩
  have hts : ts = ts.toList.toArray := by simp
  unfold vbuiltin at h
  split at h
  · obtain ⟨u, rfl, h1⟩ := one hv
    have := sim_len (P := P) (ty := ty) hT hH h1 h
    rw [← hts] at this
    exact fin rfl this
  · obtain ⟨u, rfl, h1⟩ := one hv
    have := sim_cap (P := P) (ty := ty) hT hH h1 h
    rw [← hts] at this
    exact fin rfl this
  · obtain ⟨u, u', rfl, h1, h2⟩ := two hv
    have hl : ∃ st xt, ts = #[st, xt] := by
      unfold vappend at h
      split at h
      · rename_i st xt e
        exact ⟨st, xt, by rw [hts, e]⟩
      · cases h
    obtain ⟨st, xt, rfl⟩ := hl
    exact fin rfl (sim_append (P := P) (ty := ty) hT hH h1 h2 h)
  · obtain ⟨u, u', rfl, h1, h2⟩ := two hv
    have := sim_copy (P := P) (ty := ty) hT hH h1 h2 h
    rw [← hts] at this
    exact fin rfl this
  · rename_i x xs
    split at h
    · rename_i r0 hr
      simp only [Option.some.injEq, Prod.mk.injEq] at h
      obtain ⟨rfl, rfl⟩ := h
      obtain ⟨u, l, e, h1, h2⟩ := hv
      obtain ⟨z, h3, h4⟩ := min_ok (P := P) (w := w) h1 h2 hr
      exact fin rfl ⟨z, w, ρ, by simp [Builtin.min_, e, h4], .refl _ _ _, hH, h3, .refl _⟩
    · cases h
  · rename_i x xs
    split at h
    · rename_i r0 hr
      simp only [Option.some.injEq, Prod.mk.injEq] at h
      obtain ⟨rfl, rfl⟩ := h
      obtain ⟨u, l, e, h1, h2⟩ := hv
      obtain ⟨z, h3, h4⟩ := max_ok (P := P) (w := w) h1 h2 hr
      exact fin rfl ⟨z, w, ρ, by simp [Builtin.max_, e, h4], .refl _ _ _, hH, h3, .refl _⟩
    · cases h
  · obtain ⟨u, rfl, h1⟩ := one hv
    have := sim_clear (P := P) (ty := ty) hT hH h1 h
    rw [← hts] at this
    exact fin rfl this
  · cases h

include hT hF hH in
theorem sim_op (hn : n0 ≤ w.heap.size) (h : vop T promo o.dst o.op fr H = some (r, fr', H')) : Sim P o ρ G n0 lam fr a w H r fr' H' := by
  unfold vop at h
  split at h
  · exact sim_move hF hH (.inl ‹_›) h
  · exact sim_move hF hH (.inr ‹_›) h
  · exact sim_pick hF hH ‹_› h
  · exact sim_alloc hT hF hH hn ‹_› h
  · exact sim_box hF hH hn ‹_› h
  · exact sim_build hT hF hH ‹_› h
  · exact sim_buildSlice hT hF hH ‹_› h
  · exact sim_load hT hF hH ‹_› h
  · exact sim_store hT hF hH ‹_› h
  · exact sim_nil hF hH ‹_› h
  · exact sim_bin hT hF hH ‹_› h
  · exact sim_un hF hH ‹_› h
  · exact sim_conv hT hF hH ‹_› h
  · exact sim_iface hT hF hH ‹_› h
  · exact sim_func hF hH ‹_› h
  · exact sim_makeSlice hT hF hH ‹_› h
  · exact sim_slice hT hF hH ‹_› h
  · exact sim_fieldAddr hT hF hH ‹_› h
  · exact sim_field hT hF hH ‹_› h
  · exact sim_indexAddr hT hF hH ‹_› h
  · exact sim_index hT hF hH ‹_› h
  · exact sim_extract hF hH ‹_› h
  · cases h
end
end Go.Vm
