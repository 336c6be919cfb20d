/- More of the abstract machine's operations against the model's. -/
import Derived.Test.YtieocmaaloaoaaaDoorVmSim
namespace Go.Vm
set_option linter.unusedSimpArgs false
set_option linter.unusedVariables false
set_option linter.unusedSectionVars false

theorem run_mapM {α β : Type} {P : Program} {w : World} (f : α → Sem β) (g : α → β) : ∀ (xs : List α), (∀ x ∈ xs, (f x).run P w = .ok (g x) w) → (xs.mapM f).run P w = .ok (xs.map g) w
  | [], _ => by simp
  | x :: xs, h => by
    simp only [List.mapM_cons, Sem.run_bind, h x (List.mem_cons_self ..), Result.andThen, run_mapM f g xs fun y hy => h y (List.mem_cons_of_mem _ hy), Sem.run_pure, List.map_cons]
theorem run_mapM_arr {α β : Type} {P : Program} {w : World} (f : α → Sem β) (g : α → β) (xs : Array α) (h : ∀ x ∈ xs.toList, (f x).run P w = .ok (g x) w) : (xs.mapM f).run P w = .ok (xs.map g) w := by
  rw [Array.mapM_eq_mapM_toList, Sem.run_map, run_mapM f g xs.toList h]
  simp only [Result.andThen]
  congr 1
  apply Array.ext'
  simp

theorem foldl_set (off : Nat) : ∀ (l : List Value) (k : Nat) (cs : Array Value), off + k + l.length ≤ cs.size →
    ((l.zipIdx k).foldl (fun (cs : Array Value) (x : Value × Nat) => cs.setIfInBounds (off + x.2) x.1) cs).toList = cs.toList.take (off + k) ++ l ++ cs.toList.drop (off + k + l.length)
  | [], k, cs, _ => by simp
  | v :: l, k, cs, h => by
    simp only [List.length_cons] at h
    rw [List.zipIdx_cons, List.foldl_cons, foldl_set off l (k + 1) _ (by simp; omega)]
    apply List.ext_getElem?
    intro i
    simp only [Array.toList_setIfInBounds, List.length_cons]
    have hsz : cs.toList.length = cs.size := Array.length_toList
    simp only [List.getElem?_append, List.getElem?_take, List.getElem?_drop, List.length_take, List.length_append, List.length_set, List.getElem?_set, hsz, List.length_cons]
    by_cases h1 : i < off + k
    · have e1 : i < min (off + (k + 1)) cs.size + l.length := by omega
      have e2 : i < min (off + (k + 1)) cs.size := by omega
      have e3 : i < off + (k + 1) := by omega
      have e4 : ¬ off + k = i := by omega
      have e5 : i < min (off + k) cs.size + (l.length + 1) := by omega
      have e6 : i < min (off + k) cs.size := by omega
      simp only [e1, e2, e3, e4, e5, e6, h1, if_true, if_false]
    · by_cases h2 : i = off + k
      · subst h2
        have e1 : off + k < min (off + (k + 1)) cs.size + l.length := by omega
        have e2 : off + k < min (off + (k + 1)) cs.size := by omega
        have e3 : off + k < off + (k + 1) := by omega
        have e5 : off + k < min (off + k) cs.size + (l.length + 1) := by omega
        have e6 : ¬ off + k < min (off + k) cs.size := by omega
        have e7 : off + k - min (off + k) cs.size = 0 := by omega
        have e8 : off + k < cs.size := by omega
        simp only [e1, e2, e3, e5, e6, e7, e8, if_true, if_false, List.getElem?_cons_zero]
      · by_cases h3 : i < off + k + (l.length + 1)
        · have e1 : i < min (off + (k + 1)) cs.size + l.length := by omega
          have e2 : ¬ i < min (off + (k + 1)) cs.size := by omega
          have e5 : i < min (off + k) cs.size + (l.length + 1) := by omega
          have e6 : ¬ i < min (off + k) cs.size := by omega
          have e7 : i - min (off + k) cs.size = (i - min (off + (k + 1)) cs.size) + 1 := by omega
          simp only [e1, e2, e5, e6, e7, if_true, if_false, List.getElem?_cons_succ]
        · have e1 : ¬ i < min (off + (k + 1)) cs.size + l.length := by omega
          have e5 : ¬ i < min (off + k) cs.size + (l.length + 1) := by omega
          have e8 : ¬ off + k = off + (k + 1) + l.length + (i - (min (off + (k + 1)) cs.size + l.length)) := by omega
          have e9 : off + (k + 1) + l.length + (i - (min (off + (k + 1)) cs.size + l.length)) = off + k + (l.length + 1) + (i - (min (off + k) cs.size + (l.length + 1))) := by omega
          simp only [e1, e5, e8, if_false]
          rw [e9]

/-- Parts of a value. -/
def PartsR (ρ : Rho) : List (Nat × AV) → List (Nat × Value) → Prop
  | [], vs => vs = []
  | (i, a) :: as, vs => ∃ u us, vs = (i, u) :: us ∧ VR ρ a u ∧ PartsR ρ as us
section
variable {ρ : Rho} {G : Nat → Prop} {n0 : Nat} {lam : Nat → Option Nat} {fr : Fr} {a : Act} {w : World}
theorem parts_rel (h : RelF ρ G n0 lam fr a.tmps w) : ∀ {ps : List (Nat × Operand)} {as : List (Nat × AV)}, parts fr ps = some as → PartsR ρ as (ps.map fun p => (p.1, a.eval p.2))
  | [], as, e => by
    simp only [parts, Option.some.injEq] at e
    subst e
    rfl
  | (i, x) :: ps, as, e => by
    simp only [parts] at e
    split at e
    · rename_i b bs h1 h2
      obtain rfl := Option.some.inj e
      exact ⟨_, _, rfl, eva_rel h h1, parts_rel h h2⟩
    · cases e

theorem fill_rel {place place' : Nat → Option (Nat × Nat)} (hp : ∀ i x, place i = some x → place' i = some x) : ∀ {ps : List (Nat × AV)} {vs : List (Nat × Value)} {cells cs : List AV} {vc : Array Value},
    PartsR ρ ps vs → VRs ρ cells vc.toList → (∀ u ∈ vc.toList, u.oneCell' = true) → vfill place cells ps = some cs →
    ∃ vc', Instr.fill place' vc vs = some vc' ∧ VRs ρ cs vc'.toList ∧ (∀ u ∈ vc'.toList, u.oneCell' = true)
  | [], vs, cells, cs, vc, h, hc, ho, e => by
    rw [show vs = [] from h]
    simp only [vfill, Option.some.injEq] at e
    subst e
    exact ⟨vc, rfl, hc, ho⟩
  | (i, x) :: ps, vs, cells, cs, vc, ⟨u, us, e1, hu, hus⟩, hc, ho, e => by
    subst e1
    simp only [vfill] at e
    split at e
    · cases e
    · rename_i off size hpl
      split at e
      · rename_i hcond
        simp only [Bool.and_eq_true, beq_iff_eq] at hcond
        have hle := Nat.le_of_ble_eq_true hcond.1.2
        have hxc := hu.cells hcond.2
        have hxl := hxc.length
        have hcl := hc.length
        rw [Array.length_toList] at hxl hcl
        have hf : (u.cells.zipIdx.foldl (fun (cs : Array Value) (y : Value × Nat) => cs.setIfInBounds (off + y.2) y.1) vc).toList = vc.toList.take off ++ u.cells.toList ++ vc.toList.drop (off + size) := by
          have := foldl_set off u.cells.toList 0 vc (by rw [Array.length_toList]; omega)
          rw [Array.length_toList, hxl, hcond.1.1] at this
          rw [← Array.foldl_toList, Array.toList_zipIdx]
          simpa using this
        obtain ⟨vc', g1, g2, g3⟩ := fill_rel hp (vc := u.cells.zipIdx.foldl (fun (cs : Array Value) (y : Value × Nat) => cs.setIfInBounds (off + y.2) y.1) vc) hus (by rw [hf]; exact ((hc.take off).append hxc).append (hc.drop _))
          (fun y hy => by
            rw [hf] at hy
            rcases List.mem_append.1 hy with hy | hy
            · rcases List.mem_append.1 hy with hy | hy
              · exact ho y (List.mem_of_mem_take hy)
              · exact hxc.one hcond.2 y hy
            · exact ho y (List.mem_of_mem_drop hy)) e
        refine ⟨vc', ?_, g2, g3⟩
        have c1 : ¬ ((decide (u.cells.size ≠ size) || decide (off + u.cells.size > vc.size)) = true) := by
          simp only [Bool.or_eq_true, decide_eq_true_eq]
          omega
        simp only [Instr.fill, hp i _ hpl, c1, if_false]
        exact g1
      · cases e

variable {T : Tb} {P : Program} (hT : TbOk T P) {H : VH} (hF : RelF ρ G n0 lam fr a.tmps w) (hH : RelH ρ G H w) {o : Oper} {promo : Nat → Bool} {r : RV} {fr' : Fr} {H' : VH}

theorem outV_spec {x : Option AV} (h : outV fr H x = some (r, fr', H')) : ∃ v, x = some v ∧ r = .v v ∧ fr' = fr ∧ H' = H := by
  unfold outV at h
  split at h
  · simp only [Option.some.injEq, Prod.mk.injEq] at h
    exact ⟨_, rfl, h.1.symm, h.2.1.symm, h.2.2.symm⟩
  · cases h
theorem outR_spec {x : Option RV} (h : outR fr H x = some (r, fr', H')) : x = some r ∧ fr' = fr ∧ H' = H := by
  unfold outR at h
  split at h
  · simp only [Option.some.injEq, Prod.mk.injEq] at h
    exact ⟨by rw [h.1], h.2.1.symm, h.2.2.symm⟩
  · cases h
theorem outH_spec {x : Option (AV × VH)} (h : outH fr x = some (r, fr', H')) : ∃ v, x = some (v, H') ∧ r = .v v ∧ fr' = fr := by
  unfold outH at h
  split at h
  · simp only [Option.some.injEq, Prod.mk.injEq] at h
    exact ⟨_, by rw [h.2.2], h.1.symm, h.2.1.symm⟩
  · cases h

include hT hF hH in
theorem sim_build {t : Nat} {ps : Array (Nat × Operand)} (ho : o.op = .build t ps) (h : outV fr H (vbuild T fr t ps.toList) = some (r, fr', H')) : Sim P o ρ G n0 lam fr a w H r fr' H' := by
  obtain ⟨v, hv, rfl, rfl, rfl⟩ := outV_spec h
  unfold vbuild at hv
  split at hv
  · rename_i z as hz has
    obtain ⟨vz, hzr, _, hz1, hz2⟩ := run_zero hT hz w
    have hpr := parts_rel hF has
    have hps : (ps.map fun (x : Nat × Operand) => (x.1, a.eval x.2)).toList = ps.toList.map fun p => (p.1, a.eval p.2) := by simp
    split at hv
    · rename_i fields hu
      simp only [Option.map_eq_some_iff] at hv
      obtain ⟨cs, hf, rfl⟩ := hv
      have hplaces : (fields.mapM fun f => (do pure (f.offset, ← sizeOf f.type) : Sem (Nat × Nat))).run P w = .ok (fields.map fun f => (f.offset, P.cellsOf f.type)) w :=
        run_mapM_arr _ (fun (f : Field) => (f.offset, P.cellsOf f.type)) _ fun f hf => by
          obtain ⟨j, hj⟩ := hT.fields t fields hu f hf
          simp [sizeOf, typeInfo, hj, Program.cellsOf]
      obtain ⟨vc', g1, g2, g3⟩ := fill_rel (place' := fun i => (fields.map fun f => (f.offset, P.cellsOf f.type))[i]?) (fun i x hx => by
        split at hx
        · rename_i f hfd
          simp only [Option.map_eq_some_iff] at hx
          obtain ⟨s, hs, rfl⟩ := hx
          have hs' : P.cellsOf f.type = s := by
            unfold sizeOfT at hs
            cases hi : T.info f.type with
            | none => rw [hi] at hs; cases hs
            | some q =>
              rw [hi] at hs
              obtain rfl := Option.some.inj hs
              simp [Program.cellsOf, hT.ty _ _ hi]
          simp [hfd, hs']
        · cases hx) hpr (hz1 ρ) hz2 hf
      refine ⟨.agg vc', w, ρ, lam, .value ?_, .quietA hF hH ⟨vc', rfl, g2, g3⟩⟩
      simp only [execOp, ho, Instr.build, Sem.run_bind, hzr, Result.andThen, run_und hT hu w, hplaces, hps, g1, Sem.run_pure]
    · rename_i n elem hu
      split at hv
      · rename_i s hs
        simp only [Option.map_eq_some_iff] at hv
        obtain ⟨cs, hf, rfl⟩ := hv
        obtain ⟨vc', g1, g2, g3⟩ := fill_rel (place' := fun i => some (i * s, s)) (fun i x hx => hx) hpr (hz1 ρ) hz2 hf
        refine ⟨.agg vc', w, ρ, lam, .value ?_, .quietA hF hH ⟨vc', rfl, g2, g3⟩⟩
        simp only [execOp, ho, Instr.build, Sem.run_bind, hzr, Result.andThen, run_und hT hu w, run_size hT hs w, hps, g1, Sem.run_pure]
      · cases hv
    · cases hv
  · cases hv
end
end Go.Vm
