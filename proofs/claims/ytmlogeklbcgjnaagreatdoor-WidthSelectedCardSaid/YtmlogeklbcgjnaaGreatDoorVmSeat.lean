/- This program's tables for the abstract machine are the program's. -/
import Derived.Test.YtmlogeklbcgjnaaGreatDoorVmTab
import Derived.Test.YtmlogeklbcgjnaaGreatDoorVmTop
import Derived.Test.YtmlogeklbcgjnaaGreatDoorVmW
namespace Go.Vm.Tryz
set_option linter.unusedSimpArgs false
set_option linter.unusedVariables false
set_option linter.unusedSectionVars false
open Go.Proofs.Tryz
set_option maxRecDepth 100000
noncomputable def T : Tb := ⟨tys, fns, fun t => memB t eqs, fun g => memB g gls, lies⟩

noncomputable def fieldsOk (i : TypeInfo) : Bool :=
  match i.desc with
  | .struct fs => fs.toList.all fun f => Nat.blt f.type prog.types.size
  | _ => true
theorem fns_ok : T.fn.all fnOk = true := by decide +kernel
theorem tys_fields : T.ty.all fieldsOk = true := by decide +kernel
theorem tys_get (t : Nat) : T.ty.get t = prog.types.toList[t]? := by
  show tys.get t = _
  rw [tys_eq, Tr.get_ofList]
theorem info_of {t : Nat} {i : TypeInfo} (h : prog.types.toList[t]? = some i) : prog.info? t = some i := by
  have h' : prog.types[t]? = some i := by simpa using h
  have hlt := (Array.getElem?_eq_some_iff.1 h').1
  unfold Tables.info?
  rw [if_pos hlt]
  exact h'
theorem eqs_ok : eqs.all (fun t => !prog.stoodInHeld t && !prog.eqGuardType prog.depth t) = true := by decide +kernel
theorem lies_ok : lies.all (fun p => liesAt prog prog.depth p.1 1 p.2.1 p.2.2 1) = true := by decide +kernel
theorem liesB_mem : ∀ {l : List (Nat × Nat × Nat)} {e o u : Nat}, List.rec (motive := fun _ => Bool) false (fun p _ ih => match Nat.beq p.1 e && (Nat.beq p.2.1 o && Nat.beq p.2.2 u) with | true => true | false => ih) l = true → (e, o, u) ∈ l
  | [], _, _, _, h => by cases h
  | p :: l, e, o, u, h => by
    change (match Nat.beq p.1 e && (Nat.beq p.2.1 o && Nat.beq p.2.2 u) with | true => true | false => _) = true at h
    split at h
    · rename_i hc
      simp only [Bool.and_eq_true, Nat.beq_eq] at hc
      obtain ⟨h1, h2, h3⟩ := hc
      obtain ⟨p1, p2, p3⟩ := p
      simp only at h1 h2 h3
      subst h1 h2 h3
      exact List.mem_cons_self ..
    · exact List.mem_cons_of_mem _ (liesB_mem h)
theorem tab_ok : TabOk T prog where
  ty := fun t i h => by
    rw [tys_get] at h
    exact info_of h
  fn := fun f F h => by
    have : fns.get f = some F := h
    rw [fns_eq, Tr.get_ofList] at this
    simpa using this
  ok := fns_ok
  eq := fun t h => by
    have := List.all_eq_true.1 eqs_ok t (memB_mem h)
    simp only [Bool.and_eq_true, Bool.not_eq_true'] at this
    exact this
  mixed := by kernel_rfl
  lies := fun e o u h => List.all_eq_true.1 lies_ok (e, o, u) (liesB_mem (l := lies) h)
  fields := fun t fs h f hf => by
    have key : ∀ u i, T.ty.get u = some i → i.desc = .struct fs → ∃ i, prog.info? f.type = some i := by
      intro u i h1 hd
      have h2 := Tr.all_spec _ _ tys_fields u i h1
      unfold fieldsOk at h2
      rw [hd] at h2
      have h3 := List.all_eq_true.1 h2 f hf
      simp only [Nat.blt_eq] at h3
      exact ⟨prog.types[f.type], info_of (by simp [h3])⟩
    unfold Tb.und at h
    split at h
    · rename_i i hi
      split at h
      · split at h
        · rename_i j hj
          exact key _ j hj (Option.some.inj h)
        · cases h
      · exact key t i hi (Option.some.inj h)
    · cases h
end Go.Vm.Tryz
