/- The abstract machine's calls against the model's. -/
import Derived.Test.YtieocmaaloaoaaaDoorVmCode
namespace Go.Vm
set_option linter.unusedSimpArgs false
set_option linter.unusedVariables false
set_option linter.unusedSectionVars false

/-- What is asked of the functions that another text stands for. -/
def ExtOk (P : Program) (ext : Nat → Option (List AV → Option AV)) : Prop :=
  ∀ f g vals v, ext f = some g → g vals = some v → ∀ (ρ : Rho) (w : World) (args : Array Value), VRs ρ vals args.toList →
    Answers P f args w fun u w' => Post ρ ρ (fun _ => False) w w' ∧ (∀ b pl, ρ b = some pl → pl.rb < w.heap.size → w'.heap[pl.rb]? = w.heap[pl.rb]?) ∧ VR ρ v u

section
variable {T : Tb} {P : Program} (hT : TbOk T P)

/-- One result of a function. -/
def resultOf (tmps : Array Value) : ResultVar → Sem Value
  | .tmp t => pure (tmps.getD t undef)
  | .cell a t => do loadVar t (← asAddr (tmps.getD a undef))

include hT in
theorem results_rel {ρ : Rho} {G : Nat → Prop} {n0 : Nat} {lam : Nat → Option Nat} {fr : Fr} {a : Act} {w : World} {H : VH} (hF : RelF ρ G n0 lam fr a.tmps w) (hH : RelH ρ G H w) :
    ∀ {rs : List ResultVar} {vs : List AV}, vresults T fr H rs = some vs → ∃ us : List Value, VRs ρ vs us ∧ (rs.mapM (resultOf a.tmps)).run P w = .ok us w
  | [], vs, h => by
    simp only [vresults, Option.some.injEq] at h
    subst h
    exact ⟨[], rfl, by simp⟩
  | .tmp t :: rs, vs, h => by
    simp only [vresults] at h
    split at h
    · rename_i x xs hx hxs
      obtain rfl := Option.some.inj h
      obtain ⟨us, h1, h2⟩ := results_rel hF hH hxs
      exact ⟨_, ⟨_, us, rfl, eva_rel hF hx, h1⟩, by simp [resultOf, h2, Act.eval]⟩
    · cases h
  | .cell t ty :: rs, vs, h => by
    simp only [vresults] at h
    split at h
    · rename_i r hr
      split at h
      · rename_i x xs hx hxs
        obtain rfl := Option.some.inj h
        obtain ⟨us, h1, h2⟩ := results_rel hF hH hxs
        obtain ⟨ad, u, e1, e2, e3⟩ := vload_sim (P := P) hT hF hH (ev_rel hF hr) hx
        have e1' : a.tmps.getD t undef = .pointer (some ad) := e1
        exact ⟨_, ⟨u, us, rfl, e3, h1⟩, by simp [resultOf, h2, e1', e2, asAddr]⟩
      · cases h
    · cases h

include hT in
theorem results_ok {ρ : Rho} {G : Nat → Prop} {n0 : Nat} {lam : Nat → Option Nat} {fr : Fr} {a : Act} {w : World} {H : VH} (hF : RelF ρ G n0 lam fr a.tmps w) (hH : RelH ρ G H w) (fn : Func) {vs : List AV} (h : vresults T fr H fn.results.toList = some vs) :
    ∃ u, (results fn a.tmps).run P w = .ok u w ∧ VR ρ (oneOf vs) u := by
  obtain ⟨us, h1, h2⟩ := results_rel (P := P) hT hF hH h
  have hm : (fn.results.mapM (resultOf a.tmps)).run P w = .ok us.toArray w := by
    rw [Array.mapM_eq_mapM_toList]
    simp [h2]
  have he : results fn a.tmps = (do let vs ← fn.results.mapM (resultOf a.tmps); pure (if h : vs.size = 1 then vs[0] else .tuple vs)) := by
    unfold results
    congr 1
  rw [he]
  simp only [Sem.run_bind, hm, Result.andThen, Sem.run_pure]
  refine ⟨_, rfl, ?_⟩
  unfold oneOf
  split
  · obtain ⟨u, l, e, h3, h4⟩ := h1
    obtain rfl : l = [] := h4
    subst e
    exact h3
  · rename_i hne
    have hl := h1.length
    have : us.toArray.size ≠ 1 := by
      intro e
      have e' : vs.length = 1 := by rw [← hl]; simpa using e
      match vs, e' with
      | [x], _ => exact hne x rfl
    rw [dif_neg this]
    exact ⟨_, rfl, by simpa using h1⟩

theorem enter_frame {ρ : Rho} {G : Nat → Prop} {w : World} {args : List AV} {us : Array Value} {nt : Nat} (hv : VRs ρ args us.toList) (hl : args.length ≤ nt) (hg : Globs T ρ) :
    RelF ρ G w.heap.size (fun _ => none) (enterFr T.gl nt args) (us ++ Array.replicate (nt - us.size) undef) w := by
  have hs : us.size = args.length := by have := hv.length; rwa [Array.length_toList] at this
  have hget : ∀ t, (enterFr T.gl nt args).regs.get t = (args[t]?).map .v := fun t => by
    show (Tr.ofListFrom (Tr.room nt) 0 (args.map RV.v)).get t = _
    rw [Tr.get_ofListFrom, Tr.get_room]
    split
    · rw [List.getElem?_map]; rfl
    · rename_i h
      rw [List.getElem?_eq_none (by simp at h; omega)]; rfl
  refine ⟨by show _ = nt; simp [hs]; omega, fun t ht => ?_, fun t ht => ?_, fun g h => hg g h, ⟨fun d c h => ?_, fun d d' c c' h => ?_, fun t d ep off h => ?_⟩⟩
  · rw [hget]
    cases ha : args[t]? with
    | none => exact trivial
    | some x =>
      obtain ⟨u, h1, h2⟩ := hv.get ha
      have hlt : t < us.size := by rw [hs]; exact (List.getElem?_eq_some_iff.1 ha).1
      have e : (us ++ Array.replicate (nt - us.size) undef).getD t undef = u := by
        rw [Array.getElem?_toList] at h1
        have h4 : us[t] = u := by rw [Array.getElem?_eq_getElem hlt] at h1; exact Option.some.inj h1
        simp [Array.getD_eq_getD_getElem?, Array.getElem?_append, hlt, h4]
      rw [e]
      exact h2
  · rw [hget]
    have : nt ≤ t := ht
    rw [List.getElem?_eq_none (by omega)]
    rfl
  · have : (Tr.leaf : Tr LC).get d = some c := h
    cases this
  · have : (Tr.leaf : Tr LC).get d = some c := h
    cases this
  · rw [hget] at h
    cases ha : args[t]? with
    | none => rw [ha] at h; cases h
    | some x => rw [ha] at h; cases h

end
end Go.Vm
