/- The abstract machine's calls against the model's: the whole. -/
import Derived.Test.YtieocmaaloaoaaaDoorVmDraw2
namespace Go.Vm
set_option linter.unusedSimpArgs false
set_option linter.unusedVariables false
set_option linter.unusedSectionVars false

/-- What is asked of the program's regions that draw their order. -/
def DrawsOk (T : Tb) : Prop := ∀ f F c, T.fn.get f = some F → F.body = some c → codeOk c = true

theorem calls_ok {T : Tb} {P : Program} (hT : TbOk T P) {ext : Nat → Option (List AV → Option AV)} (hX : ExtOk P ext) {promo : Nat → Nat → Bool} (hD : DrawsOk T) : ∀ n, CallsOk P T (vcall T ext promo n)
  | 0 => fun f vals H v H' h => by cases h
  | n + 1 => by
    have ih := calls_ok (promo := promo) hT hX hD n
    intro f vals H v H' h ρ G w args hH hv hg
    change callStep T ext promo n (vcall T ext promo n) f vals H = some (v, H') at h
    unfold callStep at h
    split at h
    · rename_i g he
      split at h
      · rename_i x hx
        simp only [Option.some.injEq, Prod.mk.injEq] at h
        obtain ⟨rfl, rfl⟩ := h
        have := hX f g vals x he hx ρ w args hv
        have mono : ∀ u w', (Post ρ ρ (fun _ => False) w w' ∧ (∀ b pl, ρ b = some pl → pl.rb < w.heap.size → w'.heap[pl.rb]? = w.heap[pl.rb]?) ∧ VR ρ x u) → ∃ ρ', Post ρ ρ' (fun _ => False) w w' ∧ RelH ρ' G H w' ∧ VR ρ' x u ∧ Hs H H :=
          fun u w' ⟨h1, h2, h3⟩ => ⟨ρ, h1, hH.grown h1.size fun b pl hb => h2 b pl hb (hH.has b pl hb).2.1, h3, .refl _⟩
        unfold Answers at *
        split at this
        · exact Calls.mono this fun e w2 he => by
            cases e with
            | returned u => exact mono _ _ he
            | panicked ch => exact he
            | outgrown => exact he
        · exact mono _ _ this
        · exact this
      · cases h
    · split at h
      · cases h
      · rename_i fn hfn
        split at h
        · cases h
        · rename_i c hc
          split at h
          · rename_i hle
            have hle' := Nat.le_of_ble_eq_true hle
            have hf := hT.fn f fn hfn
            have hnm := hT.named f fn hfn
            have hrun : (callFunc f args).run P w = .ok (.enter f args) w := by
              simp only [callFunc, Sem.run_bind, run_program, Result.andThen, hf, hnm, hc, Option.isNone_some, Bool.false_eq_true, if_false, Sem.run_pure]
            unfold Answers
            rw [hrun]
            simp only
            refine calls_of_wp hf hc ?_
            have hI : Inv T ρ w { H with low := H.next } G w.heap.size (enterFr T.gl fn.ntmps vals) { H with low := H.next } { tmps := args ++ Array.replicate (fn.ntmps - args.size) undef, defers := [] } w ρ (fun _ => none) :=
              ⟨.refl _ _ _, enter_frame hv hle' hg, hH.low _, .refl _, rfl, Nat.le_refl _, hg⟩
            have hcode := code_ok (promo := promo f) hT ih n c (codeOk_spec hT ih (vcall_hs T ext promo n) c (hD f fn c hfn hc))
            have fin : ∀ fr' H1 a' w' ρ' lam', callStep.retStep T fn fr' H H1 = some (v, H') → Inv T ρ w { H with low := H.next } G w.heap.size fr' H1 a' w' ρ' lam' →
                a'.defers = [] ∧ ∃ u, (results fn a'.tmps).run P w' = .ok u w' ∧ ∃ ρ', Post ρ ρ' (fun _ => False) w w' ∧ RelH ρ' G H' w' ∧ VR ρ' v u ∧ Hs H H' := by
              intro fr' H1 a' w' ρ' lam' hr hI'
              unfold callStep.retStep at hr
              split at hr
              · rename_i vs hvs
                simp only [Option.some.injEq, Prod.mk.injEq] at hr
                obtain ⟨rfl, rfl⟩ := hr
                obtain ⟨u, h1, h2⟩ := results_ok (P := P) hT hI'.frame hI'.mem fn hvs
                exact ⟨hI'.defers, u, h1, leave_ok hH hI'.heap hI'.post hI'.mem h2⟩
              · cases hr
            split at h
            · rename_i fr' H1 hr
              exact hcode _ _ _ _ _ _ _ _ _ _ _ _ _ _ _ hr hI fun a' w' ρ' lam' hI' => fin _ _ _ _ _ _ h hI'
            · rename_i fr' H1 hr
              exact hcode _ _ _ _ _ _ _ _ _ _ _ _ _ _ _ hr hI fun a' w' ρ' lam' hI' => fin _ _ _ _ _ _ h hI'
            · cases h
          · cases h

/-! ## Checks of tables -/
namespace Tr
variable {α : Type}
def optAll (p : α → Bool) : Option α → Bool
  | some x => p x
  | none => true
noncomputable def all (p : α → Bool) (t : Tr α) : Bool :=
  Tr.rec (motive := fun _ => Bool) true (fun _ v _ l r => optAll p v && (l && r)) t
theorem all_spec (p : α → Bool) : ∀ (t : Tr α), all p t = true → ∀ k x, t.get k = some x → p x = true
  | .leaf, _, k, x, h => by rw [get_leaf] at h; cases h
  | .node l v r, ha, k, x, h => by
    have ha' : (optAll p v && (all p l && all p r)) = true := ha
    simp only [Bool.and_eq_true] at ha'
    cases k with
    | zero =>
      rw [get_node_zero] at h
      subst h
      exact ha'.1
    | succ k =>
      rw [get_node_succ] at h
      split at h
      · exact all_spec p l ha'.2.1 _ x h
      · exact all_spec p r ha'.2.2 _ x h
end Tr
noncomputable def fnOk (F : Func) : Bool :=
  !(F.name == "runtime.NumGoroutine") && (match F.body with | some c => codeOk c | none => true)

/-- A table of types, held against the program's. -/
structure TabOk (T : Tb) (P : Program) : Prop where
  ty : ∀ t i, T.ty.get t = some i → P.info? t = some i
  fn : ∀ f F, T.fn.get f = some F → P.funcs[f]? = some F
  ok : T.fn.all fnOk = true
  eq : ∀ t, T.eqOk t = true → P.stoodInHeld t = false ∧ P.eqGuardType P.depth t = false
  mixed : P.follows .mixedOrders = true
  fields : ∀ t fs, T.und t = some (.struct fs) → ∀ f ∈ fs.toList, ∃ i, P.info? f.type = some i
theorem TabOk.tb {T : Tb} {P : Program} (h : TabOk T P) : TbOk T P where
  ty := h.ty
  fn := h.fn
  named := fun f F hf => by
    have := Tr.all_spec _ _ h.ok f F hf
    simp only [fnOk, Bool.and_eq_true, Bool.not_eq_true'] at this
    exact this.1
  eq := h.eq
  mixed := h.mixed
  fields := h.fields
theorem TabOk.draws {T : Tb} {P : Program} (h : TabOk T P) : DrawsOk T := fun f F c hf hc => by
  have := Tr.all_spec _ _ h.ok f F hf
  simp only [fnOk, hc, Bool.and_eq_true] at this
  exact this.2

/-- The empty heap. -/
def VH.empty (n : Nat) : VH := ⟨n, .leaf, .leaf, n⟩
theorem empty_rel (n : Nat) (w : World) : RelH (fun _ => none) (fun _ => False) (VH.empty n) w :=
  ⟨fun _ _ h => (by cases h), fun _ h => h.elim, fun _ _ _ h => (by cases h), fun _ _ _ _ _ h => (by cases h), fun b r h => (by simp [VH.row?, VH.get, VH.empty, Tr.get_leaf] at h), fun l g h => (by simp [VH.empty, Tr.get_leaf] at h), fun b x h => (by simp [VH.get, VH.empty, Tr.get_leaf] at h)⟩

/-- A call on values that hold no place, of a function that reads no variable of the program. -/
theorem run_ok {T : Tb} {P : Program} (h : TabOk T P) {ext : Nat → Option (List AV → Option AV)} (hX : ExtOk P ext) {promo : Nat → Nat → Bool} (hg : ∀ g, T.gl g = false) {n m f : Nat} {vals : List AV} {v : AV} {H' : VH}
    (hr : vcall T ext promo n f vals (VH.empty m) = some (v, H')) (hf : flat v = true) (w : World) {args : Array Value} (hv : VRs (fun _ => none) vals args.toList) :
    Answers P f args w fun u w' => VR (fun _ => none) v u ∧ w'.os = w.os ∧ w'.tape = w.tape ∧ w'.output = w.output ∧ w.heap.size ≤ w'.heap.size ∧ ∀ k, k < w.heap.size → w'.heap[k]? = w.heap[k]? := by
  have := calls_ok h.tb hX h.draws n f vals _ v H' hr (fun _ => none) (fun _ => False) w args (empty_rel m w) hv (fun g e => by rw [hg] at e; cases e)
  have mono : ∀ u w', (∃ ρ', Post (fun _ => none) ρ' (fun _ => False) w w' ∧ RelH ρ' (fun _ => False) H' w' ∧ VR ρ' v u ∧ Hs (VH.empty m) H') → VR (fun _ => none) v u ∧ w'.os = w.os ∧ w'.tape = w.tape ∧ w'.output = w.output ∧ w.heap.size ≤ w'.heap.size ∧ ∀ k, k < w.heap.size → w'.heap[k]? = w.heap[k]? :=
    fun u w' ⟨ρ', h1, _, h3, _⟩ => ⟨flat_rel v u hf h3, h1.os, h1.tape, h1.output, h1.size, fun k hk => h1.frame k hk (fun _ _ e => by cases e) (fun e => e)⟩
  unfold Answers at *
  split at this
  · exact Calls.mono this fun e w2 he => by
      cases e with
      | returned u => exact mono _ _ he
      | panicked ch => exact he
      | outgrown => exact he
  · exact mono _ _ this
  · exact this
end Go.Vm
