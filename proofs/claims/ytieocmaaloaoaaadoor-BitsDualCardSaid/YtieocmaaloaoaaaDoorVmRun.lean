/- The abstract machine's regions, code and calls against the model's. -/
import Derived.Test.YtieocmaaloaoaaaDoorVmSim7
import Derived.LoopN
import Derived.Orders
namespace Go.Vm
set_option linter.unusedSimpArgs false
set_option linter.unusedVariables false
set_option linter.unusedSectionVars false

/-- What a call answers, of a function with a body or of one without. -/
def Answers (P : Program) (f : FuncId) (args : Array Value) (w : World) (R : Value → World → Prop) : Prop :=
  match (callFunc f args).run P w with
  | .ok (.enter f' args') w' => Calls P f' args' w' fun
    | .returned v, w'' => R v w''
    | _, _ => False
  | .ok (.value v) w' => R v w'
  | _ => False

def Globs (T : Tb) (ρ : Rho) : Prop := ∀ g, T.gl g = true → ∃ s q, ρ g = some ⟨g, 0, s, q⟩
theorem Globs.mono {T : Tb} {ρ ρ' : Rho} (h : Globs T ρ) (hr : ρ.le ρ') : Globs T ρ' := fun g hg => let ⟨s, q, hs⟩ := h g hg; ⟨s, q, hr _ _ hs⟩

def CallsOk (P : Program) (T : Tb) (callF : Nat → List AV → VH → Option (AV × VH)) : Prop :=
  ∀ f vals H v H', callF f vals H = some (v, H') → ∀ ρ G w (args : Array Value), RelH ρ G H w → VRs ρ vals args.toList → Globs T ρ →
    Answers P f args w fun u w' => ∃ ρ', Post ρ ρ' (fun _ => False) w w' ∧ RelH ρ' G H' w' ∧ VR ρ' v u ∧ Hs H H'

/-- A temporary gets its value. -/
theorem RelF.put {ρ : Rho} {G : Nat → Prop} {n0 : Nat} {lam : Nat → Option Nat} {fr : Fr} {a : Act} {w : World} (h : RelF ρ G n0 lam fr a.tmps w) (d : Option Nat) {r : RV} {u : Value} (hv : RVR ρ lam fr.loc r u)
    (hf : ∀ d ep off, r = .loc d ep off → fr.old d ep) : RelF ρ G n0 lam (fr.put d r) (a.put d u).tmps w := by
  cases d with
  | none => exact h
  | some d =>
    unfold Fr.put Act.put
    simp only
    split
    · rename_i hlt
      simp only [Nat.blt_eq] at hlt
      have hget : ∀ t, (fr.regs.set d r).get t = if t = d then some r else fr.regs.get t := fun t => Tr.get_set _ _ _ _
      refine ⟨by simpa using h.size, fun t ht => ?_, fun t ht => ?_, h.glob, ⟨h.loc.box, h.loc.inj, fun t k ep off ht => ?_⟩⟩
      · show RVR _ _ _ (((fr.regs.set d r).get t).getD _) ((a.tmps.setIfInBounds d u).getD t undef)
        rw [hget]
        by_cases e : t = d
        · subst e
          rw [if_pos rfl]
          have : (a.tmps.setIfInBounds t u).getD t undef = u := by
            simp [Array.getD_eq_getD_getElem?, Array.getElem?_setIfInBounds, h.size, hlt]
          rw [this]
          exact hv
        · rw [if_neg e]
          have : (a.tmps.setIfInBounds d u).getD t undef = a.tmps.getD t undef := by
            simp [Array.getD_eq_getD_getElem?, Array.getElem?_setIfInBounds, Ne.symm e]
          rw [this]
          exact h.regs t ht
      · show (fr.regs.set d r).get t = none
        rw [hget, if_neg (by have : fr.nt ≤ t := ht; omega)]
        exact h.over t ht
      · have ht' : (fr.regs.set d r).get t = some (.loc k ep off) := ht
        rw [hget] at ht'
        split at ht'
        · obtain rfl := Option.some.inj ht'
          exact hf _ _ _ rfl
        · exact h.loc.stale t k ep off ht'
    · rename_i hlt
      have hge : fr.nt ≤ d := by
        rw [blt_eq] at hlt
        simpa using hlt
      have : a.tmps.setIfInBounds d u = a.tmps := Array.setIfInBounds_eq_of_size_le (by rw [h.size]; exact hge)
      show RelF ρ G n0 lam fr (a.tmps.setIfInBounds d u) w
      rw [this]
      exact h

section
variable {ρ : Rho} {G : Nat → Prop} {n0 : Nat} {lam : Nat → Option Nat} {fr : Fr} {a : Act} {w : World}
variable {T : Tb} {P : Program} (hT : TbOk T P) {callF : Nat → List AV → VH → Option (AV × VH)} (hC : CallsOk P T callF) {H : VH} {o : Oper} {promo : Nat → Bool} {r : RV} {fr' : Fr} {H' : VH}

theorem guard_sim (hF : RelF ρ G n0 lam fr a.tmps w) {ops : Array Oper} {b : Bool} (h : guardOf ops o fr = some b) : Region.wanted o (yielded ops a.tmps) = b := by
  unfold guardOf at h
  unfold Region.wanted
  split at h
  · rename_i e
    rw [e]
    simpa using h
  · rename_i j want e
    rw [e]
    simp only
    split at h
    · rename_i e2
      simp [yielded, e2] at h ⊢
      exact h.symm ▸ rfl
    · rename_i d e2
      have key : ∀ x, fr.regs.get d = some (.v x) → ∃ u, a.tmps[d]? = some u ∧ VR ρ x u := by
        intro x hx
        have hlt : d < fr.nt := by
          rcases Nat.lt_or_ge d fr.nt with h1 | h1
          · exact h1
          · rw [hF.over d h1] at hx; cases hx
        have := hF.regs d hlt
        rw [hx] at this
        have hlt' : d < a.tmps.size := by rw [hF.size]; exact hlt
        refine ⟨a.tmps[d]'hlt', by simp [hlt'], ?_⟩
        have e3 : a.tmps.getD d undef = a.tmps[d]'hlt' := by simp [Array.getD, hlt']
        rw [← e3]
        exact this
      split at h
      · rename_i b' hb
        obtain rfl := Option.some.inj h
        obtain ⟨u, h1, h2⟩ := key _ hb
        obtain rfl : u = _ := h2
        simp [yielded, e2, h1]
      · rename_i hb
        obtain rfl := Option.some.inj h
        obtain ⟨u, h1, h2⟩ := key _ hb
        obtain ⟨c, rfl, h3⟩ := h2
        simp [yielded, e2, h1]
      · cases h

include hT hC in
theorem step_sim (hg : Globs T ρ) (hF : RelF ρ G n0 lam fr a.tmps w) (hH : RelH ρ G H w) (hn : n0 ≤ w.heap.size) (h : vstep T callF promo o fr H = some (r, fr', H')) {next : Act → World → Prop} {Q : Exit → Act → World → Prop}
    (hk : ∀ u w' ρ' lam', Got ρ G n0 lam fr a.tmps w H r fr' H' u w' ρ' lam' → next (a.put o.dst u) w') : o.wp P a w next Q := by
  unfold vstep at h
  split at h
  · rename_i c ho
    unfold vcallOp at h
    split at h
    · cases h
    · rename_i args hargs
      have hav := evas_rel hF hargs
      have hav' : VRs ρ args (c.args.map a.eval).toList := by simpa using hav
      split at h
      · rename_i b hc
        obtain ⟨v, hv, rfl, rfl⟩ := outH_spec h
        have hex : ∃ cn, (execOp a.eval o).run P w = (builtin b c.argTypes o.type cn (c.args.map a.eval)).run P w := by
          simp only [execOp, ho, resolve, hc, pure_bind, invoke]
          exact ⟨_, rfl⟩
        obtain ⟨cn, hex⟩ := hex
        obtain ⟨u, w', ρ', h1, h2, h3, h4, h5⟩ := sim_builtin (P := P) (cn := cn) (ty := o.type) hT hH hav' hv
        have hrun : (execOp a.eval o).run P w = .ok (.value u) w' := hex.trans h1
        unfold Oper.wp
        rw [hrun]
        exact hk u w' ρ' lam (.turn hF h2 h3 h4 h5)
      · rename_i g hc
        split at h
        · rename_i f first cap hf
          obtain ⟨v, hv, rfl, rfl⟩ := outH_spec h
          obtain ⟨fs, cs, e1, e2, e3⟩ := eva_rel hF hf
          have hex : (execOp a.eval o).run P w = (callFunc f (fs ++ c.args.map a.eval ++ cs)).run P w := by
            simp only [execOp, ho, resolve, hc, e1]
            simp [Deferred.ofValue, invoke]
          have hall : VRs ρ (first ++ args ++ cap) (fs ++ c.args.map a.eval ++ cs).toList := by
            simpa using (e2.append hav').append e3
          have hA := hC _ _ _ _ _ hv ρ G w _ hH hall hg
          unfold Oper.wp
          rw [hex]
          unfold Answers at hA
          split at hA
          · rename_i f' args' w1 hr
            rw [hr]
            simp only [Oper.upon]
            refine Calls.mono hA fun e w2 he => ?_
            cases e with
            | returned u =>
              obtain ⟨ρ', h2, h3, h4, h5⟩ := he
              exact hk u w2 ρ' lam (.turn hF h2 h3 h4 h5)
            | panicked ch => exact he.elim
            | outgrown => exact he.elim
          · rename_i u w1 hr
            rw [hr]
            obtain ⟨ρ', h2, h3, h4, h5⟩ := hA
            exact hk u w1 ρ' lam (.turn hF h2 h3 h4 h5)
          · exact hA.elim
        · cases h
      · cases h
  · obtain ⟨u, w', ρ', lam', hy, hgot⟩ := sim_op hT hF hH hn h
    unfold Oper.wp
    cases hy with
    | value e => rw [e]; exact hk u w' ρ' lam' hgot
    | skip e => rw [e]; exact hk _ w' ρ' lam' hgot
end

/-- Where the machine stands, since a moment. -/
structure Inv (T : Tb) (ρ0 : Rho) (w0 : World) (H0 : VH) (G : Nat → Prop) (n0 : Nat) (fr : Fr) (H : VH) (a : Act) (w : World) (ρ : Rho) (lam : Nat → Option Nat) : Prop where
  post : Post ρ0 ρ (fun k => n0 ≤ k) w0 w
  frame : RelF ρ G n0 lam fr a.tmps w
  mem : RelH ρ G H w
  heap : Hs H0 H
  defers : a.defers = []
  low : n0 ≤ w.heap.size
  glob : Globs T ρ

theorem Act.put_defers' (a : Act) (d : Option Tmp) (v : Value) : (a.put d v).defers = a.defers := by cases d <;> rfl

section
variable {T : Tb} {P : Program} (hT : TbOk T P) {callF : Nat → List AV → VH → Option (AV × VH)} (hC : CallsOk P T callF) {promo : Nat → Bool}
variable {ρ0 : Rho} {w0 : World} {H0 : VH} {G : Nat → Prop} {n0 : Nat}

theorem Inv.got {fr fr' : Fr} {H H' : VH} {a : Act} {w w' : World} {ρ ρ' : Rho} {lam lam' : Nat → Option Nat} (hI : Inv T ρ0 w0 H0 G n0 fr H a w ρ lam) {r : RV} {u : Value} (hgot : Got ρ G n0 lam fr a.tmps w H r fr' H' u w' ρ' lam') (d : Option Nat) :
    Inv T ρ0 w0 H0 G n0 (fr'.put d r) H' (a.put d u) w' ρ' lam' :=
  ⟨hI.post.trans hgot.post, (show RelF ρ' G n0 lam' (fr'.put d r) (a.put d u).tmps w' from RelF.put hgot.frame d hgot.val hgot.fresh), hgot.mem, hI.heap.trans hgot.heap, by rw [Act.put_defers']; exact hI.defers,
    Nat.le_trans hI.low hgot.post.size, hI.glob.mono hgot.post.le⟩
theorem Inv.skip {fr : Fr} {H : VH} {a : Act} {w : World} {ρ : Rho} {lam : Nat → Option Nat} (hI : Inv T ρ0 w0 H0 G n0 fr H a w ρ lam) (d : Option Nat) :
    Inv T ρ0 w0 H0 G n0 (fr.put d (.v (.tuple []))) H (a.put d undef) w ρ lam :=
  ⟨hI.post, RelF.put hI.frame d ⟨#[], rfl, rfl⟩ (fun _ _ _ e => by cases e), hI.mem, hI.heap, by rw [Act.put_defers']; exact hI.defers, hI.low, hI.glob⟩

include hT hC in
theorem ops_sim {ops : Array Oper} {fr' : Fr} {H' : VH} {Q : Exit → Act → World → Prop} :
    ∀ (os : List Oper) (k : Nat), ops.toList.drop k = os → k ≤ ops.size → ∀ (fr : Fr) (H : VH) (a : Act) (w : World) (ρ : Rho) (lam : Nat → Option Nat), vops T callF promo ops os fr H = some (fr', H') → Inv T ρ0 w0 H0 G n0 fr H a w ρ lam →
      (∀ a' w' ρ' lam', Inv T ρ0 w0 H0 G n0 fr' H' a' w' ρ' lam' → Q .normal a' w') → wpOps P ops Q (List.range' k (ops.size - k)) a w
  | [], k, hd, hk, fr, H, a, w, ρ, lam, h, hI, hQ => by
    have : ops.size - k = 0 := by
      have := congrArg List.length hd
      simp at this
      omega
    rw [this]
    simp only [vops, Option.some.injEq, Prod.mk.injEq] at h
    obtain ⟨rfl, rfl⟩ := h
    exact hQ a w ρ lam hI
  | o :: os, k, hd, hk, fr, H, a, w, ρ, lam, h, hI, hQ => by
    have hlt : k < ops.size := by
      have := congrArg List.length hd
      simp at this
      omega
    have ho : ops[k]? = some o := by
      have := congrArg (·[0]?) hd
      simpa using this
    have hd' : ops.toList.drop (k + 1) = os := by
      have := congrArg List.tail hd
      simpa using this
    rw [show ops.size - k = (ops.size - (k + 1)) + 1 by omega, List.range'_succ]
    simp only [wpOps, ho]
    change opsCons T callF promo ops o (vops T callF promo ops os) fr H = some (fr', H') at h
    unfold opsCons at h
    split at h
    · rename_i hgd
      rw [guard_sim hI.frame hgd]
      simp only [if_true]
      split at h
      · rename_i r fr1 H1 hs
        refine .inl (step_sim hT hC hI.glob hI.frame hI.mem hI.low hs fun u w' ρ' lam' hgot => ?_)
        exact ops_sim os (k + 1) hd' (by omega) _ _ _ _ _ _ h (hI.got hgot o.dst) hQ
      · cases h
    · rename_i hgd
      rw [guard_sim hI.frame hgd]
      simp only [Bool.false_eq_true, if_false]
      exact ops_sim os (k + 1) hd' (by omega) _ _ _ _ _ _ h (hI.skip o.dst) hQ
    · cases h

theorem ops_sim0 (hT : TbOk T P) (hC : CallsOk P T callF) {ops : Array Oper} {fr fr' : Fr} {H H' : VH} {Q : Exit → Act → World → Prop} {a : Act} {w : World} {ρ : Rho} {lam : Nat → Option Nat}
    (h : vops T callF promo ops ops.toList fr H = some (fr', H')) (hI : Inv T ρ0 w0 H0 G n0 fr H a w ρ lam)
    (hQ : ∀ a' w' ρ' lam', Inv T ρ0 w0 H0 G n0 fr' H' a' w' ρ' lam' → Q .normal a' w') : wpOps P ops Q (List.range ops.size) a w := by
  have := ops_sim hT hC ops.toList 0 rfl (Nat.zero_le _) fr H a w ρ lam h hI hQ
  rwa [Nat.sub_zero, ← List.range_eq_range'] at this
end
end Go.Vm
