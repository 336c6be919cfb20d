/- Runs of code and calls against the model's. -/
import Derived.Test.YtmlogeklbcgjnaaGreatDoorVmFrz
import Derived.LoopN
import Derived.Orders
/-! The abstract machine's regions, code and calls against the model's. -/
namespace Go.Vm
set_option linter.unusedSimpArgs false
set_option linter.unusedVariables false
set_option linter.unusedSectionVars false

/-- What a call answers, of a function with a body or of one without. -/
def Answers (P : Program) (f : FuncId) (args : Array Value) (w : World) (R : Value → World → Prop) : Prop :=
  match (callFunc f args).run P w with
  | .ok (.enter f' args') w' => Calls P f' args' w' fun
    | .returned v, w'' => R v w''
    | _, _ => False
  | .ok (.value v) w' => R v w'
  | _ => False

def Globs (T : Tb) (ρ : Rho) : Prop := ∀ g, T.gl g = true → ∃ s, ρ g = some ⟨g, 0, s⟩
theorem Globs.mono {T : Tb} {ρ ρ' : Rho} (h : Globs T ρ) (hr : ρ.le ρ') : Globs T ρ' := fun g hg => let ⟨s, hs⟩ := h g hg; ⟨s, hr _ _ hs⟩

def CallsOk (P : Program) (T : Tb) (callF : Nat → List AV → VH → Option (AV × VH)) : Prop :=
  ∀ f vals H v H', callF f vals H = some (v, H') → ∀ ρ G w (args : Array Value), RelH ρ G H w → VRs ρ vals args.toList → Globs T ρ →
    Answers P f args w fun u w' => ∃ ρ', Post ρ ρ' (fun _ => False) w w' ∧ RelH ρ' G H' w' ∧ VR ρ' v u ∧ Hs H H'

/-- A temporary gets its value. -/
theorem RelF.put {ρ : Rho} {G : Nat → Prop} {n0 : Nat} {lam : Nat → Option Nat} {fr : Fr} {a : Act} {w : World} (h : RelF ρ G n0 lam fr a.tmps w) (d : Option Nat) {r : RV} {u : Value} (hv : RVR ρ lam fr.loc r u)
    (hf : ∀ d ep off, r = .loc d ep off → fr.old d ep) : RelF ρ G n0 lam (fr.put d r) (a.put d u).tmps w := by
  cases d with
  | none => exact h
  | some d =>
    unfold Fr.put Act.put
    simp only
    split
    · rename_i hlt
      simp only [Nat.blt_eq] at hlt
      have hget : ∀ t, (fr.regs.set d r).get t = if t = d then some r else fr.regs.get t := fun t => Tr.get_set _ _ _ _
      refine ⟨by simpa using h.size, fun t ht => ?_, fun t ht => ?_, h.glob, ⟨h.loc.box, h.loc.inj, fun t k ep off ht => ?_⟩⟩
      · show RVR _ _ _ (((fr.regs.set d r).get t).getD _) ((a.tmps.setIfInBounds d u).getD t undef)
        rw [hget]
        by_cases e : t = d
        · subst e
          rw [if_pos rfl]
          have : (a.tmps.setIfInBounds t u).getD t undef = u := by
            simp [Array.getD_eq_getD_getElem?, Array.getElem?_setIfInBounds, h.size, hlt]
          rw [this]
          exact hv
        · rw [if_neg e]
          have : (a.tmps.setIfInBounds d u).getD t undef = a.tmps.getD t undef := by
            simp [Array.getD_eq_getD_getElem?, Array.getElem?_setIfInBounds, Ne.symm e]
          rw [this]
          exact h.regs t ht
      · show (fr.regs.set d r).get t = none
        rw [hget, if_neg (by have : fr.nt ≤ t := ht; omega)]
        exact h.over t ht
      · have ht' : (fr.regs.set d r).get t = some (.loc k ep off) := ht
        rw [hget] at ht'
        split at ht'
        · obtain rfl := Option.some.inj ht'
          exact hf _ _ _ rfl
        · exact h.loc.stale t k ep off ht'
    · rename_i hlt
      have hge : fr.nt ≤ d := by
        rw [blt_eq] at hlt
        simpa using hlt
      have : a.tmps.setIfInBounds d u = a.tmps := Array.setIfInBounds_eq_of_size_le (by rw [h.size]; exact hge)
      show RelF ρ G n0 lam fr (a.tmps.setIfInBounds d u) w
      rw [this]
      exact h

section
variable {ρ : Rho} {G : Nat → Prop} {n0 : Nat} {lam : Nat → Option Nat} {fr : Fr} {a : Act} {w : World}
variable {T : Tb} {P : Program} (hT : TbOk T P) {callF : Nat → List AV → VH → Option (AV × VH)} (hC : CallsOk P T callF) {H : VH} {o : Oper} {promo : Nat → Bool} {r : RV} {fr' : Fr} {H' : VH}

theorem guard_sim (hF : RelF ρ G n0 lam fr a.tmps w) {ops : Array Oper} {b : Bool} (h : guardOf ops o fr = some b) : Region.wanted o (yielded ops a.tmps) = b := by
  unfold guardOf at h
  unfold Region.wanted
  split at h
  · rename_i e
    rw [e]
    simpa using h
  · rename_i j want e
    rw [e]
    simp only
    split at h
    · rename_i e2
      simp [yielded, e2] at h ⊢
      exact h.symm ▸ rfl
    · rename_i d e2
      have key : ∀ x, fr.regs.get d = some (.v x) → ∃ u, a.tmps[d]? = some u ∧ VR ρ x u := by
        intro x hx
        have hlt : d < fr.nt := by
          rcases Nat.lt_or_ge d fr.nt with h1 | h1
          · exact h1
          · rw [hF.over d h1] at hx; cases hx
        have := hF.regs d hlt
        rw [hx] at this
        have hlt' : d < a.tmps.size := by rw [hF.size]; exact hlt
        refine ⟨a.tmps[d]'hlt', by simp [hlt'], ?_⟩
        have e3 : a.tmps.getD d undef = a.tmps[d]'hlt' := by simp [Array.getD, hlt']
        rw [← e3]
        exact this
      split at h
      · rename_i b' hb
        obtain rfl := Option.some.inj h
        obtain ⟨u, h1, h2⟩ := key _ hb
        obtain rfl : u = _ := h2
        simp [yielded, e2, h1]
      · rename_i hb
        obtain rfl := Option.some.inj h
        obtain ⟨u, h1, h2⟩ := key _ hb
        obtain ⟨c, rfl, h3⟩ := h2
        simp [yielded, e2, h1]
      · cases h

include hT hC in
theorem step_sim (hg : Globs T ρ) (hF : RelF ρ G n0 lam fr a.tmps w) (hH : RelH ρ G H w) (hn : n0 ≤ w.heap.size) (h : vstep T callF promo o fr H = some (r, fr', H')) {next : Act → World → Prop} {Q : Exit → Act → World → Prop}
    (hk : ∀ u w' ρ' lam', Got ρ G n0 lam fr a.tmps w H r fr' H' u w' ρ' lam' → next (a.put o.dst u) w') : o.wp P a w next Q := by
  unfold vstep at h
  split at h
  · rename_i c ho
    unfold vcallOp at h
    split at h
    · cases h
    · rename_i args hargs
      have hav := evas_rel hF hargs
      have hav' : VRs ρ args (c.args.map a.eval).toList := by simpa using hav
      split at h
      · rename_i b hc
        obtain ⟨v, hv, rfl, rfl⟩ := outH_spec h
        have hex : ∃ cn, (execOp a.eval o).run P w = (builtin b c.argTypes o.type cn (c.args.map a.eval)).run P w := by
          simp only [execOp, ho, resolve, hc, pure_bind, invoke]
          exact ⟨_, rfl⟩
        obtain ⟨cn, hex⟩ := hex
        obtain ⟨ρ1, p1, r1, v1, s1⟩ := frzSrc_ok (litQ promo o.dst) b hH hav'
        obtain ⟨u, w', ρ', h1, h2, h3, h4, h5⟩ := sim_builtin (P := P) (cn := cn) (ty := o.type) hT r1 v1 hv
        have hrun : (execOp a.eval o).run P w = .ok (.value u) w' := hex.trans h1
        unfold Oper.wp
        rw [hrun]
        exact hk u w' ρ' lam (.turn hF (p1.trans h2) h3 h4 (s1.trans h5))
      · rename_i g hc
        split at h
        · rename_i f first cap hf
          obtain ⟨v, hv, rfl, rfl⟩ := outH_spec h
          obtain ⟨fs, cs, e1, e2, e3⟩ := eva_rel hF hf
          have hex : (execOp a.eval o).run P w = (callFunc f (fs ++ c.args.map a.eval ++ cs)).run P w := by
            simp only [execOp, ho, resolve, hc, e1]
            simp [Deferred.ofValue, invoke]
          have hall : VRs ρ (first ++ args ++ cap) (fs ++ c.args.map a.eval ++ cs).toList := by
            simpa using (e2.append hav').append e3
          have hA := hC _ _ _ _ _ hv ρ G w _ hH hall hg
          unfold Oper.wp
          rw [hex]
          unfold Answers at hA
          split at hA
          · rename_i f' args' w1 hr
            rw [hr]
            simp only [Oper.upon]
            refine Calls.mono hA fun e w2 he => ?_
            cases e with
            | returned u =>
              obtain ⟨ρ', h2, h3, h4, h5⟩ := he
              exact hk u w2 ρ' lam (.turn hF h2 h3 h4 h5)
            | panicked ch => exact he.elim
            | outgrown => exact he.elim
          · rename_i u w1 hr
            rw [hr]
            obtain ⟨ρ', h2, h3, h4, h5⟩ := hA
            exact hk u w1 ρ' lam (.turn hF h2 h3 h4 h5)
          · exact hA.elim
        · cases h
      · cases h
  · obtain ⟨u, w', ρ', lam', hy, hgot⟩ := sim_op hT hF hH hn h
    unfold Oper.wp
    cases hy with
    | value e => rw [e]; exact hk u w' ρ' lam' hgot
    | skip e => rw [e]; exact hk _ w' ρ' lam' hgot
end

/-- Where the machine stands, since a moment. -/
structure Inv (T : Tb) (ρ0 : Rho) (w0 : World) (H0 : VH) (G : Nat → Prop) (n0 : Nat) (fr : Fr) (H : VH) (a : Act) (w : World) (ρ : Rho) (lam : Nat → Option Nat) : Prop where
  post : Post ρ0 ρ (fun k => n0 ≤ k) w0 w
  frame : RelF ρ G n0 lam fr a.tmps w
  mem : RelH ρ G H w
  heap : Hs H0 H
  defers : a.defers = []
  low : n0 ≤ w.heap.size
  glob : Globs T ρ

theorem Act.put_defers' (a : Act) (d : Option Tmp) (v : Value) : (a.put d v).defers = a.defers := by cases d <;> rfl

section
variable {T : Tb} {P : Program} (hT : TbOk T P) {callF : Nat → List AV → VH → Option (AV × VH)} (hC : CallsOk P T callF) {promo : Nat → Bool}
variable {ρ0 : Rho} {w0 : World} {H0 : VH} {G : Nat → Prop} {n0 : Nat}

theorem Inv.got {fr fr' : Fr} {H H' : VH} {a : Act} {w w' : World} {ρ ρ' : Rho} {lam lam' : Nat → Option Nat} (hI : Inv T ρ0 w0 H0 G n0 fr H a w ρ lam) {r : RV} {u : Value} (hgot : Got ρ G n0 lam fr a.tmps w H r fr' H' u w' ρ' lam') (d : Option Nat) :
    Inv T ρ0 w0 H0 G n0 (fr'.put d r) H' (a.put d u) w' ρ' lam' :=
  ⟨hI.post.trans hgot.post, (show RelF ρ' G n0 lam' (fr'.put d r) (a.put d u).tmps w' from RelF.put hgot.frame d hgot.val hgot.fresh), hgot.mem, hI.heap.trans hgot.heap, by rw [Act.put_defers']; exact hI.defers,
    Nat.le_trans hI.low hgot.post.size, hI.glob.mono hgot.post.le⟩
theorem Inv.skip {fr : Fr} {H : VH} {a : Act} {w : World} {ρ : Rho} {lam : Nat → Option Nat} (hI : Inv T ρ0 w0 H0 G n0 fr H a w ρ lam) (d : Option Nat) :
    Inv T ρ0 w0 H0 G n0 (fr.put d (.v (.tuple []))) H (a.put d undef) w ρ lam :=
  ⟨hI.post, RelF.put hI.frame d ⟨#[], rfl, rfl⟩ (fun _ _ _ e => by cases e), hI.mem, hI.heap, by rw [Act.put_defers']; exact hI.defers, hI.low, hI.glob⟩

include hT hC in
theorem ops_sim {ops : Array Oper} {fr' : Fr} {H' : VH} {Q : Exit → Act → World → Prop} :
    ∀ (os : List Oper) (k : Nat), ops.toList.drop k = os → k ≤ ops.size → ∀ (fr : Fr) (H : VH) (a : Act) (w : World) (ρ : Rho) (lam : Nat → Option Nat), vops T callF promo ops os fr H = some (fr', H') → Inv T ρ0 w0 H0 G n0 fr H a w ρ lam →
      (∀ a' w' ρ' lam', Inv T ρ0 w0 H0 G n0 fr' H' a' w' ρ' lam' → Q .normal a' w') → wpOps P ops Q (List.range' k (ops.size - k)) a w
  | [], k, hd, hk, fr, H, a, w, ρ, lam, h, hI, hQ => by
    have : ops.size - k = 0 := by
      have := congrArg List.length hd
      simp at this
      omega
    rw [this]
    simp only [vops, Option.some.injEq, Prod.mk.injEq] at h
    obtain ⟨rfl, rfl⟩ := h
    exact hQ a w ρ lam hI
  | o :: os, k, hd, hk, fr, H, a, w, ρ, lam, h, hI, hQ => by
    have hlt : k < ops.size := by
      have := congrArg List.length hd
      simp at this
      omega
    have ho : ops[k]? = some o := by
      have := congrArg (·[0]?) hd
      simpa using this
    have hd' : ops.toList.drop (k + 1) = os := by
      have := congrArg List.tail hd
      simpa using this
    rw [show ops.size - k = (ops.size - (k + 1)) + 1 by omega, List.range'_succ]
    simp only [wpOps, ho]
    change opsCons T callF promo ops o (vops T callF promo ops os) fr H = some (fr', H') at h
    unfold opsCons at h
    split at h
    · rename_i hgd
      rw [guard_sim hI.frame hgd]
      simp only [if_true]
      split at h
      · rename_i r fr1 H1 hs
        refine .inl (step_sim hT hC hI.glob hI.frame hI.mem hI.low hs fun u w' ρ' lam' hgot => ?_)
        exact ops_sim os (k + 1) hd' (by omega) _ _ _ _ _ _ h (hI.got hgot o.dst) hQ
      · cases h
    · rename_i hgd
      rw [guard_sim hI.frame hgd]
      simp only [Bool.false_eq_true, if_false]
      exact ops_sim os (k + 1) hd' (by omega) _ _ _ _ _ _ h (hI.skip o.dst) hQ
    · cases h

theorem ops_sim0 (hT : TbOk T P) (hC : CallsOk P T callF) {ops : Array Oper} {fr fr' : Fr} {H H' : VH} {Q : Exit → Act → World → Prop} {a : Act} {w : World} {ρ : Rho} {lam : Nat → Option Nat}
    (h : vops T callF promo ops ops.toList fr H = some (fr', H')) (hI : Inv T ρ0 w0 H0 G n0 fr H a w ρ lam)
    (hQ : ∀ a' w' ρ' lam', Inv T ρ0 w0 H0 G n0 fr' H' a' w' ρ' lam' → Q .normal a' w') : wpOps P ops Q (List.range ops.size) a w := by
  have := ops_sim hT hC ops.toList 0 rfl (Nat.zero_le _) fr H a w ρ lam h hI hQ
  rwa [Nat.sub_zero, ← List.range_eq_range'] at this
end
end Go.Vm
/-! The abstract machine's code against the model's. -/
namespace Go.Vm
set_option linter.unusedSimpArgs false
set_option linter.unusedVariables false
set_option linter.unusedSectionVars false
def exOf : Ex → Exit
  | .normal => .normal
  | .ret => .ret
  | .exit i => .exit i

/-- What is shown of a piece of code. -/
def RunOk (P : Program) (T : Tb) (c : Code) (run : Run) : Prop :=
  ∀ (ρ0 : Rho) (w0 : World) (H0 : VH) (G : Nat → Prop) (n0 : Nat) (fr : Fr) (H : VH) (ex : Ex) (fr' : Fr) (H' : VH) (a : Act) (w : World) (ρ : Rho) (lam : Nat → Option Nat) (Q : Exit → Act → World → Prop),
    run fr H = some (ex, fr', H') → Inv T ρ0 w0 H0 G n0 fr H a w ρ lam → (∀ a' w' ρ' lam', Inv T ρ0 w0 H0 G n0 fr' H' a' w' ρ' lam' → Q (exOf ex) a' w') → c.wp P Q a w

theorem Inv.drawn {T : Tb} {ρ0 : Rho} {w0 : World} {H0 : VH} {G : Nat → Prop} {n0 : Nat} {fr : Fr} {H : VH} {a : Act} {w : World} {ρ : Rho} {lam : Nat → Option Nat} (hI : Inv T ρ0 w0 H0 G n0 fr H a w ρ lam) :
    Inv T ρ0 w0 H0 G n0 fr H a { w with drawn := w.drawn + 1 } ρ lam :=
  ⟨post_of hI.post rfl rfl rfl rfl, hI.frame.post (post_of (.refl _ _ _) rfl rfl rfl rfl), hI.mem.of_heap rfl, hI.heap, hI.defers, hI.low, hI.glob⟩

theorem seq_ok {P : Program} {T : Tb} {x y : Code} {rx ry : Run} (hx : RunOk P T x rx) (hy : RunOk P T y ry) : RunOk P T (.seq x y) (cSeq rx ry) := by
  intro ρ0 w0 H0 G n0 fr H ex fr' H' a w ρ lam Q h hI hQ
  refine wp_seq ?_
  unfold cSeq loopStep at h
  split at h
  · rename_i fr1 H1 h1
    exact hx _ _ _ _ _ _ _ _ _ _ _ _ _ _ _ h1 hI fun a' w' ρ' lam' hI' => hy _ _ _ _ _ _ _ _ _ _ _ _ _ _ _ h hI' hQ
  · rename_i hne
    refine hx _ _ _ _ _ _ _ _ _ _ _ _ _ _ _ h hI fun a' w' ρ' lam' hI' => ?_
    cases ex with
    | normal => exact (hne _ _ h).elim
    | ret => exact hQ _ _ _ _ hI'
    | exit i => exact hQ _ _ _ _ hI'

theorem rounds_ok {P : Program} {T : Tb} {c : Code} {run : Run} (hc : RunOk P T c run) : ∀ n (ρ0 : Rho) (w0 : World) (H0 : VH) (G : Nat → Prop) (n0 : Nat) (fr : Fr) (H : VH) (ex : Ex) (fr' : Fr) (H' : VH) (a : Act) (w : World) (ρ : Rho) (lam : Nat → Option Nat) (Q : Exit → Act → World → Prop),
    vloop run n fr H = some (ex, fr', H') → Inv T ρ0 w0 H0 G n0 fr H a w ρ lam → (∀ a' w' ρ' lam', Inv T ρ0 w0 H0 G n0 fr' H' a' w' ρ' lam' → Q (exOf ex) a' w') → Code.rounds P c Q n a w
  | 0, _, _, _, _, _, _, _, _, _, _, _, _, _, _, _, h, _, _ => by simp [vloop] at h
  | n + 1, ρ0, w0, H0, G, n0, fr, H, ex, fr', H', a, w, ρ, lam, Q, h, hI, hQ => by
    rw [rounds_succ]
    change loopStep run (vloop run n) fr H = some (ex, fr', H') at h
    unfold loopStep at h
    split at h
    · rename_i fr1 H1 h1
      exact hc _ _ _ _ _ _ _ _ _ _ _ _ _ _ _ h1 hI fun a' w' ρ' lam' hI' => rounds_ok hc n _ _ _ _ _ _ _ _ _ _ _ _ _ _ _ h hI' hQ
    · rename_i hne
      refine hc _ _ _ _ _ _ _ _ _ _ _ _ _ _ _ h hI fun a' w' ρ' lam' hI' => ?_
      cases ex with
      | normal => exact (hne _ _ h).elim
      | ret => exact hQ _ _ _ _ hI'
      | exit i => exact hQ _ _ _ _ hI'
theorem loop_ok {P : Program} {T : Tb} {c : Code} {run : Run} (hc : RunOk P T c run) (n : Nat) : RunOk P T (.loop c) (vloop run n) :=
  fun ρ0 w0 H0 G n0 fr H ex fr' H' a w ρ lam Q h hI hQ => wp_loop_rounds n (rounds_ok hc n _ _ _ _ _ _ _ _ _ _ _ _ _ _ _ h hI hQ)

theorem cond_ok {P : Program} {T : Tb} {c : Operand} {x y : Code} {rx ry : Run} (hx : RunOk P T x rx) (hy : RunOk P T y ry) : RunOk P T (.cond c x y) (cCond c rx ry) := by
  intro ρ0 w0 H0 G n0 fr H ex fr' H' a w ρ lam Q h hI hQ
  unfold cCond at h
  split at h
  · rename_i hc
    exact wp_cond_true (show a.eval c = .bool true from eva_rel hI.frame hc) (hx _ _ _ _ _ _ _ _ _ _ _ _ _ _ _ h hI hQ)
  · rename_i hc
    exact wp_cond_false (show a.eval c = .bool false from eva_rel hI.frame hc) (hy _ _ _ _ _ _ _ _ _ _ _ _ _ _ _ h hI hQ)
  · cases h

theorem block_ok {P : Program} {T : Tb} {id : Nat} {x : Code} {rx : Run} (hx : RunOk P T x rx) : RunOk P T (.block id x) (cBlock id rx) := by
  intro ρ0 w0 H0 G n0 fr H ex fr' H' a w ρ lam Q h hI hQ
  refine wp_block ?_
  unfold cBlock at h
  split at h
  · rename_i i fr1 H1 h1
    split at h
    · rename_i e
      simp only [Option.some.injEq, Prod.mk.injEq] at h
      obtain ⟨rfl, rfl, rfl⟩ := h
      refine hx _ _ _ _ _ _ _ _ _ _ _ _ _ _ _ h1 hI fun a' w' ρ' lam' hI' => ?_
      show (if i = id then _ else _)
      rw [if_pos (Nat.eq_of_beq_eq_true e)]
      exact hQ _ _ _ _ hI'
    · rename_i e
      simp only [Option.some.injEq, Prod.mk.injEq] at h
      obtain ⟨rfl, rfl, rfl⟩ := h
      refine hx _ _ _ _ _ _ _ _ _ _ _ _ _ _ _ h1 hI fun a' w' ρ' lam' hI' => ?_
      show (if i = id then _ else _)
      rw [if_neg (fun h => e (by rw [h]; simp))]
      exact hQ _ _ _ _ hI'
  · rename_i hne
    refine hx _ _ _ _ _ _ _ _ _ _ _ _ _ _ _ h hI fun a' w' ρ' lam' hI' => ?_
    cases ex with
    | normal => exact hQ _ _ _ _ hI'
    | ret => exact hQ _ _ _ _ hI'
    | exit i => exact (hne _ _ _ h).elim

/-- What is to be shown of the regions that draw their order. -/
def DrawOk (P : Program) (T : Tb) (callF : Nat → List AV → VH → Option (AV × VH)) (promo : Nat → Bool) (ops : Array Oper) : Prop :=
  ∀ id, RunOk P T (.region id ops true) (cRegion T callF promo ops true)
/-- All regions of a piece of code that draw their order. -/
def allDraw (p : Array Oper → Prop) : Code → Prop
  | .skip => True
  | .region _ ops d => d = true → p ops
  | .seq a b => allDraw p a ∧ allDraw p b
  | .cond _ a b => allDraw p a ∧ allDraw p b
  | .block _ c => allDraw p c
  | .loop c => allDraw p c
  | _ => True

theorem code_ok {P : Program} {T : Tb} (hT : TbOk T P) {callF : Nat → List AV → VH → Option (AV × VH)} (hC : CallsOk P T callF) {promo : Nat → Bool} (n : Nat) (c : Code) (hd : allDraw (DrawOk P T callF promo) c) : RunOk P T c (vcode T callF promo n c) := by
  induction c with
  | skip =>
    intro ρ0 w0 H0 G n0 fr H ex fr' H' a w ρ lam Q h hI hQ
    simp only [vcode, cEx, Option.some.injEq, Prod.mk.injEq] at h
    obtain ⟨rfl, rfl, rfl⟩ := h
    exact wp_skip (hQ _ _ _ _ hI)
  | region id ops d =>
    cases d with
    | true => exact hd rfl id
    | false =>
      intro ρ0 w0 H0 G n0 fr H ex fr' H' a w ρ lam Q h hI hQ
      change cRegion T callF promo ops false fr H = some (ex, fr', H') at h
      unfold cRegion at h
      simp only at h
      split at h
      · rename_i fr1 H1 h1
        simp only [Option.some.injEq, Prod.mk.injEq] at h
        obtain ⟨rfl, rfl, rfl⟩ := h
        exact wp_region (ops_sim0 hT hC h1 hI hQ)
      · cases h
  | seq a b iha ihb => exact seq_ok (iha hd.1) (ihb hd.2)
  | cond c a b iha ihb => exact cond_ok (iha hd.1) (ihb hd.2)
  | block id c ih => exact block_ok (ih hd)
  | loop c ih => exact loop_ok (ih hd) n
  | exit id =>
    intro ρ0 w0 H0 G n0 fr H ex fr' H' a w ρ lam Q h hI hQ
    simp only [vcode, cEx, Option.some.injEq, Prod.mk.injEq] at h
    obtain ⟨rfl, rfl, rfl⟩ := h
    exact wp_exit (hQ _ _ _ _ hI)
  | label l =>
    intro ρ0 w0 H0 G n0 fr H ex fr' H' a w ρ lam Q h hI hQ
    simp only [vcode, cEx, Option.some.injEq, Prod.mk.injEq] at h
    obtain ⟨rfl, rfl, rfl⟩ := h
    exact wp_label (hQ _ _ _ _ hI)
  | ret =>
    intro ρ0 w0 H0 G n0 fr H ex fr' H' a w ρ lam Q h hI hQ
    simp only [vcode, cEx, Option.some.injEq, Prod.mk.injEq] at h
    obtain ⟨rfl, rfl, rfl⟩ := h
    exact wp_ret (hQ _ _ _ _ hI)
  | _ =>
    intro ρ0 w0 H0 G n0 fr H ex fr' H' a w ρ lam Q h hI hQ
    exact absurd h (by simp [vcode, cNone])

/-! ## What a call leaves behind -/
/-- The places of old, with what is known now of what is never written. -/
def Rho.after (ρ ρ' : Rho) : Rho := { m := ρ.m, q := ρ'.q, fz := ρ'.fz }
theorem Rho.le_after {ρ ρ' : Rho} (h : ρ.le ρ') : ρ.le (ρ.after ρ') := ⟨fun _ _ e => e, h.q, h.fz⟩
mutual
theorem VR.back {ρ ρ' : Rho} (h : ρ.le ρ') : ∀ (a : AV) (u u0 : Value), VR ρ a u0 → VR ρ' a u → VR (ρ.after ρ') a u
  | .undef, _, _, _, _ => trivial
  | .bool _, _, _, _, e => e
  | .int _ _, _, _, _, e => e
  | .str _, _, _, _, e => e
  | .ptr none, _, _, _, e => e
  | .ptr (some (b, _)), _, _, ⟨_, e, _⟩, ⟨pl', e', r⟩ => ⟨pl', At.back h b _ _ e e', r⟩
  | .slice none _ _ _, _, _, _, e => e
  | .slice (some (b, _)) _ _ _, _, _, ⟨_, _, _, e, _⟩, ⟨pl', ro, rc, e', r⟩ => ⟨pl', ro, rc, At.back h b _ _ e e', r⟩
  | .map none, _, _, _, e => e
  | .map (some _), _, _, ⟨pl, e, _⟩, ⟨pl', e', r⟩ => by
    have := h _ _ e
    rw [e'] at this
    obtain rfl := Option.some.inj this
    exact ⟨_, e, r⟩
  | .func _ fs cs, _, _, ⟨a, b, _, r, s⟩, ⟨a', b', e', r', s'⟩ => ⟨a', b', e', VRs.back h fs _ _ r r', VRs.back h cs _ _ s s'⟩
  | .nilFunc, _, _, _, e => e
  | .iface _ x, _, _, ⟨_, _, r⟩, ⟨u, e', r'⟩ => ⟨u, e', VR.back h x _ _ r r'⟩
  | .nilIface, _, _, _, e => e
  | .agg cs, _, _, ⟨_, _, r, _⟩, ⟨a, e', r', s'⟩ => ⟨a, e', VRs.back h cs _ _ r r', s'⟩
  | .tuple cs, _, _, ⟨_, _, r⟩, ⟨a, e', r'⟩ => ⟨a, e', VRs.back h cs _ _ r r'⟩
theorem VRs.back {ρ ρ' : Rho} (h : ρ.le ρ') : ∀ (as : List AV) (us u0s : List Value), VRs ρ as u0s → VRs ρ' as us → VRs (ρ.after ρ') as us
  | [], _, _, _, e => e
  | a :: as, _, _, ⟨_, _, _, r, s⟩, ⟨u, us, e', r', s'⟩ => ⟨u, us, e', VR.back h a _ _ r r', VRs.back h as _ _ s s'⟩
theorem At.back {ρ ρ' : Rho} (h : ρ.le ρ') : ∀ (b : Bk) (pl pl0 : Pl), At ρ b pl0 → At ρ' b pl → At (ρ.after ρ') b pl
  | .blk n, pl, pl0, e, e' => by
    have h1 := h n pl0 e
    rw [show ρ' n = some pl from e'] at h1
    obtain rfl := Option.some.inj h1
    exact e
  | .pur cs, _, _, ⟨_, _, _, _, _, _, r, _⟩, ⟨us, vs, c, e1, e2, e3, e4, e5⟩ => ⟨us, vs, c, e1, e2, e3, VRs.back h cs _ _ r e4, e5⟩
end

mutual
theorem flat_rel {ρ ρ' : Rho} (hz : ∀ k us, ρ.fz k = some us → ρ'.fz k = some us) : ∀ (a : AV) (u : Value), flat a = true → VR ρ a u → VR ρ' a u
  | .undef, _, h, _ => by simp [flat] at h
  | .bool _, _, _, e => e
  | .int _ _, _, _, e => e
  | .str _, _, _, e => e
  | .ptr none, _, _, e => e
  | .ptr (some (b, _)), _, h, ⟨pl, e, r⟩ => ⟨pl, flatB_rel hz b pl (by simpa [flat] using h) e, r⟩
  | .slice none _ _ _, _, _, e => e
  | .slice (some (b, _)) _ _ _, _, h, ⟨pl, ro, rc, e, r⟩ => ⟨pl, ro, rc, flatB_rel hz b pl (by simpa [flat] using h) e, r⟩
  | .map none, _, _, e => e
  | .map (some _), _, h, _ => by simp [flat] at h
  | .func _ _ _, _, h, _ => by simp [flat] at h
  | .nilFunc, _, _, e => e
  | .iface _ _, _, h, _ => by simp [flat] at h
  | .nilIface, _, _, e => e
  | .agg cs, _, h, ⟨a, e, r, s⟩ => ⟨a, e, flats_rel hz cs _ (by simpa [flat] using h) r, s⟩
  | .tuple cs, _, h, ⟨a, e, r⟩ => ⟨a, e, flats_rel hz cs _ (by simpa [flat] using h) r⟩
theorem flats_rel {ρ ρ' : Rho} (hz : ∀ k us, ρ.fz k = some us → ρ'.fz k = some us) : ∀ (as : List AV) (us : List Value), flats as = true → VRs ρ as us → VRs ρ' as us
  | [], _, _, e => e
  | a :: as, _, h, ⟨u, us, e, r, s⟩ => by
    simp only [flats, Bool.and_eq_true] at h
    exact ⟨u, us, e, flat_rel hz a u h.1 r, flats_rel hz as us h.2 s⟩
theorem flatB_rel {ρ ρ' : Rho} (hz : ∀ k us, ρ.fz k = some us → ρ'.fz k = some us) : ∀ (b : Bk) (pl : Pl), flatB b = true → At ρ b pl → At ρ' b pl
  | .blk _, _, h, _ => by simp [flatB] at h
  | .pur cs, _, h, ⟨us, vs, c, e1, e2, e3, e4, e5⟩ => ⟨us, vs, c, hz _ _ e1, e2, e3, flats_rel hz cs _ (by simpa [flatB] using h) e4, e5⟩
end

theorem MR.back {ρ ρ' : Rho} (h : ρ.le ρ') : ∀ {es : List ME} {us vs : List MapEntry}, MR ρ es us → MR ρ' es vs → MR (ρ.after ρ') es vs
  | [], _, _, _, e => e
  | _ :: _, _, _, ⟨u, us, e, h1, h2, h3, h4⟩, ⟨x, xs, e', g1, g2, g3, g4⟩ => ⟨x, xs, e', VR.back h _ _ _ h1 g1, VR.back h _ _ _ h2 g2, g3, MR.back h h4 g4⟩
theorem OR.back {ρ ρ' : Rho} (h : ρ.le ρ') {es : List ME} {c : Nat} {x y : Obj} : OR ρ es c x → OR ρ' es c y → OR (ρ.after ρ') es c y
  | .inl ⟨_, _, _, r⟩, .inl ⟨q, a, e, r'⟩ => .inl ⟨q, a, e, MR.back h r r'⟩
  | .inl ⟨q, _⟩, .inr ⟨_, _, _, _, e, _⟩ => by rw [e, isIt_iter] at q; cases q
  | .inr ⟨_, _, _, _, e, _⟩, .inl ⟨q, _⟩ => by rw [e, isIt_iter] at q; cases q
  | .inr ⟨m, s, seen, um, e1, e2, _⟩, .inr ⟨m', s', seen', um', g1, g2, g3⟩ => by
    rw [e1] at g1
    cases g1
    exact .inr ⟨m, s, seen, um', e1, VR.back h _ _ _ e2 g2, g3⟩
/-- What is old stays, if no old block is among the changed ones. -/
def Kept (n0 : Nat) (H0 H : VH) : Prop :=
  n0 ≤ H.low → (∀ b, b < n0 → H.get b = H0.get b) ∧ (∀ l, l < n0 → H.from_ l = H0.from_ l) ∧ (∀ b r, n0 ≤ b → H.row? b = some r → n0 ≤ r.lin)

theorem from_cutIf (H : VH) (q : Bool) (lin gen l : Nat) (h : l ≠ lin) : (H.cutIf q lin gen).from_ l = H.from_ l := by
  cases q with
  | true => rfl
  | false => show (H.cut lin gen).from_ l = _; rw [from_cut, if_neg h]
theorem get_cutIf (H : VH) (q : Bool) (lin gen b : Nat) : (H.cutIf q lin gen).get b = H.get b := by
  cases q with
  | true => rfl
  | false => exact get_cut _ _ _ _
theorem next_cutIf (H : VH) (q : Bool) (lin gen : Nat) : (H.cutIf q lin gen).next = H.next := by
  cases q with
  | true => rfl
  | false => exact next_cut _ _ _
theorem low_cutIf (H : VH) (q : Bool) (lin gen : Nat) : (H.cutIf q lin gen).low = H.low := by
  cases q with
  | true => rfl
  | false => exact low_cut _ _ _
theorem row_of_get {H H' : VH} {b : Nat} (h : H'.get b = H.get b) : H'.row? b = H.row? b := by unfold VH.row?; rw [h]

theorem Hs.kept {H H' : VH} (h : Hs H H') : H.next ≤ H'.next ∧ ∀ n0 H0, n0 ≤ H.next → Kept n0 H0 H → H'.low ≤ H.low ∧ Kept n0 H0 H' := by
  induction h with
  | refl H => exact ⟨Nat.le_refl _, fun n0 H0 _ k => ⟨Nat.le_refl _, k⟩⟩
  | trans _ _ ih1 ih2 =>
    refine ⟨Nat.le_trans ih1.1 ih2.1, fun n0 H0 hn k => ?_⟩
    obtain ⟨a1, a2⟩ := ih1.2 n0 H0 hn k
    obtain ⟨b1, b2⟩ := ih2.2 n0 H0 (Nat.le_trans hn ih1.1) a2
    exact ⟨Nat.le_trans b1 a1, b2⟩
  | @put H H' b o v hp =>
    obtain ⟨r, hr, rfl⟩ : ∃ r, H.row? b = some r ∧ H' = (H.cut r.lin r.gen).set b (.row { r with t := r.t.set o v, ver := r.ver + 1 }) := by
      unfold VH.putN at hp
      split at hp
      · rename_i r hr
        split at hp
        · exact ⟨r, hr, (Option.some.inj hp).symm⟩
        · cases hp
      · cases hp
    refine ⟨by show H.next ≤ (H.cut r.lin r.gen).next; rw [next_cut]; exact Nat.le_refl _, fun n0 H0 hn k => ⟨by show min (H.cut r.lin r.gen).low b ≤ H.low; rw [low_cut]; omega, fun hl => ?_⟩⟩
    have hl' : n0 ≤ min H.low b := by
      have : n0 ≤ min (H.cut r.lin r.gen).low b := hl
      rwa [low_cut] at this
    obtain ⟨k1, k2, k3⟩ := k (by omega)
    have hlin := k3 b r (by omega) hr
    refine ⟨fun b' hb' => ?_, fun l hl => ?_, fun b' r' hb' hr' => ?_⟩
    · rw [get_vset, if_neg (by omega), get_cut]; exact k1 b' hb'
    · rw [from_vset, from_cut, if_neg (by omega)]; exact k2 l hl
    · rw [row?_vset] at hr'
      split at hr'
      · obtain rfl := Option.some.inj hr'
        exact hlin
      · rw [row?_cut] at hr'
        exact k3 b' r' hb' hr'
  | mk H n t e =>
    refine ⟨Nat.le_succ _, fun n0 H0 hn k => ⟨Nat.le_refl _, fun hl => ?_⟩⟩
    obtain ⟨k1, k2, k3⟩ := k hl
    refine ⟨fun b' hb' => ?_, fun l hl => ?_, fun b' r' hb' hr' => ?_⟩
    · rw [get_valloc, if_neg (by omega)]; exact k1 b' hb'
    · exact k2 l hl
    · rw [row?_valloc] at hr'
      split at hr'
      · obtain rfl := Option.some.inj hr'
        exact hn
      · exact k3 b' r' hb' hr'
  | @dead H b r hr hlive =>
    refine ⟨Nat.le_refl _, fun n0 H0 hn k => ⟨Nat.min_le_left _ _, fun hl => ?_⟩⟩
    have hl' : n0 ≤ min H.low b := hl
    obtain ⟨k1, k2, k3⟩ := k (by omega)
    have hlin := k3 b r (by omega) hr
    refine ⟨fun b' hb' => ?_, fun l hl => k2 l hl, fun b' r' hb' hr' => ?_⟩
    · show (H.set b _).get b' = _
      rw [get_vset, if_neg (by omega)]; exact k1 b' hb'
    · have hr2 : (H.set b (.row { r with live := false })).row? b' = some r' := hr'
      rw [row?_vset] at hr2
      split at hr2
      · obtain rfl := Option.some.inj hr2
        exact hlin
      · exact k3 b' r' hb' hr2
  | @grow H b r q n t e hr hlive =>
    have hnx : (H.cutIf q r.lin (r.gen + 1)).next = H.next := next_cutIf _ _ _ _
    have hlw : ((H.cutIf q r.lin (r.gen + 1)).grow b r n t e).low = min H.low b := by
      show min (H.cutIf q r.lin (r.gen + 1)).low b = _
      rw [low_cutIf]
    refine ⟨by show H.next ≤ (H.cutIf q r.lin (r.gen + 1)).next + 1; rw [hnx]; omega, fun n0 H0 hn k => ⟨by rw [hlw]; omega, fun hl => ?_⟩⟩
    rw [hlw] at hl
    obtain ⟨k1, k2, k3⟩ := k (by omega)
    have hlin := k3 b r (by omega) hr
    have hg : ∀ b', ((H.cutIf q r.lin (r.gen + 1)).grow b r n t e).get b' = if b' = H.next then some (.row { n, t, live := true, lin := r.lin, gen := r.gen + 1, ver := 0, ety := e }) else if b' = b then some (.row { r with live := false }) else H.get b' := by
      intro b'
      show (((H.cutIf q r.lin (r.gen + 1)).set b (.row { r with live := false })).alloc _).get b' = _
      rw [get_valloc, get_vset, get_cutIf]
      show (if b' = (H.cutIf q r.lin (r.gen + 1)).next then _ else _) = _
      rw [hnx]
    refine ⟨fun b' hb' => ?_, fun l hl => ?_, fun b' r' hb' hr' => ?_⟩
    · rw [hg, if_neg (by omega), if_neg (by omega)]; exact k1 b' hb'
    · show (H.cutIf q r.lin (r.gen + 1)).from_ l = _
      rw [from_cutIf _ _ _ _ _ (by omega)]; exact k2 l hl
    · have hr2 := VH.row?_get hr'
      rw [hg] at hr2
      split at hr2
      · obtain rfl := Blk.row.inj (Option.some.inj hr2)
        exact hlin
      · split at hr2
        · obtain rfl := Blk.row.inj (Option.some.inj hr2)
          exact hlin
        · exact k3 b' r' hb' (VH.row?_of hr2)
  | newMap H es c =>
    refine ⟨Nat.le_succ _, fun n0 H0 hn k => ⟨Nat.le_refl _, fun hl => ?_⟩⟩
    obtain ⟨k1, k2, k3⟩ := k hl
    have hg : ∀ b', (H.newMap es c).get b' = if b' = H.next then some (.map es c 0) else H.get b' := fun b' => get_valloc _ _ _
    refine ⟨fun b' hb' => ?_, fun l hl => k2 l hl, fun b' r' hb' hr' => ?_⟩
    · rw [hg, if_neg (by omega)]; exact k1 b' hb'
    · have hr2 := VH.row?_get hr'
      rw [hg] at hr2
      split at hr2
      · cases hr2
      · exact k3 b' r' hb' (VH.row?_of hr2)
  | @setMap H b es c v es' c' hm =>
    have hg : ∀ b', (H.setMap b es' c' v).get b' = if b' = b then some (.map es' c' (v + 1)) else H.get b' := fun b' => get_vset _ _ _ _
    refine ⟨Nat.le_refl _, fun n0 H0 hn k => ⟨Nat.min_le_left _ _, fun hl => ?_⟩⟩
    have hl' : n0 ≤ min H.low b := hl
    obtain ⟨k1, k2, k3⟩ := k (by omega)
    refine ⟨fun b' hb' => ?_, fun l hl => k2 l hl, fun b' r' hb' hr' => ?_⟩
    · rw [hg, if_neg (by omega)]; exact k1 b' hb'
    · have hr2 := VH.row?_get hr'
      rw [hg] at hr2
      split at hr2
      · cases hr2
      · exact k3 b' r' hb' (VH.row?_of hr2)
  | @call H H' v hs ih =>
    unfold leave
    split
    · exact ⟨Nat.le_refl _, fun n0 H0 _ k => ⟨Nat.le_refl _, k⟩⟩
    · refine ⟨ih.1, fun n0 H0 hn k => ⟨Nat.min_le_left _ _, fun hl => ?_⟩⟩
      have hl' : n0 ≤ min H.low H'.low := hl
      obtain ⟨k1, k2, k3⟩ := k (by omega)
      exact (ih.2 n0 H0 hn fun _ => ⟨k1, k2, k3⟩).2 (by omega)

/-- Behind a call. -/
theorem leave_ok {ρ ρ' : Rho} {G : Nat → Prop} {H H' : VH} {w w' : World} {v : AV} {u : Value} (hH : RelH ρ G H w) (hs : Hs { H with low := H.next } H') (hp : Post ρ ρ' (fun k => w.heap.size ≤ k) w w') (hH' : RelH ρ' G H' w') (hv : VR ρ' v u) :
    ∃ ρ'', Post ρ ρ'' (fun _ => False) w w' ∧ RelH ρ'' G (leave H H' v) w' ∧ VR ρ'' v u ∧ Hs H (leave H H' v) := by
  have hcall : Hs H (leave H H' v) := .call v hs
  unfold leave at *
  split
  · rename_i hc
    simp only [Bool.and_eq_true] at hc
    have hlow : H'.low = H.next := Nat.eq_of_beq_eq_true hc.1
    have hk := (hs.kept.2 H.next { H with low := H.next } (Nat.le_refl _) fun _ => ⟨fun _ _ => rfl, fun _ _ => rfl, fun b r hb hr => by
      have := hH.lt b _ (VH.row?_get (H := H) hr)
      omega⟩).2 (by omega)
    obtain ⟨k1, k2, k3⟩ := hk
    have hqq : ∀ b pl r, ρ b = some pl → H.row? b = some r → r.live = true → ¬ ρ'.q pl.rb := fun b pl r hb hr hl => by
      have hb' := hH.lt b _ (VH.row?_get hr)
      have hr' : H'.row? b = some r := by rw [row_of_get (k1 b hb')]; exact hr
      exact live_quiet hH' (hp.le _ _ hb) hr' hl
    refine ⟨ρ.after ρ', ⟨Rho.le_after hp.le, hp.os, hp.tape, hp.output, hp.size, fun k hk hn _ => hp.frame k hk hn (by omega), fun b pl h => .inr ⟨b, pl, h, rfl⟩, hp.qs⟩, ⟨fun b pl hb => ?_, fun k hk => Nat.lt_of_lt_of_le (hH.g k hk) hp.size, fun b pl r hb hr => ?_, hH.sep, hH.lin, hH.wgl, hH.lt, fun b pl r x hb hr he => ?_, fun b pl es cc vv hb he => ?_, hH'.qlt, hH'.fz⟩, flat_rel (ρ := ρ') (ρ' := ρ.after ρ') (fun _ _ e => e) v u hc.2 hv, .refl _⟩
    · obtain ⟨h1, h2, h3⟩ := hH.has b pl hb
      exact ⟨h1, Nat.lt_of_lt_of_le h2 hp.size, h3⟩
    · have hb' := hH.lt b _ (VH.row?_get hr)
      have hr' : H'.row? b = some r := by rw [row_of_get (k1 b hb')]; exact hr
      obtain ⟨c, et, fz, w1, w2, w3, w4, w5⟩ := hH'.row b pl r (hp.le _ _ hb) hr'
      refine ⟨c, et, fz, w1, w2, w3, w4, fun hrd i x hi hx => ?_⟩
      have hrd' : H'.readable r = true := by
        rw [readable_iff] at hrd ⊢
        rw [k2 r.lin (hH.lin b r hr)]
        exact hrd
      obtain ⟨z, z1, z2⟩ := w5 hrd' i x hi hx
      obtain ⟨c0, et0, fz0, v1, v2, v3, v4, v5⟩ := hH.row b pl r hb hr
      obtain ⟨z0, y1, y2⟩ := v5 hrd i x hi hx
      exact ⟨z, z1, VR.back hp.le x z z0 y2.1 z2.1, z2.2⟩
    · have hb' := hH.lt b _ (VH.row?_get hr)
      have hr' : H'.row? b = some r := by rw [row_of_get (k1 b hb')]; exact hr
      exact hH'.ety b pl r x (hp.le _ _ hb) hr' he
    · have he' : H'.get b = some (.map es cc vv) := by rw [k1 b (hH.lt b _ he)]; exact he
      obtain ⟨_, ⟨a, g1, g2⟩, alone⟩ := hH.map b pl es cc vv hb he
      obtain ⟨q, ⟨a', g3, g4⟩, _⟩ := hH'.map b pl es cc vv (hp.le _ _ hb) he'
      exact ⟨q, ⟨a', g3, OR.back hp.le g2 g4⟩, alone⟩
  · rename_i hc
    rw [hc] at hcall
    exact ⟨ρ', ⟨hp.le, hp.os, hp.tape, hp.output, hp.size, fun k hk hn _ => hp.frame k hk hn (by omega), hp.fresh, hp.qs⟩, hH'.low _, hv, hcall⟩
end Go.Vm
/-! The abstract machine's calls against the model's. -/
namespace Go.Vm
set_option linter.unusedSimpArgs false
set_option linter.unusedVariables false
set_option linter.unusedSectionVars false

/-- What is asked of a function that another text stands for. -/
def XOk (ρ : Rho) (w : World) (x : XR) (u : Value) (w' : World) : Prop :=
  match x with
  | .val v => Post ρ ρ (fun _ => False) w w' ∧ (∀ b pl, ρ b = some pl → pl.rb < w.heap.size → w'.heap[pl.rb]? = w.heap[pl.rb]?) ∧ VR ρ v u
  | .room n e => ∃ cs : Array Value, n ≤ cs.size ∧ u = .slice (some ⟨w.heap.size, 0, none⟩) n cs.size ∧ w'.heap = (w.alloc (.cells cs e)).heap ∧ w'.os = w.os ∧ w'.tape = w.tape ∧ w'.output = w.output
def ExtOne (T : Tb) (P : Program) (f : Nat) (g : VH → List AV → Option XR) : Prop :=
  ∀ H vals v, g H vals = some v → ∀ (ρ : Rho) (G : Nat → Prop) (w : World) (args : Array Value), RelH ρ G H w → Globs T ρ → VRs ρ vals args.toList → Answers P f args w fun u w' => XOk ρ w v u w'
def ExtOk (T : Tb) (P : Program) (ext : Nat → Option (VH → List AV → Option XR)) : Prop := ∀ f g, ext f = some g → ExtOne T P f g

section
variable {T : Tb} {P : Program} (hT : TbOk T P)

/-- One result of a function. -/
def resultOf (tmps : Array Value) : ResultVar → Sem Value
  | .tmp t => pure (tmps.getD t undef)
  | .cell a t => do loadVar t (← asAddr (tmps.getD a undef))

include hT in
theorem results_rel {ρ : Rho} {G : Nat → Prop} {n0 : Nat} {lam : Nat → Option Nat} {fr : Fr} {a : Act} {w : World} {H : VH} (hF : RelF ρ G n0 lam fr a.tmps w) (hH : RelH ρ G H w) :
    ∀ {rs : List ResultVar} {vs : List AV}, vresults T fr H rs = some vs → ∃ us : List Value, VRs ρ vs us ∧ (rs.mapM (resultOf a.tmps)).run P w = .ok us w
  | [], vs, h => by
    simp only [vresults, Option.some.injEq] at h
    subst h
    exact ⟨[], rfl, by simp⟩
  | .tmp t :: rs, vs, h => by
    simp only [vresults] at h
    split at h
    · rename_i x xs hx hxs
      obtain rfl := Option.some.inj h
      obtain ⟨us, h1, h2⟩ := results_rel hF hH hxs
      exact ⟨_, ⟨_, us, rfl, eva_rel hF hx, h1⟩, by simp [resultOf, h2, Act.eval]⟩
    · cases h
  | .cell t ty :: rs, vs, h => by
    simp only [vresults] at h
    split at h
    · rename_i r hr
      split at h
      · rename_i x xs hx hxs
        obtain rfl := Option.some.inj h
        obtain ⟨us, h1, h2⟩ := results_rel hF hH hxs
        obtain ⟨ad, u, e1, e2, e3⟩ := vload_sim (P := P) hT hF hH (ev_rel hF hr) hx
        have e1' : a.tmps.getD t undef = .pointer (some ad) := e1
        exact ⟨_, ⟨u, us, rfl, e3, h1⟩, by simp [resultOf, h2, e1', e2, asAddr]⟩
      · cases h
    · cases h

include hT in
theorem results_ok {ρ : Rho} {G : Nat → Prop} {n0 : Nat} {lam : Nat → Option Nat} {fr : Fr} {a : Act} {w : World} {H : VH} (hF : RelF ρ G n0 lam fr a.tmps w) (hH : RelH ρ G H w) (fn : Func) {vs : List AV} (h : vresults T fr H fn.results.toList = some vs) :
    ∃ u, (results fn a.tmps).run P w = .ok u w ∧ VR ρ (oneOf vs) u := by
  obtain ⟨us, h1, h2⟩ := results_rel (P := P) hT hF hH h
  have hm : (fn.results.mapM (resultOf a.tmps)).run P w = .ok us.toArray w := by
    rw [Array.mapM_eq_mapM_toList]
    simp [h2]
  have he : results fn a.tmps = (do let vs ← fn.results.mapM (resultOf a.tmps); pure (if h : vs.size = 1 then vs[0] else .tuple vs)) := by
    unfold results
    congr 1
  rw [he]
  simp only [Sem.run_bind, hm, Result.andThen, Sem.run_pure]
  refine ⟨_, rfl, ?_⟩
  unfold oneOf
  split
  · obtain ⟨u, l, e, h3, h4⟩ := h1
    obtain rfl : l = [] := h4
    subst e
    exact h3
  · rename_i hne
    have hl := h1.length
    have : us.toArray.size ≠ 1 := by
      intro e
      have e' : vs.length = 1 := by rw [← hl]; simpa using e
      match vs, e' with
      | [x], _ => exact hne x rfl
    rw [dif_neg this]
    exact ⟨_, rfl, by simpa using h1⟩

theorem enter_frame {ρ : Rho} {G : Nat → Prop} {w : World} {args : List AV} {us : Array Value} {nt : Nat} (hv : VRs ρ args us.toList) (hl : args.length ≤ nt) (hg : Globs T ρ) :
    RelF ρ G w.heap.size (fun _ => none) (enterFr T.gl nt args) (us ++ Array.replicate (nt - us.size) undef) w := by
  have hs : us.size = args.length := by have := hv.length; rwa [Array.length_toList] at this
  have hget : ∀ t, (enterFr T.gl nt args).regs.get t = (args[t]?).map .v := fun t => by
    show (Tr.ofListFrom (Tr.room nt) 0 (args.map RV.v)).get t = _
    rw [Tr.get_ofListFrom, Tr.get_room]
    split
    · rw [List.getElem?_map]; rfl
    · rename_i h
      rw [List.getElem?_eq_none (by simp at h; omega)]; rfl
  refine ⟨by show _ = nt; simp [hs]; omega, fun t ht => ?_, fun t ht => ?_, fun g h => hg g h, ⟨fun d c h => ?_, fun d d' c c' h => ?_, fun t d ep off h => ?_⟩⟩
  · rw [hget]
    cases ha : args[t]? with
    | none => exact trivial
    | some x =>
      obtain ⟨u, h1, h2⟩ := hv.get ha
      have hlt : t < us.size := by rw [hs]; exact (List.getElem?_eq_some_iff.1 ha).1
      have e : (us ++ Array.replicate (nt - us.size) undef).getD t undef = u := by
        rw [Array.getElem?_toList] at h1
        have h4 : us[t] = u := by rw [Array.getElem?_eq_getElem hlt] at h1; exact Option.some.inj h1
        simp [Array.getD_eq_getD_getElem?, Array.getElem?_append, hlt, h4]
      rw [e]
      exact h2
  · rw [hget]
    have : nt ≤ t := ht
    rw [List.getElem?_eq_none (by omega)]
    rfl
  · have : (Tr.leaf : Tr LC).get d = some c := h
    cases this
  · have : (Tr.leaf : Tr LC).get d = some c := h
    cases this
  · rw [hget] at h
    cases ha : args[t]? with
    | none => rw [ha] at h; cases h
    | some x => rw [ha] at h; cases h

end
end Go.Vm
/-! What steps of the abstract machine do to its heap. -/
namespace Go.Vm
set_option linter.unusedSimpArgs false
set_option linter.unusedVariables false
set_option linter.unusedSectionVars false
section
variable {T : Tb} {fr fr' : Fr} {H H' : VH} {r : RV}

theorem newBox_hs {promo : Nat → Bool} {dst : Option Nat} {cs : List AV} {e : Option Nat} (h : newBox promo dst fr H cs e = some (r, fr', H')) : Hs H H' := by
  unfold newBox at h
  split at h
  · split at h <;> (simp only [Option.some.injEq, Prod.mk.injEq] at h; obtain ⟨_, _, rfl⟩ := h)
    · exact .refl _
    · exact .freshE _ _ _
  · cases h
theorem vstore_hs {t : Nat} {rv : RV} {v : AV} (h : vstore T fr H t rv v = some (fr', H')) : Hs H H' := by
  unfold vstore at h
  split at h
  · split at h
    · split at h
      · simp only [Option.map_eq_some_iff] at h
        obtain ⟨H1, h1, h2⟩ := h
        simp only [Prod.mk.injEq] at h2
        obtain ⟨_, rfl⟩ := h2
        exact .puts h1
      · split at h
        · split at h
          · simp only [Option.some.injEq, Prod.mk.injEq] at h
            obtain ⟨_, rfl⟩ := h
            exact .refl _
          · cases h
        · cases h
      · cases h
    · cases h
  · cases h
theorem vbuildSlice_hs {q : Bool} {t len : Nat} {ps : List (Nat × Operand)} {v : AV} (h : vbuildSlice T q fr H t len ps = some (v, H')) : Hs H H' := by
  unfold vbuildSlice at h
  split at h
  · split at h
    · split at h
      · split at h
        · simp only [Option.some.injEq] at h
          cases q <;> (simp only [litOf, Prod.mk.injEq] at h; obtain ⟨_, rfl⟩ := h)
          · exact .fresh _ _
          · exact .refl _
        · cases h
      · cases h
    · cases h
  · cases h
theorem vmakeSlice_hs {t : Nat} {l c v : AV} (h : vmakeSlice T H t l c = some (v, H')) : Hs H H' := by
  unfold vmakeSlice at h
  split at h
  · split at h
    · split at h
      · simp only [Option.some.injEq, Prod.mk.injEq] at h
        obtain ⟨_, rfl⟩ := h
        exact .fresh _ _
      · cases h
    · cases h
  · cases h
theorem vconvert_hs {s d : Nat} {x v : AV} (h : vconvert T H s d x = some (v, H')) : Hs H H' := by
  unfold vconvert at h
  split at h
  · simp only [Option.some.injEq, Prod.mk.injEq] at h; rw [h.2]; exact .refl _
  · simp only [Option.some.injEq, Prod.mk.injEq] at h; rw [h.2]; exact .refl _
  · split at h
    · simp only [Option.some.injEq, Prod.mk.injEq] at h; rw [h.2]; exact .refl _
    · split at h
      · simp only [Option.map_eq_some_iff, Prod.mk.injEq] at h
        obtain ⟨_, _, _, h⟩ := h
        rw [h]; exact .refl _
      · cases h
    · cases h
  · split at h
    · simp only [Option.some.injEq, Prod.mk.injEq] at h; rw [← h.2]; exact .freshT _ _ _
    · cases h
  · split at h
    · split at h
      · simp only [Option.some.injEq, Prod.mk.injEq] at h; rw [h.2]; exact .refl _
      · cases h
    · cases h
  · split at h
    · simp only [Option.some.injEq, Prod.mk.injEq] at h; rw [h.2]; exact .refl _
    · cases h
  · cases h
theorem appendTo_hs {el sz n : Nat} {x v : AV} {new : List AV} (h : appendTo H el sz x n new = some (v, H')) : Hs H H' := by
  unfold appendTo at h
  split at h
  · simp only [Option.some.injEq, Prod.mk.injEq] at h
    obtain ⟨_, rfl⟩ := h
    exact .freshT _ _ _
  · split at h
    · cases h
    · split at h
      · split at h
        · rename_i hp
          simp only [Option.some.injEq, Prod.mk.injEq] at h
          obtain ⟨_, rfl⟩ := h
          exact .puts hp
        · cases h
      · split at h
        · simp only [Option.some.injEq, Prod.mk.injEq] at h
          obtain ⟨_, rfl⟩ := h
          exact .freshT _ _ _
        · cases h
  · split at h
    · cases h
    · split at h
      · rename_i rr hr
        split at h
        · rename_i hc
          simp only [Bool.and_eq_true] at hc
          split at h
          · simp only [Option.some.injEq, Prod.mk.injEq] at h
            obtain ⟨_, rfl⟩ := h
            exact .grow _ _ _ _ hr hc.1.1
          · cases h
        · cases h
      · cases h
  · cases h
theorem vappend_hs {ts : List Nat} {x y v : AV} (h : vappend T H ts x y = some (v, H')) : Hs H H' := by
  unfold vappend at h
  split at h
  · split at h
    · split at h
      · split at h
        · split at h
          · simp only [Option.some.injEq, Prod.mk.injEq] at h
            obtain ⟨_, rfl⟩ := h
            exact .refl _
          · cases h
        · split at h
          · split at h
            · split at h
              · exact appendTo_hs h
              · cases h
            · cases h
          · cases h
      · cases h
    · cases h
  · cases h
theorem vcopy_hs {ts : List Nat} {x y v : AV} (h : vcopy T H ts x y = some (v, H')) : Hs H H' := by
  unfold vcopy at h
  split at h
  · split at h
    · split at h
      · simp only [Option.some.injEq, Prod.mk.injEq] at h
        obtain ⟨_, rfl⟩ := h
        exact .refl _
      · split at h
        · split at h
          · split at h
            · rename_i hp
              simp only [Option.some.injEq, Prod.mk.injEq] at h
              obtain ⟨_, rfl⟩ := h
              exact .puts hp
            · cases h
          · cases h
        · cases h
      · cases h
    · cases h
  · cases h
theorem vclear_hs {ts : List Nat} {x v : AV} (h : vclear T H ts x = some (v, H')) : Hs H H' := by
  unfold vclear at h
  split at h
  · split at h
    · simp only [Option.some.injEq, Prod.mk.injEq] at h
      obtain ⟨_, rfl⟩ := h
      exact .refl _
    · split at h
      · simp only [Option.some.injEq, Prod.mk.injEq] at h
        obtain ⟨_, rfl⟩ := h
        exact .refl _
      · split at h
        · split at h
          · split at h
            · rename_i hp
              simp only [Option.some.injEq, Prod.mk.injEq] at h
              obtain ⟨_, rfl⟩ := h
              exact .puts hp
            · cases h
          · cases h
        · cases h
    · cases h
  · cases h
theorem vdelete_hs {ts : List Nat} {m k v : AV} (h : vdelete T H ts m k = some (v, H')) : Hs H H' := by
  unfold vdelete at h
  split at h
  · split at h
    · split at h
      · rw [← (Prod.mk.inj (Option.some.inj h)).2]; exact .refl _
      · cases h
    · split at h
      · rename_i hq
        split at h
        · split at h
          · rw [← (Prod.mk.inj (Option.some.inj h)).2]; exact .setMap _ _ (map?_get hq)
          · cases h
        · rw [← (Prod.mk.inj (Option.some.inj h)).2]; exact .setMap _ _ (map?_get hq)
        · cases h
      · cases h
    · cases h
  · cases h
theorem vrange_hs {t : Nat} {m v : AV} (h : vrange T H t m = some (v, H')) : Hs H H' := by
  unfold vrange at h
  split at h
  · rw [← (Prod.mk.inj (Option.some.inj h)).2]; exact .newMap _ _ _
  · split at h
    · rw [← (Prod.mk.inj (Option.some.inj h)).2]; exact .newMap _ _ _
    · cases h
  · cases h
theorem vnext_hs {m v : AV} (h : nextV (vnext H m) = some (v, H')) : Hs H H' := by
  have over : ∀ {K : VH}, nextV (some (none, K)) = some (v, H') → K = H → Hs H H' := fun h e => by
    rw [← (Prod.mk.inj (Option.some.inj h)).2, e]; exact .refl _
  unfold vnext at h
  split at h
  · split at h
    · exact over h rfl
    · rename_i hq
      split at h
      · unfold vstepIt at h
        split at h
        · exact over h rfl
        · split at h
          · split at h
            · rw [← (Prod.mk.inj (Option.some.inj h)).2]; exact .setMap _ _ (iter?_get hq)
            · cases h
          · split at h
            · exact over h rfl
            · cases h
          · cases h
        · cases h
      · cases h
    · cases h
  · cases h
theorem entryV_hs {m v : AV} (h : entryV H m = some (v, H')) : Hs H H' := by
  unfold entryV at h
  split at h
  · rw [← (Prod.mk.inj (Option.some.inj h)).2]; exact .refl _
  · cases h
theorem vmapUpdate_hs {t : Nat} {m k v : AV} (h : vmapUpdate T H t m k v = some H') : Hs H H' := by
  unfold vmapUpdate at h
  split at h
  · split at h
    · rename_i hq
      split at h
      · rw [← Option.some.inj h]; exact .setMap _ _ (map?_get hq)
      · rw [← Option.some.inj h]; exact .setMap _ _ (map?_get hq)
      · cases h
    · cases h
  · cases h
theorem vmapEntry_hs {t : Nat} {m k v : AV} (h : vmapEntry T H t m k = some (v, H')) : Hs H H' := by
  unfold vmapEntry at h
  split at h
  · split at h
    · rename_i hq _
      split at h
      · rw [← (Prod.mk.inj (Option.some.inj h)).2]; exact .setMap _ _ (map?_get hq)
      · rw [← (Prod.mk.inj (Option.some.inj h)).2]; exact .setMap _ _ (map?_get hq)
      · cases h
    · cases h
  · cases h
theorem ventryStore_hs {m st v : AV} (h : ventryStore H m st v = some H') : Hs H H' := by
  unfold ventryStore at h
  split at h
  · split at h
    · rename_i hq
      split at h
      · rw [← Option.some.inj h]; exact .setMap _ _ (map?_get hq)
      · cases h
    · cases h
  · cases h
theorem vmakeMap_hs {t : Nat} {x : Option AV} {v : AV} (h : vmakeMap T H t x = some (v, H')) : Hs H H' := by
  unfold vmakeMap at h
  split at h
  · rw [← (Prod.mk.inj (Option.some.inj h)).2]; exact .newMap _ _ _
  · rw [← (Prod.mk.inj (Option.some.inj h)).2]; exact .newMap _ _ _
  · cases h
theorem vlen_same {ts : List Nat} {x v : AV} (h : vlen T H ts x = some (v, H')) : H' = H := by
  unfold vlen at h
  split at h
  · split at h
    · simp only [Option.some.injEq, Prod.mk.injEq] at h; exact h.2.symm
    · simp only [Option.some.injEq, Prod.mk.injEq] at h; exact h.2.symm
    · split at h
      · simp only [Option.some.injEq, Prod.mk.injEq] at h; exact h.2.symm
      · cases h
    · cases h
  · cases h
theorem vcap_same {ts : List Nat} {x v : AV} (h : vcap T H ts x = some (v, H')) : H' = H := by
  unfold vcap at h
  split at h
  · split at h
    · simp only [Option.some.injEq, Prod.mk.injEq] at h; exact h.2.symm
    · cases h
  · cases h
theorem vbuiltin_hs {b : Builtin} {ts : List Nat} {args : List AV} {v : AV} (h : vbuiltin T H b ts args = some (v, H')) : Hs H H' := by
  unfold vbuiltin at h
  split at h
  · rw [vlen_same h]; exact .refl _
  · rw [vcap_same h]; exact .refl _
  · exact vappend_hs h
  · exact vcopy_hs h
  · split at h
    · simp only [Option.some.injEq, Prod.mk.injEq] at h; rw [← h.2]; exact .refl _
    · cases h
  · split at h
    · simp only [Option.some.injEq, Prod.mk.injEq] at h; rw [← h.2]; exact .refl _
    · cases h
  · exact vclear_hs h
  · exact vdelete_hs h
  · simp only [Option.some.injEq, Prod.mk.injEq] at h; rw [← h.2]; exact .refl _
  · simp only [Option.some.injEq, Prod.mk.injEq] at h; rw [← h.2]; exact .refl _
  · unfold vunsafeString at h
    split at h
    · split at h
      · simp only [Option.some.injEq, Prod.mk.injEq] at h; rw [← h.2]; exact .refl _
      · split at h
        · split at h
          · rename_i hr
            split at h
            · rename_i hc
              simp only [Bool.and_eq_true] at hc
              split at h
              · simp only [Option.map_eq_some_iff, Prod.mk.injEq] at h
                obtain ⟨_, _, _, h⟩ := h
                rw [← h]
                exact .dead hr hc.1.1.2
              · cases h
            · cases h
          · cases h
        · cases h
    · cases h
  · cases h

def CallsHs (callF : Nat → List AV → VH → Option (AV × VH)) : Prop := ∀ f vals H v H', callF f vals H = some (v, H') → Hs H H'

theorem outR_same {x : Option RV} (h : outR fr H x = some (r, fr', H')) : Hs H H' := by obtain ⟨_, _, rfl⟩ := outR_spec h; exact .refl _
theorem outV_same {x : Option AV} (h : outV fr H x = some (r, fr', H')) : Hs H H' := by obtain ⟨_, _, _, _, rfl⟩ := outV_spec h; exact .refl _

theorem vop_hs {promo : Nat → Bool} {dst : Option Nat} {op : Op} (h : vop T promo dst op fr H = some (r, fr', H')) : Hs H H' := by
  unfold vop at h
  split at h
  · exact outR_same h
  · exact outR_same h
  · unfold oPick at h
    split at h
    · exact outR_same h
    · exact outR_same h
    · cases h
  · unfold oAlloc at h
    split at h
    · exact newBox_hs h
    · cases h
  · unfold oBox at h
    split at h
    · exact newBox_hs h
    · cases h
  · exact outV_same h
  · obtain ⟨v, hv, _⟩ := outH_spec h
    exact vbuildSlice_hs hv
  · unfold oLoad at h
    split at h
    · exact outV_same h
    · cases h
  · unfold oStore at h
    split at h
    · split at h
      · rename_i hs
        simp only [Option.some.injEq, Prod.mk.injEq] at h
        obtain ⟨_, rfl, rfl⟩ := h
        exact vstore_hs hs
      · cases h
    · cases h
  · unfold oNil at h
    split at h <;> first | (simp only [Option.some.injEq, Prod.mk.injEq] at h; rw [← h.2.2]; exact .refl _) | cases h
  · unfold oBin at h
    split at h
    · split at h
      · exact outV_same h
      · cases h
    · cases h
  · unfold oUn at h
    split at h
    · exact outV_same h
    · cases h
  · unfold oConv at h
    split at h
    · obtain ⟨v, hv, _⟩ := outH_spec h
      exact vconvert_hs hv
    · cases h
  · unfold oIface at h
    split at h
    · cases h
    · simp only [Option.some.injEq, Prod.mk.injEq] at h; rw [← h.2.2]; exact .refl _
    · cases h
  · unfold oFunc at h
    split at h
    · simp only [Option.some.injEq, Prod.mk.injEq] at h; rw [← h.2.2]; exact .refl _
    · cases h
  · unfold oMakeSlice at h
    split at h
    · obtain ⟨v, hv, _⟩ := outH_spec h
      exact vmakeSlice_hs hv
    · cases h
  · unfold oSlice at h
    split at h
    · exact outV_same h
    · cases h
  · unfold oFieldAddr at h
    split at h
    · exact outR_same h
    · cases h
  · unfold oField at h
    split at h
    · exact outV_same h
    · cases h
  · unfold oIndexAddr at h
    split at h
    · exact outR_same h
    · cases h
  · unfold oIndex at h
    split at h
    · exact outV_same h
    · cases h
  · unfold oExtract at h
    split at h
    · exact outV_same h
    · cases h
  · unfold oMakeMap at h
    split at h
    · obtain ⟨v, hv, _⟩ := outH_spec h
      exact vmakeMap_hs hv
    · cases h
  · unfold oLookup at h
    split at h
    · exact outV_same h
    · cases h
  · unfold oMapUpdate at h
    split at h
    · exact vmapUpdate_hs (outU_spec h).1
    · cases h
  · unfold oMapEntry at h
    split at h
    · obtain ⟨v, hv, _⟩ := outH_spec h
      exact vmapEntry_hs hv
    · cases h
  · unfold oEntryStore at h
    split at h
    · exact ventryStore_hs (outU_spec h).1
    · cases h
  · unfold oMapUpdate at h
    split at h
    · exact vmapUpdate_hs (outU_spec h).1
    · cases h
  · unfold oRange at h
    split at h
    · obtain ⟨v, hv, _⟩ := outH_spec h
      exact vrange_hs hv
    · cases h
  · unfold oNext at h
    split at h
    · obtain ⟨v, hv, _⟩ := outH_spec h
      exact vnext_hs hv
    · cases h
  · unfold oEntry at h
    split at h
    · obtain ⟨v, hv, _⟩ := outH_spec h
      exact entryV_hs hv
    · cases h
  · cases h

variable {callF : Nat → List AV → VH → Option (AV × VH)} (hC : CallsHs callF)
include hC
theorem vstep_hs {promo : Nat → Bool} {o : Oper} (h : vstep T callF promo o fr H = some (r, fr', H')) : Hs H H' := by
  unfold vstep at h
  split at h
  · unfold vcallOp at h
    split at h
    · cases h
    · split at h
      · obtain ⟨v, hv, _⟩ := outH_spec h
        exact (frzSrc_hs _ _ _ _).trans (vbuiltin_hs hv)
      · split at h
        · obtain ⟨v, hv, _⟩ := outH_spec h
          exact hC _ _ _ _ _ hv
        · cases h
      · cases h
  · exact vop_hs h

theorem vops_hs {promo : Nat → Bool} {ops : Array Oper} : ∀ {os : List Oper} {fr fr' : Fr} {H H' : VH}, vops T callF promo ops os fr H = some (fr', H') → Hs H H'
  | [], _, _, _, _, h => by
    simp only [vops, Option.some.injEq, Prod.mk.injEq] at h
    rw [h.2]
    exact .refl _
  | o :: os, fr, fr', H, H', h => by
    change opsCons T callF promo ops o (vops T callF promo ops os) fr H = some (fr', H') at h
    unfold opsCons at h
    split at h
    · split at h
      · rename_i hs
        exact (vstep_hs hC hs).trans (vops_hs h)
      · cases h
    · exact vops_hs h
    · cases h
theorem vopsT_hs {promo : Nat → Bool} {ops : Array Oper} {bef : Array Nat} : ∀ {os : List Oper} {k : Nat} {ts : List Tag} {fr fr' : Fr} {H H' : VH}, vopsT T callF promo ops bef os k ts fr H = some (fr', H') → Hs H H'
  | [], _, _, _, _, _, _, h => by
    simp only [vopsT, Option.some.injEq, Prod.mk.injEq] at h
    rw [h.2]
    exact .refl _
  | o :: os, k, ts, fr, fr', H, H', h => by
    change opsConsT T callF promo ops bef o (vopsT T callF promo ops bef os) k ts fr H = some (fr', H') at h
    unfold opsConsT at h
    split at h
    · split at h
      · rename_i hs
        split at h
        · exact (vstep_hs hC hs).trans (vopsT_hs h)
        · cases h
      · cases h
    · exact vopsT_hs h
    · cases h

omit hC in
theorem loopStep_hs {x y : Run} (hx : ∀ fr H e fr' H', x fr H = some (e, fr', H') → Hs H H') (hy : ∀ fr H e fr' H', y fr H = some (e, fr', H') → Hs H H') : ∀ fr H e fr' H', loopStep x y fr H = some (e, fr', H') → Hs H H' := by
  intro fr H e fr' H' h
  unfold loopStep at h
  split at h
  · rename_i h1
    exact (hx _ _ _ _ _ h1).trans (hy _ _ _ _ _ h)
  · exact hx _ _ _ _ _ h

theorem vcode_hs {promo : Nat → Bool} (n : Nat) (c : Code) : ∀ fr H e fr' H', vcode T callF promo n c fr H = some (e, fr', H') → Hs H H' := by
  induction c with
  | region id ops d =>
    intro fr H e fr' H' h
    change cRegion T callF promo ops d fr H = some (e, fr', H') at h
    unfold cRegion at h
    split at h
    · rename_i fr1 H1 h1
      simp only [Option.some.injEq, Prod.mk.injEq] at h
      obtain ⟨_, _, rfl⟩ := h
      cases d with
      | true => exact vopsT_hs hC h1
      | false => exact vops_hs hC h1
    · cases h
  | seq a b iha ihb => exact loopStep_hs iha ihb
  | cond c a b iha ihb =>
    intro fr H e fr' H' h
    change cCond c _ _ fr H = some (e, fr', H') at h
    unfold cCond at h
    split at h
    · exact iha _ _ _ _ _ h
    · exact ihb _ _ _ _ _ h
    · cases h
  | block id c ih =>
    intro fr H e fr' H' h
    change cBlock id _ fr H = some (e, fr', H') at h
    unfold cBlock at h
    split at h
    · rename_i h1
      split at h <;> (simp only [Option.some.injEq, Prod.mk.injEq] at h; obtain ⟨_, _, rfl⟩ := h; exact ih _ _ _ _ _ h1)
    · exact ih _ _ _ _ _ h
  | loop c ih =>
    have : ∀ m, ∀ fr H e fr' H', vloop (vcode T callF promo n c) m fr H = some (e, fr', H') → Hs H H' := by
      intro m
      induction m with
      | zero => intro fr H e fr' H' h; cases h
      | succ m ihm => exact loopStep_hs ih ihm
    exact this n
  | skip | exit | label | ret =>
    intro fr H e fr' H' h
    simp only [vcode, cEx, Option.some.injEq, Prod.mk.injEq] at h
    obtain ⟨_, _, rfl⟩ := h
    exact .refl _
  | _ =>
    intro fr H e fr' H' h
    exact absurd h (by simp [vcode, cNone])
end

theorem vcall_hs (T : Tb) (ext : Nat → Option (VH → List AV → Option XR)) (promo : Nat → Nat → Bool) : ∀ n, CallsHs (vcall T ext promo n)
  | 0 => fun _ _ _ _ _ h => by cases h
  | n + 1 => by
    have ih := vcall_hs T ext promo n
    intro f vals H v H' h
    change callStep T ext promo n (vcall T ext promo n) f vals H = some (v, H') at h
    unfold callStep at h
    have ret : ∀ q fn fr H H1, Hs { H with low := H.next } H1 → callStep.retStep T q fn fr H H1 = some (v, H') → Hs H H' := by
      intro q fn fr H H1 hs hr
      unfold callStep.retStep at hr
      split at hr
      · simp only [back, Option.some.injEq, Prod.mk.injEq] at hr
        obtain ⟨_, rfl⟩ := hr
        exact .call _ (hs.trans (frzV_hs _ _ _))
      · cases hr
    split at h
    · split at h
      · simp only [Option.some.injEq, Prod.mk.injEq] at h; rw [← h.2]; exact .refl _
      · simp only [Option.some.injEq, Prod.mk.injEq] at h; rw [← h.2]; exact .blank _ _
      · cases h
    · split at h
      · cases h
      · split at h
        · cases h
        · split at h
          · unfold callStep.runStep at h
            rename_i fn _ _ _ _ _
            refine (frzArgs_hs (promo f (fn.ntmps + 1)) vals H).trans ?_
            split at h
            · rename_i hr
              exact ret _ _ _ _ _ (vcode_hs ih n _ _ _ _ _ _ hr) h
            · rename_i hr
              exact ret _ _ _ _ _ (vcode_hs ih n _ _ _ _ _ _ hr) h
            · cases h
          · cases h

/-! ## What reads cannot tell apart -/
def WfH (H : VH) : Prop := ∀ b x, H.get b = some x → b < H.next
/-- A row's later forms. -/
def Later (H H' : VH) : Prop := H.next ≤ H'.next ∧ WfH H' ∧
  (∀ b r, H.row? b = some r → ∃ r', H'.row? b = some r' ∧ r'.n = r.n ∧ r.ver ≤ r'.ver ∧ (r'.ver = r.ver → r'.t = r.t)) ∧
  ∀ b es c v, H.get b = some (.map es c v) → ∃ es' c' v', H'.get b = some (.map es' c' v') ∧ v ≤ v' ∧ (v' = v → es' = es ∧ c' = c)

theorem Later.refl {H : VH} (h : WfH H) : Later H H := ⟨Nat.le_refl _, h, fun b r hr => ⟨r, hr, rfl, Nat.le_refl _, fun _ => rfl⟩, fun b es c v hm => ⟨es, c, v, hm, Nat.le_refl _, fun _ => ⟨rfl, rfl⟩⟩⟩
theorem Later.trans {a b c : VH} (h : Later a b) (k : Later b c) : Later a c :=
  ⟨Nat.le_trans h.1 k.1, k.2.1, fun x r hr => by
    obtain ⟨r', h1, h2, h3, h4⟩ := h.2.2.1 x r hr
    obtain ⟨r'', k1, k2, k3, k4⟩ := k.2.2.1 x r' h1
    exact ⟨r'', k1, k2.trans h2, Nat.le_trans h3 k3, fun e => (k4 (by omega)).trans (h4 (by omega))⟩, fun x es c v hm => by
    obtain ⟨es', c', v', h1, h2, h3⟩ := h.2.2.2 x es c v hm
    obtain ⟨es'', c'', v'', k1, k2, k3⟩ := k.2.2.2 x es' c' v' h1
    refine ⟨es'', c'', v'', k1, Nat.le_trans h2 k2, fun e => ?_⟩
    obtain ⟨rfl, rfl⟩ := k3 (by omega)
    obtain ⟨rfl, rfl⟩ := h3 (by omega)
    exact ⟨rfl, rfl⟩⟩
/-- Maps that are left alone. -/
theorem maps_left {H H' : VH} (h : ∀ b es c v, H.get b = some (.map es c v) → H'.get b = some (.map es c v)) : ∀ b es c v, H.get b = some (.map es c v) → ∃ es' c' v', H'.get b = some (.map es' c' v') ∧ v ≤ v' ∧ (v' = v → es' = es ∧ c' = c) :=
  fun b es c v hm => ⟨es, c, v, h b es c v hm, Nat.le_refl _, fun _ => ⟨rfl, rfl⟩⟩

theorem Hs.later {H H' : VH} (h : Hs H H') : WfH H → Later H H' := by
  induction h with
  | refl H => exact fun hw => .refl hw
  | trans _ _ ih1 ih2 => exact fun hw => (ih1 hw).trans (ih2 (ih1 hw).2.1)
  | @put H H' b o v hp =>
    intro hw
    obtain ⟨r, hr, rfl⟩ : ∃ r, H.row? b = some r ∧ H' = (H.cut r.lin r.gen).set b (.row { r with t := r.t.set o v, ver := r.ver + 1 }) := by
      unfold VH.putN at hp
      split at hp
      · rename_i r hr
        split at hp
        · exact ⟨r, hr, (Option.some.inj hp).symm⟩
        · cases hp
      · cases hp
    have hnx : ((H.cut r.lin r.gen).set b (.row { r with t := r.t.set o v, ver := r.ver + 1 })).next = H.next := next_cut _ _ _
    refine ⟨by rw [hnx]; exact Nat.le_refl _, fun b' x hx => ?_, fun b' r' hr' => ?_, maps_left fun b' es c v hm => ?_⟩
    rotate_left 2
    · have : b' ≠ b := fun e => by subst e; rw [VH.row?_get hr] at hm; cases hm
      rw [get_vset, get_cut, if_neg this]; exact hm
    · rw [hnx]
      rw [get_vset, get_cut] at hx
      split at hx
      · rename_i e; rw [e]; exact hw b _ (VH.row?_get hr)
      · exact hw b' x hx
    · rw [row?_vset, row?_cut]
      by_cases e : b' = b
      · subst e
        rw [hr] at hr'
        obtain rfl := Option.some.inj hr'
        rw [if_pos rfl]
        exact ⟨_, rfl, rfl, Nat.le_succ _, fun e => by simp only at e; omega⟩
      · rw [if_neg e]
        exact ⟨r', hr', rfl, Nat.le_refl _, fun _ => rfl⟩
  | mk H n t e =>
    intro hw
    refine ⟨Nat.le_succ _, fun b' x hx => ?_, fun b' r' hr' => ?_, maps_left fun b' es c v hm => ?_⟩
    rotate_left 2
    · have := hw b' _ hm
      rw [get_valloc, if_neg (by omega)]; exact hm
    · show b' < H.next + 1
      rw [get_valloc] at hx
      split at hx
      · omega
      · have := hw b' x hx; omega
    · refine ⟨r', ?_, rfl, Nat.le_refl _, fun _ => rfl⟩
      have := hw b' _ (VH.row?_get hr')
      rw [row?_valloc, if_neg (by omega)]
      exact hr'
  | @dead H b r hr hlive =>
    intro hw
    refine ⟨Nat.le_refl _, fun b' x hx => ?_, fun b' r' hr' => ?_, maps_left fun b' es c v hm => ?_⟩
    rotate_left 2
    · have : b' ≠ b := fun e => by subst e; rw [VH.row?_get hr] at hm; cases hm
      show (H.set b _).get b' = _
      rw [get_vset, if_neg this]; exact hm
    · have hx' : (H.set b (.row { r with live := false })).get b' = some x := hx
      rw [get_vset] at hx'
      split at hx'
      · rename_i e; rw [e]; exact hw b _ (VH.row?_get hr)
      · exact hw b' x hx'
    · show ∃ r'', (H.set b (.row { r with live := false })).row? b' = some r'' ∧ _
      rw [row?_vset]
      by_cases e : b' = b
      · subst e
        rw [hr] at hr'
        obtain rfl := Option.some.inj hr'
        rw [if_pos rfl]
        exact ⟨_, rfl, rfl, Nat.le_refl _, fun _ => rfl⟩
      · rw [if_neg e]
        exact ⟨r', hr', rfl, Nat.le_refl _, fun _ => rfl⟩
  | @grow H b r q n t e hr hlive =>
    intro hw
    have hnx : (H.cutIf q r.lin (r.gen + 1)).next = H.next := next_cutIf _ _ _ _
    have hg : ∀ b', ((H.cutIf q r.lin (r.gen + 1)).grow b r n t e).get b' = if b' = H.next then some (.row { n, t, live := true, lin := r.lin, gen := r.gen + 1, ver := 0, ety := e }) else if b' = b then some (.row { r with live := false }) else H.get b' := by
      intro b'
      show (((H.cutIf q r.lin (r.gen + 1)).set b (.row { r with live := false })).alloc _).get b' = _
      rw [get_valloc, get_vset, get_cutIf]
      show (if b' = (H.cutIf q r.lin (r.gen + 1)).next then _ else _) = _
      rw [hnx]
    have hnx2 : ((H.cutIf q r.lin (r.gen + 1)).grow b r n t e).next = H.next + 1 := by
      show (H.cutIf q r.lin (r.gen + 1)).next + 1 = _
      rw [hnx]
    have hb := hw b _ (VH.row?_get hr)
    refine ⟨by rw [hnx2]; omega, fun b' x hx => ?_, fun b' r' hr' => ?_, maps_left fun b' es c v hm => ?_⟩
    rotate_left 2
    · have : b' ≠ b := fun e => by subst e; rw [VH.row?_get hr] at hm; cases hm
      have h2 := hw b' _ hm
      rw [hg, if_neg (by omega), if_neg this]; exact hm
    · rw [hnx2]
      rw [hg] at hx
      split at hx
      · omega
      · split at hx
        · omega
        · have := hw b' x hx; omega
    · have hb' := hw b' _ (VH.row?_get hr')
      have hgb := hg b'
      rw [if_neg (by omega)] at hgb
      by_cases e : b' = b
      · subst e
        rw [hr] at hr'
        obtain rfl := Option.some.inj hr'
        rw [if_pos rfl] at hgb
        exact ⟨_, VH.row?_of hgb, rfl, Nat.le_refl _, fun _ => rfl⟩
      · rw [if_neg e] at hgb
        exact ⟨r', by rw [row_of_get hgb]; exact hr', rfl, Nat.le_refl _, fun _ => rfl⟩
  | newMap H es c =>
    intro hw
    have hg : ∀ b', (H.newMap es c).get b' = if b' = H.next then some (.map es c 0) else H.get b' := fun b' => get_valloc _ _ _
    refine ⟨Nat.le_succ _, fun b' x hx => ?_, fun b' r' hr' => ?_, maps_left fun b' es c v hm => ?_⟩
    · show b' < H.next + 1
      rw [hg] at hx
      split at hx
      · omega
      · have := hw b' x hx; omega
    · refine ⟨r', ?_, rfl, Nat.le_refl _, fun _ => rfl⟩
      have := hw b' _ (VH.row?_get hr')
      rw [row_of_get ((hg b').trans (if_neg (by omega)))]
      exact hr'
    · have := hw b' _ hm
      rw [hg, if_neg (by omega)]; exact hm
  | @setMap H b es0 c0 v0 es' c' hm0 =>
    intro hw
    have hg : ∀ b', (H.setMap b es' c' v0).get b' = if b' = b then some (.map es' c' (v0 + 1)) else H.get b' := fun b' => get_vset _ _ _ _
    have hm1 := hm0
    refine ⟨Nat.le_refl _, fun b' x hx => ?_, fun b' r' hr' => ?_, fun b' es c v hm => ?_⟩
    · show b' < H.next
      rw [hg] at hx
      split at hx
      · rename_i e; subst e; exact hw b' _ hm1
      · exact hw b' x hx
    · refine ⟨r', ?_, rfl, Nat.le_refl _, fun _ => rfl⟩
      have : b' ≠ b := fun e => by subst e; have := VH.row?_get hr'; rw [hm1] at this; cases this
      rw [row_of_get ((hg b').trans (if_neg this))]
      exact hr'
    · by_cases e : b' = b
      · subst e
        rw [hm1] at hm
        simp only [Option.some.injEq, Blk.map.injEq] at hm
        obtain ⟨rfl, rfl, rfl⟩ := hm
        exact ⟨es', c', v0 + 1, by rw [hg, if_pos rfl], Nat.le_succ _, fun e => by omega⟩
      · exact ⟨es, c, v, by rw [hg, if_neg e]; exact hm, Nat.le_refl _, fun _ => ⟨rfl, rfl⟩⟩
  | @call H H' v hs ih =>
    intro hw
    unfold leave
    split
    · exact .refl hw
    · exact ih hw

def SameB (H H' : VH) (b : Nat) : Prop := (∀ o, H'.cell b o = H.cell b o) ∧ (∀ k, fits H' b k = fits H b k) ∧ ments H' (.map (some b)) = ments H (.map (some b))
theorem SameB.refl (H : VH) (b : Nat) : SameB H H b := ⟨fun _ => rfl, fun _ => rfl, rfl⟩
theorem SameB.trans {x y z : VH} {b : Nat} (h : SameB x y b) (k : SameB y z b) : SameB x z b := ⟨fun o => (k.1 o).trans (h.1 o), fun o => (k.2.1 o).trans (h.2.1 o), k.2.2.trans h.2.2⟩
theorem SameB.symm {x y : VH} {b : Nat} (h : SameB x y b) : SameB y x b := ⟨fun o => (h.1 o).symm, fun o => (h.2.1 o).symm, h.2.2.symm⟩
theorem ments_get {H K : VH} {b : Nat} {es : List ME} {c v d u : Nat} (h : H.get b = some (.map es c v)) (k : K.get b = some (.map es d u)) : ments K (.map (some b)) = ments H (.map (some b)) := by
  simp only [ments, VH.map?, h, k]
  cases isIt es <;> rfl
theorem same_of {H H' : VH} {b : Nat} (hl : Later H H') (h : H.same H' b = true) : SameB H H' b := by
  unfold VH.same at h
  split at h
  · rename_i r r' h1 h2
    simp only [Bool.and_eq_true, beq_iff_eq] at h
    obtain ⟨r2, k1, k2, k3, k4⟩ := hl.2.2.1 b r (VH.row?_of h1)
    rw [VH.row?_of h2] at k1
    obtain rfl := Option.some.inj k1
    have ht := k4 h.1.1.symm
    exact ⟨fun o => by simp only [VH.cell, VH.cellN, VH.row?_of h1, VH.row?_of h2, h.1.2, h.2, if_true, k2, ht], fun k => by simp only [fits, VH.row?_of h1, VH.row?_of h2, k2], by simp [ments, VH.map?, h1, h2]⟩
  · rename_i es c v es' c' v' h1 h2
    obtain ⟨es2, c2, v2, g1, g2, g3⟩ := hl.2.2.2 b es c v h1
    rw [h2] at g1
    simp only [Option.some.injEq, Blk.map.injEq] at g1
    obtain ⟨rfl, rfl, rfl⟩ := g1
    obtain ⟨rfl, rfl⟩ := g3 (by simpa using (beq_iff_eq.1 h).symm)
    exact ⟨fun o => by simp [VH.cell, VH.cellN, VH.row?, h1, h2], fun k => by simp [fits, VH.row?, h1, h2], ments_get h1 h2⟩
  · cases h
theorem cells_same {H H' : VH} {b : Nat} (h : SameB H H' b) : ∀ n o, H'.cells b o n = H.cells b o n
  | 0, _ => rfl
  | n + 1, o => by simp only [VH.cells, h.1 o, cells_same h n (o + 1)]
/-- As much of a block of either kind. -/
def SameK (H K : VH) : Bk → Prop
  | .blk n => SameB H K n
  | .pur _ => True
theorem SameK.cell {H K : VH} : ∀ {b : Bk}, SameK H K b → ∀ o, K.cell b o = H.cell b o
  | .blk _, h, o => h.1 o
  | .pur _, _, _ => rfl
theorem cells_sameK {H K : VH} {b : Bk} (h : SameK H K b) : ∀ n o, K.cells b o n = H.cells b o n
  | 0, _ => rfl
  | n + 1, o => by simp only [VH.cells, h.cell o, cells_sameK h n (o + 1)]
end Go.Vm
