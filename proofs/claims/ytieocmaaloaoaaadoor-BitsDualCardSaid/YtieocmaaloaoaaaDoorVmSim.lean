/- The abstract machine's operations against the model's. -/
import Derived.Test.YtieocmaaloaoaaaDoorVmMem
import Derived.Laws.Append
import Derived.Laws.Entries
namespace Go.Vm
set_option linter.unusedSimpArgs false
set_option linter.unusedVariables false
set_option linter.unusedSectionVars false

/-! ## Tables -/
structure TbOk (T : Tb) (P : Program) : Prop where
  ty : ∀ t i, T.ty.get t = some i → P.info? t = some i
  fn : ∀ f F, T.fn.get f = some F → P.funcs[f]? = some F
  named : ∀ f F, T.fn.get f = some F → (F.name == "runtime.NumGoroutine") = false
  eq : ∀ t, T.eqOk t = true → P.stoodInHeld t = false ∧ P.eqGuardType P.depth t = false
  mixed : P.follows .mixedOrders = true
  fields : ∀ t fs, T.und t = some (.struct fs) → ∀ f ∈ fs.toList, ∃ i, P.info? f.type = some i

section
variable {T : Tb} {P : Program} (hT : TbOk T P)
include hT

theorem und_ok {t : Nat} {d : TypeDesc} (h : T.und t = some d) : P.underlying t = some d := by
  unfold Tb.und at h
  unfold Program.underlying
  split at h
  · rename_i i hi
    have h1 := hT.ty t i hi
    rw [h1]
    split at h
    · rename_i n u e
      split at h
      · rename_i j hj
        have h2 := hT.ty u j hj
        obtain rfl := Option.some.inj h
        cases i
        simp only at e
        subst e
        simp [h2]
      · cases h
    · rename_i d' e
      obtain rfl := Option.some.inj h
      cases i
      rename_i desc _ _ _ _ _ _ _ _ _
      simp only at e ⊢
      cases desc <;> first | rfl | exact (e _ _ rfl).elim
  · cases h
theorem run_und {t : Nat} {d : TypeDesc} (h : T.und t = some d) (w : World) : (underlying t).run P w = .ok d w := run_underlying (und_ok hT h) w
theorem run_info {t : Nat} {i : TypeInfo} (h : T.info t = some i) (w : World) : (typeInfo t).run P w = .ok i w := by
  simp [typeInfo, hT.ty t i h]
theorem run_size {t n : Nat} (h : sizeOfT T t = some n) (w : World) : (sizeOf t).run P w = .ok n w := by
  unfold sizeOfT at h
  cases hi : T.info t with
  | none => rw [hi] at h; cases h
  | some i =>
    rw [hi] at h
    obtain rfl := Option.some.inj h
    simp [sizeOf, run_info hT hi w]
theorem run_shape' {t n : Nat} {b : Bool} (h : shapeOf T t = some (b, n)) (w : World) : (isAgg t).run P w = .ok b w ∧ (sizeOf t).run P w = .ok n w := by
  unfold shapeOf at h
  split at h
  · rename_i i _ hi hu
    simp only [Option.some.injEq, Prod.mk.injEq] at h
    obtain ⟨rfl, rfl⟩ := h
    exact ⟨by simp [isAgg, run_und hT hu w], by simp [sizeOf, run_info hT hi w]⟩
  · rename_i i _ _ hi hu
    simp only [Option.some.injEq, Prod.mk.injEq] at h
    obtain ⟨rfl, rfl⟩ := h
    exact ⟨by simp [isAgg, run_und hT hu w], by simp [sizeOf, run_info hT hi w]⟩
  · rename_i i d n1 n2 hi hu
    simp only [Option.some.injEq, Prod.mk.injEq] at h
    obtain ⟨rfl, rfl⟩ := h
    refine ⟨?_, by simp [sizeOf, run_info hT hi w]⟩
    simp only [isAgg, Sem.run_bind, run_und hT hu w, Result.andThen]
    cases d <;> first | rfl | exact (n1 _ rfl).elim | exact (n2 _ _ rfl).elim
  · cases h
end

theorem ofValue_one {ρ : Rho} {v : Value} {a : AV} (h : ofValue.one v = some a) : VR ρ a v ∧ v.oneCell' = true := by
  unfold ofValue.one at h
  split at h <;> first
    | (obtain rfl := Option.some.inj h; first | exact ⟨rfl, rfl⟩ | exact ⟨⟨_, rfl, rfl⟩, rfl⟩ | exact ⟨⟨rfl, rfl, rfl⟩, rfl⟩)
    | cases h
theorem ofValue_go {ρ : Rho} : ∀ {vs : List Value} {as : List AV}, ofValue.go vs = some as → VRs ρ as vs ∧ ∀ u ∈ vs, u.oneCell' = true
  | [], as, h => by
    simp only [ofValue.go, Option.some.injEq] at h
    subst h
    exact ⟨rfl, fun u hu => by simp at hu⟩
  | v :: vs, as, h => by
    simp only [ofValue.go] at h
    split at h
    · rename_i a as' h1 h2
      obtain rfl := Option.some.inj h
      obtain ⟨r1, r2⟩ := ofValue_one (ρ := ρ) h1
      obtain ⟨s1, s2⟩ := ofValue_go (ρ := ρ) h2
      refine ⟨⟨v, vs, rfl, r1, s1⟩, fun u hu => ?_⟩
      rcases List.mem_cons.1 hu with rfl | hu
      · exact r2
      · exact s2 u hu
    · cases h
theorem ofValue_rel {ρ : Rho} {v : Value} {a : AV} (h : ofValue v = some a) : VR ρ a v := by
  unfold ofValue at h
  split at h <;> first
    | (obtain rfl := Option.some.inj h; first | exact rfl | exact ⟨_, rfl, rfl⟩ | exact ⟨rfl, rfl, rfl⟩)
    | (rename_i cs
       cases hg : ofValue.go cs.toList with
       | none => rw [hg] at h; cases h
       | some as =>
         rw [hg] at h
         obtain rfl := Option.some.inj h
         obtain ⟨r1, r2⟩ := ofValue_go (ρ := ρ) hg
         exact ⟨cs, rfl, r1, r2⟩)
    | cases h
theorem ofValue_cells {ρ : Rho} {v : Value} {a : AV} (h : ofValue v = some a) : VRs ρ a.cells v.cells.toList ∧ ∀ u ∈ v.cells.toList, u.oneCell' = true := by
  have hr : VR ρ a v := ofValue_rel h
  cases a with
  | agg cs =>
    obtain ⟨b, rfl, h1, h2⟩ := hr
    exact ⟨h1, h2⟩
  | undef =>
    exfalso
    unfold ofValue at h
    split at h <;> first | cases h | (rename_i cs; cases hg : ofValue.go cs.toList <;> rw [hg] at h <;> cases h)
  | tuple cs =>
    exfalso
    unfold ofValue at h
    split at h <;> first | cases h | (rename_i cs; cases hg : ofValue.go cs.toList <;> rw [hg] at h <;> cases h)
  | _ =>
    have h1 := hr.cells (by rfl)
    exact ⟨h1, h1.one (by rfl)⟩
theorem run_zero {T : Tb} {P : Program} (hT : TbOk T P) {t : Nat} {z : AV} (h : zeroOf T t = some z) (w : World) : ∃ v, (zeroValue t).run P w = .ok v w ∧ (∀ ρ, VR ρ z v) ∧ (∀ ρ, VRs ρ z.cells v.cells.toList) ∧ (∀ u ∈ v.cells.toList, u.oneCell' = true) := by
  unfold zeroOf at h
  split at h
  · rename_i i hi
    cases hz : i.zero with
    | none => rw [hz] at h; cases h
    | some v =>
      rw [hz] at h
      exact ⟨v, by simp [zeroValue, run_info hT hi w, hz], fun ρ => ofValue_rel h, fun ρ => (ofValue_cells h).1, (ofValue_cells (ρ := fun _ => none) h).2⟩
  · cases h

/-! ## Frames -/
def RVR (ρ : Rho) (lam : Nat → Option Nat) (loc : Tr LC) : RV → Value → Prop
  | .v a, v => VR ρ a v
  | .loc d ep off, v => ∀ c, loc.get d = some c → c.ep = ep → ∃ rb, lam d = some rb ∧ v = .pointer (some ⟨rb, off, none⟩)

/-- A box of that name came to be after that one. -/
def Fr.old (fr : Fr) (d ep : Nat) : Prop := ∃ c, fr.loc.get d = some c ∧ ep ≤ c.ep

structure LocR (ρ : Rho) (G : Nat → Prop) (n0 : Nat) (lam : Nat → Option Nat) (fr : Fr) (w : World) : Prop where
  box : ∀ d c, fr.loc.get d = some c → ∃ rb cs et, lam d = some rb ∧ n0 ≤ rb ∧ w.heap[rb]? = some (.cells cs et (0, 0)) ∧ VRs ρ c.cells cs.toList ∧ (∀ u ∈ cs.toList, u.oneCell' = true) ∧ ¬ G rb ∧ (∀ b pl, ρ b = some pl → pl.rb ≠ rb)
  inj : ∀ d d' c c', fr.loc.get d = some c → fr.loc.get d' = some c' → lam d = lam d' → d = d'
  stale : ∀ t d ep off, fr.regs.get t = some (.loc d ep off) → fr.old d ep

structure RelF (ρ : Rho) (G : Nat → Prop) (n0 : Nat) (lam : Nat → Option Nat) (fr : Fr) (tmps : Array Value) (w : World) : Prop where
  size : tmps.size = fr.nt
  regs : ∀ t, t < fr.nt → RVR ρ lam fr.loc ((fr.regs.get t).getD (.v .undef)) (tmps.getD t undef)
  over : ∀ t, fr.nt ≤ t → fr.regs.get t = none
  glob : ∀ g, fr.gl g = true → ∃ s q, ρ g = some ⟨g, 0, s, q⟩
  loc : LocR ρ G n0 lam fr w

/-- Memory turns as a callee or an operation turns it. -/
theorem LocR.post {ρ ρ' : Rho} {G : Nat → Prop} {n0 : Nat} {lam : Nat → Option Nat} {fr : Fr} {w w' : World} (h : LocR ρ G n0 lam fr w) (hp : Post ρ ρ' (fun _ => False) w w') : LocR ρ' G n0 lam fr w' where
  box := fun d c hd => by
    obtain ⟨rb, cs, et, h2, h3, h4, h5, h6, h7, h8⟩ := h.box d c hd
    have hlt : rb < w.heap.size := (Array.getElem?_eq_some_iff.1 h4).1
    refine ⟨rb, cs, et, h2, h3, ?_, VRs.mono hp.le _ _ h5, h6, h7, fun b pl hb e => ?_⟩
    · rw [hp.frame rb hlt (fun b pl e1 e2 => absurd e2 (h8 b pl e1)) (fun f => f)]; exact h4
    · rcases hp.fresh b pl hb with h9 | ⟨b0, p0, h9, h10, _⟩
      · omega
      · exact h8 b0 p0 h9 (h10.trans e)
  inj := h.inj
  stale := h.stale
theorem RVR.mono {ρ ρ' : Rho} {lam : Nat → Option Nat} {loc : Tr LC} (hr : ρ.le ρ') : ∀ {r : RV} {v : Value}, RVR ρ lam loc r v → RVR ρ' lam loc r v
  | .v _, _, h => VR.mono hr _ _ h
  | .loc _ _ _, _, h => h
theorem RelF.post {ρ ρ' : Rho} {G : Nat → Prop} {n0 : Nat} {lam : Nat → Option Nat} {fr : Fr} {tmps : Array Value} {w w' : World} (h : RelF ρ G n0 lam fr tmps w) (hp : Post ρ ρ' (fun _ => False) w w') : RelF ρ' G n0 lam fr tmps w' :=
  ⟨h.size, fun t ht => (h.regs t ht).mono hp.le, h.over, fun g hg => let ⟨s, q, hs⟩ := h.glob g hg; ⟨s, q, hp.le _ _ hs⟩, h.loc.post hp⟩

section
variable {ρ : Rho} {G : Nat → Prop} {n0 : Nat} {lam : Nat → Option Nat} {fr : Fr} {a : Act} {w : World}

theorem ev_rel (h : RelF ρ G n0 lam fr a.tmps w) {x : Operand} {r : RV} (he : fr.ev x = some r) : RVR ρ lam fr.loc r (a.eval x) := by
  cases x with
  | tmp t =>
    simp only [Fr.ev, Option.some.injEq] at he
    subst he
    by_cases ht : t < fr.nt
    · exact h.regs t ht
    · have e := h.over t (Nat.le_of_not_lt ht)
      rw [e]
      exact trivial
  | const v =>
    simp only [Fr.ev] at he
    cases hv : ofValue v with
    | none => rw [hv] at he; cases he
    | some av =>
      rw [hv] at he
      obtain rfl := Option.some.inj he
      exact ofValue_rel hv
  | global g =>
    simp only [Fr.ev] at he
    split at he
    · rename_i hgl
      obtain rfl := Option.some.inj he
      obtain ⟨s, q, hs⟩ := h.glob g hgl
      exact ⟨_, hs, rfl⟩
    · cases he
  | func f =>
    simp only [Fr.ev, Option.some.injEq] at he
    subst he
    exact ⟨#[], #[], rfl, rfl, rfl⟩
theorem eva_rel (h : RelF ρ G n0 lam fr a.tmps w) {x : Operand} {r : AV} (he : fr.eva x = some r) : VR ρ r (a.eval x) := by
  unfold Fr.eva at he
  split at he
  · rename_i b hb
    obtain rfl := Option.some.inj he
    exact ev_rel h hb
  · cases he
theorem evas_rel (h : RelF ρ G n0 lam fr a.tmps w) : ∀ {xs : List Operand} {rs : List AV}, fr.evas xs = some rs → VRs ρ rs (xs.map a.eval)
  | [], rs, he => by
    simp only [Fr.evas, Option.some.injEq] at he
    subst he
    exact rfl
  | x :: xs, rs, he => by
    simp only [Fr.evas] at he
    split at he
    · rename_i b bs h1 h2
      obtain rfl := Option.some.inj he
      exact ⟨_, _, rfl, eva_rel h h1, evas_rel h h2⟩
    · cases he

/-- What an operation that calls no function yields. -/
inductive Yields (P : Program) (o : Oper) (a : Act) (w : World) : Value → World → Prop where
  | value {u : Value} {w' : World} : (execOp a.eval o).run P w = .ok (.value u) w' → Yields P o a w u w'
  | skip {w' : World} : (execOp a.eval o).run P w = .ok .skip w' → Yields P o a w undef w'

/-- An operation's outcome, held against the model. -/
structure Got (ρ : Rho) (G : Nat → Prop) (n0 : Nat) (lam : Nat → Option Nat) (fr : Fr) (tmps : Array Value) (w : World) (H : VH) (r : RV) (fr' : Fr) (H' : VH) (u : Value) (w' : World) (ρ' : Rho) (lam' : Nat → Option Nat) : Prop where
  post : Post ρ ρ' (fun k => n0 ≤ k) w w'
  mem : RelH ρ' G H' w'
  frame : RelF ρ' G n0 lam' fr' tmps w'
  val : RVR ρ' lam' fr'.loc r u
  fresh : ∀ d ep off, r = .loc d ep off → fr'.old d ep
  heap : Hs H H'

/-- An operation that leaves memory as it is. -/
theorem Got.quiet (hF : RelF ρ G n0 lam fr a.tmps w) {H : VH} (hH : RelH ρ G H w) {r : RV} {u : Value} (hv : RVR ρ lam fr.loc r u) (hf : ∀ d ep off, r = .loc d ep off → fr.old d ep) :
    Got ρ G n0 lam fr a.tmps w H r fr H u w ρ lam := ⟨.refl _ _ _, hH, hF, hv, hf, .refl _⟩
theorem Got.quietA (hF : RelF ρ G n0 lam fr a.tmps w) {H : VH} (hH : RelH ρ G H w) {x : AV} {u : Value} (hv : VR ρ x u) :
    Got ρ G n0 lam fr a.tmps w H (.v x) fr H u w ρ lam := Got.quiet hF hH hv (fun _ _ _ e => by cases e)
/-- An operation that turns the heap. -/
theorem Got.turn (hF : RelF ρ G n0 lam fr a.tmps w) {H H' : VH} {ρ' : Rho} {w' : World} (hp : Post ρ ρ' (fun _ => False) w w') (hH : RelH ρ' G H' w') {x : AV} {u : Value} (hv : VR ρ' x u) (hs : Hs H H') :
    Got ρ G n0 lam fr a.tmps w H (.v x) fr H' u w' ρ' lam :=
  ⟨hp.mono fun _ f => f.elim, hH, hF.post hp, hv, (fun _ _ _ e => by cases e), hs⟩

theorem stale_of_ev (h : RelF ρ G n0 lam fr a.tmps w) {x : Operand} {r : RV} (he : fr.ev x = some r) : ∀ d ep off, r = .loc d ep off → fr.old d ep := by
  intro d ep off e
  subst e
  cases x with
  | tmp t =>
    simp only [Fr.ev, Option.some.injEq] at he
    cases hr : fr.regs.get t with
    | none => rw [hr] at he; cases he
    | some r =>
      rw [hr] at he
      simp only [Option.getD_some] at he
      subst he
      exact h.loc.stale t d ep off hr
  | const v =>
    simp only [Fr.ev] at he
    cases hv : ofValue v with
    | none => rw [hv] at he; cases he
    | some av => rw [hv] at he; cases he
  | global g =>
    simp only [Fr.ev] at he
    split at he <;> cases he
  | func f => simp only [Fr.ev, Option.some.injEq] at he; cases he

/-! ## The operations -/
section
variable {T : Tb} {P : Program} (hT : TbOk T P) {H : VH} (hF : RelF ρ G n0 lam fr a.tmps w) (hH : RelH ρ G H w) {o : Oper} {promo : Nat → Bool} {r : RV} {fr' : Fr} {H' : VH}

abbrev Sim (P : Program) (o : Oper) (ρ : Rho) (G : Nat → Prop) (n0 : Nat) (lam : Nat → Option Nat) (fr : Fr) (a : Act) (w : World) (H : VH) (r : RV) (fr' : Fr) (H' : VH) : Prop :=
  ∃ u w' ρ' lam', Yields P o a w u w' ∧ Got ρ G n0 lam fr a.tmps w H r fr' H' u w' ρ' lam'

include hF hH in
theorem sim_move {x : Operand} (ho : o.op = .move x ∨ o.op = .assign x) (h : oMove fr H x = some (r, fr', H')) : Sim P o ρ G n0 lam fr a w H r fr' H' := by
  unfold oMove outR at h
  split at h
  · rename_i r' he
    simp only [Option.some.injEq, Prod.mk.injEq] at h
    obtain ⟨rfl, rfl, rfl⟩ := h
    refine ⟨a.eval x, w, ρ, lam, .value ?_, .quiet hF hH (ev_rel hF he) (stale_of_ev hF he)⟩
    rcases ho with ho | ho <;> simp [execOp, ho]
  · cases h

include hF hH in
theorem sim_pick {c x y : Operand} (ho : o.op = .pick c x y) (h : oPick fr H c x y = some (r, fr', H')) : Sim P o ρ G n0 lam fr a w H r fr' H' := by
  unfold oPick outR at h
  split at h
  · rename_i hc
    have hc' : a.eval c = .bool true := eva_rel hF hc
    split at h
    · rename_i r' he
      simp only [Option.some.injEq, Prod.mk.injEq] at h
      obtain ⟨rfl, rfl, rfl⟩ := h
      exact ⟨a.eval x, w, ρ, lam, .value (by simp [execOp, ho, hc', asBool]), .quiet hF hH (ev_rel hF he) (stale_of_ev hF he)⟩
    · cases h
  · rename_i hc
    have hc' : a.eval c = .bool false := eva_rel hF hc
    split at h
    · rename_i r' he
      simp only [Option.some.injEq, Prod.mk.injEq] at h
      obtain ⟨rfl, rfl, rfl⟩ := h
      exact ⟨a.eval y, w, ρ, lam, .value (by simp [execOp, ho, hc', asBool]), .quiet hF hH (ev_rel hF he) (stale_of_ev hF he)⟩
    · cases h
  · cases h

include hF hH in
/-- A new box, of the frame's own or of the heap. -/
theorem box_sim {dst : Option Nat} {cs : List AV} {v : Value} {et : TypeId} (hv : VRs ρ cs v.cells.toList) (hn : n0 ≤ w.heap.size) (h : newBox promo dst fr H cs = some (r, fr', H')) :
    ∃ ρ' lam', Got ρ G n0 lam fr a.tmps w H r fr' H' (.pointer (some ⟨w.heap.size, 0, none⟩)) (w.alloc (.cells v.cells et)) ρ' lam' := by
  unfold newBox at h
  split at h
  · rename_i d hone
    have h1 := hv.one hone
    split at h
    · simp only [Option.some.injEq, Prod.mk.injEq] at h
      obtain ⟨rfl, rfl, rfl⟩ := h
      have hp : Post ρ ρ (fun _ => False) w (w.alloc (.cells v.cells et)) :=
        ⟨.refl ρ, rfl, rfl, rfl, by rw [size_walloc]; omega, fun k hk _ _ => by rw [heap_walloc, if_neg (by omega)], fun b pl h => .inr ⟨b, pl, h, rfl, rfl⟩⟩
      have hL := hF.loc.post hp
      have hget : ∀ k, (fr.box d cs).loc.get k = if k = d then some ⟨fr.nextEp d, cs⟩ else fr.loc.get k := fun k => by simp [Fr.box, Tr.get_set]
      have hold : ∀ k ep, fr.old k ep → (fr.box d cs).old k ep := fun k ep ⟨c, hc, hle⟩ => by
        by_cases e : k = d
        · subst e
          refine ⟨_, by rw [hget, if_pos rfl], ?_⟩
          simp only [Fr.nextEp, hc]
          omega
        · exact ⟨c, by rw [hget, if_neg e]; exact hc, hle⟩
      refine ⟨ρ, fun k => if k = d then some w.heap.size else lam k, hp.mono fun _ f => f.elim, hH.grown hp.size fun b pl hb => ?_, ⟨hF.size, fun t ht => ?_, hF.over, hF.glob, ⟨fun k c hk => ?_, fun k k' c c' hk hk' e => ?_, fun t k ep off ht => ?_⟩⟩, fun c hc _ => ?_, fun k ep off e => ?_, .refl _⟩
      · rw [heap_walloc, if_neg (by have := (hH.has b pl hb).2.1; omega)]
      · have := hF.regs t ht
        cases hr : (fr.regs.get t).getD (.v .undef) with
        | v x => rw [hr] at this; show RVR _ _ _ ((fr.regs.get t).getD (.v .undef)) _; rw [hr]; exact this
        | loc k ep off =>
          rw [hr] at this
          show RVR _ _ _ ((fr.regs.get t).getD (.v .undef)) _
          rw [hr]
          intro c hc he
          rw [hget] at hc
          have hst : fr.old k ep := by
            cases hq : fr.regs.get t with
            | none => rw [hq] at hr; cases hr
            | some q => rw [hq] at hr; simp only [Option.getD_some] at hr; subst hr; exact hF.loc.stale t k ep off hq
          split at hc
          · rename_i ek
            subst ek
            obtain rfl := Option.some.inj hc
            obtain ⟨c0, hc0, hle⟩ := hst
            simp only [Fr.nextEp, hc0] at he
            omega
          · rename_i hne
            obtain ⟨rb, e1, e2⟩ := this c hc he
            exact ⟨rb, by simp only [if_neg hne]; exact e1, e2⟩
      · rw [hget] at hk
        split at hk
        · rename_i e
          obtain rfl := Option.some.inj hk
          refine ⟨w.heap.size, v.cells, et, by simp only [if_pos e], hn, by rw [heap_walloc, if_pos rfl], hv, h1, fun hg => ?_, fun b pl hb e => ?_⟩
          · have := hH.g _ hg; omega
          · have := (hH.has b pl hb).2.1; omega
        · rename_i e
          obtain ⟨rb, cs', et', q2, q3⟩ := hL.box k c hk
          exact ⟨rb, cs', et', by simp only [if_neg e]; exact q2, q3⟩
      · rw [hget] at hk hk'
        by_cases e1 : k = d <;> by_cases e2 : k' = d
        · rw [e1, e2]
        · rw [if_neg e2] at hk'
          rw [if_pos e1, if_neg e2] at e
          obtain ⟨rb, cs', et', q2, _, q4, _⟩ := hF.loc.box k' c' hk'
          rw [q2] at e
          obtain rfl := Option.some.inj e
          have := (Array.getElem?_eq_some_iff.1 q4).1
          omega
        · rw [if_neg e1] at hk
          rw [if_neg e1, if_pos e2] at e
          obtain ⟨rb, cs', et', q2, _, q4, _⟩ := hF.loc.box k c hk
          rw [q2] at e
          obtain rfl := Option.some.inj e
          have := (Array.getElem?_eq_some_iff.1 q4).1
          omega
        · rw [if_neg e1] at hk
          rw [if_neg e2] at hk'
          rw [if_neg e1, if_neg e2] at e
          exact hF.loc.inj k k' c c' hk hk' e
      · exact hold _ _ (hF.loc.stale t k ep off ht)
      · exact ⟨w.heap.size, by simp, rfl⟩
      · simp only [RV.loc.injEq] at e
        obtain ⟨rfl, rfl, _⟩ := e
        exact ⟨_, by rw [hget, if_pos rfl], Nat.le_refl _⟩
    · simp only [Option.some.injEq, Prod.mk.injEq] at h
      obtain ⟨rfl, rfl, rfl⟩ := h
      have hm := fresh_sim hH cs v.cells et (0, 0) (fun i _ => by simp) v.cells.toList [] (by simp) hv h1
      exact ⟨_, lam, .turn hF (post_alloc hH _ _ _ (Nat.le_refl _)) hm ⟨_, Rho.set_same _ _ _, rfl⟩ (.fresh _ _)⟩
  · cases h

include hT hF hH in
theorem sim_alloc {t : Nat} (hn : n0 ≤ w.heap.size) (ho : o.op = .alloc t) (h : oAlloc T promo o.dst fr H t = some (r, fr', H')) : Sim P o ρ G n0 lam fr a w H r fr' H' := by
  unfold oAlloc at h
  split at h
  · rename_i z hz
    obtain ⟨v, hv, hr, _⟩ := run_zero hT hz w
    have hone : allOne z.cells = true := by
      unfold newBox at h
      split at h
      · assumption
      · cases h
    obtain ⟨ρ', lam', hg⟩ := box_sim (et := t) hF hH ((hr ρ).cells hone) hn h
    refine ⟨_, _, ρ', lam', .value ?_, hg⟩
    simp [execOp, ho, Instr.alloc, hv, newVar, newRow]
  · cases h

include hF hH in
theorem sim_box {t : Nat} {x : Operand} (hn : n0 ≤ w.heap.size) (ho : o.op = .box t x) (h : oBox promo o.dst fr H x = some (r, fr', H')) : Sim P o ρ G n0 lam fr a w H r fr' H' := by
  unfold oBox at h
  split at h
  · rename_i v hv
    have hone : allOne v.cells = true := by
      unfold newBox at h
      split at h
      · assumption
      · cases h
    obtain ⟨ρ', lam', hg⟩ := box_sim (et := t) hF hH ((eva_rel hF hv).cells hone) hn h
    refine ⟨_, _, ρ', lam', .value ?_, hg⟩
    simp [execOp, ho, Instr.box, newVar, newRow]
  · cases h

theorem mem_drop_take {us : List Value} {off n : Nat} (h : ∀ u ∈ us, u.oneCell' = true) : ∀ u ∈ (us.drop off).take n, u.oneCell' = true :=
  fun u hu => h u (List.mem_of_mem_drop (List.mem_of_mem_take hu))

include hT hF hH in
theorem vload_sim {t : Nat} {rv : RV} {v : AV} {ua : Value} (hr : RVR ρ lam fr.loc rv ua) (h : vload T fr H t rv = some v) :
    ∃ ad x, ua = .pointer (some ad) ∧ (loadVar t ad).run P w = .ok x w ∧ VR ρ v x := by
  unfold vload at h
  split at h
  · rename_i n hs
    obtain ⟨h1, h2⟩ := run_shape' hT hs w
    split at h
    · rename_i b off
      obtain ⟨pl, hb, rfl⟩ := hr
      simp only [Option.map_eq_some_iff] at h
      obtain ⟨cs, hc, rfl⟩ := h
      obtain ⟨us, hl, hv, ho, hrun⟩ := run_cells (P := P) hH hb hc
      refine ⟨_, .agg us.toArray, rfl, ?_, us.toArray, rfl, by simpa using hv, by simpa using ho⟩
      simp only [loadVar, Sem.run_bind, h1, Result.andThen, if_true, h2, hrun, Sem.run_pure]
    · rename_i d ep off
      split at h
      · rename_i cs hcs
        unfold Fr.locCells at hcs
        split at hcs
        · rename_i c hc
          split at hcs
          · rename_i hep
            obtain rfl := Option.some.inj hcs
            obtain ⟨rb, vs, et, e1, e2, e3, e4, e5, _⟩ := hF.loc.box d c hc
            obtain ⟨rb', e6, rfl⟩ := hr c hc (by simpa using hep)
            rw [e1] at e6
            obtain rfl := Option.some.inj e6
            split at h
            · rename_i hlen
              obtain rfl := Option.some.inj h
              have hlen' := Nat.le_of_ble_eq_true hlen
              have hcl := e4.length
              have hrun : (loadCells ⟨rb, off, none⟩ ((vs.toList.drop off).take n).length).run P w = .ok ((vs.toList.drop off).take n).toArray w :=
                run_loadCells_list w _ _ fun j u hu => by
                  rw [addr_add]
                  simp only [World.cell?, e3]
                  simp only [List.getElem?_take, List.getElem?_drop] at hu
                  split at hu
                  · simpa using hu
                  · cases hu
              have hl : ((vs.toList.drop off).take n).length = n := by
                rw [List.length_take, List.length_drop]; omega
              rw [hl] at hrun
              refine ⟨_, .agg ((vs.toList.drop off).take n).toArray, rfl, ?_, _, rfl, (e4.drop off).take n, mem_drop_take e5⟩
              simp only [loadVar, Sem.run_bind, h1, Result.andThen, if_true, h2, hrun, Sem.run_pure]
            · cases h
          · cases hcs
        · cases hcs
      · cases h
    · cases h
  · rename_i n hs
    obtain ⟨h1, h2⟩ := run_shape' hT hs w
    split at h
    · rename_i b off
      obtain ⟨pl, hb, rfl⟩ := hr
      obtain ⟨u, hu, hv⟩ := cell_read hH hb h
      refine ⟨_, u, rfl, ?_, hv.1⟩
      simp only [loadVar, Sem.run_bind, h1, Result.andThen, Bool.false_eq_true, if_false, run_load, hu]
    · rename_i d ep off
      split at h
      · rename_i cs hcs
        unfold Fr.locCells at hcs
        split at hcs
        · rename_i c hc
          split at hcs
          · rename_i hep
            obtain rfl := Option.some.inj hcs
            obtain ⟨rb, vs, et, e1, e2, e3, e4, e5, _⟩ := hF.loc.box d c hc
            obtain ⟨rb', e6, rfl⟩ := hr c hc (by simpa using hep)
            rw [e1] at e6
            obtain rfl := Option.some.inj e6
            obtain ⟨u, hu, hv⟩ := e4.get h
            refine ⟨_, u, rfl, ?_, hv⟩
            have hcell : w.cell? ⟨rb, off, none⟩ = some u := by simp only [World.cell?, e3]; simpa using hu
            simp only [loadVar, Sem.run_bind, h1, Result.andThen, Bool.false_eq_true, if_false, run_load, hcell]
          · cases hcs
        · cases hcs
      · cases h
    · cases h
  · cases h

include hT hF hH in
theorem sim_load {t : Nat} {x : Operand} (ho : o.op = .load t x) (h : oLoad T fr H t x = some (r, fr', H')) : Sim P o ρ G n0 lam fr a w H r fr' H' := by
  unfold oLoad outV at h
  split at h
  · rename_i rv hrv
    split at h
    · rename_i v hv
      simp only [Option.some.injEq, Prod.mk.injEq] at h
      obtain ⟨rfl, rfl, rfl⟩ := h
      obtain ⟨ad, u, e1, e2, e3⟩ := vload_sim hT hF hH (ev_rel hF hrv) hv
      exact ⟨u, w, ρ, lam, .value (by simp [execOp, ho, Instr.loadAt, Instr.sureAddr, e1, e2]), .quietA hF hH e3⟩
    · cases h
  · cases h

include hT hF hH in
theorem vstore_sim {t : Nat} {rv : RV} {v : AV} {ua uv : Value} (hr : RVR ρ lam fr.loc rv ua) (hv : VR ρ v uv) (h : vstore T fr H t rv v = some (fr', H')) :
    ∃ ad w', ua = .pointer (some ad) ∧ (storeVar t ad uv).run P w = .ok () w' ∧ Got ρ G n0 lam fr a.tmps w H (.v (.tuple [])) fr' H' (.tuple #[]) w' ρ lam := by
  unfold vstore at h
  split at h
  · rename_i n hn
    have h2 := run_size hT hn w
    split at h
    · rename_i hc
      simp only [Bool.and_eq_true, beq_iff_eq] at hc
      have hcs := hv.cells hc.2
      have hlen := hcs.length
      rw [hc.1, Array.length_toList] at hlen
      have hrun : ∀ ad w', (storeCells ad uv.cells.toList).run P w = .ok () w' → (storeVar t ad uv).run P w = .ok () w' := fun ad w' e => by
        simp only [storeVar, Sem.run_bind, h2, Result.andThen, hlen, ne_eq, not_true, if_false, e]
      split at h
      · rename_i b off
        obtain ⟨pl, hb, rfl⟩ := hr
        simp only [Option.map_eq_some_iff, Prod.mk.injEq] at h
        obtain ⟨H1, hp, rfl, rfl⟩ := h
        obtain ⟨k1, k2⟩ := run_puts (P := P) hH hb hcs hp
        exact ⟨_, _, rfl, hrun _ _ k1, .turn hF (post_puts hH hb hcs hp) k2 ⟨#[], rfl, rfl⟩ (.puts hp)⟩
      · rename_i d ep off
        split at h
        · rename_i cs hcs'
          unfold Fr.locCells at hcs'
          split at hcs'
          · rename_i c hc'
            split at hcs'
            · rename_i hep
              obtain rfl := Option.some.inj hcs'
              obtain ⟨rb, vs, et, e1, e2, e3, e4, e5, e6, e7⟩ := hF.loc.box d c hc'
              have hep' : c.ep = ep := by simpa using hep
              obtain ⟨rb', e8, rfl⟩ := hr c hc' hep'
              rw [e1] at e8
              obtain rfl := Option.some.inj e8
              split at h
              · rename_i hle
                have hle' := Nat.le_of_ble_eq_true hle
                simp only [Option.some.injEq, Prod.mk.injEq] at h
                obtain ⟨rfl, rfl⟩ := h
                have hcl := e4.length
                rw [Array.length_toList] at hcl
                have huo := hcs.one hc.2
                have hul : uv.cells.toList.length = n := by rw [Array.length_toList]; exact hlen
                obtain ⟨c', f1, f2, f3⟩ := row_storesW rb uv.cells.toList off w vs et (0, 0) e3 (by omega)
                have hst := run_storeCells (P := P) rb off uv.cells.toList 0 w (fun j hj => ⟨vs[off + 0 + j]'(by omega), by simp [World.cell?, e3]⟩) (fun j hj => by simp [World.frozen?, e3]) huo
                rw [Nat.add_zero] at hst
                have hother : ∀ k, k ≠ rb → (storesW w rb off uv.cells.toList).heap[k]? = w.heap[k]? := fun k hk => heap_storesW _ _ _ _ _ hk
                have hget : ∀ k, (fr.loc.set d ⟨ep, c.cells.take off ++ v.cells ++ c.cells.drop (off + n)⟩).get k = if k = d then some ⟨ep, c.cells.take off ++ v.cells ++ c.cells.drop (off + n)⟩ else fr.loc.get k := fun k => Tr.get_set _ _ _ _
                have hsize := size_storesW rb uv.cells.toList off w
                refine ⟨_, _, rfl, hrun _ _ hst, ⟨⟨.refl ρ, (rest_storesW _ _ _ _).1, (rest_storesW _ _ _ _).2.1, (rest_storesW _ _ _ _).2.2, by rw [hsize]; exact Nat.le_refl _, fun k _ _ hk => hother k (fun e => hk (by rw [e]; exact e2)), fun b pl hb => .inr ⟨b, pl, hb, rfl, rfl⟩⟩,
                  hH.grown (by rw [hsize]; exact Nat.le_refl _) (fun b pl hb => hother _ (e7 b pl hb)), ⟨hF.size, fun k hk => ?_, hF.over, hF.glob, ⟨fun k q hq => ?_, fun k k' q q' hq hq' e => ?_, fun t' k ep' off' ht' => ?_⟩⟩, ⟨#[], rfl, rfl⟩, (fun _ _ _ e => by cases e), .refl _⟩⟩
                · have := hF.regs k hk
                  show RVR _ _ (fr.loc.set d _) ((fr.regs.get k).getD (.v .undef)) _
                  cases hq : (fr.regs.get k).getD (.v .undef) with
                  | v x => rw [hq] at this; exact this
                  | loc d' ep' off' =>
                    rw [hq] at this
                    intro q hq' he
                    rw [hget] at hq'
                    split at hq'
                    · rename_i e; subst e
                      obtain rfl := Option.some.inj hq'
                      simp only at he
                      exact this c hc' (hep'.trans he)
                    · exact this q hq' he
                · have hq' : (fr.loc.set d ⟨ep, c.cells.take off ++ v.cells ++ c.cells.drop (off + n)⟩).get k = some q := hq
                  rw [hget] at hq'
                  split at hq'
                  · rename_i e; subst e
                    obtain rfl := Option.some.inj hq'
                    refine ⟨rb, c', et, e1, e2, f1, VRs.of_get ?_ fun i x y hx hy => ?_, fun u hu => ?_, e6, e7⟩
                    · rw [Array.length_toList, f2]
                      simp only [List.length_append, List.length_take, List.length_drop]
                      omega
                    · rw [Array.getElem?_toList, f3] at hy
                      rw [List.append_assoc] at hx
                      by_cases hi : off ≤ i ∧ i < off + uv.cells.toList.length
                      · rw [if_pos hi] at hy
                        rw [List.getElem?_append_right (by rw [List.length_take]; omega), List.getElem?_append_left (by rw [List.length_take]; omega), List.length_take, show i - min off c.cells.length = i - off by omega] at hx
                        obtain ⟨y', hy1, hy2⟩ := hcs.get hx
                        rw [hy] at hy1
                        obtain rfl := Option.some.inj hy1
                        exact hy2
                      · rw [if_neg hi] at hy
                        have hx' : c.cells[i]? = some x := by
                          by_cases hlt : i < off
                          · rw [List.getElem?_append_left (by rw [List.length_take]; omega), List.getElem?_take, if_pos hlt] at hx
                            exact hx
                          · rw [List.getElem?_append_right (by rw [List.length_take]; omega), List.getElem?_append_right (by rw [List.length_take]; omega), List.getElem?_drop, List.length_take] at hx
                            rw [show off + n + (i - min off c.cells.length - v.cells.length) = i by omega] at hx
                            exact hx
                        obtain ⟨y', hy1, hy2⟩ := e4.get hx'
                        rw [Array.getElem?_toList, hy] at hy1
                        obtain rfl := Option.some.inj hy1
                        exact hy2
                    · obtain ⟨i, hi⟩ := List.getElem?_of_mem hu
                      rw [Array.getElem?_toList, f3] at hi
                      split at hi
                      · exact huo u (List.mem_of_getElem? hi)
                      · exact e5 u (List.mem_of_getElem? (by rw [Array.getElem?_toList]; exact hi))
                  · rename_i hne
                    obtain ⟨rb2, vs2, et2, g1, g2, g3, g4⟩ := hF.loc.box k q hq'
                    refine ⟨rb2, vs2, et2, g1, g2, ?_, g4⟩
                    rw [hother]
                    · exact g3
                    · rintro rfl
                      exact hne (hF.loc.inj k d q c hq' hc' (g1.trans e1.symm))
                · have hq1 : ∃ q1, fr.loc.get k = some q1 := by
                    have hq0 : (fr.loc.set d ⟨ep, c.cells.take off ++ v.cells ++ c.cells.drop (off + n)⟩).get k = some q := hq
                    rw [hget] at hq0
                    split at hq0
                    · rename_i e; exact ⟨c, by rw [e]; exact hc'⟩
                    · exact ⟨q, hq0⟩
                  have hq2 : ∃ q1, fr.loc.get k' = some q1 := by
                    have hq0 : (fr.loc.set d ⟨ep, c.cells.take off ++ v.cells ++ c.cells.drop (off + n)⟩).get k' = some q' := hq'
                    rw [hget] at hq0
                    split at hq0
                    · rename_i e; exact ⟨c, by rw [e]; exact hc'⟩
                    · exact ⟨q', hq0⟩
                  obtain ⟨q1, h1⟩ := hq1
                  obtain ⟨q2, h2⟩ := hq2
                  exact hF.loc.inj k k' q1 q2 h1 h2 e
                · obtain ⟨q, hq, hle⟩ := hF.loc.stale t' k ep' off' ht'
                  by_cases e : k = d
                  · subst e
                    rw [hc'] at hq
                    obtain rfl := Option.some.inj hq
                    exact ⟨_, by rw [hget, if_pos rfl], by simp only; omega⟩
                  · exact ⟨q, by rw [hget, if_neg e]; exact hq, hle⟩
              · cases h
            · cases hcs'
          · cases hcs'
        · cases h
      · cases h
    · cases h
  · cases h

include hT hF hH in
theorem sim_store {t : Nat} {x y : Operand} (ho : o.op = .store t x y) (h : oStore T fr H t x y = some (r, fr', H')) : Sim P o ρ G n0 lam fr a w H r fr' H' := by
  unfold oStore at h
  split at h
  · rename_i rv v hrv hv
    split at h
    · rename_i f1 H1 hs
      simp only [Option.some.injEq, Prod.mk.injEq] at h
      obtain ⟨rfl, rfl, rfl⟩ := h
      obtain ⟨ad, w', e1, e2, e3⟩ := vstore_sim hT hF hH (ev_rel hF hrv) (eva_rel hF hv) hs
      exact ⟨_, w', ρ, lam, .skip (by simp [execOp, ho, Instr.storeAt, Instr.sureAddr, e1, e2]), e3⟩
    · cases h
  · cases h
end
end
end Go.Vm
