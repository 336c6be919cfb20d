/- The machine's operations against the model's. -/
import Derived.Test.YtmlogeklbcgjnaaGreatDoorVmMap
import Derived.Laws.Append
import Derived.Laws.Entries
import Derived.Laws.StructEq
import Derived.Laws.MakeOwn
import Derived.Laws.BytesString
import Derived.Laws.Slices
import Derived.Lib.UnsafeStr
import Derived.Lib.ConvBytes
/-! The abstract machine's operations against the model's. -/
namespace Go.Vm
set_option linter.unusedSimpArgs false
set_option linter.unusedVariables false
set_option linter.unusedSectionVars false

/-! ## Tables -/
structure TbOk (T : Tb) (P : Program) : Prop where
  ty : ∀ t i, T.ty.get t = some i → P.info? t = some i
  fn : ∀ f F, T.fn.get f = some F → P.funcs[f]? = some F
  named : ∀ f F, T.fn.get f = some F → (F.name == "runtime.NumGoroutine") = false
  eq : ∀ t, T.eqOk t = true → P.stoodInHeld t = false ∧ P.eqGuardType P.depth t = false
  mixed : P.follows .mixedOrders = true
  fields : ∀ t fs, T.und t = some (.struct fs) → ∀ f ∈ fs.toList, ∃ i, P.info? f.type = some i
  lies : ∀ e o u, T.liesB e o u = true → liesAt P P.depth e 1 o u 1 = true

section
variable {T : Tb} {P : Program} (hT : TbOk T P)
include hT

theorem und_ok {t : Nat} {d : TypeDesc} (h : T.und t = some d) : P.underlying t = some d := by
  unfold Tb.und at h
  unfold Program.underlying
  split at h
  · rename_i i hi
    have h1 := hT.ty t i hi
    rw [h1]
    split at h
    · rename_i n u e
      split at h
      · rename_i j hj
        have h2 := hT.ty u j hj
        obtain rfl := Option.some.inj h
        cases i
        simp only at e
        subst e
        simp [h2]
      · cases h
    · rename_i d' e
      obtain rfl := Option.some.inj h
      cases i
      rename_i desc _ _ _ _ _ _ _ _ _
      simp only at e ⊢
      cases desc <;> first | rfl | exact (e _ _ rfl).elim
  · cases h
theorem run_und {t : Nat} {d : TypeDesc} (h : T.und t = some d) (w : World) : (underlying t).run P w = .ok d w := run_underlying (und_ok hT h) w
theorem run_info {t : Nat} {i : TypeInfo} (h : T.info t = some i) (w : World) : (typeInfo t).run P w = .ok i w := by
  simp [typeInfo, hT.ty t i h]
theorem cells_of {t n : Nat} (h : sizeOfT T t = some n) : P.cellsOf t = n := by
  unfold sizeOfT at h
  cases hi : T.info t with
  | none => rw [hi] at h; cases h
  | some i =>
    rw [hi] at h
    simp only [Option.map_some, Option.some.injEq] at h
    simp [Program.cellsOf, hT.ty t i hi, h]
theorem run_size {t n : Nat} (h : sizeOfT T t = some n) (w : World) : (sizeOf t).run P w = .ok n w := by
  unfold sizeOfT at h
  cases hi : T.info t with
  | none => rw [hi] at h; cases h
  | some i =>
    rw [hi] at h
    obtain rfl := Option.some.inj h
    simp [sizeOf, run_info hT hi w]
theorem run_shape' {t n : Nat} {b : Bool} (h : shapeOf T t = some (b, n)) (w : World) : (isAgg t).run P w = .ok b w ∧ (sizeOf t).run P w = .ok n w := by
  unfold shapeOf at h
  split at h
  · rename_i i _ hi hu
    simp only [Option.some.injEq, Prod.mk.injEq] at h
    obtain ⟨rfl, rfl⟩ := h
    exact ⟨by simp [isAgg, run_und hT hu w], by simp [sizeOf, run_info hT hi w]⟩
  · rename_i i _ _ hi hu
    simp only [Option.some.injEq, Prod.mk.injEq] at h
    obtain ⟨rfl, rfl⟩ := h
    exact ⟨by simp [isAgg, run_und hT hu w], by simp [sizeOf, run_info hT hi w]⟩
  · rename_i i d n1 n2 hi hu
    simp only [Option.some.injEq, Prod.mk.injEq] at h
    obtain ⟨rfl, rfl⟩ := h
    refine ⟨?_, by simp [sizeOf, run_info hT hi w]⟩
    simp only [isAgg, Sem.run_bind, run_und hT hu w, Result.andThen]
    cases d <;> first | rfl | exact (n1 _ rfl).elim | exact (n2 _ _ rfl).elim
  · cases h
end

theorem ofValue_one {ρ : Rho} {v : Value} {a : AV} (h : ofValue.one v = some a) : VR ρ a v ∧ v.oneCell' = true := by
  unfold ofValue.one at h
  split at h <;> first
    | (obtain rfl := Option.some.inj h; first | exact ⟨rfl, rfl⟩ | exact ⟨⟨_, rfl, rfl⟩, rfl⟩ | exact ⟨⟨rfl, rfl, rfl⟩, rfl⟩)
    | cases h
theorem ofValue_go {ρ : Rho} : ∀ {vs : List Value} {as : List AV}, ofValue.go vs = some as → VRs ρ as vs ∧ ∀ u ∈ vs, u.oneCell' = true
  | [], as, h => by
    simp only [ofValue.go, Option.some.injEq] at h
    subst h
    exact ⟨rfl, fun u hu => by simp at hu⟩
  | v :: vs, as, h => by
    simp only [ofValue.go] at h
    split at h
    · rename_i a as' h1 h2
      obtain rfl := Option.some.inj h
      obtain ⟨r1, r2⟩ := ofValue_one (ρ := ρ) h1
      obtain ⟨s1, s2⟩ := ofValue_go (ρ := ρ) h2
      refine ⟨⟨v, vs, rfl, r1, s1⟩, fun u hu => ?_⟩
      rcases List.mem_cons.1 hu with rfl | hu
      · exact r2
      · exact s2 u hu
    · cases h
theorem ofValue_rel {ρ : Rho} {v : Value} {a : AV} (h : ofValue v = some a) : VR ρ a v := by
  unfold ofValue at h
  split at h <;> first
    | (obtain rfl := Option.some.inj h; first | exact rfl | exact ⟨_, rfl, rfl⟩ | exact ⟨rfl, rfl, rfl⟩)
    | (rename_i cs
       cases hg : ofValue.go cs.toList with
       | none => rw [hg] at h; cases h
       | some as =>
         rw [hg] at h
         obtain rfl := Option.some.inj h
         obtain ⟨r1, r2⟩ := ofValue_go (ρ := ρ) hg
         exact ⟨cs, rfl, r1, r2⟩)
    | cases h
theorem ofValue_cells {ρ : Rho} {v : Value} {a : AV} (h : ofValue v = some a) : VRs ρ a.cells v.cells.toList ∧ ∀ u ∈ v.cells.toList, u.oneCell' = true := by
  have hr : VR ρ a v := ofValue_rel h
  cases a with
  | agg cs =>
    obtain ⟨b, rfl, h1, h2⟩ := hr
    exact ⟨h1, h2⟩
  | undef =>
    exfalso
    unfold ofValue at h
    split at h <;> first | cases h | (rename_i cs; cases hg : ofValue.go cs.toList <;> rw [hg] at h <;> cases h)
  | tuple cs =>
    exfalso
    unfold ofValue at h
    split at h <;> first | cases h | (rename_i cs; cases hg : ofValue.go cs.toList <;> rw [hg] at h <;> cases h)
  | _ =>
    have h1 := hr.cells (by rfl)
    exact ⟨h1, h1.one (by rfl)⟩
theorem run_zero {T : Tb} {P : Program} (hT : TbOk T P) {t : Nat} {z : AV} (h : zeroOf T t = some z) (w : World) : ∃ v, (zeroValue t).run P w = .ok v w ∧ (∀ ρ, VR ρ z v) ∧ (∀ ρ, VRs ρ z.cells v.cells.toList) ∧ (∀ u ∈ v.cells.toList, u.oneCell' = true) := by
  unfold zeroOf at h
  split at h
  · rename_i i hi
    cases hz : i.zero with
    | none => rw [hz] at h; cases h
    | some v =>
      rw [hz] at h
      exact ⟨v, by simp [zeroValue, run_info hT hi w, hz], fun ρ => ofValue_rel h, fun ρ => (ofValue_cells h).1, (ofValue_cells (ρ := ⟨fun _ => none, fun _ => False, fun _ => none⟩) h).2⟩
  · cases h

/-! ## Frames -/
def RVR (ρ : Rho) (lam : Nat → Option Nat) (loc : Tr LC) : RV → Value → Prop
  | .v a, v => VR ρ a v
  | .loc d ep off, v => ∀ c, loc.get d = some c → c.ep = ep → ∃ rb, lam d = some rb ∧ v = .pointer (some ⟨rb, off, none⟩)

/-- A box of that name came to be after that one. -/
def Fr.old (fr : Fr) (d ep : Nat) : Prop := ∃ c, fr.loc.get d = some c ∧ ep ≤ c.ep

structure LocR (ρ : Rho) (G : Nat → Prop) (n0 : Nat) (lam : Nat → Option Nat) (fr : Fr) (w : World) : Prop where
  box : ∀ d c, fr.loc.get d = some c → ∃ rb cs et, lam d = some rb ∧ n0 ≤ rb ∧ w.heap[rb]? = some (.cells cs et (0, 0)) ∧ VRs ρ c.cells cs.toList ∧ (∀ u ∈ cs.toList, u.oneCell' = true) ∧ ¬ G rb ∧ ¬ ρ.q rb ∧ (∀ b pl, ρ b = some pl → pl.rb ≠ rb)
  inj : ∀ d d' c c', fr.loc.get d = some c → fr.loc.get d' = some c' → lam d = lam d' → d = d'
  stale : ∀ t d ep off, fr.regs.get t = some (.loc d ep off) → fr.old d ep

structure RelF (ρ : Rho) (G : Nat → Prop) (n0 : Nat) (lam : Nat → Option Nat) (fr : Fr) (tmps : Array Value) (w : World) : Prop where
  size : tmps.size = fr.nt
  regs : ∀ t, t < fr.nt → RVR ρ lam fr.loc ((fr.regs.get t).getD (.v .undef)) (tmps.getD t undef)
  over : ∀ t, fr.nt ≤ t → fr.regs.get t = none
  glob : ∀ g, fr.gl g = true → ∃ s, ρ g = some ⟨g, 0, s⟩
  loc : LocR ρ G n0 lam fr w

/-- Memory turns as a callee or an operation turns it. -/
theorem LocR.post {ρ ρ' : Rho} {G : Nat → Prop} {n0 : Nat} {lam : Nat → Option Nat} {fr : Fr} {w w' : World} (h : LocR ρ G n0 lam fr w) (hp : Post ρ ρ' (fun _ => False) w w') : LocR ρ' G n0 lam fr w' where
  box := fun d c hd => by
    obtain ⟨rb, cs, et, h2, h3, h4, h5, h6, h7, hq, h8⟩ := h.box d c hd
    have hlt : rb < w.heap.size := (Array.getElem?_eq_some_iff.1 h4).1
    refine ⟨rb, cs, et, h2, h3, ?_, VRs.mono hp.le _ _ h5, h6, h7, fun e => ?_, fun b pl hb e => ?_⟩
    · rw [hp.frame rb hlt (fun b pl e1 e2 => absurd e2 (h8 b pl e1)) (fun f => f)]; exact h4
    · rcases hp.qs rb e with h9 | h9 | ⟨b, pl, h9, h10⟩
      · exact hq h9
      · omega
      · exact h8 b pl h9 h10
    · rcases hp.fresh b pl hb with h9 | ⟨b0, p0, h9, h10⟩
      · omega
      · exact h8 b0 p0 h9 (h10.trans e)
  inj := h.inj
  stale := h.stale
theorem RVR.mono {ρ ρ' : Rho} {lam : Nat → Option Nat} {loc : Tr LC} (hr : ρ.le ρ') : ∀ {r : RV} {v : Value}, RVR ρ lam loc r v → RVR ρ' lam loc r v
  | .v _, _, h => VR.mono hr _ _ h
  | .loc _ _ _, _, h => h
theorem RelF.post {ρ ρ' : Rho} {G : Nat → Prop} {n0 : Nat} {lam : Nat → Option Nat} {fr : Fr} {tmps : Array Value} {w w' : World} (h : RelF ρ G n0 lam fr tmps w) (hp : Post ρ ρ' (fun _ => False) w w') : RelF ρ' G n0 lam fr tmps w' :=
  ⟨h.size, fun t ht => (h.regs t ht).mono hp.le, h.over, fun g hg => let ⟨s, hs⟩ := h.glob g hg; ⟨s, hp.le _ _ hs⟩, h.loc.post hp⟩

section
variable {ρ : Rho} {G : Nat → Prop} {n0 : Nat} {lam : Nat → Option Nat} {fr : Fr} {a : Act} {w : World}

theorem ev_rel (h : RelF ρ G n0 lam fr a.tmps w) {x : Operand} {r : RV} (he : fr.ev x = some r) : RVR ρ lam fr.loc r (a.eval x) := by
  cases x with
  | tmp t =>
    simp only [Fr.ev, Option.some.injEq] at he
    subst he
    by_cases ht : t < fr.nt
    · exact h.regs t ht
    · have e := h.over t (Nat.le_of_not_lt ht)
      rw [e]
      exact trivial
  | const v =>
    simp only [Fr.ev] at he
    cases hv : ofValue v with
    | none => rw [hv] at he; cases he
    | some av =>
      rw [hv] at he
      obtain rfl := Option.some.inj he
      exact ofValue_rel hv
  | global g =>
    simp only [Fr.ev] at he
    split at he
    · rename_i hgl
      obtain rfl := Option.some.inj he
      obtain ⟨s, hs⟩ := h.glob g hgl
      exact ⟨_, hs, rfl⟩
    · cases he
  | func f =>
    simp only [Fr.ev, Option.some.injEq] at he
    subst he
    exact ⟨#[], #[], rfl, rfl, rfl⟩
theorem eva_rel (h : RelF ρ G n0 lam fr a.tmps w) {x : Operand} {r : AV} (he : fr.eva x = some r) : VR ρ r (a.eval x) := by
  unfold Fr.eva at he
  split at he
  · rename_i b hb
    obtain rfl := Option.some.inj he
    exact ev_rel h hb
  · cases he
theorem evas_rel (h : RelF ρ G n0 lam fr a.tmps w) : ∀ {xs : List Operand} {rs : List AV}, fr.evas xs = some rs → VRs ρ rs (xs.map a.eval)
  | [], rs, he => by
    simp only [Fr.evas, Option.some.injEq] at he
    subst he
    exact rfl
  | x :: xs, rs, he => by
    simp only [Fr.evas] at he
    split at he
    · rename_i b bs h1 h2
      obtain rfl := Option.some.inj he
      exact ⟨_, _, rfl, eva_rel h h1, evas_rel h h2⟩
    · cases he

/-- What an operation that calls no function yields. -/
inductive Yields (P : Program) (o : Oper) (a : Act) (w : World) : Value → World → Prop where
  | value {u : Value} {w' : World} : (execOp a.eval o).run P w = .ok (.value u) w' → Yields P o a w u w'
  | skip {w' : World} : (execOp a.eval o).run P w = .ok .skip w' → Yields P o a w undef w'

/-- An operation's outcome, held against the model. -/
structure Got (ρ : Rho) (G : Nat → Prop) (n0 : Nat) (lam : Nat → Option Nat) (fr : Fr) (tmps : Array Value) (w : World) (H : VH) (r : RV) (fr' : Fr) (H' : VH) (u : Value) (w' : World) (ρ' : Rho) (lam' : Nat → Option Nat) : Prop where
  post : Post ρ ρ' (fun k => n0 ≤ k) w w'
  mem : RelH ρ' G H' w'
  frame : RelF ρ' G n0 lam' fr' tmps w'
  val : RVR ρ' lam' fr'.loc r u
  fresh : ∀ d ep off, r = .loc d ep off → fr'.old d ep
  heap : Hs H H'

/-- An operation that leaves memory as it is. -/
theorem Got.quiet (hF : RelF ρ G n0 lam fr a.tmps w) {H : VH} (hH : RelH ρ G H w) {r : RV} {u : Value} (hv : RVR ρ lam fr.loc r u) (hf : ∀ d ep off, r = .loc d ep off → fr.old d ep) :
    Got ρ G n0 lam fr a.tmps w H r fr H u w ρ lam := ⟨.refl _ _ _, hH, hF, hv, hf, .refl _⟩
theorem Got.quietA (hF : RelF ρ G n0 lam fr a.tmps w) {H : VH} (hH : RelH ρ G H w) {x : AV} {u : Value} (hv : VR ρ x u) :
    Got ρ G n0 lam fr a.tmps w H (.v x) fr H u w ρ lam := Got.quiet hF hH hv (fun _ _ _ e => by cases e)
/-- An operation that turns the heap. -/
theorem Got.turn (hF : RelF ρ G n0 lam fr a.tmps w) {H H' : VH} {ρ' : Rho} {w' : World} (hp : Post ρ ρ' (fun _ => False) w w') (hH : RelH ρ' G H' w') {x : AV} {u : Value} (hv : VR ρ' x u) (hs : Hs H H') :
    Got ρ G n0 lam fr a.tmps w H (.v x) fr H' u w' ρ' lam :=
  ⟨hp.mono fun _ f => f.elim, hH, hF.post hp, hv, (fun _ _ _ e => by cases e), hs⟩

theorem stale_of_ev (h : RelF ρ G n0 lam fr a.tmps w) {x : Operand} {r : RV} (he : fr.ev x = some r) : ∀ d ep off, r = .loc d ep off → fr.old d ep := by
  intro d ep off e
  subst e
  cases x with
  | tmp t =>
    simp only [Fr.ev, Option.some.injEq] at he
    cases hr : fr.regs.get t with
    | none => rw [hr] at he; cases he
    | some r =>
      rw [hr] at he
      simp only [Option.getD_some] at he
      subst he
      exact h.loc.stale t d ep off hr
  | const v =>
    simp only [Fr.ev] at he
    cases hv : ofValue v with
    | none => rw [hv] at he; cases he
    | some av => rw [hv] at he; cases he
  | global g =>
    simp only [Fr.ev] at he
    split at he <;> cases he
  | func f => simp only [Fr.ev, Option.some.injEq] at he; cases he

/-! ## The operations -/
section
variable {T : Tb} {P : Program} (hT : TbOk T P) {H : VH} (hF : RelF ρ G n0 lam fr a.tmps w) (hH : RelH ρ G H w) {o : Oper} {promo : Nat → Bool} {r : RV} {fr' : Fr} {H' : VH}

abbrev Sim (P : Program) (o : Oper) (ρ : Rho) (G : Nat → Prop) (n0 : Nat) (lam : Nat → Option Nat) (fr : Fr) (a : Act) (w : World) (H : VH) (r : RV) (fr' : Fr) (H' : VH) : Prop :=
  ∃ u w' ρ' lam', Yields P o a w u w' ∧ Got ρ G n0 lam fr a.tmps w H r fr' H' u w' ρ' lam'

include hF hH in
theorem sim_move {x : Operand} (ho : o.op = .move x ∨ o.op = .assign x) (h : oMove fr H x = some (r, fr', H')) : Sim P o ρ G n0 lam fr a w H r fr' H' := by
  unfold oMove outR at h
  split at h
  · rename_i r' he
    simp only [Option.some.injEq, Prod.mk.injEq] at h
    obtain ⟨rfl, rfl, rfl⟩ := h
    refine ⟨a.eval x, w, ρ, lam, .value ?_, .quiet hF hH (ev_rel hF he) (stale_of_ev hF he)⟩
    rcases ho with ho | ho <;> simp [execOp, ho]
  · cases h

include hF hH in
theorem sim_pick {c x y : Operand} (ho : o.op = .pick c x y) (h : oPick fr H c x y = some (r, fr', H')) : Sim P o ρ G n0 lam fr a w H r fr' H' := by
  unfold oPick outR at h
  split at h
  · rename_i hc
    have hc' : a.eval c = .bool true := eva_rel hF hc
    split at h
    · rename_i r' he
      simp only [Option.some.injEq, Prod.mk.injEq] at h
      obtain ⟨rfl, rfl, rfl⟩ := h
      exact ⟨a.eval x, w, ρ, lam, .value (by simp [execOp, ho, hc', asBool]), .quiet hF hH (ev_rel hF he) (stale_of_ev hF he)⟩
    · cases h
  · rename_i hc
    have hc' : a.eval c = .bool false := eva_rel hF hc
    split at h
    · rename_i r' he
      simp only [Option.some.injEq, Prod.mk.injEq] at h
      obtain ⟨rfl, rfl, rfl⟩ := h
      exact ⟨a.eval y, w, ρ, lam, .value (by simp [execOp, ho, hc', asBool]), .quiet hF hH (ev_rel hF he) (stale_of_ev hF he)⟩
    · cases h
  · cases h

include hF hH in
/-- A new box, of the frame's own or of the heap. -/
theorem box_sim {dst : Option Nat} {cs : List AV} {v : Value} {et : TypeId} {e : Option Nat} (he : ∀ x, e = some x → et = x) (hv : VRs ρ cs v.cells.toList) (hn : n0 ≤ w.heap.size) (h : newBox promo dst fr H cs e = some (r, fr', H')) :
    ∃ ρ' lam', Got ρ G n0 lam fr a.tmps w H r fr' H' (.pointer (some ⟨w.heap.size, 0, none⟩)) (w.alloc (.cells v.cells et)) ρ' lam' := by
  unfold newBox at h
  split at h
  · rename_i d hone
    have h1 := hv.one hone
    split at h
    · simp only [Option.some.injEq, Prod.mk.injEq] at h
      obtain ⟨rfl, rfl, rfl⟩ := h
      have hp : Post ρ ρ (fun _ => False) w (w.alloc (.cells v.cells et)) :=
        ⟨.refl ρ, rfl, rfl, rfl, by rw [size_walloc]; omega, fun k hk _ _ => by rw [heap_walloc, if_neg (by omega)], fun b pl h => .inr ⟨b, pl, h, rfl⟩, fun _ e => .inl e⟩
      have hL := hF.loc.post hp
      have hget : ∀ k, (fr.box d cs).loc.get k = if k = d then some ⟨fr.nextEp d, cs⟩ else fr.loc.get k := fun k => by simp [Fr.box, Tr.get_set]
      have hold : ∀ k ep, fr.old k ep → (fr.box d cs).old k ep := fun k ep ⟨c, hc, hle⟩ => by
        by_cases e : k = d
        · subst e
          refine ⟨_, by rw [hget, if_pos rfl], ?_⟩
          simp only [Fr.nextEp, hc]
          omega
        · exact ⟨c, by rw [hget, if_neg e]; exact hc, hle⟩
      refine ⟨ρ, fun k => if k = d then some w.heap.size else lam k, hp.mono fun _ f => f.elim, hH.grown hp.size (fun b pl hb => by rw [heap_walloc, if_neg (by have := (hH.has b pl hb).2.1; omega)]) (fun k hk => by rw [heap_walloc, if_neg (by have := hH.qlt k hk; omega)]), ⟨hF.size, fun t ht => ?_, hF.over, hF.glob, ⟨fun k c hk => ?_, fun k k' c c' hk hk' e => ?_, fun t k ep off ht => ?_⟩⟩, fun c hc _ => ?_, fun k ep off e => ?_, .refl _⟩
      · have := hF.regs t ht
        cases hr : (fr.regs.get t).getD (.v .undef) with
        | v x => rw [hr] at this; show RVR _ _ _ ((fr.regs.get t).getD (.v .undef)) _; rw [hr]; exact this
        | loc k ep off =>
          rw [hr] at this
          show RVR _ _ _ ((fr.regs.get t).getD (.v .undef)) _
          rw [hr]
          intro c hc he
          rw [hget] at hc
          have hst : fr.old k ep := by
            cases hq : fr.regs.get t with
            | none => rw [hq] at hr; cases hr
            | some q => rw [hq] at hr; simp only [Option.getD_some] at hr; subst hr; exact hF.loc.stale t k ep off hq
          split at hc
          · rename_i ek
            subst ek
            obtain rfl := Option.some.inj hc
            obtain ⟨c0, hc0, hle⟩ := hst
            simp only [Fr.nextEp, hc0] at he
            omega
          · rename_i hne
            obtain ⟨rb, e1, e2⟩ := this c hc he
            exact ⟨rb, by simp only [if_neg hne]; exact e1, e2⟩
      · rw [hget] at hk
        split at hk
        · rename_i e
          obtain rfl := Option.some.inj hk
          refine ⟨w.heap.size, v.cells, et, by simp only [if_pos e], hn, by rw [heap_walloc, if_pos rfl], hv, h1, fun hg => ?_, fun e => Nat.lt_irrefl _ (hH.qlt _ e), fun b pl hb e => ?_⟩
          · have := hH.g _ hg; omega
          · have := (hH.has b pl hb).2.1; omega
        · rename_i e
          obtain ⟨rb, cs', et', q2, q3⟩ := hL.box k c hk
          exact ⟨rb, cs', et', by simp only [if_neg e]; exact q2, q3⟩
      · rw [hget] at hk hk'
        by_cases e1 : k = d <;> by_cases e2 : k' = d
        · rw [e1, e2]
        · rw [if_neg e2] at hk'
          rw [if_pos e1, if_neg e2] at e
          obtain ⟨rb, cs', et', q2, _, q4, _⟩ := hF.loc.box k' c' hk'
          rw [q2] at e
          obtain rfl := Option.some.inj e
          have := (Array.getElem?_eq_some_iff.1 q4).1
          omega
        · rw [if_neg e1] at hk
          rw [if_neg e1, if_pos e2] at e
          obtain ⟨rb, cs', et', q2, _, q4, _⟩ := hF.loc.box k c hk
          rw [q2] at e
          obtain rfl := Option.some.inj e
          have := (Array.getElem?_eq_some_iff.1 q4).1
          omega
        · rw [if_neg e1] at hk
          rw [if_neg e2] at hk'
          rw [if_neg e1, if_neg e2] at e
          exact hF.loc.inj k k' c c' hk hk' e
      · exact hold _ _ (hF.loc.stale t k ep off ht)
      · exact ⟨w.heap.size, by simp, rfl⟩
      · simp only [RV.loc.injEq] at e
        obtain ⟨rfl, rfl, _⟩ := e
        exact ⟨_, by rw [hget, if_pos rfl], Nat.le_refl _⟩
    · simp only [Option.some.injEq, Prod.mk.injEq] at h
      obtain ⟨rfl, rfl, rfl⟩ := h
      have hm := freshE_sim hH cs v.cells et (0, 0) e he (fun i _ => by simp) v.cells.toList [] (by simp) hv h1
      exact ⟨_, lam, .turn hF (post_alloc hH _ _ _ (Nat.le_refl _)) hm ⟨_, Rho.set_same _ _ _, rfl⟩ (.freshE _ _ _)⟩
  · cases h

theorem boxE_spec {T : Tb} {t x : Nat} (h : T.boxE t = some x) : t = x := by
  unfold Tb.boxE at h
  split at h
  · exact Option.some.inj h
  · cases h
include hT hF hH in
theorem sim_alloc {t : Nat} (hn : n0 ≤ w.heap.size) (ho : o.op = .alloc t) (h : oAlloc T promo o.dst fr H t = some (r, fr', H')) : Sim P o ρ G n0 lam fr a w H r fr' H' := by
  unfold oAlloc at h
  split at h
  · rename_i z hz
    obtain ⟨v, hv, hr, _⟩ := run_zero hT hz w
    have hone : allOne z.cells = true := by
      unfold newBox at h
      split at h
      · assumption
      · cases h
    obtain ⟨ρ', lam', hg⟩ := box_sim (et := t) hF hH (fun x hx => boxE_spec hx) ((hr ρ).cells hone) hn h
    refine ⟨_, _, ρ', lam', .value ?_, hg⟩
    simp [execOp, ho, Instr.alloc, hv, newVar, newRow]
  · cases h

include hF hH in
theorem sim_box {t : Nat} {x : Operand} (hn : n0 ≤ w.heap.size) (ho : o.op = .box t x) (h : oBox T promo o.dst fr H t x = some (r, fr', H')) : Sim P o ρ G n0 lam fr a w H r fr' H' := by
  unfold oBox at h
  split at h
  · rename_i v hv
    have hone : allOne v.cells = true := by
      unfold newBox at h
      split at h
      · assumption
      · cases h
    obtain ⟨ρ', lam', hg⟩ := box_sim (et := t) hF hH (fun x hx => boxE_spec (T := T) hx) ((eva_rel hF hv).cells hone) hn h
    refine ⟨_, _, ρ', lam', .value ?_, hg⟩
    simp [execOp, ho, Instr.box, newVar, newRow]
  · cases h

theorem mem_drop_take {us : List Value} {off n : Nat} (h : ∀ u ∈ us, u.oneCell' = true) : ∀ u ∈ (us.drop off).take n, u.oneCell' = true :=
  fun u hu => h u (List.mem_of_mem_drop (List.mem_of_mem_take hu))

include hT hF hH in
theorem vload_sim {t : Nat} {rv : RV} {v : AV} {ua : Value} (hr : RVR ρ lam fr.loc rv ua) (h : vload T fr H t rv = some v) :
    ∃ ad x, ua = .pointer (some ad) ∧ (loadVar t ad).run P w = .ok x w ∧ VR ρ v x := by
  unfold vload at h
  split at h
  · rename_i n hs
    obtain ⟨h1, h2⟩ := run_shape' hT hs w
    split at h
    · rename_i b off
      obtain ⟨pl, hb, rfl⟩ := hr
      simp only [Option.map_eq_some_iff] at h
      obtain ⟨cs, hc, rfl⟩ := h
      obtain ⟨us, hl, hv, ho, hrun⟩ := run_cells (P := P) hH hb hc
      refine ⟨_, .agg us.toArray, rfl, ?_, us.toArray, rfl, by simpa using hv, by simpa using ho⟩
      simp only [loadVar, Sem.run_bind, h1, Result.andThen, if_true, h2, hrun, Sem.run_pure]
    · rename_i d ep off
      split at h
      · rename_i cs hcs
        unfold Fr.locCells at hcs
        split at hcs
        · rename_i c hc
          split at hcs
          · rename_i hep
            obtain rfl := Option.some.inj hcs
            obtain ⟨rb, vs, et, e1, e2, e3, e4, e5, _⟩ := hF.loc.box d c hc
            obtain ⟨rb', e6, rfl⟩ := hr c hc (by simpa using hep)
            rw [e1] at e6
            obtain rfl := Option.some.inj e6
            split at h
            · rename_i hlen
              obtain rfl := Option.some.inj h
              have hlen' := Nat.le_of_ble_eq_true hlen
              have hcl := e4.length
              have hrun : (loadCells ⟨rb, off, none⟩ ((vs.toList.drop off).take n).length).run P w = .ok ((vs.toList.drop off).take n).toArray w :=
                run_loadCells_list w _ _ fun j u hu => by
                  rw [addr_add]
                  simp only [World.cell?, e3]
                  simp only [List.getElem?_take, List.getElem?_drop] at hu
                  split at hu
                  · simpa using hu
                  · cases hu
              have hl : ((vs.toList.drop off).take n).length = n := by
                rw [List.length_take, List.length_drop]; omega
              rw [hl] at hrun
              refine ⟨_, .agg ((vs.toList.drop off).take n).toArray, rfl, ?_, _, rfl, (e4.drop off).take n, mem_drop_take e5⟩
              simp only [loadVar, Sem.run_bind, h1, Result.andThen, if_true, h2, hrun, Sem.run_pure]
            · cases h
          · cases hcs
        · cases hcs
      · cases h
    · cases h
  · rename_i n hs
    obtain ⟨h1, h2⟩ := run_shape' hT hs w
    split at h
    · rename_i b off
      obtain ⟨pl, hb, rfl⟩ := hr
      obtain ⟨u, hu, hv⟩ := cell_read hH hb h
      refine ⟨_, u, rfl, ?_, hv.1⟩
      simp only [loadVar, Sem.run_bind, h1, Result.andThen, Bool.false_eq_true, if_false, run_load, hu]
    · rename_i d ep off
      split at h
      · rename_i cs hcs
        unfold Fr.locCells at hcs
        split at hcs
        · rename_i c hc
          split at hcs
          · rename_i hep
            obtain rfl := Option.some.inj hcs
            obtain ⟨rb, vs, et, e1, e2, e3, e4, e5, _⟩ := hF.loc.box d c hc
            obtain ⟨rb', e6, rfl⟩ := hr c hc (by simpa using hep)
            rw [e1] at e6
            obtain rfl := Option.some.inj e6
            obtain ⟨u, hu, hv⟩ := e4.get h
            refine ⟨_, u, rfl, ?_, hv⟩
            have hcell : w.cell? ⟨rb, off, none⟩ = some u := by simp only [World.cell?, e3]; simpa using hu
            simp only [loadVar, Sem.run_bind, h1, Result.andThen, Bool.false_eq_true, if_false, run_load, hcell]
          · cases hcs
        · cases hcs
      · cases h
    · cases h
  · cases h

include hT hF hH in
theorem sim_load {t : Nat} {x : Operand} (ho : o.op = .load t x) (h : oLoad T fr H t x = some (r, fr', H')) : Sim P o ρ G n0 lam fr a w H r fr' H' := by
  unfold oLoad outV at h
  split at h
  · rename_i rv hrv
    split at h
    · rename_i v hv
      simp only [Option.some.injEq, Prod.mk.injEq] at h
      obtain ⟨rfl, rfl, rfl⟩ := h
      obtain ⟨ad, u, e1, e2, e3⟩ := vload_sim hT hF hH (ev_rel hF hrv) hv
      exact ⟨u, w, ρ, lam, .value (by simp [execOp, ho, Instr.loadAt, Instr.sureAddr, e1, e2]), .quietA hF hH e3⟩
    · cases h
  · cases h

include hT hF hH in
theorem vstore_sim {t : Nat} {rv : RV} {v : AV} {ua uv : Value} (hr : RVR ρ lam fr.loc rv ua) (hv : VR ρ v uv) (h : vstore T fr H t rv v = some (fr', H')) :
    ∃ ad w', ua = .pointer (some ad) ∧ (storeVar t ad uv).run P w = .ok () w' ∧ Got ρ G n0 lam fr a.tmps w H (.v (.tuple [])) fr' H' (.tuple #[]) w' ρ lam := by
  unfold vstore at h
  split at h
  · rename_i n hn
    have h2 := run_size hT hn w
    split at h
    · rename_i hc
      simp only [Bool.and_eq_true, beq_iff_eq] at hc
      have hcs := hv.cells hc.2
      have hlen := hcs.length
      rw [hc.1, Array.length_toList] at hlen
      have hrun : ∀ ad w', (storeCells ad uv.cells.toList).run P w = .ok () w' → (storeVar t ad uv).run P w = .ok () w' := fun ad w' e => by
        simp only [storeVar, Sem.run_bind, h2, Result.andThen, hlen, ne_eq, not_true, if_false, e]
      split at h
      · rename_i b off
        obtain ⟨pl, hb, rfl⟩ := hr
        simp only [Option.map_eq_some_iff, Prod.mk.injEq] at h
        obtain ⟨H1, hp, rfl, rfl⟩ := h
        obtain ⟨k1, k2⟩ := run_puts (P := P) hH hb hcs hp
        exact ⟨_, _, rfl, hrun _ _ k1, .turn hF (post_puts hH hb hcs hp) k2 ⟨#[], rfl, rfl⟩ (.puts hp)⟩
      · rename_i d ep off
        split at h
        · rename_i cs hcs'
          unfold Fr.locCells at hcs'
          split at hcs'
          · rename_i c hc'
            split at hcs'
            · rename_i hep
              obtain rfl := Option.some.inj hcs'
              obtain ⟨rb, vs, et, e1, e2, e3, e4, e5, e6, e7⟩ := hF.loc.box d c hc'
              have hep' : c.ep = ep := by simpa using hep
              obtain ⟨rb', e8, rfl⟩ := hr c hc' hep'
              rw [e1] at e8
              obtain rfl := Option.some.inj e8
              split at h
              · rename_i hle
                have hle' := Nat.le_of_ble_eq_true hle
                simp only [Option.some.injEq, Prod.mk.injEq] at h
                obtain ⟨rfl, rfl⟩ := h
                have hcl := e4.length
                rw [Array.length_toList] at hcl
                have huo := hcs.one hc.2
                have hul : uv.cells.toList.length = n := by rw [Array.length_toList]; exact hlen
                obtain ⟨c', f1, f2, f3⟩ := row_storesW rb uv.cells.toList off w vs et (0, 0) e3 (by omega)
                have hst := run_storeCells (P := P) rb off uv.cells.toList 0 w (fun j hj => ⟨vs[off + 0 + j]'(by omega), by simp [World.cell?, e3]⟩) (fun j hj => by simp [World.frozen?, e3]) huo
                rw [Nat.add_zero] at hst
                have hother : ∀ k, k ≠ rb → (storesW w rb off uv.cells.toList).heap[k]? = w.heap[k]? := fun k hk => heap_storesW _ _ _ _ _ hk
                have hget : ∀ k, (fr.loc.set d ⟨ep, c.cells.take off ++ v.cells ++ c.cells.drop (off + n)⟩).get k = if k = d then some ⟨ep, c.cells.take off ++ v.cells ++ c.cells.drop (off + n)⟩ else fr.loc.get k := fun k => Tr.get_set _ _ _ _
                have hsize := size_storesW rb uv.cells.toList off w
                refine ⟨_, _, rfl, hrun _ _ hst, ⟨⟨.refl ρ, (rest_storesW _ _ _ _).1, (rest_storesW _ _ _ _).2.1, (rest_storesW _ _ _ _).2.2, by rw [hsize]; exact Nat.le_refl _, fun k _ _ hk => hother k (fun e => hk (by rw [e]; exact e2)), fun b pl hb => .inr ⟨b, pl, hb, rfl⟩, fun _ e => .inl e⟩,
                  hH.grown (by rw [hsize]; exact Nat.le_refl _) (fun b pl hb => hother _ (e7.2 b pl hb)) (fun k hk => hother k fun e => e7.1 (e ▸ hk)), ⟨hF.size, fun k hk => ?_, hF.over, hF.glob, ⟨fun k q hq => ?_, fun k k' q q' hq hq' e => ?_, fun t' k ep' off' ht' => ?_⟩⟩, ⟨#[], rfl, rfl⟩, (fun _ _ _ e => by cases e), .refl _⟩⟩
                · have := hF.regs k hk
                  show RVR _ _ (fr.loc.set d _) ((fr.regs.get k).getD (.v .undef)) _
                  cases hq : (fr.regs.get k).getD (.v .undef) with
                  | v x => rw [hq] at this; exact this
                  | loc d' ep' off' =>
                    rw [hq] at this
                    intro q hq' he
                    rw [hget] at hq'
                    split at hq'
                    · rename_i e; subst e
                      obtain rfl := Option.some.inj hq'
                      simp only at he
                      exact this c hc' (hep'.trans he)
                    · exact this q hq' he
                · have hq' : (fr.loc.set d ⟨ep, c.cells.take off ++ v.cells ++ c.cells.drop (off + n)⟩).get k = some q := hq
                  rw [hget] at hq'
                  split at hq'
                  · rename_i e; subst e
                    obtain rfl := Option.some.inj hq'
                    refine ⟨rb, c', et, e1, e2, f1, VRs.of_get ?_ fun i x y hx hy => ?_, fun u hu => ?_, e6, e7⟩
                    · rw [Array.length_toList, f2]
                      simp only [List.length_append, List.length_take, List.length_drop]
                      omega
                    · rw [Array.getElem?_toList, f3] at hy
                      rw [List.append_assoc] at hx
                      by_cases hi : off ≤ i ∧ i < off + uv.cells.toList.length
                      · rw [if_pos hi] at hy
                        rw [List.getElem?_append_right (by rw [List.length_take]; omega), List.getElem?_append_left (by rw [List.length_take]; omega), List.length_take, show i - min off c.cells.length = i - off by omega] at hx
                        obtain ⟨y', hy1, hy2⟩ := hcs.get hx
                        rw [hy] at hy1
                        obtain rfl := Option.some.inj hy1
                        exact hy2
                      · rw [if_neg hi] at hy
                        have hx' : c.cells[i]? = some x := by
                          by_cases hlt : i < off
                          · rw [List.getElem?_append_left (by rw [List.length_take]; omega), List.getElem?_take, if_pos hlt] at hx
                            exact hx
                          · rw [List.getElem?_append_right (by rw [List.length_take]; omega), List.getElem?_append_right (by rw [List.length_take]; omega), List.getElem?_drop, List.length_take] at hx
                            rw [show off + n + (i - min off c.cells.length - v.cells.length) = i by omega] at hx
                            exact hx
                        obtain ⟨y', hy1, hy2⟩ := e4.get hx'
                        rw [Array.getElem?_toList, hy] at hy1
                        obtain rfl := Option.some.inj hy1
                        exact hy2
                    · obtain ⟨i, hi⟩ := List.getElem?_of_mem hu
                      rw [Array.getElem?_toList, f3] at hi
                      split at hi
                      · exact huo u (List.mem_of_getElem? hi)
                      · exact e5 u (List.mem_of_getElem? (by rw [Array.getElem?_toList]; exact hi))
                  · rename_i hne
                    obtain ⟨rb2, vs2, et2, g1, g2, g3, g4⟩ := hF.loc.box k q hq'
                    refine ⟨rb2, vs2, et2, g1, g2, ?_, g4⟩
                    rw [hother]
                    · exact g3
                    · rintro rfl
                      exact hne (hF.loc.inj k d q c hq' hc' (g1.trans e1.symm))
                · have hq1 : ∃ q1, fr.loc.get k = some q1 := by
                    have hq0 : (fr.loc.set d ⟨ep, c.cells.take off ++ v.cells ++ c.cells.drop (off + n)⟩).get k = some q := hq
                    rw [hget] at hq0
                    split at hq0
                    · rename_i e; exact ⟨c, by rw [e]; exact hc'⟩
                    · exact ⟨q, hq0⟩
                  have hq2 : ∃ q1, fr.loc.get k' = some q1 := by
                    have hq0 : (fr.loc.set d ⟨ep, c.cells.take off ++ v.cells ++ c.cells.drop (off + n)⟩).get k' = some q' := hq'
                    rw [hget] at hq0
                    split at hq0
                    · rename_i e; exact ⟨c, by rw [e]; exact hc'⟩
                    · exact ⟨q', hq0⟩
                  obtain ⟨q1, h1⟩ := hq1
                  obtain ⟨q2, h2⟩ := hq2
                  exact hF.loc.inj k k' q1 q2 h1 h2 e
                · obtain ⟨q, hq, hle⟩ := hF.loc.stale t' k ep' off' ht'
                  by_cases e : k = d
                  · subst e
                    rw [hc'] at hq
                    obtain rfl := Option.some.inj hq
                    exact ⟨_, by rw [hget, if_pos rfl], by simp only; omega⟩
                  · exact ⟨q, by rw [hget, if_neg e]; exact hq, hle⟩
              · cases h
            · cases hcs'
          · cases hcs'
        · cases h
      · cases h
    · cases h
  · cases h

include hT hF hH in
theorem sim_store {t : Nat} {x y : Operand} (ho : o.op = .store t x y) (h : oStore T fr H t x y = some (r, fr', H')) : Sim P o ρ G n0 lam fr a w H r fr' H' := by
  unfold oStore at h
  split at h
  · rename_i rv v hrv hv
    split at h
    · rename_i f1 H1 hs
      simp only [Option.some.injEq, Prod.mk.injEq] at h
      obtain ⟨rfl, rfl, rfl⟩ := h
      obtain ⟨ad, w', e1, e2, e3⟩ := vstore_sim hT hF hH (ev_rel hF hrv) (eva_rel hF hv) hs
      exact ⟨_, w', ρ, lam, .skip (by simp [execOp, ho, Instr.storeAt, Instr.sureAddr, e1, e2]), e3⟩
    · cases h
  · cases h
end
end
end Go.Vm
/-! More of the abstract machine's operations against the model's. -/
namespace Go.Vm
set_option linter.unusedSimpArgs false
set_option linter.unusedVariables false
set_option linter.unusedSectionVars false

theorem run_mapM {α β : Type} {P : Program} {w : World} (f : α → Sem β) (g : α → β) : ∀ (xs : List α), (∀ x ∈ xs, (f x).run P w = .ok (g x) w) → (xs.mapM f).run P w = .ok (xs.map g) w
  | [], _ => by simp
  | x :: xs, h => by
    simp only [List.mapM_cons, Sem.run_bind, h x (List.mem_cons_self ..), Result.andThen, run_mapM f g xs fun y hy => h y (List.mem_cons_of_mem _ hy), Sem.run_pure, List.map_cons]
theorem run_mapM_arr {α β : Type} {P : Program} {w : World} (f : α → Sem β) (g : α → β) (xs : Array α) (h : ∀ x ∈ xs.toList, (f x).run P w = .ok (g x) w) : (xs.mapM f).run P w = .ok (xs.map g) w := by
  rw [Array.mapM_eq_mapM_toList, Sem.run_map, run_mapM f g xs.toList h]
  simp only [Result.andThen]
  congr 1
  apply Array.ext'
  simp

theorem foldl_set (off : Nat) : ∀ (l : List Value) (k : Nat) (cs : Array Value), off + k + l.length ≤ cs.size →
    ((l.zipIdx k).foldl (fun (cs : Array Value) (x : Value × Nat) => cs.setIfInBounds (off + x.2) x.1) cs).toList = cs.toList.take (off + k) ++ l ++ cs.toList.drop (off + k + l.length)
  | [], k, cs, _ => by simp
  | v :: l, k, cs, h => by
    simp only [List.length_cons] at h
    rw [List.zipIdx_cons, List.foldl_cons, foldl_set off l (k + 1) _ (by simp; omega)]
    apply List.ext_getElem?
    intro i
    simp only [Array.toList_setIfInBounds, List.length_cons]
    have hsz : cs.toList.length = cs.size := Array.length_toList
    simp only [List.getElem?_append, List.getElem?_take, List.getElem?_drop, List.length_take, List.length_append, List.length_set, List.getElem?_set, hsz, List.length_cons]
    by_cases h1 : i < off + k
    · have e1 : i < min (off + (k + 1)) cs.size + l.length := by omega
      have e2 : i < min (off + (k + 1)) cs.size := by omega
      have e3 : i < off + (k + 1) := by omega
      have e4 : ¬ off + k = i := by omega
      have e5 : i < min (off + k) cs.size + (l.length + 1) := by omega
      have e6 : i < min (off + k) cs.size := by omega
      simp only [e1, e2, e3, e4, e5, e6, h1, if_true, if_false]
    · by_cases h2 : i = off + k
      · subst h2
        have e1 : off + k < min (off + (k + 1)) cs.size + l.length := by omega
        have e2 : off + k < min (off + (k + 1)) cs.size := by omega
        have e3 : off + k < off + (k + 1) := by omega
        have e5 : off + k < min (off + k) cs.size + (l.length + 1) := by omega
        have e6 : ¬ off + k < min (off + k) cs.size := by omega
        have e7 : off + k - min (off + k) cs.size = 0 := by omega
        have e8 : off + k < cs.size := by omega
        simp only [e1, e2, e3, e5, e6, e7, e8, if_true, if_false, List.getElem?_cons_zero]
      · by_cases h3 : i < off + k + (l.length + 1)
        · have e1 : i < min (off + (k + 1)) cs.size + l.length := by omega
          have e2 : ¬ i < min (off + (k + 1)) cs.size := by omega
          have e5 : i < min (off + k) cs.size + (l.length + 1) := by omega
          have e6 : ¬ i < min (off + k) cs.size := by omega
          have e7 : i - min (off + k) cs.size = (i - min (off + (k + 1)) cs.size) + 1 := by omega
          simp only [e1, e2, e5, e6, e7, if_true, if_false, List.getElem?_cons_succ]
        · have e1 : ¬ i < min (off + (k + 1)) cs.size + l.length := by omega
          have e5 : ¬ i < min (off + k) cs.size + (l.length + 1) := by omega
          have e8 : ¬ off + k = off + (k + 1) + l.length + (i - (min (off + (k + 1)) cs.size + l.length)) := by omega
          have e9 : off + (k + 1) + l.length + (i - (min (off + (k + 1)) cs.size + l.length)) = off + k + (l.length + 1) + (i - (min (off + k) cs.size + (l.length + 1))) := by omega
          simp only [e1, e5, e8, if_false]
          rw [e9]

/-- Parts of a value. -/
def PartsR (ρ : Rho) : List (Nat × AV) → List (Nat × Value) → Prop
  | [], vs => vs = []
  | (i, a) :: as, vs => ∃ u us, vs = (i, u) :: us ∧ VR ρ a u ∧ PartsR ρ as us
section
variable {ρ : Rho} {G : Nat → Prop} {n0 : Nat} {lam : Nat → Option Nat} {fr : Fr} {a : Act} {w : World}
theorem parts_rel (h : RelF ρ G n0 lam fr a.tmps w) : ∀ {ps : List (Nat × Operand)} {as : List (Nat × AV)}, parts fr ps = some as → PartsR ρ as (ps.map fun p => (p.1, a.eval p.2))
  | [], as, e => by
    simp only [parts, Option.some.injEq] at e
    subst e
    rfl
  | (i, x) :: ps, as, e => by
    simp only [parts] at e
    split at e
    · rename_i b bs h1 h2
      obtain rfl := Option.some.inj e
      exact ⟨_, _, rfl, eva_rel h h1, parts_rel h h2⟩
    · cases e

theorem fill_rel {place place' : Nat → Option (Nat × Nat)} (hp : ∀ i x, place i = some x → place' i = some x) : ∀ {ps : List (Nat × AV)} {vs : List (Nat × Value)} {cells cs : List AV} {vc : Array Value},
    PartsR ρ ps vs → VRs ρ cells vc.toList → (∀ u ∈ vc.toList, u.oneCell' = true) → vfill place cells ps = some cs →
    ∃ vc', Instr.fill place' vc vs = some vc' ∧ VRs ρ cs vc'.toList ∧ (∀ u ∈ vc'.toList, u.oneCell' = true)
  | [], vs, cells, cs, vc, h, hc, ho, e => by
    rw [show vs = [] from h]
    simp only [vfill, Option.some.injEq] at e
    subst e
    exact ⟨vc, rfl, hc, ho⟩
  | (i, x) :: ps, vs, cells, cs, vc, ⟨u, us, e1, hu, hus⟩, hc, ho, e => by
    subst e1
    simp only [vfill] at e
    split at e
    · cases e
    · rename_i off size hpl
      split at e
      · rename_i hcond
        simp only [Bool.and_eq_true, beq_iff_eq] at hcond
        have hle := Nat.le_of_ble_eq_true hcond.1.2
        have hxc := hu.cells hcond.2
        have hxl := hxc.length
        have hcl := hc.length
        rw [Array.length_toList] at hxl hcl
        have hf : (u.cells.zipIdx.foldl (fun (cs : Array Value) (y : Value × Nat) => cs.setIfInBounds (off + y.2) y.1) vc).toList = vc.toList.take off ++ u.cells.toList ++ vc.toList.drop (off + size) := by
          have := foldl_set off u.cells.toList 0 vc (by rw [Array.length_toList]; omega)
          rw [Array.length_toList, hxl, hcond.1.1] at this
          rw [← Array.foldl_toList, Array.toList_zipIdx]
          simpa using this
        obtain ⟨vc', g1, g2, g3⟩ := fill_rel hp (vc := u.cells.zipIdx.foldl (fun (cs : Array Value) (y : Value × Nat) => cs.setIfInBounds (off + y.2) y.1) vc) hus (by rw [hf]; exact ((hc.take off).append hxc).append (hc.drop _))
          (fun y hy => by
            rw [hf] at hy
            rcases List.mem_append.1 hy with hy | hy
            · rcases List.mem_append.1 hy with hy | hy
              · exact ho y (List.mem_of_mem_take hy)
              · exact hxc.one hcond.2 y hy
            · exact ho y (List.mem_of_mem_drop hy)) e
        refine ⟨vc', ?_, g2, g3⟩
        have c1 : ¬ ((decide (u.cells.size ≠ size) || decide (off + u.cells.size > vc.size)) = true) := by
          simp only [Bool.or_eq_true, decide_eq_true_eq]
          omega
        simp only [Instr.fill, hp i _ hpl, c1, if_false]
        exact g1
      · cases e

variable {T : Tb} {P : Program} (hT : TbOk T P) {H : VH} (hF : RelF ρ G n0 lam fr a.tmps w) (hH : RelH ρ G H w) {o : Oper} {promo : Nat → Bool} {r : RV} {fr' : Fr} {H' : VH}

theorem outV_spec {x : Option AV} (h : outV fr H x = some (r, fr', H')) : ∃ v, x = some v ∧ r = .v v ∧ fr' = fr ∧ H' = H := by
  unfold outV at h
  split at h
  · simp only [Option.some.injEq, Prod.mk.injEq] at h
    exact ⟨_, rfl, h.1.symm, h.2.1.symm, h.2.2.symm⟩
  · cases h
theorem outR_spec {x : Option RV} (h : outR fr H x = some (r, fr', H')) : x = some r ∧ fr' = fr ∧ H' = H := by
  unfold outR at h
  split at h
  · simp only [Option.some.injEq, Prod.mk.injEq] at h
    exact ⟨by rw [h.1], h.2.1.symm, h.2.2.symm⟩
  · cases h
theorem outH_spec {x : Option (AV × VH)} (h : outH fr x = some (r, fr', H')) : ∃ v, x = some (v, H') ∧ r = .v v ∧ fr' = fr := by
  unfold outH at h
  split at h
  · simp only [Option.some.injEq, Prod.mk.injEq] at h
    exact ⟨_, by rw [h.2.2], h.1.symm, h.2.1.symm⟩
  · cases h

include hT hF hH in
theorem sim_build {t : Nat} {ps : Array (Nat × Operand)} (ho : o.op = .build t ps) (h : outV fr H (vbuild T fr t ps.toList) = some (r, fr', H')) : Sim P o ρ G n0 lam fr a w H r fr' H' := by
  obtain ⟨v, hv, rfl, rfl, rfl⟩ := outV_spec h
  unfold vbuild at hv
  split at hv
  · rename_i z as hz has
    obtain ⟨vz, hzr, _, hz1, hz2⟩ := run_zero hT hz w
    have hpr := parts_rel hF has
    have hps : (ps.map fun (x : Nat × Operand) => (x.1, a.eval x.2)).toList = ps.toList.map fun p => (p.1, a.eval p.2) := by simp
    split at hv
    · rename_i fields hu
      simp only [Option.map_eq_some_iff] at hv
      obtain ⟨cs, hf, rfl⟩ := hv
      have hplaces : (fields.mapM fun f => (do pure (f.offset, ← sizeOf f.type) : Sem (Nat × Nat))).run P w = .ok (fields.map fun f => (f.offset, P.cellsOf f.type)) w :=
        run_mapM_arr _ (fun (f : Field) => (f.offset, P.cellsOf f.type)) _ fun f hf => by
          obtain ⟨j, hj⟩ := hT.fields t fields hu f hf
          simp [sizeOf, typeInfo, hj, Program.cellsOf]
      obtain ⟨vc', g1, g2, g3⟩ := fill_rel (place' := fun i => (fields.map fun f => (f.offset, P.cellsOf f.type))[i]?) (fun i x hx => by
        split at hx
        · rename_i f hfd
          simp only [Option.map_eq_some_iff] at hx
          obtain ⟨s, hs, rfl⟩ := hx
          have hs' : P.cellsOf f.type = s := by
            unfold sizeOfT at hs
            cases hi : T.info f.type with
            | none => rw [hi] at hs; cases hs
            | some q =>
              rw [hi] at hs
              obtain rfl := Option.some.inj hs
              simp [Program.cellsOf, hT.ty _ _ hi]
          simp [hfd, hs']
        · cases hx) hpr (hz1 ρ) hz2 hf
      refine ⟨.agg vc', w, ρ, lam, .value ?_, .quietA hF hH ⟨vc', rfl, g2, g3⟩⟩
      simp only [execOp, ho, Instr.build, Sem.run_bind, hzr, Result.andThen, run_und hT hu w, hplaces, hps, g1, Sem.run_pure]
    · rename_i n elem hu
      split at hv
      · rename_i s hs
        simp only [Option.map_eq_some_iff] at hv
        obtain ⟨cs, hf, rfl⟩ := hv
        obtain ⟨vc', g1, g2, g3⟩ := fill_rel (place' := fun i => some (i * s, s)) (fun i x hx => hx) hpr (hz1 ρ) hz2 hf
        refine ⟨.agg vc', w, ρ, lam, .value ?_, .quietA hF hH ⟨vc', rfl, g2, g3⟩⟩
        simp only [execOp, ho, Instr.build, Sem.run_bind, hzr, Result.andThen, run_und hT hu w, run_size hT hs w, hps, g1, Sem.run_pure]
      · cases hv
    · cases hv
  · cases hv
end
end Go.Vm
/-! More of the abstract machine's operations against the model's: addresses, indices, slices, conversions. -/
namespace Go.Vm
set_option linter.unusedSimpArgs false
set_option linter.unusedVariables false
set_option linter.unusedSectionVars false
section
variable {ρ : Rho} {G : Nat → Prop} {n0 : Nat} {lam : Nat → Option Nat} {fr : Fr} {a : Act} {w : World}
variable {T : Tb} {P : Program} (hT : TbOk T P) {H : VH} (hF : RelF ρ G n0 lam fr a.tmps w) (hH : RelH ρ G H w) {o : Oper} {promo : Nat → Bool} {r : RV} {fr' : Fr} {H' : VH}

theorem repl_rel {z : List AV} {vz : List Value} (h : VRs ρ z vz) : ∀ n, VRs ρ (repl z n) (List.flatten (List.replicate n vz))
  | 0 => rfl
  | n + 1 => by
    rw [repl, List.replicate_succ, List.flatten_cons]
    exact h.append (repl_rel h n)
theorem zeros_eq (vz : Array Value) (s : Nat) (hs : vz.size = s) (h0 : 0 < s) (n : Nat) : ((Array.range (n * s)).map (fun i => vz[i % vz.size]!)).toList = List.flatten (List.replicate n vz.toList) := by
  subst hs
  induction n with
  | zero => simp
  | succ n ih =>
    rw [List.replicate_succ', List.flatten_append, ← ih]
    apply List.ext_getElem?
    intro i
    simp only [Array.toList_map, Array.toList_range, List.getElem?_map, List.flatten_cons, List.flatten_nil, List.append_nil, List.getElem?_append, List.length_map, List.length_range]
    have e : (n + 1) * vz.size = n * vz.size + vz.size := Nat.succ_mul n _
    by_cases h1 : i < n * vz.size
    · rw [if_pos h1, List.getElem?_range (by omega), List.getElem?_range h1]
    · rw [if_neg h1]
      by_cases h2 : i < (n + 1) * vz.size
      · rw [List.getElem?_range h2]
        have h3 : i - n * vz.size < vz.size := by omega
        have h4 : i % vz.size = i - n * vz.size := by
          have : i = (i - n * vz.size) + vz.size * n := by rw [Nat.mul_comm vz.size n]; omega
          rw [this, Nat.add_mul_mod_self_left, Nat.mod_eq_of_lt h3]
          rw [Nat.mul_comm vz.size n]; omega
        simp only [Option.map_some, h4]
        rw [getElem!_pos vz _ h3, Array.getElem?_toList, Array.getElem?_eq_getElem h3]
      · rw [List.getElem?_eq_none (by simp; omega), List.getElem?_eq_none (by rw [Array.length_toList]; omega)]
        rfl

include hT hF hH in
theorem sim_buildSlice {t n : Nat} {ps : Array (Nat × Operand)} (ho : o.op = .buildSlice t n ps) {q : Bool} (h : outH fr (vbuildSlice T q fr H t n ps.toList) = some (r, fr', H')) : Sim P o ρ G n0 lam fr a w H r fr' H' := by
  obtain ⟨v, hv, rfl, rfl⟩ := outH_spec h
  unfold vbuildSlice at hv
  split at hv
  · rename_i elem hu
    split at hv
    · rename_i s z as hs hz has
      split at hv
      · rename_i hc
        simp only [Bool.and_eq_true, beq_iff_eq, Nat.blt_eq] at hc
        split at hv
        · rename_i cs hf
          obtain ⟨vz, hzr, _, hz1, hz2⟩ := run_zero hT hz w
          have hpr := parts_rel hF has
          have hps : (ps.map fun (x : Nat × Operand) => (x.1, a.eval x.2)).toList = ps.toList.map fun p => (p.1, a.eval p.2) := by simp
          have hzs : vz.cells.size = s := by have := (hz1 ρ).length; rw [Array.length_toList, hc.1.2] at this; exact this
          have hb : n * s ≤ 2 ^ 24 := by have := Nat.le_of_ble_eq_true hc.1.1.1; omega
          have hze := zeros_eq vz.cells s hzs hc.1.1.2 n
          obtain ⟨vc', g1, g2, g3⟩ := fill_rel (place' := fun i => some (i * s, s)) (vc := (Array.range (n * s)).map (fun i => vz.cells[i % vz.cells.size]!)) (fun i x hx => hx) hpr
            (by rw [hze]; exact repl_rel (hz1 ρ) n) (fun u hu => by
              rw [hze] at hu
              obtain ⟨l, hl, hu⟩ := List.mem_flatten.1 hu
              rw [(List.mem_replicate.1 hl).2] at hu
              exact hz2 u hu) hf
          have hsz : n * s ≤ vc'.size := by
            have h1 := g2.length
            rw [Array.length_toList] at h1
            have h2 : ∀ (ps : List (Nat × AV)) (cells cs : List AV) (pl : Nat → Option (Nat × Nat)), vfill pl cells ps = some cs → cs.length = cells.length := by
              intro ps
              induction ps with
              | nil => intro cells cs pl e; simp only [vfill, Option.some.injEq] at e; rw [e]
              | cons p ps ih =>
                obtain ⟨i, x⟩ := p
                intro cells cs pl e
                simp only [vfill] at e
                split at e
                · cases e
                · split at e
                  · rename_i off size _ hcc
                    simp only [Bool.and_eq_true, beq_iff_eq] at hcc
                    have := Nat.le_of_ble_eq_true hcc.1.2
                    rw [ih _ _ _ e]
                    simp only [List.length_append, List.length_take, List.length_drop]
                    omega
                  · cases e
            have h3 := h2 _ _ _ _ hf
            have h4 := (repl_rel (hz1 ρ) n).length
            have h5 : (List.flatten (List.replicate n vz.cells.toList)).length = n * s := by rw [← hze]; simp
            omega
          have key : (execOp a.eval o).run P w = .ok (.value (.slice (some ⟨w.heap.size, 0, none⟩) n n)) (w.alloc (.cells vc' elem)) := by
            have c1 : ¬ (n * s > 2 ^ 24) := by omega
            by_cases hn : n * s = 0
            · have e00 : ∀ f : Nat → Value, (Array.range 0).map f = #[] := fun f => Array.eq_empty_of_size_eq_zero (by simp)
              have g1' : Instr.fill (fun i => some (i * s, s)) #[] (ps.toList.map fun p => (p.1, a.eval p.2)) = some vc' := by
                rw [hn, e00] at g1
                exact g1
              have hn' : n = 0 := by
                rcases Nat.mul_eq_zero.1 hn with h0 | h0
                · exact h0
                · omega
              subst hn'
              have g1'' : Instr.fill (fun i => some (i * s, s)) #[] (ps.map fun (x : Nat × Operand) => (x.1, a.eval x.2)).toList = some vc' := by rw [hps]; exact g1'
              have e0 : ∀ z : Array Value, (Array.range (0 * s)).map (fun i => z[i % z.size]!) = #[] := fun z => by rw [Nat.zero_mul]; exact e00 _
              simp only [execOp, ho, Instr.buildSlice, Sem.run_bind, run_und hT hu w, Result.andThen, run_size hT hs w, c1, if_false, hn, if_true, Sem.run_pure, e0, g1'']
              simp [newRow, e00, g1']
            · simp only [execOp, ho, Instr.buildSlice, Sem.run_bind, run_und hT hu w, Result.andThen, run_size hT hs w, c1, if_false, hn, hzr, Sem.run_pure, hps, g1]
              simp [newRow]
          have hv' := Option.some.inj hv
          cases q with
          | true =>
            simp only [litOf, Prod.mk.injEq] at hv'
            obtain ⟨rfl, rfl⟩ := hv'
            exact ⟨_, _, _, lam, .value key, .turn hF (post_lit hH vc' (.cells vc' elem)) (lit_sim hH vc' elem (0, 0)) ⟨_, 0, n, lit_at hH.fz_next g2 g3, rfl, Nat.le_refl _, fun c' e => Option.some.inj e, fun _ => rfl, by simpa using hsz⟩ (.refl _)⟩
          | false =>
            simp only [litOf, Prod.mk.injEq] at hv'
            obtain ⟨rfl, rfl⟩ := hv'
            have hm := fresh_sim hH cs vc' elem (0, 0) (fun i _ => by simp) vc'.toList [] (by simp) g2 g3
            exact ⟨_, _, _, lam, .value key, .turn hF (post_alloc hH (.cells vc' elem) H.next vc'.size (Nat.le_refl _)) hm ⟨_, 0, n, Rho.set_same _ _ _, rfl, Nat.le_refl _, fun c' e => Option.some.inj e, fun _ => rfl, by simpa using hsz⟩ (.fresh _ _)⟩
        · cases hv
      · cases hv
    · cases hv
  · cases hv

theorem evc_rel (hF : RelF ρ G n0 lam fr a.tmps w) {x : Operand} {r : RV} (h : evc fr x = some r) :
    RVR ρ lam fr.loc r (a.eval x) ∧ (∀ d ep off, r = .loc d ep off → fr.old d ep ∧ ∃ c rb, fr.loc.get d = some c ∧ c.ep = ep ∧ lam d = some rb ∧ a.eval x = .pointer (some ⟨rb, off, none⟩)) := by
  unfold evc at h
  split at h
  · rename_i d ep off he
    split at h
    · rename_i cs hcs
      obtain rfl := Option.some.inj h
      have hv := ev_rel hF he
      refine ⟨hv, fun d' ep' off' e => ?_⟩
      simp only [RV.loc.injEq] at e
      obtain ⟨rfl, rfl, rfl⟩ := e
      unfold Fr.locCells at hcs
      split at hcs
      · rename_i c hc
        split at hcs
        · rename_i hep
          obtain ⟨rb, e1, e2⟩ := hv c hc (by simpa using hep)
          exact ⟨stale_of_ev hF he _ _ _ rfl, c, rb, hc, by simpa using hep, e1, e2⟩
        · cases hcs
      · cases hcs
    · cases h
  · rename_i hne
    exact ⟨ev_rel hF h, fun d ep off e => (hne d ep off (by rw [h, e])).elim⟩

include hF hH in
theorem sim_nil {x : Operand} (ho : o.op = .nilCheck x) (h : oNil fr H x = some (r, fr', H')) : Sim P o ρ G n0 lam fr a w H r fr' H' := by
  unfold oNil at h
  split at h
  · rename_i ad he
    simp only [Option.some.injEq, Prod.mk.injEq] at h
    obtain ⟨rfl, rfl, rfl⟩ := h
    obtain ⟨pl, hb, e⟩ := (evc_rel hF he).1
    exact ⟨a.eval x, w, ρ, lam, .value (by simp [execOp, ho, e]), .quietA hF hH ⟨pl, hb, e⟩⟩
  · rename_i d ep off he
    simp only [Option.some.injEq, Prod.mk.injEq] at h
    obtain ⟨rfl, rfl, rfl⟩ := h
    obtain ⟨hv, hl⟩ := evc_rel hF he
    obtain ⟨h1, c, rb, h2, h3, h4, h5⟩ := hl _ _ _ rfl
    exact ⟨a.eval x, w, ρ, lam, .value (by simp [execOp, ho, h5]), .quiet hF hH hv (fun _ _ _ e => (hl _ _ _ e).1)⟩
  · rename_i f b c he
    simp only [Option.some.injEq, Prod.mk.injEq] at h
    obtain ⟨rfl, rfl, rfl⟩ := h
    obtain ⟨b', c', e, h1, h2⟩ := (evc_rel hF he).1
    exact ⟨a.eval x, w, ρ, lam, .value (by simp [execOp, ho, e]), .quietA hF hH ⟨b', c', e, h1, h2⟩⟩
  · cases h

/-- A place further on in a box. -/
theorem loc_on (hF : RelF ρ G n0 lam fr a.tmps w) {x : Operand} {d ep off : Nat} (h : evc fr x = some (.loc d ep off)) (k : Nat) :
    ∃ rb, a.eval x = .pointer (some ⟨rb, off, none⟩) ∧ RVR ρ lam fr.loc (.loc d ep (off + k)) (.pointer (some ⟨rb, off + k, none⟩)) ∧ (∀ d' ep' off', RV.loc d ep (off + k) = .loc d' ep' off' → fr.old d' ep') := by
  obtain ⟨hv, hl⟩ := evc_rel hF h
  obtain ⟨h1, c, rb, h2, h3, h4, h5⟩ := hl _ _ _ rfl
  refine ⟨rb, h5, fun c' hc' _ => ⟨rb, h4, rfl⟩, fun d' ep' off' e => ?_⟩
  simp only [RV.loc.injEq] at e
  obtain ⟨rfl, rfl, _⟩ := e
  exact h1

include hT hF hH in
theorem sim_fieldAddr {t f : Nat} {x : Operand} (ho : o.op = .fieldAddr t x f) (h : oFieldAddr T fr H t x f = some (r, fr', H')) : Sim P o ρ G n0 lam fr a w H r fr' H' := by
  unfold oFieldAddr at h
  split at h
  · rename_i rv hrv
    obtain ⟨hx, rfl, rfl⟩ := outR_spec h
    clear h
    unfold vfieldAddr at hx
    split at hx
    · rename_i fields hu
      split at hx
      · rename_i fd hfd
        split at hx
        · rename_i k hs
          have hsz := run_size hT hs w
          have hrun : ∀ b off, a.eval x = .pointer (some ⟨b, off, none⟩) → (execOp a.eval o).run P w = .ok (.value (.pointer (some ⟨b, off + fd.offset, none⟩))) w := fun b off e => by
            simp [execOp, ho, Instr.fieldAt, run_und hT hu w, hfd, Instr.sureAddr, e, fieldPlace, hsz, addr_add]
          split at hx
          · rename_i b off
            obtain rfl := Option.some.inj hx
            obtain ⟨pl, hb, e⟩ := (evc_rel hF hrv).1
            exact ⟨_, w, ρ, lam, .value (hrun _ _ e), .quietA hF hH ⟨pl, hb, by rw [Nat.add_assoc]⟩⟩
          · rename_i d ep off
            obtain rfl := Option.some.inj hx
            obtain ⟨rb, e1, e2, e3⟩ := loc_on hF hrv fd.offset
            exact ⟨_, w, ρ, lam, .value (hrun _ _ e1), .quiet hF hH e2 e3⟩
          · cases hx
        · cases hx
      · cases hx
    · cases hx
  · cases h

include hT hF hH in
theorem sim_field {t f : Nat} {x : Operand} (ho : o.op = .field t x f) (h : oField T fr H t x f = some (r, fr', H')) : Sim P o ρ G n0 lam fr a w H r fr' H' := by
  unfold oField at h
  split at h
  · rename_i av hav
    obtain ⟨v, hx, rfl, rfl, rfl⟩ := outV_spec h
    clear h
    have hv := eva_rel hF hav
    unfold vfield at hx
    split at hx
    · rename_i fields cs hu
      obtain ⟨va, e, h1, h2⟩ := hv
      split at hx
      · rename_i fd hfd
        have hrun : ∀ u, (part fd.type va fd.offset).run P w = .ok u w → (execOp a.eval o).run P w = .ok (.value u) w := fun u e' => by
          simp [execOp, ho, Instr.field, run_und hT hu w, hfd, e, asAgg, e']
        split at hx
        · rename_i n hs
          obtain ⟨s1, s2⟩ := run_shape' hT hs w
          split at hx
          · rename_i hle
            obtain rfl := Option.some.inj hx
            refine ⟨.agg (va.extract fd.offset (fd.offset + n)), w, ρ, lam, .value (hrun _ (by simp [part, s1, s2])), .quietA hF hH ⟨_, rfl, ?_, fun u hu => h2 u ?_⟩⟩
            · rw [Array.toList_extract, List.extract_eq_take_drop, Nat.add_sub_cancel_left]
              exact (h1.drop _).take n
            · rw [Array.toList_extract, List.extract_eq_take_drop] at hu
              exact List.mem_of_mem_drop (List.mem_of_mem_take hu)
          · cases hx
        · rename_i n hs
          obtain ⟨s1, s2⟩ := run_shape' hT hs w
          obtain ⟨u, hu', hv'⟩ := h1.get hx
          rw [Array.getElem?_toList] at hu'
          exact ⟨u, w, ρ, lam, .value (hrun _ (by simp [part, s1, hu'])), .quietA hF hH hv'⟩
        · cases hx
      · cases hx
    · cases hx
  · cases h

theorem toNat_lt_of {i : Int} {n : Nat} (h0 : 0 ≤ i) (h : i < n) : i.toNat < n := by omega

include hT hF hH in
theorem sim_indexAddr {t : Nat} {x y : Operand} (ho : o.op = .indexAddr t x y) (h : oIndexAddr T fr H t x y = some (r, fr', H')) : Sim P o ρ G n0 lam fr a w H r fr' H' := by
  unfold oIndexAddr at h
  split at h
  · rename_i rv k i hrv hi
    obtain ⟨hx, rfl, rfl⟩ := outR_spec h
    clear h
    have hiv : a.eval y = .int k i := eva_rel hF hi
    unfold vindexAddr at hx
    split at hx
    · rename_i len elem hu
      split at hx
      · rename_i s hs
        have hsz := run_size hT hs w
        split at hx
        · rename_i hb
          simp only [Bool.and_eq_true, ile_eq, ilt_eq, decide_eq_true_eq] at hb
          have hrun : ∀ b off, a.eval x = .pointer (some ⟨b, off, none⟩) → (execOp a.eval o).run P w = .ok (.value (.pointer (some ⟨b, off + i.toNat * s, none⟩))) w := fun b off e => by
            simp [execOp, ho, Instr.indexAt, hiv, asIntOf, run_und hT hu w, Instr.sureAddr, e, hb, hsz, addr_add]
          split at hx
          · rename_i b off
            obtain rfl := Option.some.inj hx
            obtain ⟨pl, hb', e⟩ := (evc_rel hF hrv).1
            exact ⟨_, w, ρ, lam, .value (hrun _ _ e), .quietA hF hH ⟨pl, hb', by rw [Nat.add_assoc]⟩⟩
          · rename_i d ep off
            obtain rfl := Option.some.inj hx
            obtain ⟨rb, e1, e2, e3⟩ := loc_on hF hrv (i.toNat * s)
            exact ⟨_, w, ρ, lam, .value (hrun _ _ e1), .quiet hF hH e2 e3⟩
          · cases hx
        · cases hx
      · cases hx
    · rename_i elem hu
      split at hx
      · rename_i b off len cap s' s hs
        have hsz := run_size hT hs w
        split at hx
        · rename_i hb
          simp only [Bool.and_eq_true, ile_eq, ilt_eq, decide_eq_true_eq] at hb
          obtain rfl := Option.some.inj hx
          obtain ⟨pl, ro, rc, h1, h2, h3, h4, h5, h6⟩ := (evc_rel hF hrv).1
          have hro : ro = pl.base + off := h5 (by omega)
          subst hro
          refine ⟨.pointer (some ⟨pl.rb, pl.base + off + i.toNat * s, none⟩), w, ρ, lam, .value ?_, .quietA hF hH ⟨pl, h1, by rw [Nat.add_assoc]⟩⟩
          simp [execOp, ho, Instr.indexAt, hiv, asIntOf, run_und hT hu w, h2, hb, hsz, addr_add]
        · cases hx
      · cases hx
    · cases hx
  · cases h

include hT hF hH in
theorem sim_index {t : Nat} {x y : Operand} (ho : o.op = .index t x y) (h : oIndex T fr H t x y = some (r, fr', H')) : Sim P o ρ G n0 lam fr a w H r fr' H' := by
  unfold oIndex at h
  split at h
  · rename_i av k i hav hi
    obtain ⟨v, hx, rfl, rfl, rfl⟩ := outV_spec h
    clear h
    have hv := eva_rel hF hav
    have hiv : a.eval y = .int k i := eva_rel hF hi
    unfold vindex at hx
    split at hx
    · rename_i s hu
      obtain ⟨b, e, rfl⟩ := hv
      split at hx
      · rename_i hb
        simp only [Bool.and_eq_true, ile_eq, ilt_eq, decide_eq_true_eq] at hb
        obtain rfl := Option.some.inj hx
        have hlt : i.toNat < b.size := by
          have h1 : i < ((PS.of b.data.toList).len : Int) := hb.2
          have h2 : (PS.of b.data.toList).len = b.size := rfl
          omega
        have hl : i.toNat < b.data.toList.length := hlt
        have hg : b[i.toNat]? = some b[i.toNat] := getElem?_pos b i.toNat hlt
        refine ⟨.int .u8 ((b[i.toNat]).toNat : Int), w, ρ, lam, .value ?_, .quietA hF hH ?_⟩
        · simp only [execOp, ho, Instr.index, hiv, asIntOf, Sem.run_bind, Sem.run_pure, Result.andThen, run_und hT hu w, e, hb.1, if_true, hg]
        · show Value.int .u8 _ = .int .u8 _
          rw [PS.byte_of _ _ hl]
          rfl
      · cases hx
    · rename_i len elem cs hu
      obtain ⟨va, e, h1, h2⟩ := hv
      split at hx
      · rename_i hb
        simp only [Bool.and_eq_true, ile_eq, ilt_eq, decide_eq_true_eq] at hb
        split at hx
        · rename_i n hs
          obtain ⟨s1, s2⟩ := run_shape' hT hs w
          split at hx
          · rename_i hle
            obtain rfl := Option.some.inj hx
            refine ⟨.agg (va.extract (i.toNat * n) (i.toNat * n + n)), w, ρ, lam, .value (by simp [execOp, ho, Instr.index, hiv, asIntOf, run_und hT hu w, e, hb, s2, part, s1]), .quietA hF hH ⟨_, rfl, ?_, fun u hu => h2 u ?_⟩⟩
            · rw [Array.toList_extract, List.extract_eq_take_drop, Nat.add_sub_cancel_left]
              exact (h1.drop _).take n
            · rw [Array.toList_extract, List.extract_eq_take_drop] at hu
              exact List.mem_of_mem_drop (List.mem_of_mem_take hu)
          · cases hx
        · rename_i n hs
          obtain ⟨s1, s2⟩ := run_shape' hT hs w
          obtain ⟨u, hu', hv'⟩ := h1.get hx
          rw [Array.getElem?_toList] at hu'
          exact ⟨u, w, ρ, lam, .value (by simp [execOp, ho, Instr.index, hiv, asIntOf, run_und hT hu w, e, hb, s2, part, s1, hu']), .quietA hF hH hv'⟩
        · cases hx
      · cases hx
    · cases hx
  · cases h

include hF hH in
theorem sim_extract {i : Nat} {x : Operand} (ho : o.op = .extract x i) (h : oExtract fr H x i = some (r, fr', H')) : Sim P o ρ G n0 lam fr a w H r fr' H' := by
  unfold oExtract at h
  split at h
  · rename_i vs hvs
    obtain ⟨v, hx, rfl, rfl, rfl⟩ := outV_spec h
    obtain ⟨va, e, h1⟩ := eva_rel hF hvs
    obtain ⟨u, hu, hv⟩ := h1.get hx
    rw [Array.getElem?_toList] at hu
    exact ⟨u, w, ρ, lam, .value (by simp [execOp, ho, Instr.extract, e, hu]), .quietA hF hH hv⟩
  · cases h

include hT hF hH in
theorem sim_iface {t : Nat} {x : Operand} (ho : o.op = .makeInterface t x) (h : oIface T fr H t x = some (r, fr', H')) : Sim P o ρ G n0 lam fr a w H r fr' H' := by
  unfold oIface at h
  split at h
  · cases h
  · rename_i d av hne hu hav
    simp only [Option.some.injEq, Prod.mk.injEq] at h
    obtain ⟨rfl, rfl, rfl⟩ := h
    refine ⟨.iface t (a.eval x), w, ρ, lam, .value ?_, .quietA hF hH ⟨_, rfl, eva_rel hF hav⟩⟩
    simp only [execOp, ho, Instr.makeInterface, Sem.run_bind, run_und hT hu w, Result.andThen]
    cases d <;> first | rfl | exact (hne _ rfl).elim
  · cases h

include hF hH in
theorem sim_func {fn : Fn} {xs ys : Array Operand} (ho : o.op = .makeFunc fn xs ys) (h : oFunc fr H fn xs ys = some (r, fr', H')) : Sim P o ρ G n0 lam fr a w H r fr' H' := by
  unfold oFunc at h
  split at h
  · rename_i f as bs h1 h2
    simp only [Option.some.injEq, Prod.mk.injEq] at h
    obtain ⟨rfl, rfl, rfl⟩ := h
    exact ⟨_, w, ρ, lam, .value (show (execOp a.eval o).run P w = .ok (.value (.func (.func f) (xs.map a.eval) (ys.map a.eval))) w by simp [execOp, ho, Instr.makeFunc]), .quietA hF hH ⟨_, _, rfl, by simpa using evas_rel hF h1, by simpa using evas_rel hF h2⟩⟩
  · cases h
end
end Go.Vm
/-! The abstract machine's arithmetic and comparisons against the model's. -/
namespace Go.Vm
set_option linter.unusedSimpArgs false
set_option linter.unusedVariables false
set_option linter.unusedSectionVars false

theorem ofInt_toNat (k : IntKind) (x : Int) : (BitVec.ofInt k.bits x).toNat = nmod x (modOf k) := by
  have h := nmod_eq x (modOf k) (modOf_pos k)
  rw [BitVec.toNat_ofInt]
  have e : ((2 ^ k.bits : Nat) : Int) = (modOf k : Int) := by rw [modOf_nat]
  rw [e, ← h]
  simp

theorem vbits_ok {op : BinOp} {k : IntKind} {x y : Int} {v : AV} (h : vbits op k x y = some v) (P : Program) (w : World) : ∃ n, v = .int k n ∧ (Op.intBits op k x y).run P w = .ok (.int k n) w := by
  unfold vbits at h
  have hn : (BitVec.ofInt k.bits x &&& ~~~ BitVec.ofInt k.bits y).toNat = Nat.land (nmod x (modOf k)) (modOf k - 1 - nmod y (modOf k)) := by
    rw [BitVec.toNat_and, BitVec.toNat_not, ofInt_toNat, ofInt_toNat, ← modOf_nat]; rfl
  split at h <;> first
    | (obtain rfl := Option.some.inj h
       refine ⟨_, rfl, ?_⟩
       rw [fwrap_eq]
       first
         | (simp only [Op.intBits, Sem.run_pure, BitVec.toNat_and, ofInt_toNat]; rfl)
         | (simp only [Op.intBits, Sem.run_pure, BitVec.toNat_or, ofInt_toNat]; rfl)
         | (simp only [Op.intBits, Sem.run_pure, BitVec.toNat_xor, ofInt_toNat]; rfl)
         | (simp only [Op.intBits, Sem.run_pure, hn]; rfl))
    | cases h

theorem vcmp_ok {op : BinOp} {x y : Int} {v : AV} (h : vcmp op x y = some v) (P : Program) (w : World) : ∃ b, v = .bool b ∧ (Op.intCmp op x y).run P w = .ok (.bool b) w := by
  unfold vcmp at h
  split at h <;> first
    | (obtain rfl := Option.some.inj h
       refine ⟨_, rfl, ?_⟩
       first
         | (simp only [Op.intCmp, Sem.run_pure, ieq_eq]; done)
         | (simp only [Op.intCmp, Sem.run_pure, ieq_eq, bne]; done)
         | (simp only [Op.intCmp, Sem.run_pure, ilt_eq]; done)
         | (simp only [Op.intCmp, Sem.run_pure, ile_eq]; done)
         | (simp only [Op.intCmp, Sem.run_pure, ilt_eq, gt_iff_lt]; done)
         | (simp only [Op.intCmp, Sem.run_pure, ile_eq, ge_iff_le]; done))
    | cases h

theorem varith_ok {op : BinOp} {k k' : IntKind} {x y : Int} {v : AV} (h : varith op k x k' y = some v) (P : Program) (w : World) (t : TypeId) : ∃ u, (∀ ρ, VR ρ v u) ∧ (binOp op t (.int k x) (.int k' y)).run P w = .ok u w := by
  unfold varith at h
  split at h
  · split at h
    · cases h
    · rename_i hb
      obtain rfl := Option.some.inj h
      rw [ilt_eq] at hb
      have hb' : ¬ y < 0 := by simpa using hb
      exact ⟨_, fun ρ => rfl, by simp only [binOp, Op.shift, hb', if_false, fwrap_eq, ishl_eq]; rfl⟩
  · split at h
    · cases h
    · rename_i hb
      obtain rfl := Option.some.inj h
      rw [ilt_eq] at hb
      have hb' : ¬ y < 0 := by simpa using hb
      exact ⟨_, fun ρ => rfl, by simp only [binOp, Op.shift, hb', if_false, ishr_eq]; rfl⟩
  · rename_i n1 n2
    rw [kindEq_eq] at h
    split at h
    · rename_i hk
      have hk' : k = k' := by simpa using hk
      subst hk'
      split at h
      · obtain rfl := Option.some.inj h
        exact ⟨_, fun ρ => rfl, by simp only [binOp, ne_eq, not_true, if_false, Op.intArith, fwrap_eq]; rfl⟩
      · obtain rfl := Option.some.inj h
        exact ⟨_, fun ρ => rfl, by simp only [binOp, ne_eq, not_true, if_false, Op.intArith, fwrap_eq]; rfl⟩
      · obtain rfl := Option.some.inj h
        exact ⟨_, fun ρ => rfl, by simp only [binOp, ne_eq, not_true, if_false, Op.intArith, fwrap_eq]; rfl⟩
      · split at h
        · cases h
        · rename_i hb
          obtain rfl := Option.some.inj h
          rw [ieq_eq] at hb
          have hb' : ¬ y = 0 := by simpa using hb
          exact ⟨_, fun ρ => rfl, by simp only [binOp, ne_eq, not_true, if_false, Op.intDiv, hb', fwrap_eq]; rfl⟩
      · split at h
        · cases h
        · rename_i hb
          obtain rfl := Option.some.inj h
          rw [ieq_eq] at hb
          have hb' : ¬ y = 0 := by simpa using hb
          exact ⟨_, fun ρ => rfl, by simp only [binOp, ne_eq, not_true, if_false, Op.intDiv, hb']; rfl⟩
      · obtain ⟨n, rfl, e⟩ := vbits_ok h P w
        exact ⟨_, fun ρ => rfl, by simp only [binOp, ne_eq, not_true, if_false]; exact e⟩
      · obtain ⟨n, rfl, e⟩ := vbits_ok h P w
        exact ⟨_, fun ρ => rfl, by simp only [binOp, ne_eq, not_true, if_false]; exact e⟩
      · obtain ⟨n, rfl, e⟩ := vbits_ok h P w
        exact ⟨_, fun ρ => rfl, by simp only [binOp, ne_eq, not_true, if_false]; exact e⟩
      · obtain ⟨n, rfl, e⟩ := vbits_ok h P w
        exact ⟨_, fun ρ => rfl, by simp only [binOp, ne_eq, not_true, if_false]; exact e⟩
      · obtain ⟨b, rfl, e⟩ := vcmp_ok h P w
        refine ⟨_, fun ρ => rfl, ?_⟩
        cases op <;> first
          | (simp only [binOp, ne_eq, not_true, if_false]; exact e)
          | (exfalso; simp_all; done)
          | (simp only [vcmp] at h; cases h)
    · cases h

theorem strings_eq (a b : ByteArray) : (a.toList == b.toList) = (PS.of a.data.toList).eq (PS.of b.data.toList) := by
  rw [PS.eq_of, ByteArray.toList_eq, ByteArray.toList_eq]
theorem strings_lt (a b : ByteArray) : Op.bytesLess a.toList b.toList = (PS.of a.data.toList).less (PS.of b.data.toList) := by
  rw [PS.less_of, ByteArray.toList_eq, ByteArray.toList_eq]

theorem vstrOp_ok {op : BinOp} {x y : ByteArray} {v : AV} (h : vstrOp op (PS.of x.data.toList) (PS.of y.data.toList) = some v) (P : Program) (w : World) : ∃ u, (∀ ρ, VR ρ v u) ∧ (Op.stringOp op x y).run P w = .ok u w := by
  unfold vstrOp at h
  split at h
  · split at h
    · rename_i hb
      have hb' := Nat.le_of_ble_eq_true hb
      obtain rfl := Option.some.inj h
      refine ⟨.string (x ++ y), fun ρ => ⟨_, rfl, ?_⟩, ?_⟩
      · rw [PS.cat_of]; congr 1
      · have hl : (PS.of x.data.toList).len + (PS.of y.data.toList).len = x.size + y.size := rfl
        have hc : ¬ (((x.size + y.size : Nat) : Int) > IntKind.i64.max) := by
          have e : IntKind.i64.max = 9223372036854775807 := by decide
          rw [e]; omega
        simp only [Op.stringOp, hc, if_false, Sem.run_pure]
    · cases h
  all_goals first
    | (obtain rfl := Option.some.inj h; exact ⟨_, fun ρ => rfl, by simp only [Op.stringOp, Sem.run_pure, strings_eq, strings_lt]⟩)
    | cases h

section
variable {T : Tb} {P : Program} (hT : TbOk T P)
include hT

mutual
theorem veq_ok {ρ : Rho} (w : World) : ∀ (f t d : Nat) (x y : AV) (u v : Value) (b : Bool), f ≤ d → VR ρ x u → VR ρ y v → veq T f t x y = some b → (Op.equalIn d t u v).run P w = .ok b w
  | 0, _, _, _, _, _, _, _, _, _, _, h => by simp [veq] at h
  | f + 1, t, 0, _, _, _, _, _, hd, _, _, _ => by omega
  | f + 1, t, d + 1, x, y, u, v, b, hd, hx, hy, h => by
    simp only [veq] at h
    split at h
    · rename_i p q hu
      obtain rfl := Option.some.inj h
      rw [show u = _ from hx, show v = _ from hy]
      simp [Op.equalIn, run_und hT hu w]
    · rename_i kk k p k' q hu
      rw [kindEq_eq] at h
      split at h
      · rename_i hk
        have hk' : k = k' := by simpa using hk
        subst hk'
        obtain rfl := Option.some.inj h
        rw [show u = _ from hx, show v = _ from hy, ieq_eq]
        simp [Op.equalIn, run_und hT hu w]
      · cases h
    · rename_i p q hu
      obtain rfl := Option.some.inj h
      obtain ⟨b1, rfl, rfl⟩ := hx
      obtain ⟨b2, rfl, rfl⟩ := hy
      rw [← strings_eq, ← beq_toListBytes]
      simp [Op.equalIn, run_und hT hu w]
    · rename_i e q hu
      obtain rfl := Option.some.inj h
      rw [show u = _ from hx]
      cases q with
      | none => rw [show v = _ from hy]; simp [Op.equalIn, run_und hT hu w]
      | some q => obtain ⟨pl, _, rfl⟩ := hy; simp [Op.equalIn, run_und hT hu w]
    · rename_i e p hu
      obtain rfl := Option.some.inj h
      obtain ⟨pl, _, rfl⟩ := hx
      rw [show v = _ from hy]
      simp [Op.equalIn, run_und hT hu w]
    · rename_i e b1 o1 b2 o2 hu
      split at h
      · rename_i k hs
        split at h
        · rename_i hb
          have hb' := Nat.eq_of_beq_eq_true hb
          subst hb'
          obtain rfl := Option.some.inj h
          obtain ⟨pl, g1, rfl⟩ := hx
          obtain ⟨pl', g2, rfl⟩ := hy
          obtain rfl : pl' = pl := by have g1' : ρ b1 = some pl := g1; rw [show ρ b1 = some pl' from g2] at g1'; exact Option.some.inj g1'
          have hoo : ((⟨pl'.rb, pl'.base + o1, none⟩ : Addr) == ⟨pl'.rb, pl'.base + o2, none⟩) = Nat.beq o1 o2 := by
            rw [Bool.eq_iff_iff, Nat.beq_eq, beq_iff_eq]
            simp
          simp [Op.equalIn, run_und hT hu w, run_size hT hs w, sameAddr, hoo]
        · cases h
      · cases h
    · rename_i m hu
      obtain rfl := Option.some.inj h
      rw [show u = _ from hx, show v = _ from hy]
      simp [Op.equalIn, run_und hT hu w]
    · rename_i m t' z hu
      obtain rfl := Option.some.inj h
      rw [show u = _ from hx]
      obtain ⟨v', rfl, _⟩ := hy
      simp [Op.equalIn, run_und hT hu w]
    · rename_i m t' z hu
      obtain rfl := Option.some.inj h
      rw [show v = _ from hy]
      obtain ⟨v', rfl, _⟩ := hx
      simp [Op.equalIn, run_und hT hu w]
    · rename_i fields xs ys hu
      split at h
      · rename_i he
        obtain ⟨vx, rfl, hx1, hx2⟩ := hx
        obtain ⟨vy, rfl, hy1, hy2⟩ := hy
        have hf : P.fieldsOf t = fields := by simp [Program.fieldsOf, und_ok hT hu]
        rw [run_equalIn_struct w d t vx vy (by rw [hf]; exact und_ok hT hu) (hT.eq t he).1, hf]
        exact veqFields_ok w f d fields.toList xs ys vx vy b (by omega) hx1 hy1 hx2 hy2 h
      · cases h
    · rename_i e n1 c1 s1 q n2 c2 s2 hu
      obtain rfl := Option.some.inj h
      rw [show u = _ from hx.1]
      cases q with
      | none => rw [show v = _ from hy.1]; simp [Op.equalIn, run_und hT hu w]
      | some q => obtain ⟨pl, ro, rc, _, rfl, _⟩ := hy; simp [Op.equalIn, run_und hT hu w]
    · rename_i e p n1 c1 s1 n2 c2 s2 hu
      obtain rfl := Option.some.inj h
      obtain ⟨pl, ro, rc, _, rfl, _⟩ := hx
      rw [show v = _ from hy.1]
      simp [Op.equalIn, run_und hT hu w]
    · rename_i k e q hu
      obtain rfl := Option.some.inj h
      rw [show u = _ from hx]
      cases q with
      | none => rw [show v = _ from hy]; simp [Op.equalIn, run_und hT hu w]
      | some q => obtain ⟨pl, _, rfl⟩ := hy; simp [Op.equalIn, run_und hT hu w]
    · rename_i k e p hu
      obtain rfl := Option.some.inj h
      obtain ⟨pl, _, rfl⟩ := hx
      rw [show v = _ from hy]
      simp [Op.equalIn, run_und hT hu w]
    · rename_i p1 p2 p3 hu
      obtain rfl := Option.some.inj h
      rw [show u = _ from hx, show v = _ from hy]
      simp [Op.equalIn, run_und hT hu w]
    · rename_i p1 p2 p3 f1 f2 f3 hu
      obtain rfl := Option.some.inj h
      rw [show u = _ from hx]
      obtain ⟨_, _, rfl, _⟩ := hy
      simp [Op.equalIn, run_und hT hu w]
    · rename_i p1 p2 p3 f1 f2 f3 hu
      obtain rfl := Option.some.inj h
      rw [show v = _ from hy]
      obtain ⟨_, _, rfl, _⟩ := hx
      simp [Op.equalIn, run_und hT hu w]
    · cases h
theorem veqFields_ok {ρ : Rho} (w : World) : ∀ (f d : Nat) (fs : List Field) (xs ys : List AV) (vx vy : Array Value) (b : Bool), f ≤ d + 1 → VRs ρ xs vx.toList → VRs ρ ys vy.toList → (∀ u ∈ vx.toList, u.oneCell' = true) → (∀ u ∈ vy.toList, u.oneCell' = true) → veqFields T f fs xs ys = some b → (Op.eqFields d vx vy fs).run P w = .ok b w
  | 0, _, _, _, _, _, _, _, _, _, _, _, _, h => by simp [veqFields] at h
  | f + 1, d, [], xs, ys, vx, vy, b, hd, hx, hy, h1, h2, h => by
    simp only [veqFields, Option.some.injEq] at h
    subst h
    rfl
  | f + 1, d, fd :: fs, xs, ys, vx, vy, b, hd, hx, hy, h1, h2, h => by
    simp only [veqFields] at h
    split at h
    · rename_i hn
      have hn' : ¬ (fd.name ≠ "_") := by simpa using hn
      simp only [Op.eqFields, hn', if_false]
      exact veqFields_ok w f d fs xs ys vx vy b (by omega) hx hy h1 h2 h
    · rename_i hn
      have hn' : fd.name ≠ "_" := by simpa using hn
      simp only [Op.eqFields, hn', ne_eq, not_false_eq_true, if_true]
      split at h
      · rename_i n hs
        obtain ⟨s1, s2⟩ := run_shape' hT hs w
        split at h
        · have hp : ∀ (vz : Array Value), (part fd.type vz fd.offset).run P w = .ok (.agg (vz.extract fd.offset (fd.offset + n))) w := fun vz => by simp [part, s1, s2]
          have hr : ∀ (zs : List AV) (vz : Array Value), VRs ρ zs vz.toList → (∀ u ∈ vz.toList, u.oneCell' = true) → VR ρ (.agg ((zs.drop fd.offset).take n)) (.agg (vz.extract fd.offset (fd.offset + n))) := fun zs vz hz hz1 => by
            have e : (vz.extract fd.offset (fd.offset + n)).toList = (vz.toList.drop fd.offset).take n := by rw [Array.toList_extract, List.extract_eq_take_drop, Nat.add_sub_cancel_left]
            exact ⟨_, rfl, by rw [e]; exact (hz.drop _).take n, by rw [e]; exact mem_drop_take hz1⟩
          simp only [Sem.run_bind, hp, Result.andThen]
          split at h
          · rename_i he
            have hq := veq_ok w f fd.type d _ _ _ _ true (by omega) (hr xs vx hx h1) (hr ys vy hy h2) he
            rw [hq]
            simp only [Bool.not_true, Bool.false_eq_true, if_false]
            exact veqFields_ok w f d fs xs ys vx vy b (by omega) hx hy h1 h2 h
          · rename_i hne
            cases b with
            | true => exact (hne h).elim
            | false =>
              have hq := veq_ok w f fd.type d _ _ _ _ false (by omega) (hr xs vx hx h1) (hr ys vy hy h2) h
              rw [hq]
              simp
        · cases h
      · rename_i n hs
        obtain ⟨s1, s2⟩ := run_shape' hT hs w
        split at h
        · rename_i p q hp hq
          obtain ⟨u, hu, hux⟩ := hx.get hp
          obtain ⟨v, hv, hvy⟩ := hy.get hq
          rw [Array.getElem?_toList] at hu hv
          have e1 : (part fd.type vx fd.offset).run P w = .ok u w := by simp [part, s1, hu]
          have e2 : (part fd.type vy fd.offset).run P w = .ok v w := by simp [part, s1, hv]
          simp only [Sem.run_bind, e1, e2, Result.andThen]
          split at h
          · rename_i he
            have hq := veq_ok w f fd.type d _ _ _ _ true (by omega) hux hvy he
            rw [hq]
            simp only [Bool.not_true, Bool.false_eq_true, if_false]
            exact veqFields_ok w f d fs xs ys vx vy b (by omega) hx hy h1 h2 h
          · rename_i hne
            cases b with
            | true => exact (hne h).elim
            | false =>
              have hq := veq_ok w f fd.type d _ _ _ _ false (by omega) hux hvy h
              rw [hq]
              simp
        · cases h
      · cases h
end
theorem veq_agg {f t : Nat} {cs ds : List AV} {b : Bool} (h : veq T f t (.agg cs) (.agg ds) = some b) : T.eqOk t = true := by
  cases f with
  | zero => simp [veq] at h
  | succ f =>
    cases he : T.eqOk t with
    | true => rfl
    | false =>
      exfalso
      simp only [veq] at h
      cases hu : T.und t with
      | none => rw [hu] at h; cases h
      | some d => rw [hu] at h; cases d <;> first | cases h | (simp only [he] at h; cases h)
omit hT in
theorem veq_undef1 (f t : Nat) (q : AV) : veq T f t .undef q = none := by
  cases f with
  | zero => simp [veq]
  | succ f =>
    simp only [veq]
    cases T.und t with
    | none => rfl
    | some d => cases d <;> rfl
omit hT in
theorem veq_undef2 (f t : Nat) (p : AV) : veq T f t p .undef = none := by
  cases f with
  | zero => simp [veq]
  | succ f =>
    simp only [veq]
    cases T.und t with
    | none => rfl
    | some d =>
      cases p with
      | ptr a => cases a <;> cases d <;> rfl
      | slice a _ _ _ => cases a <;> cases d <;> rfl
      | map a => cases a <;> cases d <;> rfl
      | _ => cases d <;> rfl
omit hT in
theorem veq_def {f t : Nat} {p q : AV} {b : Bool} (h : veq T f t p q = some b) : p ≠ .undef ∧ q ≠ .undef := by
  refine ⟨fun e => ?_, fun e => ?_⟩
  · subst e; rw [veq_undef1] at h; cases h
  · subst e; rw [veq_undef2] at h; cases h
def Shape (p : AV) : Value → Prop
  | .int k n => p = .int k n
  | .string _ => ∃ s, p = .str s
  | .float .. => False
  | .complex .. => False
  | .nilIface => p = .nilIface
  | .agg _ => ∃ cs, p = .agg cs
  | _ => True
omit hT in
theorem VR.shape {ρ : Rho} {p : AV} {v : Value} (h : VR ρ p v) (hd : p ≠ .undef) : Shape p v := by
  cases p with
  | undef => exact (hd rfl).elim
  | bool b => obtain rfl : v = _ := h; trivial
  | int k n => obtain rfl : v = _ := h; exact rfl
  | str s => obtain ⟨_, rfl, _⟩ := h; exact ⟨s, rfl⟩
  | ptr a => cases a with
    | none => obtain rfl : v = _ := h; trivial
    | some a => obtain ⟨_, _, rfl⟩ := h; trivial
  | slice a n c s => cases a with
    | none => obtain ⟨rfl, _⟩ := h; trivial
    | some a => obtain ⟨_, _, _, _, rfl, _⟩ := h; trivial
  | map a => cases a with
    | none => obtain rfl : v = _ := h; trivial
    | some a => obtain ⟨_, _, rfl⟩ := h; trivial
  | func f a c => obtain ⟨_, _, rfl, _⟩ := h; trivial
  | nilFunc => obtain rfl : v = _ := h; trivial
  | iface t x => obtain ⟨_, rfl, _⟩ := h; trivial
  | nilIface => obtain rfl : v = _ := h; exact rfl
  | agg cs => obtain ⟨_, rfl, _⟩ := h; exact ⟨cs, rfl⟩
  | tuple cs => obtain ⟨_, rfl, _⟩ := h; trivial
theorem run_guard {x y : Operand} {op : BinOp} {t f : Nat} {p q : AV} {u v : Value} {b : Bool} {ρ : Rho} (hp : VR ρ p u) (hq : VR ρ q v) (hn : nilOk x y p q = true) (he : veq T f t p q = some b) (w : World) : (eqGuard op t x y u v).run P w = .ok () w := by
  obtain ⟨d1, d2⟩ := veq_def he
  by_cases hnn : u = .nilIface ∧ v = .nilIface
  · obtain ⟨rfl, rfl⟩ := hnn
    obtain rfl : p = .nilIface := hp.shape d1
    obtain rfl : q = .nilIface := hq.shape d2
    have hc : ((match x with | .const _ => true | _ => false) || (match y with | .const _ => true | _ => false)) = true := by
      cases x <;> cases y <;> first | rfl | simp [nilOk] at hn
    cases op <;> simp [eqGuard, hc] <;> (cases x <;> cases y <;> simp at hc ⊢)
  · by_cases haa : ∃ a c, u = .agg a ∧ v = .agg c
    · obtain ⟨a, c, rfl, rfl⟩ := haa
      obtain ⟨cs, rfl⟩ : ∃ cs, p = .agg cs := hp.shape d1
      obtain ⟨ds, rfl⟩ : ∃ cs, q = .agg cs := hq.shape d2
      exact run_eqGuard_agg w op t x y a c (hT.eq t (veq_agg hT he)).2
    · cases u <;> cases v <;> first
        | (exact (hnn ⟨rfl, rfl⟩).elim)
        | (exact (haa ⟨_, _, rfl, rfl⟩).elim)
        | (cases op <;> simp [eqGuard])
end

section
variable {ρ : Rho} {G : Nat → Prop} {n0 : Nat} {lam : Nat → Option Nat} {fr : Fr} {a : Act} {w : World}
variable {T : Tb} {P : Program} (hT : TbOk T P) {H : VH} (hF : RelF ρ G n0 lam fr a.tmps w) (hH : RelH ρ G H w) {o : Oper} {promo : Nat → Bool} {r : RV} {fr' : Fr} {H' : VH}

include hT hF hH in
theorem sim_bin {op : BinOp} {t t' : Nat} {x y : Operand} (ho : o.op = .binOp op t x y t') (h : oBin T fr H op t x y = some (r, fr', H')) : Sim P o ρ G n0 lam fr a w H r fr' H' := by
  unfold oBin at h
  split at h
  · rename_i p q hp hq
    split at h
    · rename_i hnil
      obtain ⟨v, hx, rfl, rfl, rfl⟩ := outV_spec h
      clear h
      have hpv := eva_rel hF hp
      have hqv := eva_rel hF hq
      have done : ∀ u, VR ρ v u → (eqGuard op t x y (a.eval x) (a.eval y)).run P w = .ok () w → (binOp op t (a.eval x) (a.eval y)).run P w = .ok u w → Sim P o ρ G n0 lam fr' a w H' (.v v) fr' H' := fun u h1 h2 h3 =>
        ⟨u, w, ρ, lam, .value (by simp [execOp, ho, h2, h3]), .quietA hF hH h1⟩
      unfold vbinOp at hx
      split at hx
      · rename_i k m k' n
        obtain ⟨u, h1, h2⟩ := varith_ok hx P w t
        have e1 : a.eval x = .int k m := hpv
        have e2 : a.eval y = .int k' n := hqv
        exact done u (h1 ρ) (by rw [e1, e2]; cases op <;> simp [eqGuard]) (by rw [e1, e2]; exact h2)
      · rename_i s1 s2
        obtain ⟨b1, e1, rfl⟩ := hpv
        obtain ⟨b2, e2, rfl⟩ := hqv
        obtain ⟨u, h1, h2⟩ := vstrOp_ok hx P w
        exact done u (h1 ρ) (by rw [e1, e2]; cases op <;> simp [eqGuard]) (by rw [e1, e2]; cases op <;> exact h2)
      · rename_i n1 n2
        have go : ∀ b, veq T 60 t p q = some b → (Op.equal t (a.eval x) (a.eval y)).run P w = .ok b w := fun b he => veq_ok hT w 60 t Op.maxDepth p q _ _ b (by decide) hpv hqv he
        have eql : ∀ b, veq T 60 t p q = some b → (binOp .eql t (a.eval x) (a.eval y)).run P w = .ok (.bool b) w ∧ (binOp .neq t (a.eval x) (a.eval y)).run P w = .ok (.bool !b) w := by
          intro b he
          have hg := go b he
          obtain ⟨d1, d2⟩ := veq_def he
          have s1 := hpv.shape d1
          have s2 := hqv.shape d2
          generalize a.eval x = u at *
          generalize a.eval y = v at *
          cases u <;> cases v <;> first
            | (exact s1.elim)
            | (exact s2.elim)
            | (exact (n1 _ _ _ _ s1 s2).elim)
            | (obtain ⟨z1, s1⟩ := s1; obtain ⟨z2, s2⟩ := s2; exact (n2 _ _ s1 s2).elim)
            | (simp only [binOp, Sem.run_bind, hg, Result.andThen, Sem.run_pure, and_self]; done)
        split at hx
        · simp only [Option.map_eq_some_iff] at hx
          obtain ⟨b, he, rfl⟩ := hx
          exact done (.bool b) rfl (run_guard hT hpv hqv hnil he w) (eql b he).1
        · simp only [Option.map_eq_some_iff] at hx
          obtain ⟨b, he, rfl⟩ := hx
          exact done (.bool !b) rfl (run_guard hT hpv hqv hnil he w) (eql b he).2
        · cases hx
    · cases h
  · cases h

include hF hH in
theorem sim_un {op : UnOp} {t : Nat} {x : Operand} (ho : o.op = .unOp op t x) (h : oUn fr H op x = some (r, fr', H')) : Sim P o ρ G n0 lam fr a w H r fr' H' := by
  unfold oUn at h
  split at h
  · rename_i p hp
    obtain ⟨v, hx, rfl, rfl, rfl⟩ := outV_spec h
    clear h
    have hpv := eva_rel hF hp
    have done : ∀ u, VR ρ v u → (Op.unary op (a.eval x)).run P w = .ok u w → Sim P o ρ G n0 lam fr' a w H' (.v v) fr' H' := fun u h1 h2 =>
      ⟨u, w, ρ, lam, .value (by simp [execOp, ho, h2]), .quietA hF hH h1⟩
    unfold vunOp at hx
    split at hx
    · rename_i k n
      obtain rfl := Option.some.inj hx
      have e1 : a.eval x = .int k n := hpv
      exact done _ rfl (by rw [e1]; simp [Op.unary, Op.intArith, fwrap_eq])
    · rename_i k n
      obtain ⟨m, rfl, e⟩ := vbits_ok hx P w
      have e1 : a.eval x = .int k n := hpv
      exact done _ rfl (by rw [e1]; simp only [Op.unary]; exact e)
    · rename_i b
      obtain rfl := Option.some.inj hx
      have e1 : a.eval x = .bool b := hpv
      exact done _ rfl (by rw [e1]; simp [Op.unary])
    · cases hx
  · cases h
end
end Go.Vm
/-! The abstract machine's appends, copies, conversions against the model's. -/
namespace Go.Vm
set_option linter.unusedSimpArgs false
set_option linter.unusedVariables false
set_option linter.unusedSectionVars false
section
variable {ρ : Rho} {G : Nat → Prop} {n0 : Nat} {lam : Nat → Option Nat} {fr : Fr} {a : Act} {w : World}
variable {T : Tb} {P : Program} (hT : TbOk T P) {H : VH} (hF : RelF ρ G n0 lam fr a.tmps w) (hH : RelH ρ G H w) {o : Oper} {promo : Nat → Bool} {r : RV} {fr' : Fr} {H' : VH}

theorem lenOf_ok {x : AV} {v : Value} {n : Nat} (hv : VR ρ x v) (h : vlenOf x = some n) (w : World) : (Builtin.lenOf v).run P w = .ok n w := by
  unfold vlenOf at h
  split at h
  · obtain rfl := Option.some.inj h
    obtain ⟨b, rfl, rfl⟩ := hv
    rfl
  · rename_i ad m c e
    obtain rfl := Option.some.inj h
    cases ad with
    | none => obtain ⟨rfl, rfl, _⟩ := hv; rfl
    | some ad => obtain ⟨_, _, _, _, rfl, _⟩ := hv; rfl
  · cases h

theorem bytes_rel (l : List UInt8) : ∀ (ρ : Rho), VRs ρ (l.map fun b => AV.int .u8 b.toNat) (l.map fun b => Value.int .u8 b.toNat) := fun ρ => by
  induction l with
  | nil => rfl
  | cons b l ih => exact ⟨_, _, rfl, rfl, ih⟩

include hH in
theorem source_ok {x : AV} {v : Value} {sz n m : Nat} {new : List AV} (hv : VR ρ x v) (hm : vlenOf x = some m) (hnm : n ≤ m) (h : vsource H sz n x = some new) :
    ∃ us : List Value, VRs ρ new us ∧ us.length = n * sz ∧ (∀ u ∈ us, u.oneCell' = true) ∧ ∀ w' : World, w'.heap = w.heap → (Builtin.firstCells sz n v).run P w' = .ok us.toArray w' := by
  unfold vsource at h
  split at h
  · rename_i s
    split at h
    · obtain rfl := Option.some.inj h
      obtain ⟨b, rfl, rfl⟩ := hv
      simp only [vlenOf, Option.some.injEq] at hm
      have hbl : n ≤ b.data.toList.length := by rw [← hm] at hnm; exact hnm
      refine ⟨(b.data.toList.take n).map fun c => Value.int .u8 c.toNat, ?_, by rw [List.length_map, List.length_take]; omega, fun u hu => ?_, fun w' _ => ?_⟩
      · rw [PS.bytes_of, ← List.map_take, List.map_map]
        exact bytes_rel _ ρ
      · obtain ⟨c, _, rfl⟩ := List.mem_map.1 hu
        rfl
      · simp only [Builtin.firstCells, Sem.run_pure]
        congr 1
        apply Array.ext'
        simp [ByteArray.data_extract]
    · cases h
  · obtain rfl := Option.some.inj h
    obtain ⟨rfl, h1, _⟩ := hv
    simp only [vlenOf, Option.some.injEq] at hm
    have : n = 0 := by omega
    subst this
    exact ⟨[], rfl, by simp, by simp, fun w' _ => rfl⟩
  · rename_i b off len cap e
    obtain ⟨pl, ro, rc, h1, rfl, h3, h4, h5, h6⟩ := hv
    simp only [vlenOf, Option.some.injEq] at hm
    by_cases h0 : n = 0
    · subst h0
      rw [Nat.zero_mul] at h
      simp only [VH.cells, Option.some.injEq] at h
      subst h
      exact ⟨[], rfl, by simp, by simp, fun w' _ => by simp [Builtin.firstCells, loadCells, loadCellsFrom]⟩
    · obtain rfl : ro = pl.base + off := h5 (by omega)
      obtain ⟨us, g1, g2, g3, g4⟩ := cells_read hH h1 h
      refine ⟨us, g2, g1, g3, fun w' hw' => ?_⟩
      have := run_loadCells_list (P := P) w' ⟨pl.rb, pl.base + off, none⟩ us fun j u e => by
        rw [addr_add, World.cell?, hw', ← World.cell?]
        exact g4 j u e
      rw [g1] at this
      simpa [Builtin.firstCells] using this
  · cases h
theorem zeroCells_one (z : Array Value) (h : ∀ u ∈ z.toList, u.oneCell' = true) (n : Nat) : (Builtin.zeroCells z n).size = n * z.size := by simp [Builtin.zeroCells]

/-- The model's append, its second argument no number. -/
theorem run_append (st xt ty elem : Nat) (base : Option Addr) (sLen sCap n : Nat) (vx : Value) (i : TypeInfo) (zv : Value) (us : List Value)
    (hst : P.underlying st = some (.slice elem)) (hxt : (∃ e, P.underlying xt = some (.slice e)) ∨ P.underlying xt = some .string) (hi : P.info? elem = some i) (hz : i.zero = some zv)
    (hl : ∀ w : World, (Builtin.lenOf vx).run P w = .ok n w) (hx : ∀ w' : World, w'.heap = w.heap → (Builtin.firstCells i.size n vx).run P w' = .ok us.toArray w') :
    (sLen + n ≤ sCap → ∀ w1, (match base with | some a => storeCells (a.add (sLen * i.size)) us | none => pure ()).run P w = .ok () w1 → (Builtin.append_ #[st, xt] ty #[.slice base sLen sCap, vx]).run P w = .ok (.slice base (sLen + n) sCap) w1) ∧
    (sCap < sLen + n → sLen + n ≤ 9223372036854775807 → (sLen + n) * i.bytes ≤ 140737488355328 → ∀ olds : List Value, (∀ w' : World, w'.heap = w.heap → (Builtin.firstCells i.size sLen (.slice base sLen sCap)).run P w' = .ok olds.toArray w') →
      (Builtin.append_ #[st, xt] ty #[.slice base sLen sCap, vx]).run P w = .ok (.slice (some ⟨w.heap.size, 0, none⟩) (sLen + n) (grownCap w (sLen + n) sCap elem))
        (w.drew.alloc (.cells (olds.toArray ++ us.toArray ++ Builtin.zeroCells zv.cells (grownCap w (sLen + n) sCap elem - (sLen + n))) elem))) := by
  refine ⟨fun hle w1 hst1 => ?_, fun hgt h63 hb olds hold => ?_⟩
  · have hxw := hx w rfl
    have hlw := hl w
    cases base with
    | none =>
      have e1 : w1 = w := by
        simp only [Sem.run_pure, Result.ok.injEq, true_and] at hst1
        exact hst1.symm
      subst e1
      rcases hxt with ⟨e, hd⟩ | hd <;> simp [Builtin.append_, run_underlying hst, run_underlying hd, sizeOf, typeInfo, hi, hlw, hle, hxw]
    | some ad =>
      simp only at hst1
      rcases hxt with ⟨e, hd⟩ | hd <;> simp [Builtin.append_, run_underlying hst, run_underlying hd, sizeOf, typeInfo, hi, hlw, hle, hxw, hst1]
  · have hn : ¬ (sLen + n ≤ sCap) := by omega
    have h63' : ¬ (9223372036854775807 < ((sLen : Int) + (n : Int))) := by omega
    have h48 := growslice_fits (need := sLen + n) (old := sCap) (bytes := i.bytes) (by omega) hb
    have h48' : ¬ (281474976710656 < Builtin.nextslicecap (sLen + n) sCap * i.bytes) := by omega
    have ho := hold w.drew rfl
    have hxd := hx w.drew rfl
    have hlw := hl w
    rcases hxt with ⟨e, hd⟩ | hd <;> simp [Builtin.append_, run_underlying hst, run_underlying hd, sizeOf, typeInfo, zeroValue, hi, hz, hlw, hn, h63', h48', Question.forced, ho, hxd, newRow, grownCap] <;> (congr 2; apply Array.ext'; simp)

theorem first_zero {x : AV} {v : Value} {m sz : Nat} (hv : VR ρ x v) (hm : vlenOf x = some m) (w : World) : (Builtin.firstCells sz 0 v).run P w = .ok #[] w := by
  unfold vlenOf at hm
  split at hm
  · obtain ⟨b, rfl, _⟩ := hv
    simp only [Builtin.firstCells, Sem.run_pure]
    congr 1
    apply Array.ext'
    simp [ByteArray.data_extract]
  · rename_i ad n c e
    cases ad with
    | none => obtain ⟨rfl, _⟩ := hv; rfl
    | some ad => obtain ⟨_, _, _, _, rfl, _⟩ := hv; simp [Builtin.firstCells, loadCells, loadCellsFrom]
  · cases hm
theorem old_cells (hH : RelH ρ G H w) {b : Bk} {off len sz : Nat} {pl : Pl} {olds : List AV} {rc : Nat} (hb : At ρ b pl) (h : H.cells b off (len * sz) = some olds) :
    ∃ us : List Value, VRs ρ olds us ∧ us.length = len * sz ∧ (∀ u ∈ us, u.oneCell' = true) ∧ (∀ j u, us[j]? = some u → w.cell? ⟨pl.rb, pl.base + off + j, none⟩ = some u) ∧ ∀ w' : World, w'.heap = w.heap → (Builtin.firstCells sz len (.slice (some ⟨pl.rb, pl.base + off, none⟩) len rc)).run P w' = .ok us.toArray w' := by
  obtain ⟨us, g1, g2, g3, g4⟩ := cells_read hH hb h
  refine ⟨us, g2, g1, g3, g4, fun w' hw' => ?_⟩
  have := run_loadCells_list (P := P) w' ⟨pl.rb, pl.base + off, none⟩ us fun j u e => by
    rw [addr_add, World.cell?, hw', ← World.cell?]
    exact g4 j u e
  rw [g1] at this
  simpa [Builtin.firstCells] using this
theorem zeros_one {i : TypeInfo} {zv : Value} {z : AV} (hz : ofValue zv = some z) (n : Nat) : ∀ u ∈ (Builtin.zeroCells zv.cells n).toList, u.oneCell' = true := by
  intro u hu
  obtain ⟨_, h2⟩ := ofValue_cells (ρ := ⟨fun _ => none, fun _ => False, fun _ => none⟩) hz
  simp only [Builtin.zeroCells, Array.toList_map, List.mem_map, Array.toList_range, List.mem_range] at hu
  obtain ⟨k, hk, rfl⟩ := hu
  have hp : 0 < zv.cells.size := by
    rcases Nat.eq_zero_or_pos zv.cells.size with h0 | h0
    · rw [h0, Nat.mul_zero] at hk; omega
    · exact h0
  have hlt : k % zv.cells.size < zv.cells.size := Nat.mod_lt _ hp
  rw [getElem!_pos zv.cells _ hlt]
  exact h2 _ (by simp)
theorem listy_ok {t : Nat} (h : listy T t = true) : (∃ e, T.und t = some (.slice e)) ∨ T.und t = some .string := by
  unfold listy at h
  split at h
  · rename_i e he; exact .inl ⟨e, he⟩
  · rename_i he; exact .inr he
  · cases h

theorem growE_spec {o : Nat} {k : Option Nat} {e x : Nat} (h : growE o k e = some x) : o = 0 ∧ k = some x ∧ x = e := by
  unfold growE at h
  split at h
  · rename_i e'
    split at h
    · rename_i he
      have he' := Nat.eq_of_beq_eq_true he
      obtain rfl := Option.some.inj h
      exact ⟨rfl, by rw [he'], rfl⟩
    · cases h
  · cases h
theorem drew_alloc_heap (w : World) (x : Obj) : (w.drew.alloc x).heap = (w.alloc x).heap := rfl
theorem post_of {ρ' : Rho} {B : Nat → Prop} {w' w'' : World} (h : Post ρ ρ' B w w') (e1 : w''.heap = w'.heap) (e2 : w''.os = w'.os) (e3 : w''.tape = w'.tape) (e4 : w''.output = w'.output) : Post ρ ρ' B w w'' where
  le := h.le
  os := e2.trans h.os
  tape := e3.trans h.tape
  output := e4.trans h.output
  size := by rw [e1]; exact h.size
  frame := by rw [e1]; exact h.frame
  fresh := h.fresh
  qs := h.qs

theorem cells_get {b : Nat} {r : Row} (hr : H.row? b = some r) : ∀ {n off : Nat} {cs : List AV}, H.cells b off n = some cs → ∀ j, j < n → cs[j]? = r.t.get (off + j)
  | 0, _, _, _, _, hj => absurd hj (Nat.not_lt_zero _)
  | n + 1, off, cs, h, j, hj => by
    simp only [VH.cells] at h
    split at h
    · rename_i v vs h1 h2
      obtain rfl := Option.some.inj h
      cases j with
      | zero =>
        change H.cellN b off = some v at h1
        unfold VH.cellN at h1
        rw [hr] at h1
        simp only at h1
        split at h1
        · split at h1
          · rw [Nat.add_zero, h1]; rfl
          · cases h1
        · cases h1
      | succ j =>
        have := cells_get hr h2 j (by omega)
        rw [show off + (j + 1) = off + 1 + j by omega, ← this]
        rfl
    · cases h

include hT hH in
theorem sim_append {st xt : Nat} {p q v : AV} {up uq : Value} {ty : Nat} (hp : VR ρ p up) (hq : VR ρ q uq) (h : vappend T H [st, xt] p q = some (v, H')) :
    ∃ u w' ρ', (Builtin.append_ #[st, xt] ty #[up, uq]).run P w = .ok u w' ∧ Post ρ ρ' (fun _ => False) w w' ∧ RelH ρ' G H' w' ∧ VR ρ' v u ∧ Hs H H' := by
  simp only [vappend] at h
  split at h
  · rename_i elem hu hli
    split at h
    · rename_i i len n hi hlen hn
      have hst := und_ok hT hu
      have hxt : (∃ e, P.underlying xt = some (.slice e)) ∨ P.underlying xt = some .string := by
        rcases listy_ok hli with ⟨e, he⟩ | he
        · exact .inl ⟨e, und_ok hT he⟩
        · exact .inr (und_ok hT he)
      have hinf := hT.ty _ _ hi
      split at h
      · rename_i hn0
        have hn0' : n = 0 := by simpa using hn0
        subst hn0'
        split at h
        · rename_i ad m c e
          simp only [Option.some.injEq, Prod.mk.injEq] at h
          obtain ⟨rfl, rfl⟩ := h
          obtain ⟨zv0, hzv0⟩ : ∃ d : Option Addr, ∃ m' rc, up = .slice d m' rc ∧ m' ≤ rc ∧ (d = none → m' = 0) := by
            cases ad with
            | none => obtain ⟨rfl, _⟩ := hp; exact ⟨none, 0, 0, rfl, Nat.le_refl _, fun _ => rfl⟩
            | some ad => obtain ⟨_, _, rc, _, rfl, hle, _⟩ := hp; exact ⟨_, _, rc, rfl, hle, fun e => by cases e⟩
          obtain ⟨m', rc, rfl, hle, _⟩ := hzv0
          refine ⟨.slice zv0 m' rc, w, ρ, ?_, .refl _ _ _, hH, hp, .refl _⟩
          have hf := fun w' : World => first_zero (P := P) (sz := i.size) hq hn w'
          have hlo := lenOf_ok (P := P) hq hn w
          cases zv0 with
          | none => rcases hxt with ⟨e, hd⟩ | hd <;> simp [Builtin.append_, run_underlying hst, run_underlying hd, sizeOf, typeInfo, hinf, hlo, hle, hf]
          | some ad => rcases hxt with ⟨e, hd⟩ | hd <;> simp [Builtin.append_, run_underlying hst, run_underlying hd, sizeOf, typeInfo, hinf, hlo, hle, hf, storeCells]
        · cases h
      · rename_i hn0
        have hn0' : n ≠ 0 := by simpa using hn0
        split at h
        · rename_i hc
          simp only [Bool.and_eq_true, Nat.blt_eq] at hc
          obtain ⟨⟨⟨c1, c2⟩, c3⟩, c4⟩ := hc
          have c2' := Nat.le_of_ble_eq_true c2
          have c3' := Nat.le_of_ble_eq_true c3
          obtain ⟨z, hz, hzl⟩ : ∃ z, zeroOf T elem = some z ∧ z.cells.length = i.size := by
            unfold zeroFits at c4
            cases hz : zeroOf T elem with
            | none => rw [hz] at c4; cases c4
            | some z => rw [hz] at c4; exact ⟨z, rfl, by simpa using c4⟩
          obtain ⟨zv, hzv⟩ : ∃ zv, i.zero = some zv := by
            unfold zeroOf at hz
            rw [hi] at hz
            simp only at hz
            cases hq : i.zero with
            | none => rw [hq] at hz; cases hz
            | some zv => exact ⟨zv, rfl⟩
          split at h
          · rename_i new hnew
            split at h
            · rename_i hone
              obtain ⟨us, g1, g2, g3, g4⟩ := source_ok (P := P) hH hq hn (Nat.le_refl n) hnew
              have hlo := fun w' => lenOf_ok (P := P) hq hn w'
              have ha := fun base sLen sCap => run_append (P := P) (w := w) (ty := ty) st xt elem base sLen sCap n uq i zv us hst hxt hinf hzv hlo g4
              have hzr : ofValue zv = some z := by
                unfold zeroOf at hz
                rw [hi] at hz
                simp only [hzv, Option.bind_some] at hz
                exact hz
              have hlenv := lenOf_ok (P := P) hp hlen w
              have hzs : zv.cells.size = i.size := by
                have := (ofValue_cells (ρ := ρ) hzr).1.length
                rw [Array.length_toList, hzl] at this
                exact this
              have bound : ∀ (olds : List Value) (sLen sCap : Nat), olds.length = sLen * i.size → (grownCap w (sLen + n) sCap elem) * i.size ≤ (olds.toArray ++ us.toArray ++ Builtin.zeroCells zv.cells (grownCap w (sLen + n) sCap elem - (sLen + n))).size := by
                intro olds sLen sCap ho
                have hge := grownCap_ge w (sLen + n) sCap elem
                simp only [Array.size_append, List.size_toArray, size_zeroCells, ho, g2, hzs]
                rw [← Nat.add_mul, ← Nat.add_mul, Nat.add_sub_cancel' hge]
                exact Nat.le_refl _
              unfold appendTo at h
              split at h
              · rename_i m0 c0 e0
                simp only [Option.some.injEq, Prod.mk.injEq] at h
                obtain ⟨rfl, rfl⟩ := h
                obtain ⟨rfl, rfl, _⟩ := hp
                have hl0 : len = 0 := by simp only [vlenOf, Option.some.injEq] at hlen; exact hlen.symm
                subst hl0
                have hr := (ha none 0 0).2 (by omega) (by omega) c2' [] (fun w' _ => rfl)
                have hm := freshT_sim (hH.of_heap (w' := w.drew) rfl) new (([] : List Value).toArray ++ us.toArray ++ Builtin.zeroCells zv.cells (grownCap w (0 + n) 0 elem - (0 + n))) elem (0, 0) (fun i _ => by simp) us (Builtin.zeroCells zv.cells (grownCap w (0 + n) 0 elem - (0 + n))).toList (by simp) g1 g3
                have hbd := bound [] 0 0 (by simp)
                refine ⟨_, _, _, hr, post_of (post_alloc hH (.cells _ elem) H.next _ (Nat.le_refl _)) rfl rfl rfl rfl, hm, ⟨_, 0, grownCap w (0 + n) 0 elem, Rho.set_same _ _ _, ?_, ?_, ?_, fun _ => rfl, ?_⟩, .freshT _ _ _⟩
                · rw [Nat.zero_add]
                · have := grownCap_ge w (0 + n) 0 elem; omega
                · intro c' e; cases e
                · rw [Nat.zero_add]; exact hbd
              · rename_i b off len' c e
                have hl0 : len = len' := by simp only [vlenOf, Option.some.injEq] at hlen; exact hlen.symm
                subst hl0
                obtain ⟨pl, ro, rc, k1, rfl, k3, k4, k5, k6⟩ := hp
                have hrc : rc = c := k4 c rfl
                subst hrc
                split at h
                · cases h
                · rename_i hesz
                  have hesz' : e = i.size := by simpa using hesz
                  subst hesz'
                  split at h
                  · rename_i hle
                    have hle' := Nat.le_of_ble_eq_true hle
                    split at h
                    · rename_i H1 hputs
                      simp only [Option.some.injEq, Prod.mk.injEq] at h
                      obtain ⟨rfl, rfl⟩ := h
                      obtain rfl : ro = pl.base + off := k5 (by omega)
                      obtain ⟨m1, m2⟩ := run_puts (P := P) hH k1 g1 hputs
                      have hr := (ha (some ⟨pl.rb, pl.base + off, none⟩) len rc).1 hle' _ (by simpa [addr_add, Nat.add_assoc] using m1)
                      refine ⟨_, _, ρ, hr, post_puts hH k1 g1 hputs, m2, ⟨pl, _, rc, k1, rfl, hle', fun c' e => (Option.some.inj e), fun _ => rfl, k6⟩, .puts hputs⟩
                    · cases h
                  · rename_i hle
                    have hle' : rc < len + n := by
                      rcases Nat.lt_or_ge rc (len + n) with h1 | h1
                      · exact h1
                      · exact absurd (Nat.ble_eq_true_of_le h1) hle
                    split at h
                    · rename_i old hold
                      simp only [Option.some.injEq, Prod.mk.injEq] at h
                      obtain ⟨rfl, rfl⟩ := h
                      obtain ⟨uo, q1, q2, q3, q4⟩ : ∃ uo : List Value, VRs ρ old uo ∧ uo.length = len * i.size ∧ (∀ u ∈ uo, u.oneCell' = true) ∧ ∀ w' : World, w'.heap = w.heap → (Builtin.firstCells i.size len (.slice (some ⟨pl.rb, ro, none⟩) len rc)).run P w' = .ok uo.toArray w' := by
                        by_cases h0 : len = 0
                        · subst h0
                          rw [Nat.zero_mul] at hold
                          simp only [VH.cells, Option.some.injEq] at hold
                          subst hold
                          exact ⟨[], rfl, by simp, by simp, fun w' _ => by simp [Builtin.firstCells, loadCells, loadCellsFrom]⟩
                        · obtain rfl : ro = pl.base + off := k5 (by omega)
                          obtain ⟨uo, q1, q2, q3, q4, q5⟩ := old_cells (P := P) (rc := rc) hH k1 hold
                          exact ⟨uo, q1, q2, q3, q5⟩
                      have hr := (ha (some ⟨pl.rb, ro, none⟩) len rc).2 hle' c3' c2' uo q4
                      have hm := freshT_sim (hH.of_heap (w' := w.drew) rfl) (old ++ new) (uo.toArray ++ us.toArray ++ Builtin.zeroCells zv.cells (grownCap w (len + n) rc elem - (len + n))) elem (0, 0) (fun i _ => by simp) (uo ++ us) (Builtin.zeroCells zv.cells (grownCap w (len + n) rc elem - (len + n))).toList (by simp) (q1.append g1) (fun u hu => (List.mem_append.1 hu).elim (q3 u) (g3 u))
                      have hbd := bound uo len rc q2
                      refine ⟨_, _, _, hr, post_of (post_alloc hH (.cells _ elem) H.next _ (Nat.le_refl _)) rfl rfl rfl rfl, hm, ⟨_, 0, grownCap w (len + n) rc elem, Rho.set_same _ _ _, rfl, grownCap_ge _ _ _ _, fun c' e => (by cases e), fun _ => rfl, ?_⟩, .freshT _ _ _⟩
                      rw [Nat.zero_add]; exact hbd
                    · cases h
              · rename_i b off len' e
                have hl0 : len = len' := by simp only [vlenOf, Option.some.injEq] at hlen; exact hlen.symm
                subst hl0
                obtain ⟨pl, ro, rc, k1, rfl, k3, k4, k5, k6⟩ := hp
                split at h
                · cases h
                · rename_i hesz
                  have hesz' : e = i.size := by simpa using hesz
                  subst hesz'
                  split at h
                  · rename_i rr hrr
                    split at h
                    · rename_i hcc
                      simp only [Bool.and_eq_true] at hcc
                      have hle' := Nat.le_of_ble_eq_true hcc.2
                      split at h
                      · rename_i t0 ht0
                        simp only [Option.some.injEq, Prod.mk.injEq] at h
                        obtain ⟨rfl, rfl⟩ := h
                        have htt : ∀ j, j < len * i.size → t0.get j = rr.t.get (off + j) := by
                          intro j hj
                          cases off with
                          | zero =>
                            obtain rfl := Option.some.inj ht0
                            rw [Nat.zero_add]
                          | succ off' =>
                            simp only [Option.map_eq_some_iff] at ht0
                            obtain ⟨cs, hcs, rfl⟩ := ht0
                            rw [Tr.get_ofList]
                            exact cells_get hrr hcs j hj
                        by_cases hfit : len + n ≤ rc
                        · obtain rfl : ro = pl.base + off := k5 (by omega)
                          have hsz : pl.base + off + len * i.size + n * i.size ≤ pl.size := by
                            have h1 : (len + n) * i.size ≤ rc * i.size := Nat.mul_le_mul_right _ hfit
                            rw [Nat.add_mul] at h1
                            omega
                          have hpl := place_sim hH k1 hrr hcc.1.1 (Nat.beq (off + len * i.size) rr.n) (len * i.size) (n * i.size) t0 new us g1 g3 g2.symm (fun hb => by simpa using hb) hle' hsz htt hcc.1.2 (growE off rr.ety elem) (fun e he => ⟨(growE_spec he).1, (growE_spec he).2.1⟩)
                          have hst : (storeCells ((⟨pl.rb, pl.base + off, none⟩ : Addr).add (len * i.size)) us).run P w = .ok () (storesW w pl.rb (pl.base + off + len * i.size) us) := by
                            rw [addr_add]
                            obtain ⟨cc, et, fz, w1, w2, w3, w4, w5⟩ := hH.row b pl rr k1 hrr
                            exact run_storeCells pl.rb _ us 0 w (fun j hj => ⟨cc[pl.base + off + len * i.size + 0 + j]'(by omega), by simp [World.cell?, w1]⟩) (fun j hj => by
                              have := (w4 hcc.1.1).1 (pl.base + off + len * i.size + 0 + j) (by omega)
                              simp only [World.frozen?, w1, Bool.and_eq_false_iff, decide_eq_false_iff_not]
                              omega) g3
                          have hr := (ha (some ⟨pl.rb, pl.base + off, none⟩) len rc).1 hfit _ (by simpa using hst)
                          exact ⟨_, _, _, hr, post_place hH k1 (live_quiet hH k1 hrr hcc.1.1) _ _ _, hpl, ⟨_, _, rc, Rho.set_same _ _ _, rfl, hfit, fun c' e => (by cases e), fun _ => rfl, k6⟩, .grow _ _ _ _ hrr hcc.1.1⟩
                        · have hgt : rc < len + n := by omega
                          obtain ⟨uo, q2, q4, q5⟩ : ∃ uo : List Value, uo.length = len * i.size ∧ (∀ j u, uo[j]? = some u → w.cell? ⟨pl.rb, pl.base + off + j, none⟩ = some u) ∧ ∀ w' : World, w'.heap = w.heap → (Builtin.firstCells i.size len (.slice (some ⟨pl.rb, ro, none⟩) len rc)).run P w' = .ok uo.toArray w' := by
                            by_cases h0 : len = 0
                            · subst h0
                              exact ⟨[], by simp, fun j u e => by simp at e, fun w' _ => by simp [Builtin.firstCells, loadCells, loadCellsFrom]⟩
                            · obtain rfl : ro = pl.base + off := k5 (by omega)
                              obtain ⟨cc, et, fz, w1, w2, w3, w4, w5⟩ := hH.row b pl rr k1 hrr
                              have hcl : (cc.toList.drop (pl.base + off)).length ≥ len * i.size := by rw [List.length_drop, Array.length_toList]; omega
                              have hget : ∀ j u, ((cc.toList.drop (pl.base + off)).take (len * i.size))[j]? = some u → w.cell? ⟨pl.rb, pl.base + off + j, none⟩ = some u := fun j u e => by
                                rw [List.getElem?_take] at e
                                split at e
                                · rw [List.getElem?_drop, Array.getElem?_toList] at e
                                  simpa [World.cell?, w1] using e
                                · cases e
                              have hlen' : ((cc.toList.drop (pl.base + off)).take (len * i.size)).length = len * i.size := by rw [List.length_take]; omega
                              refine ⟨(cc.toList.drop (pl.base + off)).take (len * i.size), hlen', hget, fun w' hw' => ?_⟩
                              have := run_loadCells_list (P := P) w' ⟨pl.rb, pl.base + off, none⟩ _ fun j u e => by
                                rw [addr_add, World.cell?, hw', ← World.cell?]
                                exact hget j u e
                              rw [hlen'] at this
                              simpa [Builtin.firstCells] using this
                          have hr := (ha (some ⟨pl.rb, ro, none⟩) len rc).2 hgt c3' c2' uo q5
                          have hm := copy_sim (hH.of_heap (w' := w.drew) rfl) k1 hrr (Nat.beq (off + len * i.size) rr.n) (len * i.size) (n * i.size) t0 new uo us (Builtin.zeroCells zv.cells (grownCap w (len + n) rc elem - (len + n))).toList q2 g1 g3 g2.symm hle' (fun j u e => q4 j u e) htt hcc.1.2 elem (uo.toArray ++ us.toArray ++ Builtin.zeroCells zv.cells (grownCap w (len + n) rc elem - (len + n))) (by simp) (growE off rr.ety elem) (fun e he => (growE_spec he).2.2.symm)
                          have hbd := bound uo len rc q2
                          refine ⟨_, _, _, hr, post_of (post_alloc hH (.cells _ elem) H.next _ (Nat.le_refl _)) rfl rfl rfl rfl, hm, ⟨_, 0, grownCap w (len + n) rc elem, Rho.set_same _ _ _, rfl, grownCap_ge _ _ _ _, fun c' e => (by cases e), fun _ => rfl, ?_⟩, .grow _ _ _ _ hrr hcc.1.1⟩
                          rw [Nat.zero_add]; exact hbd
                      · cases h
                    · cases h
                  · cases h
              · cases h
            · cases h
          · cases h
        · cases h
    · cases h
  · cases h

end
end Go.Vm
/-! The abstract machine's slices, copies, conversions against the model's. -/
namespace Go.Vm
set_option linter.unusedSimpArgs false
set_option linter.unusedVariables false
set_option linter.unusedSectionVars false
section
variable {ρ : Rho} {G : Nat → Prop} {n0 : Nat} {lam : Nat → Option Nat} {fr : Fr} {a : Act} {w : World}
variable {T : Tb} {P : Program} (hT : TbOk T P) {H : VH} (hF : RelF ρ G n0 lam fr a.tmps w) (hH : RelH ρ G H w) {o : Oper} {promo : Nat → Bool} {r : RV} {fr' : Fr} {H' : VH}

def OptR (ρ : Rho) : Option AV → Option Value → Prop
  | none, none => True
  | some a, some u => VR ρ a u
  | _, _ => False
theorem optEv_rel (hF : RelF ρ G n0 lam fr a.tmps w) {x : Option Operand} {p : Option AV} (h : optEv fr x = some p) : OptR ρ p (x.map a.eval) := by
  unfold optEv at h
  split at h
  · obtain rfl := Option.some.inj h
    exact trivial
  · split at h
    · rename_i v hv
      obtain rfl := Option.some.inj h
      exact eva_rel hF hv
    · cases h
theorem bounds_ok {lo hi : Option AV} {ulo uhi : Option Value} {y len cap hh l : Nat} (hlo : OptR ρ lo ulo) (hhi : OptR ρ hi uhi) (e1 : bound hi y len = some hh) (e2 : bound lo hh 0 = some l) (h1 : y ≤ cap) (h2 : len ≤ cap) (b : Bool) (w : World) :
    (Instr.sliceBounds b len cap ulo uhi none).run P w = .ok (l, hh, cap) w ∧ l ≤ hh ∧ hh ≤ cap := by
  have one : ∀ {v : Option AV} {u : Option Value} {y d n : Nat}, OptR ρ v u → bound v y d = some n → (u = none ∧ n = d) ∨ ∃ k i, u = some (.int k i) ∧ 0 ≤ i ∧ i ≤ (y : Int) ∧ n = i.toNat := by
    intro v u y d n hv h
    unfold bound at h
    split at h
    · obtain rfl := Option.some.inj h
      cases u with
      | none => exact .inl ⟨rfl, rfl⟩
      | some u => exact hv.elim
    · rename_i k i
      split at h
      · rename_i hc
        obtain rfl := Option.some.inj h
        simp only [ile_eq, Bool.and_eq_true, decide_eq_true_eq] at hc
        cases u with
        | none => exact hv.elim
        | some u => obtain rfl : u = _ := hv; exact .inr ⟨k, i, rfl, hc.1, hc.2, rfl⟩
      · cases h
    · cases h
  rcases one hhi e1 with ⟨rfl, rfl⟩ | ⟨k, i, rfl, i0, i1, rfl⟩ <;> rcases one hlo e2 with ⟨rfl, rfl⟩ | ⟨k', j, rfl, j0, j1, rfl⟩
  · exact ⟨by simp [Instr.sliceBounds], Nat.zero_le _, h2⟩
  · exact ⟨by simp [Instr.sliceBounds, run_sliceBound w k' j hh _ j0 j1], by omega, h2⟩
  · exact ⟨by simp [Instr.sliceBounds, run_sliceBound w k i cap _ i0 (by omega)], Nat.zero_le _, by omega⟩
  · exact ⟨by simp [Instr.sliceBounds, run_sliceBound w k i cap _ i0 (by omega), run_sliceBound w k' j i.toNat _ j0 j1], by omega, by omega⟩

include hT hF hH in
theorem sim_slice {t : Nat} {x : Operand} {lo hi : Option Operand} (ho : o.op = .slice t x lo hi none) (h : oSlice T fr H t x lo hi = some (r, fr', H')) : Sim P o ρ G n0 lam fr a w H r fr' H' := by
  unfold oSlice at h
  split at h
  · rename_i rv p q hx hlo hhi
    obtain ⟨v, hv, rfl, rfl, rfl⟩ := outV_spec h
    clear h
    have hl := optEv_rel hF hlo
    have hh := optEv_rel hF hhi
    have hxv := ev_rel hF hx
    have done : ∀ u, VR ρ v u → (Instr.sliceAt t (a.eval x) (lo.map a.eval) (hi.map a.eval) none).run P w = .ok u w → Sim P o ρ G n0 lam fr' a w H' (.v v) fr' H' := fun u h1 h2 =>
      ⟨u, w, ρ, lam, .value (by simp [execOp, ho, h2]), .quietA hF hH h1⟩
    unfold vslice at hv
    split at hv
    · rename_i s hu
      unfold vsliceStr at hv
      obtain ⟨b, e0, rfl⟩ := hxv
      split at hv
      · rename_i h1 e1
        split at hv
        · rename_i l1 e2
          obtain rfl := Option.some.inj hv
          have hbs : b.size = (PS.of b.data.toList).len := rfl
          obtain ⟨r1, r2, r3⟩ := bounds_ok (P := P) hl hh e1 e2 (Nat.le_refl _) (Nat.le_refl _) false w
          refine done (.string (b.extract l1 h1)) ⟨_, rfl, ?_⟩ ?_
          · rw [PS.ext_of _ _ _ (by rw [← hbs] at r3; exact r3)]
            simp [ByteArray.data_extract, List.extract_eq_drop_take']
          · rw [← hbs] at r1
            simp only [Instr.sliceAt, Sem.run_bind, run_und hT hu w, Result.andThen, e0, Instr.slice, Option.isSome_none]
            simp [r1]
        · cases hv
      · cases hv
    · rename_i elem ad len cap esz hu
      split at hv
      · rename_i s hs
        unfold vsliceRow at hv
        split at hv
        · cases hv
        · rename_i hc
          simp only [Bool.and_eq_false_iff, Bool.not_eq_false'] at hc
          split at hv
          · rename_i h1 e1
            split at hv
            · rename_i l1 e2
              obtain rfl := Option.some.inj hv
              cases ad with
              | none =>
                obtain ⟨e0, rfl, rfl⟩ := hxv
                obtain ⟨r1, r2, r3⟩ := bounds_ok (P := P) hl hh e1 e2 (Nat.le_refl _) (Nat.le_refl _) true w
                simp only [Option.getD_some] at r1 r3
                have z1 : h1 = 0 := by omega
                have z2 : l1 = 0 := by omega
                subst z1 z2
                refine done (.slice none 0 0) ⟨rfl, rfl, rfl⟩ ?_
                simp only [Instr.sliceAt, Sem.run_bind, run_und hT hu w, Result.andThen, e0, Instr.slice, r1, Sem.run_pure, run_size hT hs w]
                simp
              | some ad =>
                obtain ⟨b, off⟩ := ad
                obtain ⟨pl, ro, rc, k1, e0, k3, k4, k5, k6⟩ := hxv
                have hes : esz = s := by simpa using hc
                subst hes
                have hy : cap.getD len ≤ rc := by
                  cases cap with
                  | none => exact k3
                  | some c => rw [k4 c rfl]; exact Nat.le_refl _
                obtain ⟨r1, r2, r3⟩ := bounds_ok (P := P) hl hh e1 e2 hy k3 true w
                refine done (.slice (if rc = l1 then some ⟨pl.rb, ro, none⟩ else some ((⟨pl.rb, ro, none⟩ : Addr).add (l1 * esz))) (h1 - l1) (rc - l1)) ?_ ?_
                · by_cases hz : rc = l1
                  · subst hz
                    rw [if_pos rfl]
                    refine ⟨pl, ro, rc - rc, k1, rfl, by omega, fun c' e => ?_, fun e => by omega, by rw [Nat.sub_self, Nat.zero_mul]; omega⟩
                    cases cap with
                    | none => cases e
                    | some c => simp only [Option.map_some, Option.some.injEq] at e; have := k4 c rfl; omega
                  · rw [if_neg hz, addr_add]
                    refine ⟨pl, _, rc - l1, k1, rfl, by omega, fun c' e => ?_, fun e => ?_, ?_⟩
                    · cases cap with
                      | none => cases e
                      | some c => simp only [Option.map_some, Option.some.injEq] at e; have := k4 c rfl; omega
                    · have := k5 (by omega); omega
                    · have : l1 * esz + (rc - l1) * esz = rc * esz := by rw [← Nat.add_mul]; congr 1; omega
                      omega
                · simp only [Instr.sliceAt, Sem.run_bind, run_und hT hu w, Result.andThen, e0, Instr.slice, r1, Sem.run_pure, run_size hT hs w]
                  simp
            · cases hv
          · cases hv
      · cases hv
    · rename_i n elem b off hu
      split at hv
      · rename_i s hs
        unfold vsliceArr at hv
        obtain ⟨pl, k1, e0⟩ := hxv
        split at hv
        · cases hv
        · rename_i hfit
          split at hv
          · rename_i h1 e1
            split at hv
            · rename_i l1 e2
              obtain rfl := Option.some.inj hv
              obtain ⟨r1, r2, r3⟩ := bounds_ok (P := P) hl hh e1 e2 (Nat.le_refl _) (Nat.le_refl _) false w
              have hsz : pl.base + (off + n * s) ≤ pl.size := by
                unfold fits at hfit
                split at hfit
                · rename_i rr hrr
                  have := Nat.le_of_ble_eq_true hfit
                  obtain ⟨_, _, _, _, _, w3, _⟩ := hH.row b pl rr k1 hrr
                  omega
                · cases hfit
              refine done (.slice (some (if n = l1 then ⟨pl.rb, pl.base + off, none⟩ else (⟨pl.rb, pl.base + off, none⟩ : Addr).add (l1 * s))) (h1 - l1) (n - l1)) ?_ ?_
              · by_cases hz : n = l1
                · subst hz
                  rw [if_pos rfl]
                  exact ⟨pl, _, n - n, k1, rfl, by omega, fun c' e => by simp only [Option.some.injEq] at e; exact e, fun e => by omega, by rw [Nat.sub_self, Nat.zero_mul]; omega⟩
                · rw [if_neg hz, addr_add]
                  refine ⟨pl, _, n - l1, k1, rfl, by omega, fun c' e => by simp only [Option.some.injEq] at e; exact e, fun e => by omega, ?_⟩
                  have : l1 * s + (n - l1) * s = n * s := by rw [← Nat.add_mul]; congr 1; omega
                  omega
              · simp only [Instr.sliceAt, Sem.run_bind, run_und hT hu w, Result.andThen, e0, Instr.sureAddr, r1, Sem.run_pure, run_size hT hs w]
            · cases hv
          · cases hv
      · cases hv
    · cases hv
  · cases h

theorem madeCells_eq (z : Array Value) (s : Nat) (hs : z.size = s) (h0 : 0 < s) (n : Nat) : (madeCells z (n * s)).toList = List.flatten (List.replicate n z.toList) := zeros_eq z s hs h0 n

include hT hF hH in
theorem sim_makeSlice {t : Nat} {x y : Operand} (ho : o.op = .makeSlice t x y) (h : oMakeSlice T fr H t x y = some (r, fr', H')) : Sim P o ρ G n0 lam fr a w H r fr' H' := by
  unfold oMakeSlice at h
  split at h
  · rename_i p q hp hq
    obtain ⟨v, hv, rfl, rfl⟩ := outH_spec h
    clear h
    unfold vmakeSlice at hv
    split at hv
    · rename_i elem k l k' c hu
      have e1 : a.eval x = .int k l := eva_rel hF hp
      have e2 : a.eval y = .int k' c := eva_rel hF hq
      split at hv
      · rename_i i z hi hz
        split at hv
        · rename_i hc
          simp only [Option.some.injEq, Prod.mk.injEq] at hv
          obtain ⟨rfl, rfl⟩ := hv
          simp only [Bool.and_eq_true, ile_eq, decide_eq_true_eq, Nat.blt_eq] at hc
          obtain ⟨⟨⟨⟨⟨⟨c1, c2⟩, c3⟩, c4⟩, c5⟩, c6⟩, c7⟩ := hc
          have c4' := Nat.le_of_ble_eq_true c4
          obtain ⟨zv, hzv, hzr⟩ : ∃ zv, i.zero = some zv ∧ ofValue zv = some z := by
            unfold zeroOf at hz
            rw [hi] at hz
            simp only at hz
            cases hq : i.zero with
            | none => rw [hq] at hz; cases hz
            | some zv => rw [hq] at hz; exact ⟨zv, rfl, hz⟩
          obtain ⟨hz1, hz2⟩ := ofValue_cells (ρ := ρ) hzr
          have hzs : zv.cells.size = i.size := by
            have := hz1.length
            rw [Array.length_toList] at this
            exact this.trans (Nat.eq_of_beq_eq_true c6)
          have hbytes : (i.bytes : Int) * c ≤ 281474976710656 := by
            have : ((i.bytes * c.toNat : Nat) : Int) ≤ 281474976710656 := by omega
            rwa [Int.natCast_mul, Int.toNat_of_nonneg (by omega)] at this
          have hrun := run_make (P := P) w t elem i zv (und_ok hT hu) (hT.ty _ _ hi) hzv k k' l c c1 c2 hbytes (by omega)
          have hme := madeCells_eq zv.cells i.size hzs c5 c.toNat
          have hm := fresh_sim hH (repl z.cells c.toNat) (madeCells zv.cells (c.toNat * i.size)) elem (0, 0) (fun i _ => by simp) (madeCells zv.cells (c.toNat * i.size)).toList [] (by simp) (by rw [hme]; exact repl_rel hz1 _) (fun u hu => by
            rw [hme] at hu
            obtain ⟨l, hl, hu⟩ := List.mem_flatten.1 hu
            rw [(List.mem_replicate.1 hl).2] at hu
            exact hz2 u hu)
          refine ⟨_, _, _, lam, .value (by simp [execOp, ho, e1, e2, hrun]), .turn hF (post_alloc hH _ _ _ (Nat.le_refl _)) hm ⟨_, 0, c.toNat, Rho.set_same _ _ _, rfl, by omega, fun c' e => Option.some.inj e, fun _ => rfl, ?_⟩ (.fresh _ _)⟩
          simp [size_madeCells]
        · cases hv
      · cases hv
    · cases hv
  · cases h

theorem go_bytes : ∀ {cs : List AV} {us : List Value} {s : PS}, vconvert.go cs = some s → VRs ρ cs us → ∃ ns : List Int, us = ns.map (Value.int .u8) ∧ s = PS.of (ns.map fun n => UInt8.ofNat n.toNat)
  | [], us, s, h, hv => by
    simp only [vconvert.go, Option.some.injEq] at h
    subst h
    exact ⟨[], hv, rfl⟩
  | c :: cs, us, s, h, hv => by
    unfold vconvert.go at h
    split at h
    · rename_i e; cases e
    · rename_i n cs' e
      obtain ⟨rfl, rfl⟩ := List.cons.inj e
      obtain ⟨u, us', rfl, h1, h2⟩ := hv
      split at h
      · rename_i s' hs
        obtain rfl := Option.some.inj h
        obtain ⟨ns, rfl, rfl⟩ := go_bytes hs h2
        obtain rfl : u = _ := h1
        refine ⟨n :: ns, rfl, ?_⟩
        simp [PS.of, PS.valOf]
      · cases h
    · cases h
theorem foldl_push (ns : List Int) : ∀ b : ByteArray, (ns.foldl (fun r n => r.push (UInt8.ofNat n.toNat)) b).data.toList = b.data.toList ++ ns.map fun n => UInt8.ofNat n.toNat := by
  induction ns with
  | nil => intro b; simp
  | cons n ns ih => intro b; rw [List.foldl_cons, ih]; simp [ByteArray.push]

theorem run_loadBytes_ints {P : Program} (w : World) : ∀ (ns : List Int) (a : Addr) (acc : ByteArray), (∀ j x, ns[j]? = some x → w.cell? (a.add j) = some (.int .u8 x)) →
    (loadBytes a acc ns.length).run P w = .ok ⟨acc.data ++ (ns.map fun n => UInt8.ofNat n.toNat).toArray⟩ w
  | [], a, acc, _ => by simp [loadBytes]
  | x :: l, a, acc, h => by
    have h0 : w.cell? a = some (.int .u8 x) := by
      have := h 0 x rfl
      simpa [Addr.add] using this
    have ih := run_loadBytes_ints (P := P) w l (a.add 1) (acc.push (UInt8.ofNat x.toNat)) (fun j y hy => by
      have := h (j + 1) y (by simpa using hy)
      have e : (a.add 1).add j = a.add (j + 1) := by
        unfold Addr.add
        by_cases hj : j = 0
        · subst hj; simp
        · simp [hj]; omega
      rw [e]; exact this)
    have hx : (x.toNat).toUInt8 = UInt8.ofNat x.toNat := rfl
    simp only [List.length_cons, loadBytes, Sem.run_bind, run_load, h0, Result.andThen, hx]
    rw [ih]
    congr 1
    apply ByteArray.ext
    simp [ByteArray.push]
/-- unsafe.String over bytes of a row. -/
theorem run_unsafeString_at {P : Program} (w : World) (pt it ty e : TypeId) (hp : P.underlying pt = some (.pointer e)) (hc : P.cellsOf e = 1) (g off cells : Nat) (hsh : w.shape? g = some (e, cells)) (l : List Int) (h0 : l ≠ []) (hn : off + l.length ≤ cells) (h63 : l.length ≤ 9223372036854775807)
    (hcell : ∀ j x, l[j]? = some x → w.cell? ((⟨g, off, none⟩ : Addr).add j) = some (.int .u8 x)) :
    (Builtin.unsafeString_ #[pt, it] ty #[.pointer (some ⟨g, off, none⟩), .int .i64 l.length]).run P w = .ok (.string ⟨(l.map fun n => UInt8.ofNat n.toNat).toArray⟩) (w.freeze ⟨g, off, none⟩ l.length) := by
  have hl : l.length ≠ 0 := by simpa using h0
  have hlb := run_loadBytes_ints (P := P) w l ⟨g, off, none⟩ .empty hcell
  have hlies : liesAt P P.depth e (cells / P.cellsOf e) off e l.length = true := by
    have hd : P.depth = (2 * (P.types.size + Made.depth) + 1) + 1 := rfl
    rw [hd]
    simp only [liesAt, Bool.or_eq_true]
    left
    rw [hd]
    have : off + l.length ≤ cells := hn
    simp [rowAt, hc, sameLayout, Nat.mod_one, this]
  have h63' : ¬ (9223372036854775807 : Int) < (l.length : Int) := by omega
  have hdef : Builtin.unsafeString_ #[pt, it] ty #[.pointer (some ⟨g, off, none⟩), .int .i64 l.length] =
      (do
        let n ← asInt (.int .i64 l.length)
        if n < 0 then runtimePanic (.error "unsafe.String: len out of range")
        if n > IntKind.i64.max then unsupported (.unsafePointer "String: a length above the largest int")
        if n = 0 then pure (.string .empty)
        else if ← variablesAt ⟨g, off, none⟩ (← elemOf pt) n.toNat then do
          let s ← loadBytes ⟨g, off, none⟩ .empty n.toNat
          freeze ⟨g, off, none⟩ n.toNat
          pure (.string s)
        else unsupported (.unsafePointer "String: not so many bytes at ptr")) := rfl
  rw [hdef]
  have hmax : IntKind.i64.max = 9223372036854775807 := rfl
  have hneg : ¬ (l.length : Int) < 0 := by omega
  simp [asInt, asIntOf, hmax, h63', hneg, hl, variablesAt, hsh, elemOf, run_underlying hp, hlies, hlb]
theorem rowAt_mono {P : Program} {f : TypeId → Bool} : ∀ {d e c c' off n : Nat}, c ≤ c' → rowAt P f d e c off n = true → rowAt P f d e c' off n = true
  | 0, _, _, _, _, _, _, h => by simp [rowAt] at h
  | d + 1, e, c, c', off, n, hc, h => by
    simp only [rowAt] at h ⊢
    split at h
    · cases h
    · rename_i hs
      rw [if_neg hs]
      simp only [Bool.or_eq_true, Bool.and_eq_true, decide_eq_true_eq] at h ⊢
      rcases h with ⟨⟨h1, h2⟩, h3⟩ | ⟨h1, h2⟩
      · exact .inl ⟨⟨h1, by omega⟩, h3⟩
      · exact .inr ⟨by omega, h2⟩
theorem liesAt_mono {P : Program} : ∀ {d e c c' off u n : Nat}, c ≤ c' → liesAt P d e c off u n = true → liesAt P d e c' off u n = true
  | 0, _, _, _, _, _, _, _, h => by simp [liesAt] at h
  | d + 1, e, c, c', off, u, n, hc, h => by
    simp only [liesAt, Bool.or_eq_true] at h ⊢
    rcases h with h | h
    · exact .inl (rowAt_mono hc h)
    · right
      split at h
      · exact liesAt_mono hc h
      · cases h
theorem bytesWorld_heap (w : World) (e : TypeId) (s : ByteArray) : (Lib.bytesWorld w e s).heap = (w.alloc (.cells (Lib.bytesCells w e s) e ((Lib.bytesCells w e s).size, (Lib.bytesCells w e s).size + 1))).heap := by
  apply Array.ext_getElem?
  intro j
  rw [heap_walloc]
  by_cases h : j = w.heap.size
  · subst h
    rw [if_pos rfl, Lib.bytesWorld_at_new]
  · rw [if_neg h]
    rcases Nat.lt_or_ge j w.heap.size with h1 | h1
    · exact Lib.bytesWorld_at_old w e s j h1
    · rw [Array.getElem?_eq_none (by rw [Lib.bytesWorld_size]; omega), Array.getElem?_eq_none h1]
include hT hF hH in
theorem sim_conv {s d : Nat} {x : Operand} (ho : o.op = .convert s d x) (h : oConv T fr H s d x = some (r, fr', H')) : Sim P o ρ G n0 lam fr a w H r fr' H' := by
  unfold oConv at h
  split at h
  · rename_i p hp
    obtain ⟨v, hv, rfl, rfl⟩ := outH_spec h
    clear h
    have hpv := eva_rel hF hp
    have done : ∀ u, H' = H → VR ρ v u → (convert s d (a.eval x)).run P w = .ok u w → Sim P o ρ G n0 lam fr' a w H (.v v) fr' H' := fun u h0 h1 h2 =>
      ⟨u, w, ρ, lam, .value (by simp [execOp, ho, h2]), by rw [h0]; exact .quietA hF hH h1⟩
    unfold vconvert at hv
    split at hv
    · rename_i k0 k k' n h1 h2
      simp only [Option.some.injEq, Prod.mk.injEq] at hv
      obtain ⟨rfl, rfl⟩ := hv
      have e1 : a.eval x = .int k' n := hpv
      exact done _ rfl rfl (by simp [convert, run_und hT h1, run_und hT h2, e1, Conv.intToInt, fwrap_eq])
    · rename_i st h1 h2
      simp only [Option.some.injEq, Prod.mk.injEq] at hv
      obtain ⟨rfl, rfl⟩ := hv
      obtain ⟨b, e1, e2⟩ := hpv
      exact done _ rfl ⟨b, rfl, e2⟩ (by simp [convert, run_und hT h1, run_und hT h2, e1])
    · rename_i e ad len cap esz h1 h2
      have hconv := fun (q : Option Addr) (l c : Nat) (he : P.underlying e = some (.int .u8)) => run_convert_bytes_string (P := P) w s d e q l c (und_ok hT h1) he (und_ok hT h2)
      split at hv
      · rename_i h3
        simp only [Option.some.injEq, Prod.mk.injEq] at hv
        obtain ⟨rfl, rfl⟩ := hv
        obtain ⟨e1, _⟩ := hpv
        exact done (.string .empty) rfl ⟨_, rfl, rfl⟩ (by rw [e1, hconv _ _ _ (und_ok hT h3)]; simp [Conv.bytesToString])
      · rename_i b off h3
        split at hv
        · rename_i cs hcs
          cases hgo : vconvert.go cs with
          | none => rw [hgo] at hv; cases hv
          | some st =>
            rw [hgo] at hv
            simp only [Option.map_some, Option.some.injEq, Prod.mk.injEq] at hv
            obtain ⟨rfl, rfl⟩ := hv
            obtain ⟨pl, ro, rc, k1, e1, k3, k4, k5, k6⟩ := hpv
            have fin : ∀ (ns : List Int), (loadCells ⟨pl.rb, ro, none⟩ len).run P w = .ok (ns.map (Value.int .u8)).toArray w → st = PS.of (ns.map fun n => UInt8.ofNat n.toNat) → Sim P o ρ G n0 lam fr' a w H (.v (.str st)) fr' H := by
              intro ns hl hst
              refine done _ rfl ⟨_, rfl, ?_⟩ (by rw [e1, hconv _ _ _ (und_ok hT h3), run_bytesToString w _ len rc ns hl])
              rw [foldl_push, hst]
              rfl
            by_cases h0 : len = 0
            · subst h0
              simp only [VH.cells, Option.some.injEq] at hcs
              subst hcs
              simp only [vconvert.go, Option.some.injEq] at hgo
              subst hgo
              exact fin [] (by simp [loadCells, loadCellsFrom]) rfl
            · obtain rfl : ro = pl.base + off := k5 (by omega)
              obtain ⟨us, g1, g2, g3, g4⟩ := run_cells (P := P) hH k1 hcs
              obtain ⟨ns, rfl, hst⟩ := go_bytes hgo g2
              exact fin ns (g1 ▸ g4) hst
        · cases hv
      · cases hv
    · rename_i elem st h1 h2
      split at hv
      · rename_i h3
        simp only [Option.some.injEq, Prod.mk.injEq] at hv
        obtain ⟨rfl, rfl⟩ := hv
        obtain ⟨b, e1, rfl⟩ := hpv
        have hrun := Lib.run_convert_string_bytes (P := P) w s d elem b (und_ok hT h1) (und_ok hT h2) (und_ok hT h3)
        have hcs : (Lib.bytesCells w elem b).toList = (b.data.toList.map fun x => Value.int .u8 x.toNat) ++ List.replicate (grownCap w b.size 0 elem - b.size) (.int .u8 0) := by
          simp [Lib.bytesCells]
        have hsz : (Lib.bytesCells w elem b).size = grownCap w b.size 0 elem := by
          have h1 := grownCap_ge w b.size 0 elem
          have h2 : b.data.size = b.size := rfl
          simp only [Lib.bytesCells, Array.size_append, Array.size_map, Array.size_replicate]
          omega
        have hbs : (PS.of b.data.toList).bytes.map (fun (x : Nat) => AV.int .u8 x) = b.data.toList.map fun x => AV.int .u8 x.toNat := by
          rw [PS.bytes_of, List.map_map]
          rfl
        have hm := freshT_sim hH (b.data.toList.map fun x => AV.int .u8 x.toNat) (Lib.bytesCells w elem b) elem ((Lib.bytesCells w elem b).size, (Lib.bytesCells w elem b).size + 1) (fun i hi => by simp only; omega) _ _ hcs (bytes_rel b.data.toList ρ) (fun u hu => by
          obtain ⟨x, _, rfl⟩ := List.mem_map.1 hu
          rfl)
        rw [hbs]
        have hl : (PS.of b.data.toList).len = b.size := rfl
        rw [hl]
        refine ⟨_, _, _, lam, .value (by simp only [execOp, ho, e1]; simp [hrun]), .turn hF (post_of (post_alloc hH (.cells (Lib.bytesCells w elem b) elem ((Lib.bytesCells w elem b).size, (Lib.bytesCells w elem b).size + 1)) H.next _ (Nat.le_refl _)) (bytesWorld_heap w elem b) ?_ ?_ ?_) (hm.of_heap (bytesWorld_heap w elem b)) ⟨_, 0, grownCap w b.size 0 elem, Rho.set_same _ _ _, rfl, grownCap_ge _ _ _ _, fun c' e => (by cases e), fun _ => rfl, ?_⟩ (.freshT _ _ _)⟩
        · unfold Lib.bytesWorld World.freeze; split <;> rfl
        · unfold Lib.bytesWorld World.freeze; split <;> rfl
        · unfold Lib.bytesWorld World.freeze; split <;> rfl
        · simp only [hsz]; omega
      · cases hv
    · rename_i t b off h1 h2
      split at hv
      · rename_i k hs
        split at hv
        · rename_i hfit
          simp only [Option.some.injEq, Prod.mk.injEq] at hv
          obtain ⟨rfl, rfl⟩ := hv
          obtain ⟨pl, k1, e1⟩ := hpv
          obtain ⟨c, et, fz, w1, w2, w3⟩ : ∃ c et fz, w.heap[pl.rb]? = some (.cells c et fz) ∧ c.size = pl.size ∧ pl.base + (off + 1) ≤ pl.size := by
            unfold fits at hfit
            split at hfit
            · rename_i rr hrr
              obtain ⟨c, et, fz, w1, w2, w3, _⟩ := hH.row b pl rr k1 hrr
              exact ⟨c, et, fz, w1, w2, by have := Nat.le_of_ble_eq_true hfit; omega⟩
            · cases hfit
          have hsh : w.shape? pl.rb = some (et, c.size) := by simp [World.shape?, w1]
          have hlt : ¬ c.size ≤ pl.base + off := by omega
          refine done _ rfl ⟨pl, k1, rfl⟩ ?_
          rw [e1]
          simp [convert, Conv.unsafePointer, run_und hT h1, run_und hT h2, Conv.seenAt, viewAt, hsh, cellsIn, run_size hT hs w, hlt]
        · cases hv
      · cases hv
    · rename_i u' b off h1 h2
      split at hv
      · rename_i us hus hlies
        simp only [Option.some.injEq, Prod.mk.injEq] at hv
        obtain ⟨rfl, rfl⟩ := hv
        obtain ⟨pl, k1, e1⟩ := hpv
        unfold vconvert.vlies at hlies
        split at hlies
        · rename_i rr hrr
          split at hlies
          · rename_i e he
            split at hlies
            · rename_i sz hsz
              simp only [Bool.and_eq_true, Nat.blt_eq] at hlies
              obtain ⟨l1, l2, l3⟩ := hlies
              have l1' := Nat.le_of_ble_eq_true l1
              obtain ⟨g1, c, fz, g2⟩ := hH.ety b pl rr e k1 hrr he
              obtain ⟨c', et', fz', w1, w2, w3, _⟩ := hH.row b pl rr k1 hrr
              rw [w1] at g2
              simp only [Option.some.injEq, Obj.cells.injEq] at g2
              obtain ⟨rfl, rfl, rfl⟩ := g2
              have hsh : w.shape? pl.rb = some (et', c'.size) := by simp [World.shape?, w1]
              have hcells : P.cellsOf et' = sz := cells_of hT hsz
              have hcount : 1 ≤ c'.size / P.cellsOf et' := by
                rw [hcells]
                exact (Nat.le_div_iff_mul_le l2).2 (by omega)
              have hl := liesAt_mono hcount (hT.lies et' off u' l3)
              refine done _ rfl ⟨pl, k1, rfl⟩ ?_
              rw [e1, g1, Nat.zero_add]
              have hsz0 : ∀ {α : Type} (x y : Sem α), True := fun _ _ => trivial
              simp [convert, Conv.unsafePointer, run_und hT h1, run_und hT h2, Conv.seenAt, viewAt, hsh, variablesAt, hl, run_size hT hus w]
            · cases hlies
          · cases hlies
        · cases hlies
      · cases hv
    · cases hv
  · cases h
end
end Go.Vm
/-! The abstract machine's library functions of the language against the model's. -/
namespace Go.Vm
set_option linter.unusedSimpArgs false
set_option linter.unusedVariables false
set_option linter.unusedSectionVars false

/-! Maps. -/
theorem ments_ok {ρ : Rho} {G : Nat → Prop} {H : VH} {w : World} (hH : RelH ρ G H w) {m : AV} {um : Value} {es : List ME} (hm : VR ρ m um) (h : ments H m = some es) :
    (um = .map none ∧ es = []) ∨ ∃ r a c, um = .map (some r) ∧ w.heap[r]? = some (.map a c) ∧ MR ρ es a.toList := by
  unfold ments at h
  split at h
  · exact .inl ⟨hm, (Option.some.inj h).symm⟩
  · rename_i b
    split at h
    · rename_i es' c v hq
      obtain rfl := Option.some.inj h
      obtain ⟨pl, hb, rfl⟩ := hm
      obtain ⟨_, ⟨a, h1, h2⟩, _⟩ := hH.map_of hb hq
      exact .inr ⟨pl.rb, a, c, rfl, h1, h2⟩
    · cases h
  · cases h
section
variable {ρ : Rho} {G : Nat → Prop} {n0 : Nat} {lam : Nat → Option Nat} {fr : Fr} {a : Act} {w : World}
variable {T : Tb} {P : Program} (hT : TbOk T P) {H : VH} (hF : RelF ρ G n0 lam fr a.tmps w) (hH : RelH ρ G H w) {o : Oper} {promo : Nat → Bool} {r : RV} {fr' : Fr} {H' : VH}

theorem max_ok : ∀ {vs : List AV} {us : List Value} {v r : AV} {u : Value}, VR ρ v u → VRs ρ vs us → vminmax true v vs = some r → ∃ x, VR ρ r x ∧ (us.foldlM Builtin.max2 u).run P w = .ok x w
  | [], us, v, r, u, hv, hs, h => by
    simp only [vminmax, Option.some.injEq] at h
    subst h
    obtain rfl : us = [] := hs
    exact ⟨u, hv, by simp⟩
  | b :: vs, us, v, r, u, hv, ⟨u', us', e, h1, h2⟩, h => by
    subst e
    unfold vminmax at h
    split at h
    · rename_i e; cases e
    · rename_i k x k' y rest e
      obtain ⟨rfl, rfl⟩ := List.cons.inj e
      split at h
      · obtain rfl : u = _ := hv
        obtain rfl : u' = _ := h1
        obtain ⟨z, h3, h4⟩ := max_ok (u := .int k (if x < y then y else x)) (show VR ρ (.int k (if x < y then y else x)) _ from rfl) h2 (by simpa [ilt_eq] using h)
        exact ⟨z, h3, by simpa [Builtin.max2] using h4⟩
      · cases h
    · cases h
theorem min_ok : ∀ {vs : List AV} {us : List Value} {v r : AV} {u : Value}, VR ρ v u → VRs ρ vs us → vminmax false v vs = some r → ∃ x, VR ρ r x ∧ (us.foldlM Builtin.min2 u).run P w = .ok x w
  | [], us, v, r, u, hv, hs, h => by
    simp only [vminmax, Option.some.injEq] at h
    subst h
    obtain rfl : us = [] := hs
    exact ⟨u, hv, by simp⟩
  | b :: vs, us, v, r, u, hv, ⟨u', us', e, h1, h2⟩, h => by
    subst e
    unfold vminmax at h
    split at h
    · rename_i e; cases e
    · rename_i k x k' y rest e
      obtain ⟨rfl, rfl⟩ := List.cons.inj e
      split at h
      · obtain rfl : u = _ := hv
        obtain rfl : u' = _ := h1
        obtain ⟨z, h3, h4⟩ := min_ok (u := .int k (if y < x then y else x)) (show VR ρ (.int k (if y < x then y else x)) _ from rfl) h2 (by simpa [ilt_eq] using h)
        exact ⟨z, h3, by simpa [Builtin.min2] using h4⟩
      · cases h
    · cases h

abbrev BSim (P : Program) (ρ : Rho) (G : Nat → Prop) (w : World) (H : VH) (v : AV) (H' : VH) (s : Sem Value) : Prop :=
  ∃ u w' ρ', s.run P w = .ok u w' ∧ Post ρ ρ' (fun _ => False) w w' ∧ RelH ρ' G H' w' ∧ VR ρ' v u ∧ Hs H H'

include hT hH in
theorem sim_len {ts : List Nat} {x v : AV} {u : Value} {ty : Nat} (hx : VR ρ x u) (h : vlen T H ts x = some (v, H')) : BSim P ρ G w H v H' (Builtin.len_ ts.toArray ty #[u]) := by
  unfold vlen at h
  split at h
  · split at h
    · rename_i s hu
      simp only [Option.some.injEq, Prod.mk.injEq] at h
      obtain ⟨rfl, rfl⟩ := h
      obtain ⟨b, rfl, rfl⟩ := hx
      exact ⟨_, w, ρ, by simp [Builtin.len_, run_und hT hu]; rfl, .refl _ _ _, hH, rfl, .refl _⟩
    · rename_i e ad n c esz hu
      simp only [Option.some.injEq, Prod.mk.injEq] at h
      obtain ⟨rfl, rfl⟩ := h
      cases ad with
      | none => obtain ⟨rfl, rfl, _⟩ := hx; exact ⟨_, w, ρ, by simp [Builtin.len_, run_und hT hu]; rfl, .refl _ _ _, hH, rfl, .refl _⟩
      | some ad => obtain ⟨_, _, _, _, rfl, _⟩ := hx; exact ⟨_, w, ρ, by simp [Builtin.len_, run_und hT hu]; rfl, .refl _ _ _, hH, rfl, .refl _⟩
    · rename_i kt et m hu
      split at h
      · rename_i es he
        simp only [Option.some.injEq, Prod.mk.injEq] at h
        obtain ⟨rfl, rfl⟩ := h
        rcases ments_ok hH hx he with ⟨rfl, rfl⟩ | ⟨r, a, c, rfl, h1, h2⟩
        · exact ⟨_, w, ρ, by simp [Builtin.len_, run_und hT hu]; rfl, .refl _ _ _, hH, rfl, .refl _⟩
        · exact ⟨.int .i64 (a.size : Int), w, ρ, by simp [Builtin.len_, run_und hT hu, run_getMap h1, goInt], .refl _ _ _, hH, by show Value.int .i64 _ = .int .i64 _; rw [← h2.length]; rfl, .refl _⟩
      · cases h
    · cases h
  · cases h
include hT hH in
theorem sim_cap {ts : List Nat} {x v : AV} {u : Value} {ty : Nat} (hx : VR ρ x u) (h : vcap T H ts x = some (v, H')) : BSim P ρ G w H v H' (Builtin.cap_ ts.toArray ty #[u]) := by
  unfold vcap at h
  split at h
  · split at h
    · rename_i e ad n c esz hu
      simp only [Option.some.injEq, Prod.mk.injEq] at h
      obtain ⟨rfl, rfl⟩ := h
      cases ad with
      | none =>
        obtain ⟨rfl, rfl, e3⟩ := hx
        obtain rfl := Option.some.inj e3
        exact ⟨_, w, ρ, by simp [Builtin.cap_, run_und hT hu]; rfl, .refl _ _ _, hH, rfl, .refl _⟩
      | some ad =>
        obtain ⟨_, _, rc, _, rfl, _, e3, _⟩ := hx
        obtain rfl := e3 _ rfl
        exact ⟨_, w, ρ, by simp [Builtin.cap_, run_und hT hu]; rfl, .refl _ _ _, hH, rfl, .refl _⟩
    · cases h
  · cases h

include hT hH in
theorem sim_clear {ts : List Nat} {x v : AV} {u : Value} {ty : Nat} (hx : VR ρ x u) (h : vclear T H ts x = some (v, H')) : BSim P ρ G w H v H' (Builtin.clear_ ts.toArray ty #[u]) := by
  unfold vclear at h
  split at h
  · split at h
    · rename_i n c esz e0 e1 e hu
      simp only [Option.some.injEq, Prod.mk.injEq] at h
      obtain ⟨rfl, rfl⟩ := h
      obtain ⟨rfl, _⟩ := hx
      exact ⟨.tuple #[], w, ρ, by simp [Builtin.clear_, run_und hT hu], .refl _ _ _, hH, ⟨#[], rfl, rfl⟩, .refl _⟩
    · rename_i elem b off len c esz hu
      obtain ⟨pl, ro, rc, k1, rfl, k3, k4, k5, k6⟩ := hx
      split at h
      · rename_i h0
        obtain rfl : len = 0 := Nat.eq_of_beq_eq_true h0
        simp only [Option.some.injEq, Prod.mk.injEq] at h
        obtain ⟨rfl, rfl⟩ := h
        exact ⟨.tuple #[], w, ρ, by simp [Builtin.clear_, run_und hT hu], .refl _ _ _, hH, ⟨#[], rfl, rfl⟩, .refl _⟩
      · rename_i h0
        split at h
        · rename_i z hz
          split at h
          · rename_i hc
            simp only [Bool.and_eq_true, Nat.blt_eq] at hc
            split at h
            · rename_i H1 hp
              simp only [Option.some.injEq, Prod.mk.injEq] at h
              obtain ⟨rfl, rfl⟩ := h
              have hl0 : len ≠ 0 := fun e => by rw [e] at h0; cases h0
              obtain rfl : ro = pl.base + off := k5 (by omega)
              obtain ⟨vz, hzr, _, hz1, hz2⟩ := run_zero hT hz w
              have hzs : vz.cells.size = z.cells.length := by have := (hz1 ρ).length; rw [Array.length_toList] at this; exact this
              have hze := zeros_eq vz.cells z.cells.length hzs hc.2 len
              have hv : VRs ρ (repl z.cells len) (Builtin.zeroCells vz.cells len).toList := by
                have : (Builtin.zeroCells vz.cells len).toList = List.flatten (List.replicate len vz.cells.toList) := by
                  rw [← hze, ← hzs]; rfl
                rw [this]
                exact repl_rel (hz1 ρ) _
              obtain ⟨m1, m2⟩ := run_puts (P := P) hH k1 hv hp
              refine ⟨.tuple #[], _, ρ, ?_, post_puts hH k1 hv hp, m2, ⟨#[], rfl, rfl⟩, .puts hp⟩
              simp [Builtin.clear_, run_und hT hu, hzr, m1]
            · cases h
          · cases h
        · cases h
    · cases h
  · cases h

include hT hH in
theorem sim_copy {ts : List Nat} {x y v : AV} {u1 u2 : Value} {ty : Nat} (hx : VR ρ x u1) (hy : VR ρ y u2) (h : vcopy T H ts x y = some (v, H')) : BSim P ρ G w H v H' (Builtin.copy_ ts.toArray ty #[u1, u2]) := by
  unfold vcopy at h
  split at h
  · split at h
    · rename_i elem hu
      split at h
      · rename_i sz n c esz m hs hm
        simp only [Option.some.injEq, Prod.mk.injEq] at h
        obtain ⟨rfl, rfl⟩ := h
        obtain ⟨rfl, rfl, _⟩ := hx
        have hl := lenOf_ok (P := P) hy hm w
        have hf := first_zero (P := P) (sz := sz) hy hm w
        exact ⟨.int .i64 0, w, ρ, by simp [Builtin.copy_, run_und hT hu, hl, run_size hT hs, hf, goInt], .refl _ _ _, hH, rfl, .refl _⟩
      · rename_i sz b off len c esz m hs hm
        split at h
        · rename_i cs hcs
          split at h
          · rename_i hone
            split at h
            · rename_i H1 hp
              simp only [Option.some.injEq, Prod.mk.injEq] at h
              obtain ⟨rfl, rfl⟩ := h
              obtain ⟨pl, ro, rc, k1, rfl, k3, k4, k5, k6⟩ := hx
              have hl := lenOf_ok (P := P) hy hm w
              obtain ⟨us, g1, g2, g3, g4⟩ := source_ok (P := P) hH hy hm (Nat.min_le_left m len) hcs
              have hmin : Nat.min m len = min m len := rfl
              by_cases h0 : min m len = 0
              · rw [h0, Nat.zero_mul] at g2
                obtain rfl := List.eq_nil_of_length_eq_zero g2
                have hcs0 : cs = [] := List.eq_nil_of_length_eq_zero (by rw [← g1.length]; rfl)
                subst hcs0
                simp only [VH.puts, Option.some.injEq] at hp
                subst hp
                have g4' := g4 w rfl
                refine ⟨_, w, ρ, ?_, .refl _ _ _, hH, rfl, .refl _⟩
                simp [Builtin.copy_, run_und hT hu, hl, run_size hT hs, hmin, g4', storeCells, goInt]
              · obtain rfl : ro = pl.base + off := k5 (by omega)
                obtain ⟨m1, m2⟩ := run_puts (P := P) hH k1 g1 hp
                have g4' := g4 w rfl
                refine ⟨_, _, ρ, ?_, post_puts hH k1 g1 hp, m2, rfl, .puts hp⟩
                simp [Builtin.copy_, run_und hT hu, hl, run_size hT hs, hmin, g4', m1, goInt]
            · cases h
          · cases h
        · cases h
      · cases h
    · cases h
  · cases h

end
end Go.Vm
