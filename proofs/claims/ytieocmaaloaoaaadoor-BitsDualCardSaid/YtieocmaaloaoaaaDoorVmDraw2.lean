/- The regions that draw their order against the model's. -/
import Derived.Test.YtieocmaaloaoaaaDoorVmDraw
namespace Go.Vm
set_option linter.unusedSimpArgs false
set_option linter.unusedVariables false
set_option linter.unusedSectionVars false

theorem countP_lt {α : Type} (p q : α → Bool) (h : ∀ x, q x = true → p x = true) : ∀ (l : List α) (i : α), i ∈ l → p i = true → q i = false → l.countP q < l.countP p
  | [], _, hm, _, _ => by cases hm
  | x :: l, i, hm, hp, hq => by
    have hle : ∀ l : List α, l.countP q ≤ l.countP p := fun l => List.countP_mono_left fun x _ hx => h x hx
    rcases List.mem_cons.1 hm with rfl | hm
    · rw [List.countP_cons, List.countP_cons]
      simp only [hp, hq, if_true]
      have := hle l
      simp
      omega
    · have ih := countP_lt p q h l i hm hp hq
      rw [List.countP_cons, List.countP_cons]
      have : (if q x = true then 1 else 0) ≤ (if p x = true then 1 else 0) := by
        by_cases hx : q x = true
        · simp [hx, h x hx]
        · simp [hx]
      omega

section
variable {ops : Array Oper} {listed : Array Bool}
theorem ready_spec (i : Nat) : i ∈ Region.ready .any ops listed ↔ i < ops.size ∧ listed.getD i true = false ∧ ∃ o, ops[i]? = some o ∧ ∀ e ∈ o.after.toList, Region.binds .any e = true → listed.getD e.on false = true := by
  unfold Region.ready
  rw [List.mem_filter, List.mem_range]
  refine and_congr_right fun hi => ?_
  rw [Bool.and_eq_true, Bool.not_eq_true']
  refine and_congr_right fun _ => ?_
  rw [Array.getElem?_eq_getElem hi]
  simp only [Option.map_some, Option.getD_some, Option.some.injEq, exists_eq_left', Array.all_eq_true_iff_forall_mem, Array.mem_toList_iff]
  constructor
  · intro h e he hb
    have := h e he
    simpa [hb] using this
  · intro h e he
    cases hb : Region.binds .any e with
    | false => rfl
    | true => simp [h e he hb]
theorem getD_false_true (hs : listed.size = ops.size) {i : Nat} (hi : i < ops.size) : listed.getD i true = listed.getD i false := by
  rw [Array.getD_eq_getD_getElem?, Array.getD_eq_getD_getElem?, Array.getElem?_eq_getElem (by omega)]
  rfl
theorem getD_set (hs : listed.size = ops.size) {i : Nat} (hi : i < ops.size) (j : Nat) (b : Bool) : (listed.setIfInBounds i true).getD j b = if j = i then true else listed.getD j b := by
  rw [Array.getD_eq_getD_getElem?, Array.getD_eq_getD_getElem?, Array.getElem?_setIfInBounds]
  by_cases e : i = j
  · subst e; simp [hs, hi]
  · rw [if_neg e, if_neg (fun h => e h.symm)]
/-- If nothing is ready, all is done. -/
theorem ready_nil (hR : RegOk ops) (hs : listed.size = ops.size) (h : Region.ready .any ops listed = []) : ∀ i, i < ops.size → listed.getD i false = true := by
  intro i
  induction i using Nat.strongRecOn with
  | _ i ih =>
    intro hi
    cases hl : listed.getD i false with
    | true => rfl
    | false =>
      have : i ∈ Region.ready .any ops listed := (ready_spec i).2 ⟨hi, by rw [getD_false_true hs hi]; exact hl, ops[i], Array.getElem?_eq_getElem hi, fun e he hb => by
        have hlt := hR.edges i ops[i] (Array.getElem?_eq_getElem hi) e he hb
        exact ih e.on hlt (by omega)⟩
      rw [h] at this
      cases this
end

theorem guard_congr {ops : Array Oper} {o : Oper} {f g : Fr} (h : ∀ t ∈ o.looksAt ops, f.regs.get t = g.regs.get t) : guardOf ops o f = guardOf ops o g := by
  unfold guardOf
  split
  · rfl
  · rename_i j want e
    split
    · rfl
    · rename_i d e2
      rw [h d (List.mem_append_right _ (by simp [e, e2]))]

section
variable {T : Tb} {P : Program} (hT : TbOk T P) {callF : Nat → List AV → VH → Option (AV × VH)} (hC : CallsOk P T callF) (hCH : CallsHs callF) {promo : Nat → Bool} {ops : Array Oper} (hR : RegOk ops)
variable {ρ0 : Rho} {w0 : World} {H0 : VH} {G : Nat → Prop} {n0 : Nat} {F : Nat → Fr} {Hh : Nat → VH} {tg : Nat → Tag} {rs : Nat → RV} (hTr : Trace T callF promo ops (Region.before ops) F Hh tg rs) (hwf : WfH (Hh 0))

include hT hC hCH hR hTr hwf in
theorem any_sim {Q : Exit → Act → World → Prop} (hQ : ∀ a w ρ lam, Inv T ρ0 w0 H0 G n0 (F ops.size) (Hh ops.size) a w ρ lam → Q .normal a w) :
    ∀ (fuel : Nat) (listed : Array Bool) (a : Act) (w : World) (f : Fr) (K : VH) (ρ : Rho) (lam : Nat → Option Nat), listed.size = ops.size → (List.range ops.size).countP (fun i => !listed.getD i true) ≤ fuel →
      Done ops F Hh tg rs (fun i => listed.getD i false = true) f K → Inv T ρ0 w0 H0 G n0 f K a w ρ lam → wpAny P .any ops Q fuel listed a w := by
  have fin : ∀ (listed : Array Bool) (a : Act) (w : World) (f : Fr) (K : VH) (ρ : Rho) (lam : Nat → Option Nat), listed.size = ops.size → (∀ i, i < ops.size → listed.getD i false = true) →
      Done ops F Hh tg rs (fun i => listed.getD i false = true) f K → Inv T ρ0 w0 H0 G n0 f K a w ρ lam → Q .normal a w := by
    intro listed a w f K ρ lam hs hall hD hI
    obtain ⟨h1, h2, h3, h4, rfl⟩ := Done.finish hTr hR hD hall
    exact hQ a w ρ lam ⟨hI.post, hI.frame.congr h1 h2 h3 h4, hI.mem, hI.heap, hI.defers, hI.low, hI.glob⟩
  intro fuel
  induction fuel with
  | zero =>
    intro listed a w f K ρ lam hs hcnt hD hI
    have hall : ∀ i, i < ops.size → listed.getD i false = true := fun i hi => by
      have h0 : (List.range ops.size).countP (fun i => !listed.getD i true) = 0 := by omega
      rw [List.countP_eq_zero] at h0
      have := h0 i (List.mem_range.2 hi)
      rw [← getD_false_true hs hi]
      simpa using this
    refine ⟨?_, fin listed a w f K ρ lam hs hall hD hI⟩
    apply List.eq_nil_iff_forall_not_mem.2
    intro i hm
    obtain ⟨hi, h1, _⟩ := (ready_spec i).1 hm
    rw [getD_false_true hs hi, hall i hi] at h1
    cases h1
  | succ fuel ih =>
    intro listed a w f K ρ lam hs hcnt hD hI
    refine ⟨fun hnil => fin listed a w f K ρ lam hs (ready_nil hR hs hnil) hD hI, fun i hm => ?_⟩
    obtain ⟨hi, hun, o, ho, hafter⟩ := (ready_spec i).1 hm
    have hn : ¬ listed.getD i false = true := by rw [← getD_false_true hs hi, hun]; simp
    have hready : ∀ j, ((Region.before ops).getD i 0).testBit j = true → listed.getD j false = true := by
      intro j hj
      obtain ⟨e, he, hb, h1⟩ := before_spec ho hj
      have hl := hafter e he hb
      rcases h1 with rfl | h1
      · exact hl
      · refine hD.closed e.on ?_ hl j h1
        have := hR.edges i o ho e he hb
        omega
    have hdst : dstAt ops i = o.dst := by simp [dstAt, ho]
    have next : ∀ (fr0 f' : Fr) (K' : VH) (a' : Act) (w' : World) (ρ' : Rho) (lam' : Nat → Option Nat), Moved (tg i) (F i) fr0 f f' (Hh i) (Hh (i + 1)) K K' → F (i + 1) = fr0.put (dstAt ops i) (rs i) →
        Inv T ρ0 w0 H0 G n0 (f'.put o.dst (rs i)) K' a' w' ρ' lam' → wpAny P .any ops Q fuel (listed.setIfInBounds i true) a' w' := by
      intro fr0 f' K' a' w' ρ' lam' hmv hF hI'
      have hD' := Done.step hTr hR hD hi hn hready hmv hF
      rw [hdst] at hD'
      refine ih _ a' w' _ K' ρ' lam' (by simp [hs]) ?_ ?_ hI'
      · have := countP_lt (fun j => !listed.getD j true) (fun j => !(listed.setIfInBounds i true).getD j true) (fun j hj => by
          rw [getD_set hs hi] at hj
          split at hj
          · cases hj
          · exact hj) (List.range ops.size) i (List.mem_range.2 hi) (by simp [hun]) (by rw [getD_set hs hi]; simp)
        omega
      · have e : (fun j => (listed.setIfInBounds i true).getD j false = true) = (fun j => listed.getD j false = true ∨ j = i) := by
          funext j
          rw [getD_set hs hi]
          by_cases e : j = i
          · simp [e]
          · simp [e]
        rw [e]
        exact hD'
    have hregs := Done.regs hTr hR hD hi ho hn hready
    unfold wpOp
    simp only [ho]
    obtain ⟨o', ho', h | h⟩ := hTr.step i hi
    · rw [ho] at ho'
      obtain rfl := Option.some.inj ho'
      obtain ⟨hg, fr0, hst, htg, hF⟩ := h
      rw [← guard_congr hregs] at hg
      rw [guard_sim hI.frame hg]
      simp only [if_true]
      have hA := Done.agree hTr hR hCH hwf hD hi ho hn hready
      rw [htg] at hA
      obtain ⟨f', K', h1, h2⟩ := step_local hst hA
      rw [← htg] at h2
      exact .inl (step_sim hT hC hI.glob hI.frame hI.mem hI.low h1 fun u w' ρ' lam' hgot => next fr0 f' K' _ _ _ _ h2 (by rw [hdst]; exact hF) (hI.got hgot o.dst))
    · rw [ho] at ho'
      obtain rfl := Option.some.inj ho'
      obtain ⟨hg, hrs, htg, hH, hF⟩ := h
      rw [← guard_congr hregs] at hg
      rw [guard_sim hI.frame hg]
      simp only [Bool.false_eq_true, if_false]
      refine next (F i) f K _ _ _ _ ?_ (by rw [hdst]; exact hF) (by rw [hrs]; exact hI.skip o.dst)
      rw [htg, hH]
      exact .quiet (fun _ h => h) (fun h => h)
end

theorem draw_ok {T : Tb} {P : Program} (hT : TbOk T P) {callF : Nat → List AV → VH → Option (AV × VH)} (hC : CallsOk P T callF) (hCH : CallsHs callF) {promo : Nat → Bool} {ops : Array Oper} (hR : RegOk ops) : DrawOk P T callF promo ops := by
  intro id ρ0 w0 H0 G n0 fr H ex fr' H' a w ρ lam Q h hI hQ
  unfold cRegion at h
  simp only at h
  split at h
  · rename_i fr1 H1 h1
    simp only [Option.some.injEq, Prod.mk.injEq] at h
    obtain ⟨rfl, rfl, rfl⟩ := h
    obtain ⟨F, Hh, tg, rs, e1, e2, e3, e4, _, e6, e7⟩ := trace_of (bef := Region.before ops) ops.toList 0 [] fr H rfl (Nat.zero_le _) rfl h1
    subst e1 e2 e3 e4
    have hTr : Trace T callF promo ops (Region.before ops) F Hh tg rs := ⟨fun k hk => e6 k (Nat.zero_le _) hk, fun i k hik hk => e7 i k hik (Nat.zero_le _) hk⟩
    refine wp_region_any hT.mixed (any_sim hT hC hCH hR hTr (fun b x hx => hI.mem.lt b x hx) (fun a w ρ lam hI' => hQ a w ρ lam hI') ops.size _ a _ _ _ ρ lam (by simp) ?_ ?_ hI.drawn)
    · refine Nat.le_trans List.countP_le_length ?_
      simp
    · have : (fun i => (Array.replicate ops.size false).getD i false = true) = fun _ => False := by
        funext i
        rw [Array.getD_eq_getD_getElem?]
        by_cases hi : i < ops.size
        · simp [hi]
        · simp [hi]
      rw [this]
      exact Done.start hTr
  · cases h

/-! ## The check of a region's text -/
def idxAll (p : Nat → Oper → Bool) : Nat → List Oper → Bool
  | _, [] => true
  | k, o :: os => p k o && idxAll p (k + 1) os
theorem idxAll_spec {p : Nat → Oper → Bool} : ∀ {os : List Oper} {k : Nat}, idxAll p k os = true → ∀ i o, os[i]? = some o → p (k + i) o = true
  | [], _, _, i, o, h => by simp at h
  | x :: os, k, h, i, o, ho => by
    simp only [idxAll, Bool.and_eq_true] at h
    cases i with
    | zero => simp only [List.getElem?_cons_zero, Option.some.injEq] at ho; subst ho; exact h.1
    | succ i =>
      have := idxAll_spec h.2 i o (by simpa using ho)
      rwa [show k + 1 + i = k + (i + 1) by omega] at this

/-- Two operations of a region: different results; and what one looks at of the other is ordered. -/
def pairOk (ops : Array Oper) (bef : Array Nat) (i : Nat) (x : Oper) (j : Nat) (y : Oper) : Bool :=
  match Nat.beq i j, x.dst with
  | true, _ => true
  | false, none => true
  | false, some d =>
    !(y.dst == some d) && (!(y.looksAt ops).contains d || (if Nat.blt i j then (bef.getD j 0).testBit i else (bef.getD i 0).testBit j))
def edgesOk (k : Nat) (o : Oper) : Bool := o.after.toList.all fun e => !Region.binds .any e || Nat.blt e.on k
def regOk (ops : Array Oper) : Bool :=
  idxAll edgesOk 0 ops.toList && idxAll (fun i x => idxAll (pairOk ops (Region.before ops) i x) 0 ops.toList) 0 ops.toList
theorem regOk_spec {ops : Array Oper} (h : regOk ops = true) : RegOk ops := by
  simp only [regOk, Bool.and_eq_true] at h
  obtain ⟨h1, h2⟩ := h
  have pair : ∀ i j x y, ops[i]? = some x → ops[j]? = some y → pairOk ops (Region.before ops) i x j y = true := fun i j x y hx hy => by
    have := idxAll_spec h2 i x (by simpa using hx)
    rw [Nat.zero_add] at this
    have := idxAll_spec this j y (by simpa using hy)
    rwa [Nat.zero_add] at this
  refine ⟨fun k o ho e he hb => ?_, fun i j d hi hj hdi hdj => ?_, fun i j d o hi hne hd ho hl => ?_⟩
  · have := idxAll_spec h1 k o (by simpa using ho)
    rw [Nat.zero_add] at this
    have := List.all_eq_true.1 this e he
    simpa [hb] using this
  · have hx := Array.getElem?_eq_getElem hi
    have hy := Array.getElem?_eq_getElem hj
    have hp := pair i j _ _ hx hy
    simp only [dstAt, hx, hy, Option.bind_some] at hdi hdj
    by_cases e : i = j
    · exact e
    · exfalso
      have e' : Nat.beq i j = false := by
        cases hb : Nat.beq i j with
        | false => rfl
        | true => exact (e (Nat.eq_of_beq_eq_true hb)).elim
      simp [pairOk, e', hdi, hdj] at hp
  · have hx := Array.getElem?_eq_getElem hi
    have hp := pair i j _ _ hx ho
    simp only [dstAt, hx, Option.bind_some] at hd
    have e' : Nat.beq i j = false := by
      cases hb : Nat.beq i j with
      | false => rfl
      | true => exact (hne (Nat.eq_of_beq_eq_true hb)).elim
    simp only [pairOk, e', hd, Bool.and_eq_true, Bool.or_eq_true] at hp
    have hc : (o.looksAt ops).contains d = true := List.contains_iff_mem.2 hl
    rw [hc] at hp
    have hp2 := hp.2.resolve_left (by simp)
    refine ⟨fun hlt => ?_, fun hlt => ?_⟩
    · rw [if_pos (by simpa using hlt)] at hp2; exact hp2
    · rw [if_neg (by simp; omega)] at hp2; exact hp2

/-- The check of a function's text. -/
noncomputable def codeOk (c : Code) : Bool :=
  Code.rec (motive := fun _ => Bool) true (fun _ ops d => match d with | true => regOk ops | false => true) (fun _ _ a b => a && b) (fun _ _ _ a b => a && b) (fun _ _ c => c)
    (fun _ c => c) (fun _ _ _ _ _ _ => true) (fun _ => true) (fun _ _ => true) (fun _ => true) (fun _ => true) true (fun _ => true) c
theorem codeOk_spec {T : Tb} {P : Program} (hT : TbOk T P) {callF : Nat → List AV → VH → Option (AV × VH)} (hC : CallsOk P T callF) (hCH : CallsHs callF) {promo : Nat → Bool} : ∀ c, codeOk c = true → allDraw (DrawOk P T callF promo) c
  | .skip, _ => trivial
  | .region _ ops d, h => fun hd => by subst hd; exact draw_ok hT hC hCH (regOk_spec h)
  | .seq a b, h => by
    have : (codeOk a && codeOk b) = true := h
    simp only [Bool.and_eq_true] at this
    exact ⟨codeOk_spec hT hC hCH a this.1, codeOk_spec hT hC hCH b this.2⟩
  | .cond _ a b, h => by
    have : (codeOk a && codeOk b) = true := h
    simp only [Bool.and_eq_true] at this
    exact ⟨codeOk_spec hT hC hCH a this.1, codeOk_spec hT hC hCH b this.2⟩
  | .block _ c, h => codeOk_spec hT hC hCH c h
  | .loop c, h => codeOk_spec hT hC hCH c h
  | .rangeFunc .., _ => trivial
  | .exit _, _ => trivial
  | .scope _, _ => trivial
  | .label _, _ => trivial
  | .goto _, _ => trivial
  | .ret, _ => trivial
  | .refuse _, _ => trivial
end Go.Vm
