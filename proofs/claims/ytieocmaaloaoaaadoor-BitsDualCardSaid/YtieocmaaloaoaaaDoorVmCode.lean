/- The abstract machine's code against the model's. -/
import Derived.Test.YtieocmaaloaoaaaDoorVmRun
namespace Go.Vm
set_option linter.unusedSimpArgs false
set_option linter.unusedVariables false
set_option linter.unusedSectionVars false
def exOf : Ex → Exit
  | .normal => .normal
  | .ret => .ret
  | .exit i => .exit i

/-- What is shown of a piece of code. -/
def RunOk (P : Program) (T : Tb) (c : Code) (run : Run) : Prop :=
  ∀ (ρ0 : Rho) (w0 : World) (H0 : VH) (G : Nat → Prop) (n0 : Nat) (fr : Fr) (H : VH) (ex : Ex) (fr' : Fr) (H' : VH) (a : Act) (w : World) (ρ : Rho) (lam : Nat → Option Nat) (Q : Exit → Act → World → Prop),
    run fr H = some (ex, fr', H') → Inv T ρ0 w0 H0 G n0 fr H a w ρ lam → (∀ a' w' ρ' lam', Inv T ρ0 w0 H0 G n0 fr' H' a' w' ρ' lam' → Q (exOf ex) a' w') → c.wp P Q a w

theorem Inv.drawn {T : Tb} {ρ0 : Rho} {w0 : World} {H0 : VH} {G : Nat → Prop} {n0 : Nat} {fr : Fr} {H : VH} {a : Act} {w : World} {ρ : Rho} {lam : Nat → Option Nat} (hI : Inv T ρ0 w0 H0 G n0 fr H a w ρ lam) :
    Inv T ρ0 w0 H0 G n0 fr H a { w with drawn := w.drawn + 1 } ρ lam :=
  ⟨post_of hI.post rfl rfl rfl rfl, hI.frame.post (post_of (.refl _ _ _) rfl rfl rfl rfl), hI.mem.of_heap rfl, hI.heap, hI.defers, hI.low, hI.glob⟩

theorem seq_ok {P : Program} {T : Tb} {x y : Code} {rx ry : Run} (hx : RunOk P T x rx) (hy : RunOk P T y ry) : RunOk P T (.seq x y) (cSeq rx ry) := by
  intro ρ0 w0 H0 G n0 fr H ex fr' H' a w ρ lam Q h hI hQ
  refine wp_seq ?_
  unfold cSeq loopStep at h
  split at h
  · rename_i fr1 H1 h1
    exact hx _ _ _ _ _ _ _ _ _ _ _ _ _ _ _ h1 hI fun a' w' ρ' lam' hI' => hy _ _ _ _ _ _ _ _ _ _ _ _ _ _ _ h hI' hQ
  · rename_i hne
    refine hx _ _ _ _ _ _ _ _ _ _ _ _ _ _ _ h hI fun a' w' ρ' lam' hI' => ?_
    cases ex with
    | normal => exact (hne _ _ h).elim
    | ret => exact hQ _ _ _ _ hI'
    | exit i => exact hQ _ _ _ _ hI'

theorem rounds_ok {P : Program} {T : Tb} {c : Code} {run : Run} (hc : RunOk P T c run) : ∀ n (ρ0 : Rho) (w0 : World) (H0 : VH) (G : Nat → Prop) (n0 : Nat) (fr : Fr) (H : VH) (ex : Ex) (fr' : Fr) (H' : VH) (a : Act) (w : World) (ρ : Rho) (lam : Nat → Option Nat) (Q : Exit → Act → World → Prop),
    vloop run n fr H = some (ex, fr', H') → Inv T ρ0 w0 H0 G n0 fr H a w ρ lam → (∀ a' w' ρ' lam', Inv T ρ0 w0 H0 G n0 fr' H' a' w' ρ' lam' → Q (exOf ex) a' w') → Code.rounds P c Q n a w
  | 0, _, _, _, _, _, _, _, _, _, _, _, _, _, _, _, h, _, _ => by simp [vloop] at h
  | n + 1, ρ0, w0, H0, G, n0, fr, H, ex, fr', H', a, w, ρ, lam, Q, h, hI, hQ => by
    rw [rounds_succ]
    change loopStep run (vloop run n) fr H = some (ex, fr', H') at h
    unfold loopStep at h
    split at h
    · rename_i fr1 H1 h1
      exact hc _ _ _ _ _ _ _ _ _ _ _ _ _ _ _ h1 hI fun a' w' ρ' lam' hI' => rounds_ok hc n _ _ _ _ _ _ _ _ _ _ _ _ _ _ _ h hI' hQ
    · rename_i hne
      refine hc _ _ _ _ _ _ _ _ _ _ _ _ _ _ _ h hI fun a' w' ρ' lam' hI' => ?_
      cases ex with
      | normal => exact (hne _ _ h).elim
      | ret => exact hQ _ _ _ _ hI'
      | exit i => exact hQ _ _ _ _ hI'
theorem loop_ok {P : Program} {T : Tb} {c : Code} {run : Run} (hc : RunOk P T c run) (n : Nat) : RunOk P T (.loop c) (vloop run n) :=
  fun ρ0 w0 H0 G n0 fr H ex fr' H' a w ρ lam Q h hI hQ => wp_loop_rounds n (rounds_ok hc n _ _ _ _ _ _ _ _ _ _ _ _ _ _ _ h hI hQ)

theorem cond_ok {P : Program} {T : Tb} {c : Operand} {x y : Code} {rx ry : Run} (hx : RunOk P T x rx) (hy : RunOk P T y ry) : RunOk P T (.cond c x y) (cCond c rx ry) := by
  intro ρ0 w0 H0 G n0 fr H ex fr' H' a w ρ lam Q h hI hQ
  unfold cCond at h
  split at h
  · rename_i hc
    exact wp_cond_true (show a.eval c = .bool true from eva_rel hI.frame hc) (hx _ _ _ _ _ _ _ _ _ _ _ _ _ _ _ h hI hQ)
  · rename_i hc
    exact wp_cond_false (show a.eval c = .bool false from eva_rel hI.frame hc) (hy _ _ _ _ _ _ _ _ _ _ _ _ _ _ _ h hI hQ)
  · cases h

theorem block_ok {P : Program} {T : Tb} {id : Nat} {x : Code} {rx : Run} (hx : RunOk P T x rx) : RunOk P T (.block id x) (cBlock id rx) := by
  intro ρ0 w0 H0 G n0 fr H ex fr' H' a w ρ lam Q h hI hQ
  refine wp_block ?_
  unfold cBlock at h
  split at h
  · rename_i i fr1 H1 h1
    split at h
    · rename_i e
      simp only [Option.some.injEq, Prod.mk.injEq] at h
      obtain ⟨rfl, rfl, rfl⟩ := h
      refine hx _ _ _ _ _ _ _ _ _ _ _ _ _ _ _ h1 hI fun a' w' ρ' lam' hI' => ?_
      show (if i = id then _ else _)
      rw [if_pos (Nat.eq_of_beq_eq_true e)]
      exact hQ _ _ _ _ hI'
    · rename_i e
      simp only [Option.some.injEq, Prod.mk.injEq] at h
      obtain ⟨rfl, rfl, rfl⟩ := h
      refine hx _ _ _ _ _ _ _ _ _ _ _ _ _ _ _ h1 hI fun a' w' ρ' lam' hI' => ?_
      show (if i = id then _ else _)
      rw [if_neg (fun h => e (by rw [h]; simp))]
      exact hQ _ _ _ _ hI'
  · rename_i hne
    refine hx _ _ _ _ _ _ _ _ _ _ _ _ _ _ _ h hI fun a' w' ρ' lam' hI' => ?_
    cases ex with
    | normal => exact hQ _ _ _ _ hI'
    | ret => exact hQ _ _ _ _ hI'
    | exit i => exact (hne _ _ _ h).elim

/-- What is to be shown of the regions that draw their order. -/
def DrawOk (P : Program) (T : Tb) (callF : Nat → List AV → VH → Option (AV × VH)) (promo : Nat → Bool) (ops : Array Oper) : Prop :=
  ∀ id, RunOk P T (.region id ops true) (cRegion T callF promo ops true)
/-- All regions of a piece of code that draw their order. -/
def allDraw (p : Array Oper → Prop) : Code → Prop
  | .skip => True
  | .region _ ops d => d = true → p ops
  | .seq a b => allDraw p a ∧ allDraw p b
  | .cond _ a b => allDraw p a ∧ allDraw p b
  | .block _ c => allDraw p c
  | .loop c => allDraw p c
  | _ => True

theorem code_ok {P : Program} {T : Tb} (hT : TbOk T P) {callF : Nat → List AV → VH → Option (AV × VH)} (hC : CallsOk P T callF) {promo : Nat → Bool} (n : Nat) (c : Code) (hd : allDraw (DrawOk P T callF promo) c) : RunOk P T c (vcode T callF promo n c) := by
  induction c with
  | skip =>
    intro ρ0 w0 H0 G n0 fr H ex fr' H' a w ρ lam Q h hI hQ
    simp only [vcode, cEx, Option.some.injEq, Prod.mk.injEq] at h
    obtain ⟨rfl, rfl, rfl⟩ := h
    exact wp_skip (hQ _ _ _ _ hI)
  | region id ops d =>
    cases d with
    | true => exact hd rfl id
    | false =>
      intro ρ0 w0 H0 G n0 fr H ex fr' H' a w ρ lam Q h hI hQ
      change cRegion T callF promo ops false fr H = some (ex, fr', H') at h
      unfold cRegion at h
      simp only at h
      split at h
      · rename_i fr1 H1 h1
        simp only [Option.some.injEq, Prod.mk.injEq] at h
        obtain ⟨rfl, rfl, rfl⟩ := h
        exact wp_region (ops_sim0 hT hC h1 hI hQ)
      · cases h
  | seq a b iha ihb => exact seq_ok (iha hd.1) (ihb hd.2)
  | cond c a b iha ihb => exact cond_ok (iha hd.1) (ihb hd.2)
  | block id c ih => exact block_ok (ih hd)
  | loop c ih => exact loop_ok (ih hd) n
  | exit id =>
    intro ρ0 w0 H0 G n0 fr H ex fr' H' a w ρ lam Q h hI hQ
    simp only [vcode, cEx, Option.some.injEq, Prod.mk.injEq] at h
    obtain ⟨rfl, rfl, rfl⟩ := h
    exact wp_exit (hQ _ _ _ _ hI)
  | label l =>
    intro ρ0 w0 H0 G n0 fr H ex fr' H' a w ρ lam Q h hI hQ
    simp only [vcode, cEx, Option.some.injEq, Prod.mk.injEq] at h
    obtain ⟨rfl, rfl, rfl⟩ := h
    exact wp_label (hQ _ _ _ _ hI)
  | ret =>
    intro ρ0 w0 H0 G n0 fr H ex fr' H' a w ρ lam Q h hI hQ
    simp only [vcode, cEx, Option.some.injEq, Prod.mk.injEq] at h
    obtain ⟨rfl, rfl, rfl⟩ := h
    exact wp_ret (hQ _ _ _ _ hI)
  | _ =>
    intro ρ0 w0 H0 G n0 fr H ex fr' H' a w ρ lam Q h hI hQ
    exact absurd h (by simp [vcode, cNone])

/-! ## What a call leaves behind -/
mutual
theorem VR.back {ρ ρ' : Rho} (h : ρ.le ρ') : ∀ (a : AV) (u u0 : Value), VR ρ a u0 → VR ρ' a u → VR ρ a u
  | .undef, _, _, _, _ => trivial
  | .bool _, _, _, _, e => e
  | .int _ _, _, _, _, e => e
  | .str _, _, _, _, e => e
  | .ptr none, _, _, _, e => e
  | .ptr (some _), _, _, ⟨pl, e, _⟩, ⟨pl', e', r⟩ => by
    have := h _ _ e
    rw [e'] at this
    obtain rfl := Option.some.inj this
    exact ⟨_, e, r⟩
  | .slice none _ _ _, _, _, _, e => e
  | .slice (some _) _ _ _, _, _, ⟨pl, _, _, e, _⟩, ⟨pl', ro, rc, e', r⟩ => by
    have := h _ _ e
    rw [e'] at this
    obtain rfl := Option.some.inj this
    exact ⟨_, ro, rc, e, r⟩
  | .map none, _, _, _, e => e
  | .map (some _), _, _, ⟨pl, e, _⟩, ⟨pl', e', r⟩ => by
    have := h _ _ e
    rw [e'] at this
    obtain rfl := Option.some.inj this
    exact ⟨_, e, r⟩
  | .func _ fs cs, _, _, ⟨a, b, _, r, s⟩, ⟨a', b', e', r', s'⟩ => ⟨a', b', e', VRs.back h fs _ _ r r', VRs.back h cs _ _ s s'⟩
  | .nilFunc, _, _, _, e => e
  | .iface _ x, _, _, ⟨_, _, r⟩, ⟨u, e', r'⟩ => ⟨u, e', VR.back h x _ _ r r'⟩
  | .nilIface, _, _, _, e => e
  | .agg cs, _, _, ⟨_, _, r, _⟩, ⟨a, e', r', s'⟩ => ⟨a, e', VRs.back h cs _ _ r r', s'⟩
  | .tuple cs, _, _, ⟨_, _, r⟩, ⟨a, e', r'⟩ => ⟨a, e', VRs.back h cs _ _ r r'⟩
theorem VRs.back {ρ ρ' : Rho} (h : ρ.le ρ') : ∀ (as : List AV) (us u0s : List Value), VRs ρ as u0s → VRs ρ' as us → VRs ρ as us
  | [], _, _, _, e => e
  | a :: as, _, _, ⟨_, _, _, r, s⟩, ⟨u, us, e', r', s'⟩ => ⟨u, us, e', VR.back h a _ _ r r', VRs.back h as _ _ s s'⟩
end

mutual
theorem flat_rel {ρ ρ' : Rho} : ∀ (a : AV) (u : Value), flat a = true → VR ρ a u → VR ρ' a u
  | .undef, _, h, _ => by simp [flat] at h
  | .bool _, _, _, e => e
  | .int _ _, _, _, e => e
  | .str _, _, _, e => e
  | .ptr none, _, _, e => e
  | .ptr (some _), _, h, _ => by simp [flat] at h
  | .slice none _ _ _, _, _, e => e
  | .slice (some _) _ _ _, _, h, _ => by simp [flat] at h
  | .map none, _, _, e => e
  | .map (some _), _, h, _ => by simp [flat] at h
  | .func _ _ _, _, h, _ => by simp [flat] at h
  | .nilFunc, _, _, e => e
  | .iface _ _, _, h, _ => by simp [flat] at h
  | .nilIface, _, _, e => e
  | .agg cs, _, h, ⟨a, e, r, s⟩ => ⟨a, e, flats_rel cs _ (by simpa [flat] using h) r, s⟩
  | .tuple cs, _, h, ⟨a, e, r⟩ => ⟨a, e, flats_rel cs _ (by simpa [flat] using h) r⟩
theorem flats_rel {ρ ρ' : Rho} : ∀ (as : List AV) (us : List Value), flats as = true → VRs ρ as us → VRs ρ' as us
  | [], _, _, e => e
  | a :: as, _, h, ⟨u, us, e, r, s⟩ => by
    simp only [flats, Bool.and_eq_true] at h
    exact ⟨u, us, e, flat_rel a u h.1 r, flats_rel as us h.2 s⟩
end

/-- What is old stays, if no old block is among the changed ones. -/
def Kept (n0 : Nat) (H0 H : VH) : Prop :=
  n0 ≤ H.low → (∀ b, b < n0 → H.get b = H0.get b) ∧ (∀ l, l < n0 → H.from_ l = H0.from_ l) ∧ (∀ b r, n0 ≤ b → H.row? b = some r → n0 ≤ r.lin)

theorem from_cutIf (H : VH) (q : Bool) (lin gen l : Nat) (h : l ≠ lin) : (H.cutIf q lin gen).from_ l = H.from_ l := by
  cases q with
  | true => rfl
  | false => show (H.cut lin gen).from_ l = _; rw [from_cut, if_neg h]
theorem get_cutIf (H : VH) (q : Bool) (lin gen b : Nat) : (H.cutIf q lin gen).get b = H.get b := by
  cases q with
  | true => rfl
  | false => exact get_cut _ _ _ _
theorem next_cutIf (H : VH) (q : Bool) (lin gen : Nat) : (H.cutIf q lin gen).next = H.next := by
  cases q with
  | true => rfl
  | false => exact next_cut _ _ _
theorem low_cutIf (H : VH) (q : Bool) (lin gen : Nat) : (H.cutIf q lin gen).low = H.low := by
  cases q with
  | true => rfl
  | false => exact low_cut _ _ _
theorem row_of_get {H H' : VH} {b : Nat} (h : H'.get b = H.get b) : H'.row? b = H.row? b := by unfold VH.row?; rw [h]

theorem Hs.kept {H H' : VH} (h : Hs H H') : H.next ≤ H'.next ∧ ∀ n0 H0, n0 ≤ H.next → Kept n0 H0 H → H'.low ≤ H.low ∧ Kept n0 H0 H' := by
  induction h with
  | refl H => exact ⟨Nat.le_refl _, fun n0 H0 _ k => ⟨Nat.le_refl _, k⟩⟩
  | trans _ _ ih1 ih2 =>
    refine ⟨Nat.le_trans ih1.1 ih2.1, fun n0 H0 hn k => ?_⟩
    obtain ⟨a1, a2⟩ := ih1.2 n0 H0 hn k
    obtain ⟨b1, b2⟩ := ih2.2 n0 H0 (Nat.le_trans hn ih1.1) a2
    exact ⟨Nat.le_trans b1 a1, b2⟩
  | @put H H' b o v hp =>
    obtain ⟨r, hr, rfl⟩ : ∃ r, H.row? b = some r ∧ H' = (H.cut r.lin r.gen).set b (.row { r with t := r.t.set o v, ver := r.ver + 1 }) := by
      unfold VH.put at hp
      split at hp
      · rename_i r hr
        split at hp
        · exact ⟨r, hr, (Option.some.inj hp).symm⟩
        · cases hp
      · cases hp
    refine ⟨by show H.next ≤ (H.cut r.lin r.gen).next; rw [next_cut]; exact Nat.le_refl _, fun n0 H0 hn k => ⟨by show min (H.cut r.lin r.gen).low b ≤ H.low; rw [low_cut]; omega, fun hl => ?_⟩⟩
    have hl' : n0 ≤ min H.low b := by
      have : n0 ≤ min (H.cut r.lin r.gen).low b := hl
      rwa [low_cut] at this
    obtain ⟨k1, k2, k3⟩ := k (by omega)
    have hlin := k3 b r (by omega) hr
    refine ⟨fun b' hb' => ?_, fun l hl => ?_, fun b' r' hb' hr' => ?_⟩
    · rw [get_vset, if_neg (by omega), get_cut]; exact k1 b' hb'
    · rw [from_vset, from_cut, if_neg (by omega)]; exact k2 l hl
    · rw [row?_vset] at hr'
      split at hr'
      · obtain rfl := Option.some.inj hr'
        exact hlin
      · rw [row?_cut] at hr'
        exact k3 b' r' hb' hr'
  | fresh H cs =>
    refine ⟨Nat.le_succ _, fun n0 H0 hn k => ⟨Nat.le_refl _, fun hl => ?_⟩⟩
    obtain ⟨k1, k2, k3⟩ := k hl
    refine ⟨fun b' hb' => ?_, fun l hl => ?_, fun b' r' hb' hr' => ?_⟩
    · show (H.alloc _).get b' = _
      rw [get_valloc, if_neg (by omega)]; exact k1 b' hb'
    · exact k2 l hl
    · have hr2 : (H.alloc (.row { n := cs.length, t := Tr.ofList cs, live := true, lin := H.next, gen := 0, ver := 0 })).row? b' = some r' := hr'
      rw [row?_valloc] at hr2
      split at hr2
      · obtain rfl := Option.some.inj hr2
        exact hn
      · exact k3 b' r' hb' hr2
  | @grow H b r q n t hr hlive =>
    have hnx : (H.cutIf q r.lin (r.gen + 1)).next = H.next := next_cutIf _ _ _ _
    have hlw : ((H.cutIf q r.lin (r.gen + 1)).grow b r n t).low = min H.low b := by
      show min (H.cutIf q r.lin (r.gen + 1)).low b = _
      rw [low_cutIf]
    refine ⟨by show H.next ≤ (H.cutIf q r.lin (r.gen + 1)).next + 1; rw [hnx]; omega, fun n0 H0 hn k => ⟨by rw [hlw]; omega, fun hl => ?_⟩⟩
    rw [hlw] at hl
    obtain ⟨k1, k2, k3⟩ := k (by omega)
    have hlin := k3 b r (by omega) hr
    have hg : ∀ b', ((H.cutIf q r.lin (r.gen + 1)).grow b r n t).get b' = if b' = H.next then some (.row { n, t, live := true, lin := r.lin, gen := r.gen + 1, ver := 0 }) else if b' = b then some (.row { r with live := false }) else H.get b' := by
      intro b'
      show (((H.cutIf q r.lin (r.gen + 1)).set b (.row { r with live := false })).alloc _).get b' = _
      rw [get_valloc, get_vset, get_cutIf]
      show (if b' = (H.cutIf q r.lin (r.gen + 1)).next then _ else _) = _
      rw [hnx]
    refine ⟨fun b' hb' => ?_, fun l hl => ?_, fun b' r' hb' hr' => ?_⟩
    · rw [hg, if_neg (by omega), if_neg (by omega)]; exact k1 b' hb'
    · show (H.cutIf q r.lin (r.gen + 1)).from_ l = _
      rw [from_cutIf _ _ _ _ _ (by omega)]; exact k2 l hl
    · have hr2 := VH.row?_get hr'
      rw [hg] at hr2
      split at hr2
      · obtain rfl := Blk.row.inj (Option.some.inj hr2)
        exact hlin
      · split at hr2
        · obtain rfl := Blk.row.inj (Option.some.inj hr2)
          exact hlin
        · exact k3 b' r' hb' (VH.row?_of hr2)
  | @call H H' v hs ih =>
    unfold leave
    split
    · exact ⟨Nat.le_refl _, fun n0 H0 _ k => ⟨Nat.le_refl _, k⟩⟩
    · refine ⟨ih.1, fun n0 H0 hn k => ⟨Nat.min_le_left _ _, fun hl => ?_⟩⟩
      have hl' : n0 ≤ min H.low H'.low := hl
      obtain ⟨k1, k2, k3⟩ := k (by omega)
      exact (ih.2 n0 H0 hn fun _ => ⟨k1, k2, k3⟩).2 (by omega)

/-- Behind a call. -/
theorem leave_ok {ρ ρ' : Rho} {G : Nat → Prop} {H H' : VH} {w w' : World} {v : AV} {u : Value} (hH : RelH ρ G H w) (hs : Hs { H with low := H.next } H') (hp : Post ρ ρ' (fun k => w.heap.size ≤ k) w w') (hH' : RelH ρ' G H' w') (hv : VR ρ' v u) :
    ∃ ρ'', Post ρ ρ'' (fun _ => False) w w' ∧ RelH ρ'' G (leave H H' v) w' ∧ VR ρ'' v u ∧ Hs H (leave H H' v) := by
  have hcall : Hs H (leave H H' v) := .call v hs
  unfold leave at *
  split
  · rename_i hc
    simp only [Bool.and_eq_true] at hc
    have hlow : H'.low = H.next := Nat.eq_of_beq_eq_true hc.1
    have hk := (hs.kept.2 H.next { H with low := H.next } (Nat.le_refl _) fun _ => ⟨fun _ _ => rfl, fun _ _ => rfl, fun b r hb hr => by
      have := hH.lt b _ (VH.row?_get (H := H) hr)
      omega⟩).2 (by omega)
    obtain ⟨k1, k2, k3⟩ := hk
    refine ⟨ρ, ⟨.refl ρ, hp.os, hp.tape, hp.output, hp.size, fun k hk hn _ => hp.frame k hk hn (by omega), fun b pl h => .inr ⟨b, pl, h, rfl, rfl⟩⟩, ⟨fun b pl hb => ?_, fun k hk => Nat.lt_of_lt_of_le (hH.g k hk) hp.size, fun b pl r hb hr => ?_, hH.sep, hH.lin, hH.wgl, hH.lt⟩, flat_rel v u hc.2 hv, .refl _⟩
    · obtain ⟨h1, h2, h3⟩ := hH.has b pl hb
      exact ⟨h1, Nat.lt_of_lt_of_le h2 hp.size, h3⟩
    · have hb' := hH.lt b _ (VH.row?_get hr)
      have hr' : H'.row? b = some r := by rw [row_of_get (k1 b hb')]; exact hr
      obtain ⟨c, et, fz, w1, w2, w3, w4, w5⟩ := hH'.row b pl r (hp.le _ _ hb) hr'
      refine ⟨c, et, fz, w1, w2, w3, w4, fun hrd i x hi hx => ?_⟩
      have hrd' : H'.readable r = true := by
        rw [readable_iff] at hrd ⊢
        rw [k2 r.lin (hH.lin b r hr)]
        exact hrd
      obtain ⟨z, z1, z2⟩ := w5 hrd' i x hi hx
      obtain ⟨c0, et0, fz0, v1, v2, v3, v4, v5⟩ := hH.row b pl r hb hr
      obtain ⟨z0, y1, y2⟩ := v5 hrd i x hi hx
      exact ⟨z, z1, VR.back hp.le x z z0 y2.1 z2.1, z2.2⟩
  · rename_i hc
    rw [hc] at hcall
    exact ⟨ρ', ⟨hp.le, hp.os, hp.tape, hp.output, hp.size, fun k hk hn _ => hp.frame k hk hn (by omega), hp.fresh⟩, hH'.low _, hv, hcall⟩
end Go.Vm
