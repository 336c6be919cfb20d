/- The second machine's regions, code and calls against the first one's. -/
import Derived.Test.YtieocmaaloaoaaaDoorVmW2
import Derived.Test.YtieocmaaloaoaaaDoorVmHs
namespace Go.Vm
set_option linter.unusedSimpArgs false
set_option linter.unusedVariables false
set_option linter.unusedSectionVars false

/-! What a step leaves of a frame. -/
/-- Registers and boxes outside a list stay. -/
structure Off (as : List Nat) (fr fr' : Fr) : Prop where
  regs : ∀ t, t ∉ as → fr'.regs.get t = fr.regs.get t
  loc : ∀ d ep cs, d ∉ as → fr.loc.get d = some ⟨ep, cs⟩ → ∃ cs', fr'.loc.get d = some ⟨ep, cs'⟩
  nt : fr'.nt = fr.nt
  gl : fr'.gl = fr.gl
theorem Off.refl (as : List Nat) (fr : Fr) : Off as fr fr := ⟨fun _ _ => rfl, fun _ _ cs _ h => ⟨cs, h⟩, rfl, rfl⟩
theorem Off.trans {as : List Nat} {a b c : Fr} (h : Off as a b) (k : Off as b c) : Off as a c :=
  ⟨fun t ht => (k.regs t ht).trans (h.regs t ht), fun d ep cs hd hc => let ⟨cs', h'⟩ := h.loc d ep cs hd hc; k.loc d ep cs' hd h', k.nt.trans h.nt, k.gl.trans h.gl⟩
theorem Off.mono {as bs : List Nat} {a b : Fr} (h : Off as a b) (hs : ∀ t ∈ as, t ∈ bs) : Off bs a b :=
  ⟨fun t ht => h.regs t fun e => ht (hs t e), fun d ep cs hd => h.loc d ep cs fun e => hd (hs d e), h.nt, h.gl⟩
/-- What an operation leaves of a frame, ahead of its own register. -/
structure FrKept (dst : Option Nat) (fr fr' : Fr) : Prop where
  regs : fr'.regs = fr.regs
  loc : ∀ d ep cs, dst ≠ some d → fr.loc.get d = some ⟨ep, cs⟩ → ∃ cs', fr'.loc.get d = some ⟨ep, cs'⟩
  nt : fr'.nt = fr.nt
  gl : fr'.gl = fr.gl
theorem FrKept.refl (dst : Option Nat) (fr : Fr) : FrKept dst fr fr := ⟨rfl, fun _ _ cs _ h => ⟨cs, h⟩, rfl, rfl⟩
def dstL (d : Option Nat) : List Nat := d.toList
theorem put_off (d : Option Nat) (fr : Fr) (r : RV) : Off (dstL d) fr (fr.put d r) := by
  cases d with
  | none => exact .refl _ _
  | some d =>
    unfold Fr.put
    cases hb : Nat.blt d fr.nt with
    | false => simp only [hb]; exact .refl _ _
    | true =>
      simp only [hb]
      refine ⟨fun t ht => ?_, fun _ _ cs _ h => ⟨cs, h⟩, rfl, rfl⟩
      exact Tr.get_set_ne _ _ (by simpa [dstL] using ht)
theorem FrKept.off {d : Option Nat} {fr fr' : Fr} (h : FrKept d fr fr') (r : RV) : Off (dstL d) fr (fr'.put d r) := by
  have h1 : Off (dstL d) fr fr' := ⟨fun t _ => by rw [h.regs], fun e ep cs he hc => h.loc e ep cs (by intro e2; subst e2; simp [dstL] at he) hc, h.nt, h.gl⟩
  exact h1.trans (put_off d fr' r)

section
variable {T : Tb} {fr fr' : Fr} {H H' : VH} {r : RV} {promo : Nat → Bool} {dst : Option Nat}
theorem outR_kept {x : Option RV} (h : outR fr H x = some (r, fr', H')) : FrKept dst fr fr' := by obtain ⟨_, rfl, _⟩ := outR_spec h; exact .refl _ _
theorem outV_kept {x : Option AV} (h : outV fr H x = some (r, fr', H')) : FrKept dst fr fr' := by obtain ⟨_, _, _, rfl, _⟩ := outV_spec h; exact .refl _ _
theorem outH_kept {x : Option (AV × VH)} (h : outH fr x = some (r, fr', H')) : FrKept dst fr fr' := by obtain ⟨_, _, _, rfl⟩ := outH_spec h; exact .refl _ _
theorem newBox_kept {cs : List AV} (h : newBox promo dst fr H cs = some (r, fr', H')) : FrKept dst fr fr' := by
  unfold newBox at h
  split at h
  · rename_i d _
    split at h
    · simp only [Option.some.injEq, Prod.mk.injEq] at h
      obtain ⟨_, rfl, _⟩ := h
      refine ⟨rfl, fun e ep cs' he hc => ⟨cs', ?_⟩, rfl, rfl⟩
      show (fr.loc.set d _).get e = _
      rw [Tr.get_set_ne _ _ (by intro e2; subst e2; exact he rfl)]
      exact hc
    · simp only [Option.some.injEq, Prod.mk.injEq] at h
      rw [← h.2.1]
      exact .refl _ _
  · cases h
theorem vstore_kept {t : Nat} {r : RV} {v : AV} (h : vstore T fr H t r v = some (fr', H')) : FrKept dst fr fr' := by
  unfold vstore at h
  split at h
  · split at h
    · split at h
      · rw [Option.map_eq_some_iff] at h
        obtain ⟨H1, _, h2⟩ := h
        simp only [Prod.mk.injEq] at h2
        rw [← h2.1]
        exact .refl _ _
      · rename_i d ep off
        split at h
        · rename_i cs hcs
          split at h
          · simp only [Option.some.injEq, Prod.mk.injEq] at h
            obtain ⟨rfl, _⟩ := h
            refine ⟨rfl, fun e ep' cs' he hc => ?_, rfl, rfl⟩
            show ∃ cs, (fr.loc.set d _).get e = _
            rw [Tr.get_set]
            by_cases e2 : e = d
            · subst e2
              have : ep' = ep := by
                unfold Fr.locCells at hcs
                rw [hc] at hcs
                simp only at hcs
                split at hcs
                · rename_i e3
                  simpa using e3
                · cases hcs
              subst this
              exact ⟨_, by rw [if_pos rfl]⟩
            · exact ⟨cs', by rw [if_neg e2]; exact hc⟩
          · cases h
        · cases h
      · cases h
    · cases h
  · cases h
theorem vop_kept {op : Op} (h : vop T promo dst op fr H = some (r, fr', H')) : FrKept dst fr fr' := by
  unfold vop at h
  split at h
  · exact outR_kept h
  · exact outR_kept h
  · unfold oPick at h
    split at h
    · exact outR_kept h
    · exact outR_kept h
    · cases h
  · unfold oAlloc at h
    split at h
    · exact newBox_kept h
    · cases h
  · unfold oBox at h
    split at h
    · exact newBox_kept h
    · cases h
  · exact outV_kept h
  · exact outH_kept h
  · unfold oLoad at h
    split at h
    · exact outV_kept h
    · cases h
  · unfold oStore at h
    split at h
    · split at h
      · rename_i hs
        simp only [Option.some.injEq, Prod.mk.injEq] at h
        obtain ⟨_, rfl, rfl⟩ := h
        exact vstore_kept hs
      · cases h
    · cases h
  · unfold oNil at h
    split at h <;> first | (simp only [Option.some.injEq, Prod.mk.injEq] at h; rw [← h.2.1]; exact .refl _ _) | cases h
  · unfold oBin at h
    split at h
    · split at h
      · exact outV_kept h
      · cases h
    · cases h
  · unfold oUn at h
    split at h
    · exact outV_kept h
    · cases h
  · unfold oConv at h
    split at h
    · exact outH_kept h
    · cases h
  · unfold oIface at h
    split at h
    · cases h
    · simp only [Option.some.injEq, Prod.mk.injEq] at h; rw [← h.2.1]; exact .refl _ _
    · cases h
  · unfold oFunc at h
    split at h
    · simp only [Option.some.injEq, Prod.mk.injEq] at h; rw [← h.2.1]; exact .refl _ _
    · cases h
  · unfold oMakeSlice at h
    split at h
    · exact outH_kept h
    · cases h
  · unfold oSlice at h
    split at h
    · exact outV_kept h
    · cases h
  · unfold oFieldAddr at h
    split at h
    · exact outR_kept h
    · cases h
  · unfold oField at h
    split at h
    · exact outV_kept h
    · cases h
  · unfold oIndexAddr at h
    split at h
    · exact outR_kept h
    · cases h
  · unfold oIndex at h
    split at h
    · exact outV_kept h
    · cases h
  · unfold oExtract at h
    split at h
    · exact outV_kept h
    · cases h
  · cases h
variable {callF : Nat → List AV → VH → Option (AV × VH)}
theorem vstep_kept {o : Oper} (h : vstep T callF promo o fr H = some (r, fr', H')) : FrKept o.dst fr fr' := by
  unfold vstep at h
  split at h
  · unfold vcallOp at h
    split at h
    · cases h
    · split at h
      · exact outH_kept h
      · split at h
        · exact outH_kept h
        · cases h
      · cases h
  · exact vop_kept h
theorem assignedOps_cons (o : Oper) (os : List Oper) : ∀ t, t ∈ dstL o.dst ∨ t ∈ assignedOps os → t ∈ assignedOps (o :: os) := by
  intro t ht
  show t ∈ (match o.dst with | some d => d :: assignedOps os | none => assignedOps os)
  cases e : o.dst with
  | none => rw [e] at ht; simpa [dstL] using ht
  | some d => rw [e] at ht; simpa [dstL] using ht
theorem vops_off {ops : Array Oper} : ∀ {os : List Oper} {fr fr' : Fr} {H H' : VH}, vops T callF promo ops os fr H = some (fr', H') → Off (assignedOps os) fr fr'
  | [], _, _, _, _, h => by
    simp only [vops, Option.some.injEq, Prod.mk.injEq] at h
    rw [h.1]
    exact .refl _ _
  | o :: os, fr, fr', H, H', h => by
    change opsCons T callF promo ops o (vops T callF promo ops os) fr H = some (fr', H') at h
    have hm1 := fun t ht => assignedOps_cons o os t (.inl ht)
    have hm2 := fun t ht => assignedOps_cons o os t (.inr ht)
    unfold opsCons at h
    split at h
    · split at h
      · rename_i hs
        exact (((vstep_kept hs).off _).mono hm1).trans ((vops_off h).mono hm2)
      · cases h
    · exact ((put_off _ _ _).mono hm1).trans ((vops_off h).mono hm2)
    · cases h
theorem vopsT_off {ops : Array Oper} {bef : Array Nat} : ∀ {os : List Oper} {k : Nat} {ts : List Tag} {fr fr' : Fr} {H H' : VH}, vopsT T callF promo ops bef os k ts fr H = some (fr', H') → Off (assignedOps os) fr fr'
  | [], _, _, _, _, _, _, h => by
    simp only [vopsT, Option.some.injEq, Prod.mk.injEq] at h
    rw [h.1]
    exact .refl _ _
  | o :: os, k, ts, fr, fr', H, H', h => by
    change opsConsT T callF promo ops bef o (vopsT T callF promo ops bef os) k ts fr H = some (fr', H') at h
    have hm1 := fun t ht => assignedOps_cons o os t (.inl ht)
    have hm2 := fun t ht => assignedOps_cons o os t (.inr ht)
    unfold opsConsT at h
    split at h
    · split at h
      · rename_i hs
        split at h
        · exact (((vstep_kept hs).off _).mono hm1).trans ((vopsT_off h).mono hm2)
        · cases h
      · cases h
    · exact ((put_off _ _ _).mono hm1).trans ((vopsT_off h).mono hm2)
    · cases h
theorem loopStep_off {as : List Nat} {x y : Run} (hx : ∀ fr H e fr' H', x fr H = some (e, fr', H') → Off as fr fr') (hy : ∀ fr H e fr' H', y fr H = some (e, fr', H') → Off as fr fr') : ∀ fr H e fr' H', loopStep x y fr H = some (e, fr', H') → Off as fr fr' := by
  intro fr H e fr' H' h
  unfold loopStep at h
  split at h
  · rename_i h1
    exact (hx _ _ _ _ _ h1).trans (hy _ _ _ _ _ h)
  · exact hx _ _ _ _ _ h
theorem vcode_off (n : Nat) (c : Code) : ∀ fr H e fr' H', vcode T callF promo n c fr H = some (e, fr', H') → Off (assigned c) fr fr' := by
  induction c with
  | region id ops d =>
    intro fr H e fr' H' h
    change cRegion T callF promo ops d fr H = some (e, fr', H') at h
    unfold cRegion at h
    split at h
    · rename_i fr1 H1 h1
      simp only [Option.some.injEq, Prod.mk.injEq] at h
      obtain ⟨_, rfl, _⟩ := h
      cases d with
      | true => exact vopsT_off h1
      | false => exact vops_off h1
    · cases h
  | seq a b iha ihb =>
    exact loopStep_off (fun fr H e fr' H' h => (iha fr H e fr' H' h).mono fun t ht => List.mem_append_left _ ht) (fun fr H e fr' H' h => (ihb fr H e fr' H' h).mono fun t ht => List.mem_append_right _ ht)
  | cond c a b iha ihb =>
    intro fr H e fr' H' h
    change cCond c _ _ fr H = some (e, fr', H') at h
    unfold cCond at h
    split at h
    · exact (iha _ _ _ _ _ h).mono fun t ht => List.mem_append_left _ ht
    · exact (ihb _ _ _ _ _ h).mono fun t ht => List.mem_append_right _ ht
    · cases h
  | block id c ih =>
    intro fr H e fr' H' h
    change cBlock id _ fr H = some (e, fr', H') at h
    unfold cBlock at h
    split at h
    · rename_i h1
      split at h <;> (simp only [Option.some.injEq, Prod.mk.injEq] at h; obtain ⟨_, rfl, _⟩ := h; exact ih _ _ _ _ _ h1)
    · exact ih _ _ _ _ _ h
  | loop c ih =>
    have : ∀ m, ∀ fr H e fr' H', vloop (vcode T callF promo n c) m fr H = some (e, fr', H') → Off (assigned c) fr fr' := by
      intro m
      induction m with
      | zero => intro fr H e fr' H' h; cases h
      | succ m ihm => exact loopStep_off ih ihm
    exact this n
  | skip | exit | label | ret =>
    intro fr H e fr' H' h
    simp only [vcode, cEx, Option.some.injEq, Prod.mk.injEq] at h
    obtain ⟨_, rfl, _⟩ := h
    exact .refl _ _
  | _ =>
    intro fr H e fr' H' h
    exact absurd h (by simp [vcode, cNone])
end

/-! Regions. -/
section
variable {α : Type} {T : Tb} {callF : Nat → List AV → VH → Option (AV × VH)} {promo : Nat → Bool} {x : α}

/-- A guard: the first machine does as the second one, with a frame that has more. -/
theorem guard_ok {ops : Array Oper} {o : Oper} {f : WF} {fr : Fr} (hS : Sub f fr) {yes no : WF → Option α} (h : wguard ops o f yes no = some x) :
    (guardOf ops o fr = some true ∧ ∃ f', Sub f' fr ∧ yes f' = some x ∧ f'.frz = f.frz) ∨ (guardOf ops o fr = some false ∧ ∃ f', Sub f' fr ∧ no f' = some x ∧ f'.frz = f.frz) := by
  unfold wguard at h
  unfold guardOf
  split at h
  · rename_i e
    rw [e]
    exact .inl ⟨rfl, f, hS, h, rfl⟩
  · rename_i j want e
    rw [e]
    simp only
    split at h
    · rename_i e2
      rw [e2]
      exact .inr ⟨rfl, f, hS, h, rfl⟩
    · rename_i d e2
      rw [e2]
      simp only
      split at h
      · rename_i b e3
        obtain ⟨r, e4, e5⟩ := hS.regs _ _ e3
        obtain rfl : r = .v (.bool b) := e5
        rw [e4]
        simp only
        have hset : Sub { f with regs := f.regs.set d (.v (.bool b)) } fr := by
          refine ⟨hS.nt, hS.gl, fun t w hw => ?_, hS.loc⟩
          have hw' : (f.regs.set d (.v (.bool b))).get t = some w := hw
          rw [Tr.get_set] at hw'
          split at hw'
          · rename_i et
            subst et
            obtain rfl := Option.some.inj hw'
            exact ⟨_, e4, rfl⟩
          · exact hS.regs t w hw'
        cases want <;> cases b
        · exact .inl ⟨rfl, _, hset, h, rfl⟩
        · exact .inr ⟨rfl, _, hset, h, rfl⟩
        · exact .inr ⟨rfl, _, hset, h, rfl⟩
        · exact .inl ⟨rfl, _, hset, h, rfl⟩
      · rename_i e3
        obtain ⟨r, e4, e5⟩ := hS.regs _ _ e3
        obtain rfl : r = .v (.tuple []) := e5
        rw [e4]
        exact .inr ⟨rfl, f, hS, h, rfl⟩
      · cases h

theorem WF.frz_put (f : WF) (d : Option Nat) (w : WV) : (f.put d w).frz = f.frz := by
  cases d with
  | none => rfl
  | some d => unfold WF.put; cases h : Nat.blt d f.nt <;> simp only [h]
theorem Fr.loc_put (f : Fr) (d : Option Nat) (w : RV) : (f.put d w).loc = f.loc := by
  cases d with
  | none => rfl
  | some d => unfold Fr.put; cases h : Nat.blt d f.nt <;> simp only [h]
/-- The boxes that must not be changed are as they were. -/
def Frz (f f' : WF) (fr fr' : Fr) : Prop := f'.frz = f.frz ∧ ∀ d ∈ f.frz, fr'.loc.get d = fr.loc.get d
theorem Frz.refl {f : WF} {fr : Fr} : Frz f f fr fr := ⟨rfl, fun _ _ => rfl⟩
theorem Frz.trans {a b c : WF} {x y z : Fr} (h : Frz a b x y) (k : Frz b c y z) : Frz a c x z := ⟨k.1.trans h.1, fun d hd => (k.2 d (h.1 ▸ hd)).trans (h.2 d hd)⟩
theorem Frz.step {f f1 f2 : WF} {fr fr2 : Fr} {d : Option Nat} {w : WV} {r : RV} (h1 : f1.frz = f.frz) (h2 : f2.frz = f1.frz) (h3 : ∀ d ∈ f1.frz, fr2.loc.get d = fr.loc.get d) : Frz f (f2.put d w) fr (fr2.put d r) :=
  ⟨by rw [WF.frz_put, h2, h1], fun e he => by rw [Fr.loc_put]; exact h3 e (h1 ▸ he)⟩
theorem ops_ok {ops : Array Oper} : ∀ {os : List Oper} {k : WF → VH → Option α} {f : WF} {fr : Fr} {H : VH}, Sub f fr → wops T callF promo ops os k f H = some x →
    ∃ fr' H' f', vops T callF promo ops os fr H = some (fr', H') ∧ Sub f' fr' ∧ k f' H' = some x ∧ Frz f f' fr fr'
  | [], k, f, fr, H, hS, h => ⟨fr, H, f, rfl, hS, h, .refl⟩
  | o :: os, k, f, fr, H, hS, h => by
    change wopsCons T callF promo ops o (wops T callF promo ops os) k f H = some x at h
    unfold wopsCons at h
    show ∃ fr' H' f', opsCons T callF promo ops o (vops T callF promo ops os) fr H = some (fr', H') ∧ _
    unfold opsCons
    rcases guard_ok hS h with ⟨hg, f1, hS1, h1, hz⟩ | ⟨hg, f1, hS1, h1, hz⟩
    · rw [hg]
      obtain ⟨r, fr2, H2, w, f2, e1, e2, e3, e4, _, e8, e9⟩ := step_ok hS1 h1
      simp only [e1]
      obtain ⟨a, b, c, k1, k2, k3, k4⟩ := ops_ok (e2.put o.dst e3) e4
      exact ⟨a, b, c, k1, k2, k3, (Frz.step hz e8 e9).trans k4⟩
    · rw [hg]
      obtain ⟨a, b, c, k1, k2, k3, k4⟩ := ops_ok (hS1.put o.dst (w := .v (.tuple [])) (r := .v (.tuple [])) rfl) h1
      exact ⟨a, b, c, k1, k2, k3, (Frz.step hz rfl fun _ _ => rfl).trans k4⟩
theorem opsT_ok {ops : Array Oper} {bef : Array Nat} : ∀ {os : List Oper} {n : Nat} {ts : List Tag} {k : WF → VH → Option α} {f : WF} {fr : Fr} {H : VH}, Sub f fr → wopsT T callF promo ops bef os n ts k f H = some x →
    ∃ fr' H' f', vopsT T callF promo ops bef os n ts fr H = some (fr', H') ∧ Sub f' fr' ∧ k f' H' = some x ∧ Frz f f' fr fr'
  | [], n, ts, k, f, fr, H, hS, h => ⟨fr, H, f, rfl, hS, h, .refl⟩
  | o :: os, n, ts, k, f, fr, H, hS, h => by
    change wopsConsT T callF promo ops bef o (wopsT T callF promo ops bef os) n ts k f H = some x at h
    unfold wopsConsT at h
    show ∃ fr' H' f', opsConsT T callF promo ops bef o (vopsT T callF promo ops bef os) n ts fr H = some (fr', H') ∧ _
    unfold opsConsT
    rcases guard_ok hS h with ⟨hg, f1, hS1, h1, hz⟩ | ⟨hg, f1, hS1, h1, hz⟩
    · rw [hg]
      obtain ⟨r, fr2, H2, w, f2, e1, e2, e3, e4, e5, e8, e9⟩ := step_ok hS1 h1
      obtain ⟨e6, e7⟩ := condT_some e4
      simp only [e1]
      rw [show tagOf promo o fr H H2 r = wtag promo o f1 H H2 w from e5.symm, e6]
      obtain ⟨a, b, c, k1, k2, k3, k4⟩ := opsT_ok (e2.put o.dst e3) e7
      exact ⟨a, b, c, k1, k2, k3, (Frz.step hz e8 e9).trans k4⟩
    · rw [hg]
      obtain ⟨a, b, c, k1, k2, k3, k4⟩ := opsT_ok (hS1.put o.dst (w := .v (.tuple [])) (r := .v (.tuple [])) rfl) h1
      exact ⟨a, b, c, k1, k2, k3, (Frz.step hz rfl fun _ _ => rfl).trans k4⟩
end
end Go.Vm
