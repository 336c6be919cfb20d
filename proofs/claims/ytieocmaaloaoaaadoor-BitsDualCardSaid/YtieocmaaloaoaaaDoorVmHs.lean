/- What steps of the abstract machine do to its heap. -/
import Derived.Test.YtieocmaaloaoaaaDoorVmCall
namespace Go.Vm
set_option linter.unusedSimpArgs false
set_option linter.unusedVariables false
set_option linter.unusedSectionVars false
section
variable {T : Tb} {fr fr' : Fr} {H H' : VH} {r : RV}

theorem newBox_hs {promo : Nat → Bool} {dst : Option Nat} {cs : List AV} (h : newBox promo dst fr H cs = some (r, fr', H')) : Hs H H' := by
  unfold newBox at h
  split at h
  · split at h <;> (simp only [Option.some.injEq, Prod.mk.injEq] at h; obtain ⟨_, _, rfl⟩ := h)
    · exact .refl _
    · exact .fresh _ _
  · cases h
theorem vstore_hs {t : Nat} {rv : RV} {v : AV} (h : vstore T fr H t rv v = some (fr', H')) : Hs H H' := by
  unfold vstore at h
  split at h
  · split at h
    · split at h
      · simp only [Option.map_eq_some_iff] at h
        obtain ⟨H1, h1, h2⟩ := h
        simp only [Prod.mk.injEq] at h2
        obtain ⟨_, rfl⟩ := h2
        exact .puts h1
      · split at h
        · split at h
          · simp only [Option.some.injEq, Prod.mk.injEq] at h
            obtain ⟨_, rfl⟩ := h
            exact .refl _
          · cases h
        · cases h
      · cases h
    · cases h
  · cases h
theorem vbuildSlice_hs {t len : Nat} {ps : List (Nat × Operand)} {v : AV} (h : vbuildSlice T fr H t len ps = some (v, H')) : Hs H H' := by
  unfold vbuildSlice at h
  split at h
  · split at h
    · split at h
      · split at h
        · simp only [Option.some.injEq, Prod.mk.injEq] at h
          obtain ⟨_, rfl⟩ := h
          exact .fresh _ _
        · cases h
      · cases h
    · cases h
  · cases h
theorem vmakeSlice_hs {t : Nat} {l c v : AV} (h : vmakeSlice T H t l c = some (v, H')) : Hs H H' := by
  unfold vmakeSlice at h
  split at h
  · split at h
    · split at h
      · simp only [Option.some.injEq, Prod.mk.injEq] at h
        obtain ⟨_, rfl⟩ := h
        exact .fresh _ _
      · cases h
    · cases h
  · cases h
theorem vconvert_same {s d : Nat} {x v : AV} (h : vconvert T H s d x = some (v, H')) : H' = H := by
  unfold vconvert at h
  split at h
  · simp only [Option.some.injEq, Prod.mk.injEq] at h; exact h.2.symm
  · simp only [Option.some.injEq, Prod.mk.injEq] at h; exact h.2.symm
  · split at h
    · simp only [Option.some.injEq, Prod.mk.injEq] at h; exact h.2.symm
    · split at h
      · simp only [Option.map_eq_some_iff, Prod.mk.injEq] at h
        obtain ⟨_, _, _, h⟩ := h
        exact h.symm
      · cases h
    · cases h
  · cases h
theorem appendTo_hs {sz n : Nat} {x v : AV} {new : List AV} (h : appendTo H sz x n new = some (v, H')) : Hs H H' := by
  unfold appendTo at h
  split at h
  · simp only [Option.some.injEq, Prod.mk.injEq] at h
    obtain ⟨_, rfl⟩ := h
    exact .fresh _ _
  · split at h
    · cases h
    · split at h
      · split at h
        · rename_i hp
          simp only [Option.some.injEq, Prod.mk.injEq] at h
          obtain ⟨_, rfl⟩ := h
          exact .puts hp
        · cases h
      · split at h
        · simp only [Option.some.injEq, Prod.mk.injEq] at h
          obtain ⟨_, rfl⟩ := h
          exact .fresh _ _
        · cases h
  · split at h
    · cases h
    · split at h
      · rename_i rr hr
        split at h
        · rename_i hc
          simp only [Bool.and_eq_true] at hc
          split at h
          · simp only [Option.some.injEq, Prod.mk.injEq] at h
            obtain ⟨_, rfl⟩ := h
            exact .grow _ _ _ hr hc.1.1
          · cases h
        · cases h
      · cases h
  · cases h
theorem vappend_hs {ts : List Nat} {x y v : AV} (h : vappend T H ts x y = some (v, H')) : Hs H H' := by
  unfold vappend at h
  split at h
  · split at h
    · split at h
      · split at h
        · split at h
          · simp only [Option.some.injEq, Prod.mk.injEq] at h
            obtain ⟨_, rfl⟩ := h
            exact .refl _
          · cases h
        · split at h
          · split at h
            · split at h
              · exact appendTo_hs h
              · cases h
            · cases h
          · cases h
      · cases h
    · cases h
  · cases h
theorem vcopy_hs {ts : List Nat} {x y v : AV} (h : vcopy T H ts x y = some (v, H')) : Hs H H' := by
  unfold vcopy at h
  split at h
  · split at h
    · split at h
      · simp only [Option.some.injEq, Prod.mk.injEq] at h
        obtain ⟨_, rfl⟩ := h
        exact .refl _
      · split at h
        · split at h
          · split at h
            · rename_i hp
              simp only [Option.some.injEq, Prod.mk.injEq] at h
              obtain ⟨_, rfl⟩ := h
              exact .puts hp
            · cases h
          · cases h
        · cases h
      · cases h
    · cases h
  · cases h
theorem vclear_hs {ts : List Nat} {x v : AV} (h : vclear T H ts x = some (v, H')) : Hs H H' := by
  unfold vclear at h
  split at h
  · split at h
    · simp only [Option.some.injEq, Prod.mk.injEq] at h
      obtain ⟨_, rfl⟩ := h
      exact .refl _
    · split at h
      · simp only [Option.some.injEq, Prod.mk.injEq] at h
        obtain ⟨_, rfl⟩ := h
        exact .refl _
      · split at h
        · split at h
          · split at h
            · rename_i hp
              simp only [Option.some.injEq, Prod.mk.injEq] at h
              obtain ⟨_, rfl⟩ := h
              exact .puts hp
            · cases h
          · cases h
        · cases h
    · cases h
  · cases h
theorem vlen_same {ts : List Nat} {x v : AV} (h : vlen T H ts x = some (v, H')) : H' = H := by
  unfold vlen at h
  split at h
  · split at h
    · simp only [Option.some.injEq, Prod.mk.injEq] at h; exact h.2.symm
    · simp only [Option.some.injEq, Prod.mk.injEq] at h; exact h.2.symm
    · cases h
  · cases h
theorem vcap_same {ts : List Nat} {x v : AV} (h : vcap T H ts x = some (v, H')) : H' = H := by
  unfold vcap at h
  split at h
  · split at h
    · simp only [Option.some.injEq, Prod.mk.injEq] at h; exact h.2.symm
    · cases h
  · cases h
theorem vbuiltin_hs {b : Builtin} {ts : List Nat} {args : List AV} {v : AV} (h : vbuiltin T H b ts args = some (v, H')) : Hs H H' := by
  unfold vbuiltin at h
  split at h
  · rw [vlen_same h]; exact .refl _
  · rw [vcap_same h]; exact .refl _
  · exact vappend_hs h
  · exact vcopy_hs h
  · split at h
    · simp only [Option.some.injEq, Prod.mk.injEq] at h; rw [← h.2]; exact .refl _
    · cases h
  · split at h
    · simp only [Option.some.injEq, Prod.mk.injEq] at h; rw [← h.2]; exact .refl _
    · cases h
  · exact vclear_hs h
  · cases h

def CallsHs (callF : Nat → List AV → VH → Option (AV × VH)) : Prop := ∀ f vals H v H', callF f vals H = some (v, H') → Hs H H'

theorem outR_same {x : Option RV} (h : outR fr H x = some (r, fr', H')) : Hs H H' := by obtain ⟨_, _, rfl⟩ := outR_spec h; exact .refl _
theorem outV_same {x : Option AV} (h : outV fr H x = some (r, fr', H')) : Hs H H' := by obtain ⟨_, _, _, _, rfl⟩ := outV_spec h; exact .refl _

theorem vop_hs {promo : Nat → Bool} {dst : Option Nat} {op : Op} (h : vop T promo dst op fr H = some (r, fr', H')) : Hs H H' := by
  unfold vop at h
  split at h
  · exact outR_same h
  · exact outR_same h
  · unfold oPick at h
    split at h
    · exact outR_same h
    · exact outR_same h
    · cases h
  · unfold oAlloc at h
    split at h
    · exact newBox_hs h
    · cases h
  · unfold oBox at h
    split at h
    · exact newBox_hs h
    · cases h
  · exact outV_same h
  · obtain ⟨v, hv, _⟩ := outH_spec h
    exact vbuildSlice_hs hv
  · unfold oLoad at h
    split at h
    · exact outV_same h
    · cases h
  · unfold oStore at h
    split at h
    · split at h
      · rename_i hs
        simp only [Option.some.injEq, Prod.mk.injEq] at h
        obtain ⟨_, rfl, rfl⟩ := h
        exact vstore_hs hs
      · cases h
    · cases h
  · unfold oNil at h
    split at h <;> first | (simp only [Option.some.injEq, Prod.mk.injEq] at h; rw [← h.2.2]; exact .refl _) | cases h
  · unfold oBin at h
    split at h
    · split at h
      · exact outV_same h
      · cases h
    · cases h
  · unfold oUn at h
    split at h
    · exact outV_same h
    · cases h
  · unfold oConv at h
    split at h
    · obtain ⟨v, hv, _⟩ := outH_spec h
      rw [vconvert_same hv]
      exact .refl _
    · cases h
  · unfold oIface at h
    split at h
    · cases h
    · simp only [Option.some.injEq, Prod.mk.injEq] at h; rw [← h.2.2]; exact .refl _
    · cases h
  · unfold oFunc at h
    split at h
    · simp only [Option.some.injEq, Prod.mk.injEq] at h; rw [← h.2.2]; exact .refl _
    · cases h
  · unfold oMakeSlice at h
    split at h
    · obtain ⟨v, hv, _⟩ := outH_spec h
      exact vmakeSlice_hs hv
    · cases h
  · unfold oSlice at h
    split at h
    · exact outV_same h
    · cases h
  · unfold oFieldAddr at h
    split at h
    · exact outR_same h
    · cases h
  · unfold oField at h
    split at h
    · exact outV_same h
    · cases h
  · unfold oIndexAddr at h
    split at h
    · exact outR_same h
    · cases h
  · unfold oIndex at h
    split at h
    · exact outV_same h
    · cases h
  · unfold oExtract at h
    split at h
    · exact outV_same h
    · cases h
  · cases h

variable {callF : Nat → List AV → VH → Option (AV × VH)} (hC : CallsHs callF)
include hC
theorem vstep_hs {promo : Nat → Bool} {o : Oper} (h : vstep T callF promo o fr H = some (r, fr', H')) : Hs H H' := by
  unfold vstep at h
  split at h
  · unfold vcallOp at h
    split at h
    · cases h
    · split at h
      · obtain ⟨v, hv, _⟩ := outH_spec h
        exact vbuiltin_hs hv
      · split at h
        · obtain ⟨v, hv, _⟩ := outH_spec h
          exact hC _ _ _ _ _ hv
        · cases h
      · cases h
  · exact vop_hs h

theorem vops_hs {promo : Nat → Bool} {ops : Array Oper} : ∀ {os : List Oper} {fr fr' : Fr} {H H' : VH}, vops T callF promo ops os fr H = some (fr', H') → Hs H H'
  | [], _, _, _, _, h => by
    simp only [vops, Option.some.injEq, Prod.mk.injEq] at h
    rw [h.2]
    exact .refl _
  | o :: os, fr, fr', H, H', h => by
    change opsCons T callF promo ops o (vops T callF promo ops os) fr H = some (fr', H') at h
    unfold opsCons at h
    split at h
    · split at h
      · rename_i hs
        exact (vstep_hs hC hs).trans (vops_hs h)
      · cases h
    · exact vops_hs h
    · cases h
theorem vopsT_hs {promo : Nat → Bool} {ops : Array Oper} {bef : Array Nat} : ∀ {os : List Oper} {k : Nat} {ts : List Tag} {fr fr' : Fr} {H H' : VH}, vopsT T callF promo ops bef os k ts fr H = some (fr', H') → Hs H H'
  | [], _, _, _, _, _, _, h => by
    simp only [vopsT, Option.some.injEq, Prod.mk.injEq] at h
    rw [h.2]
    exact .refl _
  | o :: os, k, ts, fr, fr', H, H', h => by
    change opsConsT T callF promo ops bef o (vopsT T callF promo ops bef os) k ts fr H = some (fr', H') at h
    unfold opsConsT at h
    split at h
    · split at h
      · rename_i hs
        split at h
        · exact (vstep_hs hC hs).trans (vopsT_hs h)
        · cases h
      · cases h
    · exact vopsT_hs h
    · cases h

omit hC in
theorem loopStep_hs {x y : Run} (hx : ∀ fr H e fr' H', x fr H = some (e, fr', H') → Hs H H') (hy : ∀ fr H e fr' H', y fr H = some (e, fr', H') → Hs H H') : ∀ fr H e fr' H', loopStep x y fr H = some (e, fr', H') → Hs H H' := by
  intro fr H e fr' H' h
  unfold loopStep at h
  split at h
  · rename_i h1
    exact (hx _ _ _ _ _ h1).trans (hy _ _ _ _ _ h)
  · exact hx _ _ _ _ _ h

theorem vcode_hs {promo : Nat → Bool} (n : Nat) (c : Code) : ∀ fr H e fr' H', vcode T callF promo n c fr H = some (e, fr', H') → Hs H H' := by
  induction c with
  | region id ops d =>
    intro fr H e fr' H' h
    change cRegion T callF promo ops d fr H = some (e, fr', H') at h
    unfold cRegion at h
    split at h
    · rename_i fr1 H1 h1
      simp only [Option.some.injEq, Prod.mk.injEq] at h
      obtain ⟨_, _, rfl⟩ := h
      cases d with
      | true => exact vopsT_hs hC h1
      | false => exact vops_hs hC h1
    · cases h
  | seq a b iha ihb => exact loopStep_hs iha ihb
  | cond c a b iha ihb =>
    intro fr H e fr' H' h
    change cCond c _ _ fr H = some (e, fr', H') at h
    unfold cCond at h
    split at h
    · exact iha _ _ _ _ _ h
    · exact ihb _ _ _ _ _ h
    · cases h
  | block id c ih =>
    intro fr H e fr' H' h
    change cBlock id _ fr H = some (e, fr', H') at h
    unfold cBlock at h
    split at h
    · rename_i h1
      split at h <;> (simp only [Option.some.injEq, Prod.mk.injEq] at h; obtain ⟨_, _, rfl⟩ := h; exact ih _ _ _ _ _ h1)
    · exact ih _ _ _ _ _ h
  | loop c ih =>
    have : ∀ m, ∀ fr H e fr' H', vloop (vcode T callF promo n c) m fr H = some (e, fr', H') → Hs H H' := by
      intro m
      induction m with
      | zero => intro fr H e fr' H' h; cases h
      | succ m ihm => exact loopStep_hs ih ihm
    exact this n
  | skip | exit | label | ret =>
    intro fr H e fr' H' h
    simp only [vcode, cEx, Option.some.injEq, Prod.mk.injEq] at h
    obtain ⟨_, _, rfl⟩ := h
    exact .refl _
  | _ =>
    intro fr H e fr' H' h
    exact absurd h (by simp [vcode, cNone])
end

theorem vcall_hs (T : Tb) (ext : Nat → Option (List AV → Option AV)) (promo : Nat → Nat → Bool) : ∀ n, CallsHs (vcall T ext promo n)
  | 0 => fun _ _ _ _ _ h => by cases h
  | n + 1 => by
    have ih := vcall_hs T ext promo n
    intro f vals H v H' h
    change callStep T ext promo n (vcall T ext promo n) f vals H = some (v, H') at h
    unfold callStep at h
    have ret : ∀ fn fr H1, Hs { H with low := H.next } H1 → callStep.retStep T fn fr H H1 = some (v, H') → Hs H H' := by
      intro fn fr H1 hs hr
      unfold callStep.retStep at hr
      split at hr
      · simp only [Option.some.injEq, Prod.mk.injEq] at hr
        obtain ⟨_, rfl⟩ := hr
        exact .call _ hs
      · cases hr
    split at h
    · split at h
      · simp only [Option.some.injEq, Prod.mk.injEq] at h; rw [← h.2]; exact .refl _
      · cases h
    · split at h
      · cases h
      · split at h
        · cases h
        · split at h
          · split at h
            · rename_i hr
              exact ret _ _ _ (vcode_hs ih n _ _ _ _ _ _ hr) h
            · rename_i hr
              exact ret _ _ _ (vcode_hs ih n _ _ _ _ _ _ hr) h
            · cases h
          · cases h

/-! ## What reads cannot tell apart -/
def WfH (H : VH) : Prop := ∀ b x, H.get b = some x → b < H.next
/-- A row's later forms. -/
def Later (H H' : VH) : Prop := H.next ≤ H'.next ∧ WfH H' ∧
  ∀ b r, H.row? b = some r → ∃ r', H'.row? b = some r' ∧ r'.n = r.n ∧ r.ver ≤ r'.ver ∧ (r'.ver = r.ver → r'.t = r.t)

theorem Later.refl {H : VH} (h : WfH H) : Later H H := ⟨Nat.le_refl _, h, fun b r hr => ⟨r, hr, rfl, Nat.le_refl _, fun _ => rfl⟩⟩
theorem Later.trans {a b c : VH} (h : Later a b) (k : Later b c) : Later a c :=
  ⟨Nat.le_trans h.1 k.1, k.2.1, fun x r hr => by
    obtain ⟨r', h1, h2, h3, h4⟩ := h.2.2 x r hr
    obtain ⟨r'', k1, k2, k3, k4⟩ := k.2.2 x r' h1
    exact ⟨r'', k1, k2.trans h2, Nat.le_trans h3 k3, fun e => (k4 (by omega)).trans (h4 (by omega))⟩⟩

theorem Hs.later {H H' : VH} (h : Hs H H') : WfH H → Later H H' := by
  induction h with
  | refl H => exact fun hw => .refl hw
  | trans _ _ ih1 ih2 => exact fun hw => (ih1 hw).trans (ih2 (ih1 hw).2.1)
  | @put H H' b o v hp =>
    intro hw
    obtain ⟨r, hr, rfl⟩ : ∃ r, H.row? b = some r ∧ H' = (H.cut r.lin r.gen).set b (.row { r with t := r.t.set o v, ver := r.ver + 1 }) := by
      unfold VH.put at hp
      split at hp
      · rename_i r hr
        split at hp
        · exact ⟨r, hr, (Option.some.inj hp).symm⟩
        · cases hp
      · cases hp
    have hnx : ((H.cut r.lin r.gen).set b (.row { r with t := r.t.set o v, ver := r.ver + 1 })).next = H.next := next_cut _ _ _
    refine ⟨by rw [hnx]; exact Nat.le_refl _, fun b' x hx => ?_, fun b' r' hr' => ?_⟩
    · rw [hnx]
      rw [get_vset, get_cut] at hx
      split at hx
      · rename_i e; rw [e]; exact hw b _ (VH.row?_get hr)
      · exact hw b' x hx
    · rw [row?_vset, row?_cut]
      by_cases e : b' = b
      · subst e
        rw [hr] at hr'
        obtain rfl := Option.some.inj hr'
        rw [if_pos rfl]
        exact ⟨_, rfl, rfl, Nat.le_succ _, fun e => by simp only at e; omega⟩
      · rw [if_neg e]
        exact ⟨r', hr', rfl, Nat.le_refl _, fun _ => rfl⟩
  | fresh H cs =>
    intro hw
    refine ⟨Nat.le_succ _, fun b' x hx => ?_, fun b' r' hr' => ?_⟩
    · show b' < H.next + 1
      have hx' : (H.alloc (.row { n := cs.length, t := Tr.ofList cs, live := true, lin := H.next, gen := 0, ver := 0 })).get b' = some x := hx
      rw [get_valloc] at hx'
      split at hx'
      · omega
      · have := hw b' x hx'; omega
    · refine ⟨r', ?_, rfl, Nat.le_refl _, fun _ => rfl⟩
      show (H.alloc _).row? b' = _
      have := hw b' _ (VH.row?_get hr')
      rw [row?_valloc, if_neg (by omega)]
      exact hr'
  | @grow H b r q n t hr hlive =>
    intro hw
    have hnx : (H.cutIf q r.lin (r.gen + 1)).next = H.next := next_cutIf _ _ _ _
    have hg : ∀ b', ((H.cutIf q r.lin (r.gen + 1)).grow b r n t).get b' = if b' = H.next then some (.row { n, t, live := true, lin := r.lin, gen := r.gen + 1, ver := 0 }) else if b' = b then some (.row { r with live := false }) else H.get b' := by
      intro b'
      show (((H.cutIf q r.lin (r.gen + 1)).set b (.row { r with live := false })).alloc _).get b' = _
      rw [get_valloc, get_vset, get_cutIf]
      show (if b' = (H.cutIf q r.lin (r.gen + 1)).next then _ else _) = _
      rw [hnx]
    have hnx2 : ((H.cutIf q r.lin (r.gen + 1)).grow b r n t).next = H.next + 1 := by
      show (H.cutIf q r.lin (r.gen + 1)).next + 1 = _
      rw [hnx]
    have hb := hw b _ (VH.row?_get hr)
    refine ⟨by rw [hnx2]; omega, fun b' x hx => ?_, fun b' r' hr' => ?_⟩
    · rw [hnx2]
      rw [hg] at hx
      split at hx
      · omega
      · split at hx
        · omega
        · have := hw b' x hx; omega
    · have hb' := hw b' _ (VH.row?_get hr')
      have hgb := hg b'
      rw [if_neg (by omega)] at hgb
      by_cases e : b' = b
      · subst e
        rw [hr] at hr'
        obtain rfl := Option.some.inj hr'
        rw [if_pos rfl] at hgb
        exact ⟨_, VH.row?_of hgb, rfl, Nat.le_refl _, fun _ => rfl⟩
      · rw [if_neg e] at hgb
        exact ⟨r', by rw [row_of_get hgb]; exact hr', rfl, Nat.le_refl _, fun _ => rfl⟩
  | @call H H' v hs ih =>
    intro hw
    unfold leave
    split
    · exact .refl hw
    · exact ih hw

def SameB (H H' : VH) (b : Nat) : Prop := (∀ o, H'.cell b o = H.cell b o) ∧ ∀ k, fits H' b k = fits H b k
theorem SameB.refl (H : VH) (b : Nat) : SameB H H b := ⟨fun _ => rfl, fun _ => rfl⟩
theorem SameB.trans {x y z : VH} {b : Nat} (h : SameB x y b) (k : SameB y z b) : SameB x z b := ⟨fun o => (k.1 o).trans (h.1 o), fun o => (k.2 o).trans (h.2 o)⟩
theorem SameB.symm {x y : VH} {b : Nat} (h : SameB x y b) : SameB y x b := ⟨fun o => (h.1 o).symm, fun o => (h.2 o).symm⟩
theorem same_of {H H' : VH} {b : Nat} (hl : Later H H') (h : H.same H' b = true) : SameB H H' b := by
  unfold VH.same at h
  split at h
  · rename_i r r' h1 h2
    simp only [Bool.and_eq_true, beq_iff_eq] at h
    obtain ⟨r2, k1, k2, k3, k4⟩ := hl.2.2 b r (VH.row?_of h1)
    rw [VH.row?_of h2] at k1
    obtain rfl := Option.some.inj k1
    have ht := k4 h.1.1.symm
    exact ⟨fun o => by simp only [VH.cell, VH.row?_of h1, VH.row?_of h2, h.1.2, h.2, if_true, k2, ht], fun k => by simp only [fits, VH.row?_of h1, VH.row?_of h2, k2]⟩
  · rename_i h1 h2
    exact ⟨fun o => by simp [VH.cell, VH.row?, h1, h2], fun k => by simp [fits, VH.row?, h1, h2]⟩
  · cases h
theorem cells_same {H H' : VH} {b : Nat} (h : SameB H H' b) : ∀ n o, H'.cells b o n = H.cells b o n
  | 0, _ => rfl
  | n + 1, o => by simp only [VH.cells, h.1 o, cells_same h n (o + 1)]
end Go.Vm
