/- The second machine's code and calls against the first one's. -/
import Derived.Test.YtieocmaaloaoaaaDoorVmW3
namespace Go.Vm
set_option linter.unusedSimpArgs false
set_option linter.unusedVariables false
set_option linter.unusedSectionVars false

section
variable {α : Type} {T : Tb} {x : α} {as : List Nat} {f f1 : WF} {fr fr' : Fr}

theorem keepLoc_get {f : WF} : ∀ {keep : List Nat} {d : Nat} {cs : List AV}, (keepLoc f keep).get d = some cs → d ∈ keep ∧ f.loc.get d = some cs
  | [], d, cs, h => by
    have : (Tr.leaf : Tr (List AV)).get d = some cs := h
    rw [Tr.get_leaf] at this
    cases this
  | e :: keep, d, cs, h => by
    have h' : (match f.loc.get e with | some cs => (keepLoc f keep).set e cs | none => keepLoc f keep).get d = some cs := h
    split at h'
    · rename_i cs' he
      rw [Tr.get_set] at h'
      split at h'
      · rename_i ed
        subst ed
        obtain rfl := Option.some.inj h'
        exact ⟨List.mem_cons_self, he⟩
      · obtain ⟨h1, h2⟩ := keepLoc_get h'
        exact ⟨List.mem_cons_of_mem _ h1, h2⟩
    · obtain ⟨h1, h2⟩ := keepLoc_get h'
      exact ⟨List.mem_cons_of_mem _ h1, h2⟩
theorem base_sub {keep : List Nat} (hS : Sub f fr) (hO : Off as fr fr') (hK : ∀ d ∈ keep, fr'.loc.get d = fr.loc.get d) (j : Jn) : Sub (base as keep j f) fr' := by
  refine ⟨hS.nt.trans hO.nt.symm, hS.gl.trans hO.gl.symm, fun t w h => ?_, fun d cs h => ?_⟩
  · obtain ⟨h1, h2⟩ := Tr.get_filt _ _ _ _ (show ((f.regs.dels as).filt (keepW as keep j.boxes)).get t = some w from h)
    rw [Tr.get_dels] at h1
    split at h1
    · cases h1
    · rename_i ht
      obtain ⟨r, h3, h4⟩ := hS.regs t w h1
      refine ⟨r, (hO.regs t ht).trans h3, ?_⟩
      cases w with
      | v a => exact h4
      | loc d off =>
        obtain ⟨ep, cs, rfl, h5⟩ := h4
        have hd : d ∉ as := by
          intro hd
          have := memB_of hd
          simp [keepW, this] at h2
        obtain ⟨cs', h6⟩ := hO.loc d ep cs hd h5
        exact ⟨ep, cs', rfl, h6⟩
  · obtain ⟨h1, h2⟩ := keepLoc_get (show (keepLoc f keep).get d = some cs from h)
    obtain ⟨ep, h3⟩ := hS.loc d cs h2
    exact ⟨ep, (hK d h1).trans h3⟩
theorem Sub.freeze (h : Sub f fr) (keep : List Nat) : Sub (f.freeze keep) fr := ⟨h.nt, h.gl, h.regs, h.loc⟩
theorem Sub.set_v (hS : Sub f fr) {t : Nat} {a : AV} (h : fr.regs.get t = some (.v a)) : Sub { f with regs := f.regs.set t (.v a) } fr := by
  refine ⟨hS.nt, hS.gl, fun t' w hw => ?_, hS.loc⟩
  have hw' : (f.regs.set t (.v a)).get t' = some w := hw
  rw [Tr.get_set] at hw'
  split at hw'
  · rename_i et
    subst et
    obtain rfl := Option.some.inj hw'
    exact ⟨_, h, rfl⟩
  · exact hS.regs t' w hw'
theorem rbRegs_ok (h1 : Sub f1 fr) {rest : List AV} : ∀ {l : List (Nat × Nat)} {vs : List AV} {f : WF} {k : WF → List AV → Option α}, colRegs f1 rest l = some vs → Sub f fr → rbRegs T l k f vs = some x → ∃ f', Sub f' fr ∧ k f' rest = some x ∧ f'.frz = f.frz
  | [], vs, f, k, hc, hS, h => by
    obtain rfl : rest = vs := Option.some.inj hc
    exact ⟨f, hS, h, rfl⟩
  | p :: l, vs, f, k, hc, hS, h => by
    change (match f1.eva (.tmp p.1), colRegs f1 rest l with | some a, some as => some (a :: as) | _, _ => none) = some vs at hc
    split at hc
    · rename_i a as ha has
      obtain rfl := Option.some.inj hc
      have h2 : castM (zt T p.2) a (fun a => rbRegs T l k { f with regs := f.regs.set p.1 (.v a) } as) = some x := h
      have h3 := castM_some h2
      have h4 : f1.ev (.tmp p.1) = some (.v a) := eva_ev ha
      obtain ⟨r, h5, h6⟩ := h1.regs p.1 (.v a) h4
      obtain rfl : r = .v a := h6
      exact rbRegs_ok (f := { f with regs := f.regs.set p.1 (.v a) }) h1 has (hS.set_v h5) h3
    · cases hc
theorem castBox_some {z : Option AV} {l : List AV} {k : List AV → Option α} (h : castBox z l k = some x) : k l = some x := by
  unfold castBox at h
  split at h
  · exact castL_some h
  · exact h
theorem rbBoxes_ok (h1 : Sub f1 fr) : ∀ {l : List (Nat × Nat)} {vs : List AV} {f : WF} {k : WF → Option α}, colBoxes f1 l = some vs → Sub f fr → rbBoxes T l k f vs = some x → ∃ f', Sub f' fr ∧ k f' = some x ∧ f'.frz = f.frz
  | [], vs, f, k, hc, hS, h => by
    obtain ⟨_, h⟩ := endL_some h
    exact ⟨f, hS, h, rfl⟩
  | p :: l, vs, f, k, hc, hS, h => by
    change (match f1.loc.get p.1, colBoxes f1 l with | some cs, some as => some (.agg cs :: as) | _, _ => none) = some vs at hc
    split at hc
    · rename_i cs as hcs has
      obtain rfl := Option.some.inj hc
      have h2 : castBox (zeroOf T p.2) cs (fun cs => rbBoxes T l k { f with loc := f.loc.set p.1 cs } as) = some x := h
      have h3 := castBox_some h2
      obtain ⟨ep, h5⟩ := h1.loc p.1 cs hcs
      refine rbBoxes_ok (f := { f with loc := f.loc.set p.1 cs }) h1 has ⟨hS.nt, hS.gl, hS.regs, fun d l' hl => ?_⟩ h3
      have hl' : (f.loc.set p.1 cs).get d = some l' := hl
      rw [Tr.get_set] at hl'
      split at hl'
      · rename_i ed
        subst ed
        obtain rfl := Option.some.inj hl'
        exact ⟨ep, h5⟩
      · exact hS.loc d l' hl'
    · cases hc
theorem rbLocs_ok (h1 : Sub f1 fr) : ∀ {l : List (Nat × Nat × Nat)} {f : WF} {k : WF → Option α}, colLocs f1 l = true → Sub f fr → rbLocs l k f = some x → ∃ f', Sub f' fr ∧ k f' = some x ∧ f'.frz = f.frz
  | [], f, k, hc, hS, h => ⟨f, hS, h, rfl⟩
  | p :: l, f, k, hc, hS, h => by
    change (match f1.regs.get p.1 with | some (.loc d off) => Nat.beq d p.2.1 && Nat.beq off p.2.2 && colLocs f1 l | _ => false) = true at hc
    split at hc
    · rename_i d off hr
      simp only [Bool.and_eq_true, Nat.beq_eq] at hc
      obtain ⟨⟨rfl, rfl⟩, hc⟩ := hc
      have h3 : rbLocs l k { f with regs := f.regs.set p.1 (.loc p.2.1 p.2.2) } = some x := h
      refine rbLocs_ok (f := { f with regs := f.regs.set p.1 (.loc p.2.1 p.2.2) }) h1 hc ⟨hS.nt, hS.gl, fun t w hw => ?_, hS.loc⟩ h3
      have hw' : (f.regs.set p.1 (.loc p.2.1 p.2.2)).get t = some w := hw
      rw [Tr.get_set] at hw'
      split at hw'
      · rename_i et
        subst et
        obtain rfl := Option.some.inj hw'
        exact h1.regs _ _ hr
      · exact hS.regs t w hw'
    · cases hc
theorem rebuild_ok {keep : List Nat} (hS : Sub f fr) (hO : Off as fr fr') (hK : ∀ d ∈ keep, fr'.loc.get d = fr.loc.get d) (h1 : Sub f1 fr') {j : Jn} {vs : List AV} {k : WF → Option α} (hc : collect f1 j = some vs) (h : rebuild T as keep f j vs k = some x) : ∃ f', Sub f' fr' ∧ k f' = some x ∧ f'.frz = f.frz := by
  unfold collect at hc
  split at hc
  · rename_i hl
    split at hc
    · rename_i bs hb
      obtain ⟨f2, h2, h3, z1⟩ := rbRegs_ok h1 hc (base_sub hS hO hK j) h
      obtain ⟨f3, h4, h5, z2⟩ := rbBoxes_ok h1 hb h2 h3
      obtain ⟨f4, h6, h7, z3⟩ := rbLocs_ok h1 hl h4 h5
      exact ⟨f4, h6, h7, z3.trans (z2.trans z1)⟩
    · cases hc
  · cases hc
theorem exEq_eq {a b : Ex} (h : exEq a b = true) : a = b := by
  cases a <;> cases b <;> simp [exEq] at h ⊢
  exact h
theorem caseEx_eq (e y : Ex) (a b : Option α) : caseEx e y a b = match exEq e y with | true => a | false => b := by
  cases e <;> cases y <;> rfl
theorem join_ok {keep : List Nat} (hS : Sub f fr) (hO : Off as fr fr') (hK : ∀ d ∈ keep, fr'.loc.get d = fr.loc.get d) (h1 : Sub f1 fr') {K : KC α} {ex e : Ex} {H H' : VH} {vs : List AV} : ∀ {js : List (Ex × Jn)}, leaveJ js ex f1 H = some (e, vs, H') → enterJ T as keep js K f e vs H' = some x → ∃ f', Sub f' fr' ∧ K ex f' H = some x ∧ f'.frz = f.frz
  | [], hl, he => by cases hl
  | p :: js, hl, he => by
    change (match exEq p.1 ex with | true => bindL (collect f1 p.2) fun vs => some (ex, vs, H) | false => leaveJ js ex f1 H) = some (e, vs, H') at hl
    change caseEx p.1 e (rebuild T as keep f p.2 vs fun f => K p.1 f H') (enterJ T as keep js K f e vs H') = some x at he
    rw [caseEx_eq] at he
    split at hl
    · rename_i hx
      obtain ⟨vs', hc, h2⟩ := bindL_some hl
      simp only [Option.some.injEq, Prod.mk.injEq] at h2
      obtain ⟨rfl, rfl, rfl⟩ := h2
      rw [hx] at he
      obtain ⟨f', h3, h4, z⟩ := rebuild_ok hS hO hK h1 hc he
      rw [exEq_eq hx] at h4
      exact ⟨f', h3, h4, z⟩
    · rename_i hx
      have key : ∀ {js : List (Ex × Jn)}, leaveJ js ex f1 H = some (e, vs, H') → e = ex := by
        intro js
        induction js with
        | nil => intro h; cases h
        | cons q js ih =>
          intro h
          change (match exEq q.1 ex with | true => bindL (collect f1 q.2) fun vs => some (ex, vs, H) | false => leaveJ js ex f1 H) = some (e, vs, H') at h
          split at h
          · obtain ⟨vs', _, h2⟩ := bindL_some h
            simp only [Option.some.injEq, Prod.mk.injEq] at h2
            exact h2.1.symm
          · exact ih h
      obtain rfl := key hl
      rw [hx] at he
      exact join_ok hS hO hK h1 hl he
end

/-! Code. -/
def WRunOk (run : WRun) (v : Run) : Prop :=
  ∀ (α : Type) (ann : Ann) (K : KC α) (f : WF) (H : VH) (x : α) (fr : Fr), Sub f fr → run α ann K f H = some x → ∃ ex fr' H' f', v fr H = some (ex, fr', H') ∧ Sub f' fr' ∧ K ex f' H' = some x ∧ Frz f f' fr fr'

section
variable {T : Tb} {callF : Nat → List AV → VH → Option (AV × VH)} {promo : Nat → Bool}
theorem viaJ_ok {as : List Nat} {core : WRun} {v : Run} (hv : ∀ fr H e fr' H', v fr H = some (e, fr', H') → Off as fr fr') (hc : WRunOk core v) : WRunOk (viaJ T (fun _ => as) core) v := by
  intro α ann K f H x fr hS h
  unfold viaJ at h
  split at h
  · rename_i keep js a
    obtain ⟨e, l, H1, h1, h2⟩ := bindJ_some h
    obtain ⟨ex, fr', H', f', h3, h4, h5, z⟩ := hc _ _ _ _ _ _ _ (hS.freeze keep) h1
    obtain ⟨f2, h6, h7, z2⟩ := join_ok hS (hv _ _ _ _ _ h3) (fun d hd => z.2 d (List.mem_append_left _ hd)) h4 h5 h2
    exact ⟨ex, fr', H', f2, h3, h6, h7, z2, fun d hd => z.2 d (List.mem_append_right _ hd)⟩
  · exact hc _ _ _ _ _ _ _ hS h

theorem wloop_ok {n : Nat} {c : Code} {run : WRun} (hr : WRunOk run (vcode T callF promo n c)) (m : Nat) : WRunOk (wLoop T c run m) (vloop (vcode T callF promo n c) m) := by
  intro α ann K f H x fr hS h
  unfold wLoop at h
  split at h
  · rename_i keep hd js a
    obtain ⟨vs, h1, h2⟩ := bindL_some h
    obtain ⟨e, l, H1, h3, h4⟩ := bindJ_some h2
    have key : ∀ (m : Nat) (vs : List AV) (H : VH) (f1 : WF) (fr1 : Fr), Sub f1 fr1 → Off (assigned c) fr fr1 → collect f1 hd = some vs → (∀ d ∈ keep ++ f.frz, fr1.loc.get d = fr.loc.get d) → loopN (wbody T (assigned c) keep hd js (run R a) f) m vs H = some (e, l, H1) →
        ∃ ex fr' H' f', vloop (vcode T callF promo n c) m fr1 H = some (ex, fr', H') ∧ Sub f' fr' ∧ Off (assigned c) fr fr' ∧ leaveJ js ex f' H' = some (e, l, H1) ∧ ∀ d ∈ keep ++ f.frz, fr'.loc.get d = fr.loc.get d := by
      intro m
      induction m with
      | zero => intro vs H f1 fr1 _ _ _ _ h; cases h
      | succ m ih =>
        intro vs H f1 fr1 s1 o1 c1 z1 h5
        change wbody T (assigned c) keep hd js (run R a) f (loopN (wbody T (assigned c) keep hd js (run R a) f) m) vs H = some (e, l, H1) at h5
        unfold wbody at h5
        obtain ⟨f2, s2, h6, z2⟩ := rebuild_ok hS o1 (fun d hd => z1 d (List.mem_append_left _ hd)) s1 c1 h5
        obtain ⟨ex, fr2, H2, f3, h7, s3, h8, z3⟩ := hr _ _ _ _ _ _ _ (s2.freeze keep) h6
        have z4 : ∀ d ∈ keep ++ f.frz, fr2.loc.get d = fr.loc.get d := fun d hd => (z3.2 d (show d ∈ keep ++ f2.frz by rw [z2]; exact hd)).trans (z1 d hd)
        have o2 := o1.trans (vcode_off n c _ _ _ _ _ h7)
        show ∃ ex fr' H' f', loopStep (vcode T callF promo n c) (vloop (vcode T callF promo n c) m) fr1 H = some (ex, fr', H') ∧ _
        unfold loopStep
        rw [h7]
        unfold onBody at h8
        cases ex with
        | normal =>
          obtain ⟨vs', c2, h9⟩ := bindL_some h8
          exact ih vs' H2 f3 fr2 s3 o2 c2 z4 h9
        | ret => exact ⟨.ret, fr2, H2, f3, rfl, s3, o2, h8, z4⟩
        | exit i => exact ⟨.exit i, fr2, H2, f3, rfl, s3, o2, h8, z4⟩
    obtain ⟨ex, fr', H', f', h5, h6, h7, h8, z⟩ := key m vs H f fr hS (.refl _ _) h1 (fun _ _ => rfl) h3
    obtain ⟨f2, h9, h10, z2⟩ := join_ok hS h7 (fun d hd => z d (List.mem_append_left _ hd)) h6 h8 h4
    exact ⟨ex, fr', H', f2, h5, h9, h10, z2, fun d hd => z d (List.mem_append_right _ hd)⟩
  · cases h

theorem wcode_ok (n : Nat) (c : Code) : WRunOk (wc T callF promo n c) (vcode T callF promo n c) := by
  induction c with
  | skip =>
    intro α ann K f H x fr hS h
    exact ⟨.normal, fr, H, f, rfl, hS, h, .refl⟩
  | region id ops d =>
    refine viaJ_ok (vcode_off n (.region id ops d)) ?_
    intro α ann K f H x fr hS h
    show ∃ ex fr' H' f', cRegion T callF promo ops d fr H = some (ex, fr', H') ∧ _
    unfold cRegion
    cases d with
    | true =>
      obtain ⟨fr', H', f', h1, h2, h3, z⟩ := opsT_ok hS (show wopsT T callF promo ops (Region.before ops) ops.toList 0 [] (K .normal) f H = some x from h)
      simp only [h1]
      exact ⟨.normal, fr', H', f', rfl, h2, h3, z⟩
    | false =>
      obtain ⟨fr', H', f', h1, h2, h3, z⟩ := ops_ok hS (show wops T callF promo ops ops.toList (K .normal) f H = some x from h)
      simp only [h1]
      exact ⟨.normal, fr', H', f', rfl, h2, h3, z⟩
  | seq a b iha ihb =>
    change WRunOk (viaJ T (fun _ => assigned (.seq a b)) fun α ann K f H => wc T callF promo n a α ann.left (kSeq (wc T callF promo n b α ann.right K) K) f H) _
    refine viaJ_ok (vcode_off n (.seq a b)) ?_
    intro α ann K f H x fr hS h
    obtain ⟨ex, fr', H', f', h1, h2, h3, z⟩ := iha _ _ _ _ _ _ _ hS h
    show ∃ ex fr' H' f', loopStep (vcode T callF promo n a) (vcode T callF promo n b) fr H = some (ex, fr', H') ∧ _
    unfold loopStep
    rw [h1]
    unfold kSeq at h3
    cases ex with
    | normal =>
      obtain ⟨ex, fr2, H2, f2, k1, k2, k3, z2⟩ := ihb _ _ _ _ _ _ _ h2 h3
      exact ⟨ex, fr2, H2, f2, k1, k2, k3, z.trans z2⟩
    | ret => exact ⟨_, fr', H', f', rfl, h2, h3, z⟩
    | exit i => exact ⟨_, fr', H', f', rfl, h2, h3, z⟩
  | cond y a b iha ihb =>
    change WRunOk (viaJ T (fun _ => assigned (.cond y a b)) fun α ann K f H => wCond y (wc T callF promo n a α ann.left K) (wc T callF promo n b α ann.right K) f H) _
    refine viaJ_ok (vcode_off n (.cond y a b)) ?_
    intro α ann K f H x fr hS h
    change wCond y _ _ f H = some x at h
    show ∃ ex fr' H' f', cCond y (vcode T callF promo n a) (vcode T callF promo n b) fr H = some (ex, fr', H') ∧ _
    unfold wCond at h
    unfold cCond
    split at h
    · rename_i e he
      rw [hS.eva he]
      cases e with
      | true => exact iha _ _ _ _ _ _ _ hS h
      | false => exact ihb _ _ _ _ _ _ _ hS h
    · cases h
  | block id c ih =>
    change WRunOk (viaJ T (fun _ => assigned (.block id c)) fun α ann K f H => wc T callF promo n c α ann.left (kBlock id K) f H) _
    refine viaJ_ok (vcode_off n (.block id c)) ?_
    intro α ann K f H x fr hS h
    obtain ⟨ex, fr', H', f', h1, h2, h3, z⟩ := ih _ _ _ _ _ _ _ hS h
    show ∃ ex fr' H' f', cBlock id (vcode T callF promo n c) fr H = some (ex, fr', H') ∧ _
    unfold cBlock
    rw [h1]
    unfold kBlock at h3
    cases ex with
    | normal => exact ⟨_, fr', H', f', rfl, h2, h3, z⟩
    | ret => exact ⟨_, fr', H', f', rfl, h2, h3, z⟩
    | exit i =>
      simp only at h3 ⊢
      cases hb : Nat.beq i id with
      | true => rw [hb] at h3; exact ⟨_, fr', H', f', by simp, h2, h3, z⟩
      | false => rw [hb] at h3; exact ⟨_, fr', H', f', by simp, h2, h3, z⟩
  | loop c ih => exact wloop_ok ih n
  | exit id =>
    intro α ann K f H x fr hS h
    exact ⟨.exit id, fr, H, f, rfl, hS, h, .refl⟩
  | label l =>
    intro α ann K f H x fr hS h
    exact ⟨.normal, fr, H, f, rfl, hS, h, .refl⟩
  | ret =>
    intro α ann K f H x fr hS h
    exact ⟨.ret, fr, H, f, rfl, hS, h, .refl⟩
  | _ =>
    intro α ann K f H x fr hS h
    cases h

variable {α : Type} {x : α}
theorem results_ok2 {f : WF} {fr : Fr} {H : VH} (hS : Sub f fr) : ∀ {rs : List ResultVar} {k : List AV → Option α}, wresults T f H rs k = some x → ∃ vs, vresults T fr H rs = some vs ∧ k vs = some x
  | [], k, h => ⟨[], rfl, h⟩
  | .tmp t :: rs, k, h => by
    change bindV (f.eva (.tmp t)) (fun a => wresults T f H rs fun as => k (a :: as)) = some x at h
    obtain ⟨a, h1, h2⟩ := bindV_some h
    obtain ⟨vs, h3, h4⟩ := results_ok2 hS h2
    exact ⟨a :: vs, by simp [vresults, hS.eva h1, h3], h4⟩
  | .cell t ty :: rs, k, h => by
    change wLoad T ty f H ty (.tmp t) (fun w _ _ => match w with | .v a => wresults T f H rs fun as => k (a :: as) | .loc _ _ => none) = some x at h
    obtain ⟨r, fr', H', w, f', h1, h2, h3, h4, _, _, _⟩ := load_ok hS h
    unfold oLoad at h1
    split at h1
    · rename_i r0 hr0
      obtain ⟨a, h5, rfl, rfl, rfl⟩ := outV_spec h1
      cases w with
      | loc d off => cases h4
      | v b =>
        obtain ⟨rfl⟩ : RV.v a = .v b := h3
        obtain ⟨vs, h6, h7⟩ := results_ok2 hS h4
        exact ⟨a :: vs, by simp [vresults, hr0, h5, h6], h7⟩
    · cases h1
theorem enter_sub (gl : Nat → Bool) (nt : Nat) (args : List AV) : Sub (enterWF gl nt args) (enterFr gl nt args) := by
  refine ⟨rfl, rfl, fun t w h => ?_, fun d cs h => ?_⟩
  · have h1 : (Tr.ofListFrom .leaf 0 (args.map WV.v)).get t = some w := h
    show ∃ r, (Tr.ofListFrom (Tr.room nt) 0 (args.map RV.v)).get t = some r ∧ _
    rw [Tr.get_ofListFrom] at h1 ⊢
    split at h1
    · rename_i ht
      simp only [List.length_map] at ht ⊢
      simp only [List.getElem?_map, Option.map_eq_some_iff] at h1
      obtain ⟨a, h2, rfl⟩ := h1
      exact ⟨.v a, by simp only [ht, if_true, List.getElem?_map, and_self, h2, Option.map_some], rfl⟩
    · rw [Tr.get_leaf] at h1; cases h1
  · have h1 : (Tr.leaf : Tr (List AV)).get d = some cs := h
    rw [Tr.get_leaf] at h1; cases h1

/-- What the second machine answers, a call answers. -/
theorem call_of_wfun {ext : Nat → Option (List AV → Option AV)} {promo : Nat → Nat → Bool} {n f : Nat} {fn : Func} {ann : Ann} {args : List AV} {H : VH} {v : AV × VH} (hx : ext f = none) (hf : T.fn.get f = some fn)
    (h : wfun T (vcall T ext promo n) (promo f) n ann fn args H = some v) : vcall T ext promo (n + 1) f args H = some v := by
  show callStep T ext promo n (vcall T ext promo n) f args H = some v
  unfold callStep
  rw [hx, hf]
  simp only
  unfold wfun at h
  cases hb : fn.body with
  | none => rw [hb] at h; cases h
  | some c =>
    rw [hb] at h
    simp only at h ⊢
    cases hl : Nat.ble args.length fn.ntmps with
    | false => rw [hl] at h; cases h
    | true =>
      rw [hl] at h
      simp only [if_true] at h ⊢
      obtain ⟨ex, fr', H', f', h1, h2, h3, _⟩ := wcode_ok n c _ _ _ _ _ _ _ (enter_sub T.gl fn.ntmps args) h
      rw [h1]
      unfold wEnd at h3
      cases ex with
      | normal =>
        obtain ⟨vs, h4, h5⟩ := results_ok2 h2 h3
        simp only [callStep.retStep, h4]
        exact h5
      | ret =>
        obtain ⟨vs, h4, h5⟩ := results_ok2 h2 h3
        simp only [callStep.retStep, h4]
        exact h5
      | exit i => cases h3
end
end Go.Vm
