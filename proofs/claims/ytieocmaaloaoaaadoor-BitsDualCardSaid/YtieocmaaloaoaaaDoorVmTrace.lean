/- The run of a region in the text's order, step by step. -/
import Derived.Test.YtieocmaaloaoaaaDoorVmLocal
namespace Go.Vm
set_option linter.unusedSimpArgs false
set_option linter.unusedVariables false
set_option linter.unusedSectionVars false

def dstAt (ops : Array Oper) (i : Nat) : Option Nat := (ops[i]?).bind (·.dst)

section
variable (T : Tb) (callF : Nat → List AV → VH → Option (AV × VH)) (promo : Nat → Bool) (ops : Array Oper) (bef : Array Nat) (F : Nat → Fr) (Hh : Nat → VH) (tg : Nat → Tag) (rs : Nat → RV)
def StepAt (k : Nat) (o : Oper) : Prop :=
  ops[k]? = some o ∧
  ((guardOf ops o (F k) = some true ∧ ∃ fr', vstep T callF promo o (F k) (Hh k) = some (rs k, fr', Hh (k + 1)) ∧ tg k = tagOf promo o (F k) (Hh k) (Hh (k + 1)) (rs k) ∧ F (k + 1) = fr'.put o.dst (rs k)) ∨
   (guardOf ops o (F k) = some false ∧ rs k = .v (.tuple []) ∧ tg k = .idle ∧ Hh (k + 1) = Hh k ∧ F (k + 1) = (F k).put o.dst (rs k)))
structure Trace : Prop where
  step : ∀ k, k < ops.size → ∃ o, StepAt T callF promo ops F Hh tg rs k o
  free : ∀ i k, i < k → k < ops.size → (bef.getD k 0).testBit i = true ∨ (tg i).free (tg k) = true
end

section
variable {T : Tb} {callF : Nat → List AV → VH → Option (AV × VH)} {promo : Nat → Bool} {ops : Array Oper} {bef : Array Nat}

theorem freeOf_spec {t : Tag} {m : Nat} : ∀ {ts : List Tag} {k : Nat}, ts.length = k → freeOf t m k ts = true → ∀ i u, i < k → ts[k - 1 - i]? = some u → m.testBit i = true ∨ u.free t = true
  | [], k, hl, _, i, u, hi, _ => by simp at hl; omega
  | v :: ts, k, hl, h, i, u, hi, hu => by
    simp only [freeOf, Bool.and_eq_true, Bool.or_eq_true] at h
    simp only [List.length_cons] at hl
    by_cases e : i = k - 1
    · subst e
      rw [Nat.sub_self] at hu
      simp only [List.getElem?_cons_zero, Option.some.injEq] at hu
      subst hu
      exact h.1
    · refine freeOf_spec (ts := ts) (k := k - 1) (by omega) h.2 i u (by omega) ?_
      rw [show k - 1 - i = (k - 1 - 1 - i) + 1 by omega] at hu
      simpa using hu

theorem trace_of {fr' : Fr} {H' : VH} : ∀ (os : List Oper) (k : Nat) (ts : List Tag) (fr : Fr) (H : VH), ops.toList.drop k = os → k ≤ ops.size → ts.length = k → vopsT T callF promo ops bef os k ts fr H = some (fr', H') →
    ∃ F Hh tg rs, F k = fr ∧ Hh k = H ∧ F ops.size = fr' ∧ Hh ops.size = H' ∧ (∀ i, i < k → ts[k - 1 - i]? = some (tg i)) ∧ (∀ j, k ≤ j → j < ops.size → ∃ o, StepAt T callF promo ops F Hh tg rs j o) ∧
      ∀ i j, i < j → k ≤ j → j < ops.size → (bef.getD j 0).testBit i = true ∨ (tg i).free (tg j) = true
  | [], k, ts, fr, H, hd, hk, hl, h => by
    have hks : k = ops.size := by
      have := congrArg List.length hd
      simp at this
      omega
    simp only [vopsT, Option.some.injEq, Prod.mk.injEq] at h
    obtain ⟨rfl, rfl⟩ := h
    refine ⟨fun _ => fr, fun _ => H, fun i => (ts[k - 1 - i]?).getD .idle, fun _ => .v .undef, rfl, rfl, rfl, rfl, fun i hi => ?_, fun j h1 h2 => by omega, fun i j _ h1 h2 => by omega⟩
    have hlt : k - 1 - i < ts.length := by omega
    simp only [List.getElem?_eq_getElem hlt, Option.getD_some]
  | o :: os, k, ts, fr, H, hd, hk, hl, h => by
    have hlt : k < ops.size := by
      have := congrArg List.length hd
      simp at this
      omega
    have ho : ops[k]? = some o := by
      have := congrArg (·[0]?) hd
      simpa using this
    have hd' : ops.toList.drop (k + 1) = os := by
      have := congrArg List.tail hd
      simpa using this
    change opsConsT T callF promo ops bef o (vopsT T callF promo ops bef os) k ts fr H = some (fr', H') at h
    unfold opsConsT at h
    have go : ∀ (t : Tag) (r : RV) (fr1 : Fr) (H1 : VH), (∀ i u, i < k → ts[k - 1 - i]? = some u → (bef.getD k 0).testBit i = true ∨ u.free t = true) →
        vopsT T callF promo ops bef os (k + 1) (t :: ts) fr1 H1 = some (fr', H') →
        ((guardOf ops o fr = some true ∧ ∃ fr0, vstep T callF promo o fr H = some (r, fr0, H1) ∧ t = tagOf promo o fr H H1 r ∧ fr1 = fr0.put o.dst r) ∨ (guardOf ops o fr = some false ∧ r = .v (.tuple []) ∧ t = .idle ∧ H1 = H ∧ fr1 = fr.put o.dst r)) →
        ∃ F Hh tg rs, F k = fr ∧ Hh k = H ∧ F ops.size = fr' ∧ Hh ops.size = H' ∧ (∀ i, i < k → ts[k - 1 - i]? = some (tg i)) ∧ (∀ j, k ≤ j → j < ops.size → ∃ o, StepAt T callF promo ops F Hh tg rs j o) ∧
          ∀ i j, i < j → k ≤ j → j < ops.size → (bef.getD j 0).testBit i = true ∨ (tg i).free (tg j) = true := by
      intro t r fr1 H1 hfree hrun hstep
      obtain ⟨F, Hh, tg, rs, e1, e2, e3, e4, e5, e6, e7⟩ := trace_of os (k + 1) (t :: ts) fr1 H1 hd' (by omega) (by simp [hl]) hrun
      have htk : tg k = t := by
        have := e5 k (by omega)
        simp only [Nat.add_sub_cancel, Nat.sub_self, List.getElem?_cons_zero, Option.some.injEq] at this
        exact this.symm
      have htl : ∀ i, i < k → ts[k - 1 - i]? = some (tg i) := fun i hi => by
        have := e5 i (by omega)
        rw [show k + 1 - 1 - i = (k - 1 - i) + 1 by omega] at this
        simpa using this
      have ne : ∀ j, k + 1 ≤ j → ¬ j = k := fun j h => by omega
      refine ⟨fun i => if i = k then fr else F i, fun i => if i = k then H else Hh i, tg, fun i => if i = k then r else rs i, by simp, by simp, by simp [ne ops.size (by omega), e3], by simp [ne ops.size (by omega), e4], htl, fun j hj hjs => ?_, fun i j hij hj hjs => ?_⟩
      · by_cases e : j = k
        · subst e
          refine ⟨o, ho, ?_⟩
          simp only [if_true, ne (j + 1) (by omega), if_false, e1, e2, htk]
          exact hstep
        · obtain ⟨o', h1, h2⟩ := e6 j (by omega) hjs
          refine ⟨o', h1, ?_⟩
          simp only [e, if_false, ne (j + 1) (by omega)]
          exact h2
      · by_cases e : j = k
        · subst e
          rw [htk]
          exact hfree i (tg i) hij (htl i hij)
        · exact e7 i j hij (by omega) hjs
    split at h
    · rename_i hg
      split at h
      · rename_i r fr0 H1 hs
        split at h
        · rename_i hf
          exact go _ r _ H1 (freeOf_spec hl hf) h (.inl ⟨hg, fr0, hs, rfl, rfl⟩)
        · cases h
      · cases h
    · rename_i hg
      exact go .idle (.v (.tuple [])) _ H (fun i u _ _ => .inr (by cases u <;> rfl)) h (.inr ⟨hg, rfl, rfl, rfl, rfl⟩)
    · cases h

variable {F : Nat → Fr} {Hh : Nat → VH} {tg : Nat → Tag} {rs : Nat → RV} {fr fr' : Fr} {H H' : VH} {r : RV} {o : Oper}

theorem step_self (h : vstep T callF promo o fr H = some (r, fr', H')) : Moved (tagOf promo o fr H H' r) fr fr' fr fr' H H' H H' := by
  obtain ⟨fs', K', h1, h2⟩ := step_local (fs := fr) (K := H) h ⟨fun _ _ => rfl, fun _ => rfl, fun _ _ _ => ⟨fun b _ => .refl _ _, fun _ _ => rfl⟩, fun _ _ => rfl⟩
  rw [h] at h1
  simp only [Option.some.injEq, Prod.mk.injEq] at h1
  obtain ⟨_, rfl, rfl⟩ := h1
  exact h2
theorem put_get (fr : Fr) (d : Option Nat) (r : RV) (t : Nat) : (fr.put d r).regs.get t = if d = some t ∧ t < fr.nt then some r else fr.regs.get t := by
  unfold Fr.put
  cases d with
  | none => simp
  | some d =>
    simp only
    rw [blt_eq]
    by_cases hd : d < fr.nt
    · rw [decide_eq_true hd]
      simp only [Tr.get_set, Option.some.injEq]
      by_cases e : t = d
      · subst e; rw [if_pos rfl, if_pos ⟨rfl, hd⟩]
      · rw [if_neg e, if_neg fun h => e h.1.symm]
    · rw [decide_eq_false hd]
      simp only [Option.some.injEq]
      rw [if_neg]
      rintro ⟨rfl, h⟩
      exact hd h
theorem put_loc (fr : Fr) (d : Option Nat) (r : RV) : (fr.put d r).loc = fr.loc ∧ (fr.put d r).nt = fr.nt ∧ (fr.put d r).gl = fr.gl := by
  unfold Fr.put
  cases d with
  | none => exact ⟨rfl, rfl, rfl⟩
  | some d => simp only; split <;> exact ⟨rfl, rfl, rfl⟩

variable (hT : Trace T callF promo ops bef F Hh tg rs)
include hT
/-- Each step moves the frame on. -/
theorem Trace.moved {k : Nat} (hk : k < ops.size) : ∃ fr0, Moved (tg k) (F k) fr0 (F k) fr0 (Hh k) (Hh (k + 1)) (Hh k) (Hh (k + 1)) ∧ F (k + 1) = fr0.put (dstAt ops k) (rs k) := by
  obtain ⟨o, ho, h | h⟩ := hT.step k hk
  · obtain ⟨_, fr0, h1, h2, h3⟩ := h
    refine ⟨fr0, ?_, ?_⟩
    · rw [h2]; exact step_self h1
    · rw [h3]; simp [dstAt, ho]
  · obtain ⟨_, h1, h2, h3, h4⟩ := h
    refine ⟨F k, ?_, ?_⟩
    · rw [h2, h3]; exact .quiet (fun _ h => h) (fun h => h)
    · rw [h4]; simp [dstAt, ho]
theorem Trace.nt : ∀ j, j ≤ ops.size → (F j).nt = (F 0).nt ∧ (F j).gl = (F 0).gl
  | 0, _ => ⟨rfl, rfl⟩
  | j + 1, hj => by
    obtain ⟨fr0, h1, h2⟩ := hT.moved (k := j) (by omega)
    obtain ⟨i1, i2⟩ := Trace.nt j (by omega)
    rw [h2, (put_loc _ _ _).2.1, (put_loc _ _ _).2.2, h1.regs.2.1, h1.regs.2.2]
    exact ⟨i1, i2⟩
theorem Trace.wrote (hd : ∀ i j d, i < ops.size → j < ops.size → dstAt ops i = some d → dstAt ops j = some d → i = j) : ∀ j, j ≤ ops.size → ∀ i, i < j → ∀ t, dstAt ops i = some t → t < (F 0).nt → (F j).regs.get t = some (rs i)
  | 0, _, i, hi => by omega
  | j + 1, hj, i, hi => fun t ht hlt => by
    obtain ⟨fr0, h1, h2⟩ := hT.moved (k := j) (by omega)
    have hnt := (hT.nt j (by omega)).1
    rw [h2, put_get]
    by_cases e : i = j
    · subst e
      rw [if_pos ⟨ht, by rw [h1.regs.2.1, hnt]; exact hlt⟩]
    · rw [if_neg fun h => e (hd i j t (by omega) (by omega) ht h.1), h1.regs.1]
      exact Trace.wrote hd j (by omega) i (by omega) t ht hlt
theorem Trace.kept : ∀ j, j ≤ ops.size → ∀ t, (∀ i, i < j → dstAt ops i = some t → (F 0).nt ≤ t) → (F j).regs.get t = (F 0).regs.get t
  | 0, _, _, _ => rfl
  | j + 1, hj, t, h => by
    obtain ⟨fr0, h1, h2⟩ := hT.moved (k := j) (by omega)
    have hnt := (hT.nt j (by omega)).1
    rw [h2, put_get, if_neg, h1.regs.1]
    · exact Trace.kept j (by omega) t fun i hi => h i (by omega)
    · rintro ⟨e, hlt⟩
      have := h j (by omega) e
      rw [h1.regs.2.1, hnt] at hlt
      omega
theorem Trace.loc {d : Nat} (p : Nat) : ∀ q, p ≤ q → q ≤ ops.size → (∀ i, p ≤ i → i < q → ¬ (tg i).touches d) → (F q).loc.get d = (F p).loc.get d
  | 0, h, _, _ => by
    obtain rfl : p = 0 := by omega
    rfl
  | q + 1, h, hq, hn => by
    by_cases e : p = q + 1
    · rw [e]
    · obtain ⟨fr0, h1, h2⟩ := hT.moved (k := q) (by omega)
      rw [h2, (put_loc _ _ _).1, (h1.loc d (hn q (by omega) (by omega))).1]
      exact Trace.loc p q (by omega) (by omega) fun i h1 h2 => hn i h1 (by omega)
theorem Trace.heap (p : Nat) : ∀ q, p ≤ q → q ≤ ops.size → (∀ i, p ≤ i → i < q → ¬ (tg i).isEff) → Hh q = Hh p
  | 0, h, _, _ => by
    obtain rfl : p = 0 := by omega
    rfl
  | q + 1, h, hq, hn => by
    by_cases e : p = q + 1
    · rw [e]
    · obtain ⟨fr0, h1, h2⟩ := hT.moved (k := q) (by omega)
      rw [(h1.heap (hn q (by omega) (by omega))).1]
      exact Trace.heap p q (by omega) (by omega) fun i h1 h2 => hn i h1 (by omega)
theorem Trace.same {b : Nat} (p : Nat) : ∀ q, p ≤ q → q ≤ ops.size → (∀ i, p ≤ i → i < q → (tg i).isEff → SameB (Hh i) (Hh (i + 1)) b) → SameB (Hh p) (Hh q) b
  | 0, h, _, _ => by
    obtain rfl : p = 0 := by omega
    exact .refl _ _
  | q + 1, h, hq, hn => by
    by_cases e : p = q + 1
    · rw [e]; exact .refl _ _
    · obtain ⟨fr0, h1, h2⟩ := hT.moved (k := q) (by omega)
      refine (Trace.same p q (by omega) (by omega) fun i h1 h2 => hn i h1 (by omega)).trans ?_
      by_cases he : (tg q).isEff
      · exact hn q (by omega) (by omega) he
      · rw [(h1.heap he).1]; exact .refl _ _
theorem Trace.wf (hC : CallsHs callF) (h0 : WfH (Hh 0)) : ∀ j, j ≤ ops.size → WfH (Hh j)
  | 0, _ => h0
  | j + 1, hj => by
    have ih := Trace.wf hC h0 j (by omega)
    obtain ⟨o, ho, h | h⟩ := hT.step j (by omega)
    · obtain ⟨_, fr0, h1, _⟩ := h
      exact ((vstep_hs hC h1).later ih).2.1
    · rw [h.2.2.2.1]; exact ih
omit hT in
theorem tagOf_eff (h : (tagOf promo o fr H H' r).isEff) : tagOf promo o fr H H' r = .eff H H' := by
  revert h
  unfold tagOf
  split <;> intro h <;> first
    | rfl
    | exact h.elim
    | exact (tagRes_eff _ h).elim
    | exact (tagAddr_eff _ h).elim
    | exact (tagConv_eff _ h).elim
    | (unfold tagBox at h ⊢; split at h <;> first | rfl | skip
       split at h <;> first | rfl | exact h.elim)
    | (unfold tagStore at h ⊢; split at h <;> first | rfl | exact h.elim)
    | (unfold tagCall at h ⊢; split at h <;> first | rfl | exact h.elim)
omit hT in
theorem allSame_spec : ∀ {bs : List Nat}, allSame H H' bs = true → ∀ b ∈ bs, H.same H' b = true
  | [], _, b, hb => by cases hb
  | c :: bs, h, b, hb => by
    simp only [allSame, Bool.and_eq_true] at h
    rcases List.mem_cons.1 hb with rfl | hb
    · exact h.1
    · exact allSame_spec h.2 b hb
/-- An effect and a read that may come up in either order. -/
theorem Trace.free_same (hC : CallsHs callF) (h0 : WfH (Hh 0)) {j : Nat} (hj : j < ops.size) (he : (tg j).isEff) {bs ls : List Nat} (hf : (tg j).free (.read bs ls) = true ∨ (Tag.read bs ls).free (tg j) = true) {b : Nat} (hb : b ∈ bs) : SameB (Hh j) (Hh (j + 1)) b := by
  obtain ⟨o, ho, h | h⟩ := hT.step j hj
  · obtain ⟨_, fr0, h1, h2, _⟩ := h
    have ht : tg j = .eff (Hh j) (Hh (j + 1)) := by rw [h2] at he ⊢; exact tagOf_eff he
    rw [ht] at hf
    have : allSame (Hh j) (Hh (j + 1)) bs = true := by rcases hf with hf | hf <;> exact hf
    exact same_of ((vstep_hs hC h1).later (hT.wf hC h0 j (by omega))) (allSame_spec this b hb)
  · rw [h.2.2.1] at he; exact he.elim
end
end Go.Vm
