/- The second machine's operations against the first one's. -/
import Derived.Test.YtieocmaaloaoaaaDoorVmW
namespace Go.Vm
set_option linter.unusedSimpArgs false
set_option linter.unusedVariables false
set_option linter.unusedSectionVars false

theorem memB_of : ∀ {l : List Nat} {d : Nat}, d ∈ l → memB d l = true
  | a :: l, d, h => by
    show (Nat.beq d a || memB d l) = true
    rcases List.mem_cons.1 h with rfl | h
    · simp
    · simp [memB_of h]
def Same (loc : Tr LC) : WV → RV → Prop
  | .v a, r => r = .v a
  | .loc d off, r => ∃ ep cs, r = .loc d ep off ∧ loc.get d = some ⟨ep, cs⟩
/-- A frame of the second machine has no more than one of the first has. -/
structure Sub (f : WF) (fr : Fr) : Prop where
  nt : f.nt = fr.nt
  gl : f.gl = fr.gl
  regs : ∀ t w, f.regs.get t = some w → ∃ r, fr.regs.get t = some r ∧ Same fr.loc w r
  loc : ∀ d cs, f.loc.get d = some cs → ∃ ep, fr.loc.get d = some ⟨ep, cs⟩

section
variable {f : WF} {fr : Fr} (h : Sub f fr)
include h
theorem Sub.ev {x : Operand} {w : WV} (e : f.ev x = some w) : ∃ r, fr.ev x = some r ∧ Same fr.loc w r := by
  cases x with
  | tmp t =>
    obtain ⟨r, h1, h2⟩ := h.regs t w e
    exact ⟨r, by simp [Fr.ev, h1], h2⟩
  | const v =>
    simp only [WF.ev] at e
    split at e
    · rename_i a ha
      obtain rfl := Option.some.inj e
      exact ⟨.v a, by simp [Fr.ev, ha], rfl⟩
    · cases e
  | global g =>
    simp only [WF.ev] at e
    split at e
    · rename_i ha
      obtain rfl := Option.some.inj e
      refine ⟨.v (.ptr (some (g, 0))), ?_, rfl⟩
      rw [h.gl] at ha
      simp [Fr.ev, ha]
    · cases e
  | func g =>
    obtain rfl := Option.some.inj e
    exact ⟨_, rfl, rfl⟩
theorem Sub.ev_v {x : Operand} {a : AV} (e : f.ev x = some (.v a)) : fr.ev x = some (.v a) := by
  obtain ⟨r, h1, rfl⟩ := h.ev e
  exact h1
theorem Sub.ev_loc {x : Operand} {d off : Nat} (e : f.ev x = some (.loc d off)) : ∃ ep cs, fr.ev x = some (.loc d ep off) ∧ fr.loc.get d = some ⟨ep, cs⟩ := by
  obtain ⟨r, h1, ep, cs, rfl, h2⟩ := h.ev e
  exact ⟨ep, cs, h1, h2⟩
theorem Sub.eva {x : Operand} {a : AV} (e : f.eva x = some a) : fr.eva x = some a := by
  unfold WF.eva at e
  split at e
  · rename_i b hb
    obtain rfl := Option.some.inj e
    simp [Fr.eva, h.ev_v hb]
  · cases e
theorem Sub.evas : ∀ {xs : List Operand} {as : List AV}, f.evas xs = some as → fr.evas xs = some as
  | [], as, e => e
  | x :: xs, as, e => by
    simp only [WF.evas] at e
    split at e
    · rename_i a as' h1 h2
      obtain rfl := Option.some.inj e
      simp [Fr.evas, h.eva h1, Sub.evas h2]
    · cases e
theorem Sub.parts : ∀ {xs : List (Nat × Operand)} {as : List (Nat × AV)}, wparts f xs = some as → parts fr xs = some as
  | [], as, e => e
  | (i, x) :: xs, as, e => by
    simp only [wparts] at e
    split at e
    · rename_i a as' h1 h2
      obtain rfl := Option.some.inj e
      simp [Vm.parts, h.eva h1, Sub.parts h2]
    · cases e
theorem Sub.optEv {x : Option Operand} {a : Option AV} (e : woptEv f x = some a) : optEv fr x = some a := by
  cases x with
  | none => exact e
  | some x =>
    simp only [woptEv] at e
    split at e
    · rename_i b hb
      obtain rfl := Option.some.inj e
      simp [Vm.optEv, h.eva hb]
    · cases e
theorem Sub.evc_v {x : Operand} {a : AV} (e : f.ev x = some (.v a)) : evc fr x = some (.v a) := by
  unfold evc
  rw [h.ev_v e]
theorem Sub.evc_loc {x : Operand} {d off : Nat} (e : f.ev x = some (.loc d off)) : ∃ ep cs, evc fr x = some (.loc d ep off) ∧ fr.ev x = some (.loc d ep off) ∧ fr.loc.get d = some ⟨ep, cs⟩ := by
  obtain ⟨ep, cs, h1, h2⟩ := h.ev_loc e
  refine ⟨ep, cs, ?_, h1, h2⟩
  unfold evc
  rw [h1]
  simp [Fr.locCells, h2]
theorem Sub.put {w : WV} {r : RV} (d : Option Nat) (hs : Same fr.loc w r) : Sub (f.put d w) (fr.put d r) := by
  cases d with
  | none => exact h
  | some d =>
    unfold WF.put Fr.put
    simp only
    rw [h.nt]
    cases hb : Nat.blt d fr.nt with
    | false => exact h
    | true =>
      refine ⟨rfl, h.gl, fun t w' e => ?_, h.loc⟩
      have e' : (f.regs.set d w).get t = some w' := e
      rw [Tr.get_set] at e'
      show ∃ r', (fr.regs.set d r).get t = some r' ∧ _
      rw [Tr.get_set]
      split at e'
      · rename_i ht
        obtain rfl := Option.some.inj e'
        exact ⟨r, by simp [ht], hs⟩
      · rename_i ht
        simp only [ht, if_false]
        exact h.regs t w' e'
end

/-! The words. -/
section
variable {α : Type} {x : α}
theorem bindV_some {o : Option AV} {k : AV → Option α} (h : bindV o k = some x) : ∃ v, o = some v ∧ k v = some x := by
  unfold bindV at h; split at h
  · exact ⟨_, rfl, h⟩
  · cases h
theorem bindL_some {o : Option (List AV)} {k : List AV → Option α} (h : bindL o k = some x) : ∃ v, o = some v ∧ k v = some x := by
  unfold bindL at h; split at h
  · exact ⟨_, rfl, h⟩
  · cases h
theorem bindH_some {o : Option VH} {k : VH → Option α} (h : bindH o k = some x) : ∃ v, o = some v ∧ k v = some x := by
  unfold bindH at h; split at h
  · exact ⟨_, rfl, h⟩
  · cases h
theorem bindW_some {o : Option WV} {k : WV → Option α} (h : bindW o k = some x) : ∃ v, o = some v ∧ k v = some x := by
  unfold bindW at h; split at h
  · exact ⟨_, rfl, h⟩
  · cases h
theorem bindC_some {o : Option (AV × VH)} {k : AV → VH → Option α} (h : bindC o k = some x) : ∃ v H, o = some (v, H) ∧ k v H = some x := by
  unfold bindC at h; split at h
  · exact ⟨_, _, rfl, h⟩
  · cases h
theorem bindJ_some {o : Option (Ex × List AV × VH)} {k : Ex → List AV → VH → Option α} (h : bindJ o k = some x) : ∃ e l H, o = some (e, l, H) ∧ k e l H = some x := by
  unfold bindJ at h; split at h
  · exact ⟨_, _, _, rfl, h⟩
  · cases h
theorem condT_some {b : Bool} {k : Option α} (h : condT b k = some x) : b = true ∧ k = some x := by
  cases b with
  | true => exact ⟨rfl, h⟩
  | false => cases h
theorem asI_some {kd : IntKind} {v : AV} {k : Int → Option α} (h : asI kd v k = some x) : ∃ n, v = .int kd n ∧ k n = some x := by
  unfold asI at h; split at h
  · obtain ⟨h1, h2⟩ := condT_some h
    simp only [decide_eq_true_eq] at h1
    subst h1
    exact ⟨_, rfl, h2⟩
  · cases h
theorem asB_some {v : AV} {k : Bool → Option α} (h : asB v k = some x) : ∃ n, v = .bool n ∧ k n = some x := by
  unfold asB at h; split at h
  · exact ⟨_, rfl, h⟩
  · cases h
theorem asS_some {v : AV} {k : PS → Option α} (h : asS v k = some x) : ∃ n, v = .str n ∧ k n = some x := by
  unfold asS at h; split at h
  · exact ⟨_, rfl, h⟩
  · cases h
theorem asP_some {v : AV} {k : Option (Nat × Nat) → Option α} (h : asP v k = some x) : ∃ n, v = .ptr n ∧ k n = some x := by
  unfold asP at h; split at h
  · exact ⟨_, rfl, h⟩
  · cases h
theorem asSl_some {v : AV} {k : Option (Nat × Nat) → Nat → Option Nat → Nat → Option α} (h : asSl v k = some x) : ∃ a n c e, v = .slice a n c e ∧ k a n c e = some x := by
  unfold asSl at h; split at h
  · exact ⟨_, _, _, _, rfl, h⟩
  · cases h
theorem asA_some {v : AV} {k : List AV → Option α} (h : asA v k = some x) : ∃ n, v = .agg n ∧ k n = some x := by
  unfold asA at h; split at h
  · exact ⟨_, rfl, h⟩
  · cases h
theorem asTu_some {v : AV} {k : List AV → Option α} (h : asTu v k = some x) : ∃ n, v = .tuple n ∧ k n = some x := by
  unfold asTu at h; split at h
  · exact ⟨_, rfl, h⟩
  · cases h
theorem asFn_some {v : AV} {k : Nat → List AV → List AV → Option α} (h : asFn v k = some x) : ∃ i a b, v = .func i a b ∧ k i a b = some x := by
  unfold asFn at h; split at h
  · exact ⟨_, _, _, rfl, h⟩
  · cases h
theorem asSome_some {a : Option (Nat × Nat)} {k : Nat → Nat → Option α} (h : asSome a k = some x) : ∃ b o, a = some (b, o) ∧ k b o = some x := by
  unfold asSome at h; split at h
  · exact ⟨_, _, rfl, h⟩
  · cases h
theorem unc_some {l : List AV} {k : AV → List AV → Option α} (h : unc l k = some x) : ∃ a as, l = a :: as ∧ k a as = some x := by
  unfold unc at h; split at h
  · exact ⟨_, _, rfl, h⟩
  · cases h
theorem endL_some {l : List AV} {k : Option α} (h : endL l k = some x) : l = [] ∧ k = some x := by
  unfold endL at h; split at h
  · exact ⟨rfl, h⟩
  · cases h
theorem castOne_some {z v : AV} {k : AV → Option α} (h : castOne z v k = some x) : k v = some x := by
  unfold castOne at h
  split at h
  · obtain ⟨_, rfl, hk⟩ := asB_some h; exact hk
  · obtain ⟨_, rfl, hk⟩ := asI_some h; exact hk
  · obtain ⟨_, rfl, hk⟩ := asS_some h; exact hk
  · obtain ⟨_, rfl, hk⟩ := asP_some h; exact hk
  · obtain ⟨_, _, _, _, rfl, hk⟩ := asSl_some h; exact hk
  · exact h
theorem castL_some : ∀ {zs l : List AV} {k : List AV → Option α}, castL zs l k = some x → k l = some x
  | [], l, k, h => by
    obtain ⟨rfl, hk⟩ := endL_some h
    exact hk
  | z :: zs, l, k, h => by
    obtain ⟨a, as, rfl, hk⟩ := unc_some h
    exact castL_some (k := fun l => k (a :: l)) (castOne_some hk)
theorem castZ_some {z v : AV} {k : AV → Option α} (h : castZ z v k = some x) : k v = some x := by
  unfold castZ at h
  split at h
  · obtain ⟨_, rfl, hk⟩ := asA_some h
    exact castL_some (k := fun l => k (.agg l)) hk
  · exact castOne_some h
theorem castTL_some : ∀ {zs l : List AV} {k : List AV → Option α}, castTL zs l k = some x → k l = some x
  | [], l, k, h => by
    obtain ⟨rfl, hk⟩ := endL_some h
    exact hk
  | z :: zs, l, k, h => by
    obtain ⟨a, as, rfl, hk⟩ := unc_some h
    exact castTL_some (k := fun l => k (a :: l)) (castZ_some hk)
theorem castT_some {z v : AV} {k : AV → Option α} (h : castT z v k = some x) : k v = some x := by
  unfold castT at h
  split at h
  · obtain ⟨_, rfl, hk⟩ := asTu_some h
    exact castTL_some (k := fun l => k (.tuple l)) hk
  · exact castZ_some h
theorem castM_some {z : Option AV} {v : AV} {k : AV → Option α} (h : castM z v k = some x) : k v = some x := by
  unfold castM at h
  split at h
  · exact castT_some h
  · exact h
end

section
variable {α : Type} {T : Tb} {callF : Nat → List AV → VH → Option (AV × VH)} {promo : Nat → Bool} {f : WF} {fr : Fr} {H : VH} {k : Kop α} {x : α}

theorem same_res {loc : Tr LC} {w : WV} {r : RV} (h : Same loc w r) : wtagRes w = tagRes r := by
  cases w with
  | v a => obtain rfl := h; rfl
  | loc d off => obtain ⟨ep, cs, rfl, _⟩ := h; rfl
theorem tag_addr (hS : Sub f fr) {a : Operand} {w : WV} (h : f.ev a = some w) : wtagAddr (f.ev a) = tagAddr (fr.ev a) := by
  obtain ⟨r, h1, h2⟩ := hS.ev h
  rw [h, h1]
  cases w with
  | v a =>
    obtain rfl := h2
    cases a with
    | ptr p => cases p <;> rfl
    | _ => rfl
  | loc d off => obtain ⟨ep, cs, rfl, _⟩ := h2; rfl
theorem tag_store (hS : Sub f fr) {a : Operand} {w : WV} {H H' : VH} (h : f.ev a = some w) : wtagStore (f.ev a) H H' = tagStore (fr.ev a) H H' := by
  obtain ⟨r, h1, h2⟩ := hS.ev h
  rw [h, h1]
  cases w with
  | v a => obtain rfl := h2; rfl
  | loc d off => obtain ⟨ep, cs, rfl, _⟩ := h2; rfl

/-- What the first machine answers where the second one goes on. -/
def Ans (f : WF) (fr : Fr) (T : WV → VH → Tag) (T' : RV → VH → Tag) (out : Out) (k : Kop α) (x : α) : Prop :=
  ∃ r fr' H' w f', out = some (r, fr', H') ∧ Sub f' fr' ∧ Same fr'.loc w r ∧ k w f' H' = some x ∧ T w H' = T' r H' ∧ f'.frz = f.frz ∧ ∀ d ∈ f.frz, fr'.loc.get d = fr.loc.get d

variable {tw : WV → VH → Tag} {tv : RV → VH → Tag}
theorem ans_v (hS : Sub f fr) {out : Out} {a : AV} (h1 : out = some (.v a, fr, H)) (h2 : k (.v a) f H = some x) (h3 : tw (.v a) H = tv (.v a) H) : Ans f fr tw tv out k x :=
  ⟨.v a, fr, H, .v a, f, h1, hS, (show Same fr.loc (.v a) (.v a) from rfl), h2, h3, rfl, fun _ _ => rfl⟩
theorem ans_loc (hS : Sub f fr) {out : Out} {d ep off : Nat} {cs : List AV} (h1 : out = some (.loc d ep off, fr, H)) (h0 : fr.loc.get d = some ⟨ep, cs⟩) (h2 : k (.loc d off) f H = some x) (h3 : tw (.loc d off) H = tv (.loc d ep off) H) : Ans f fr tw tv out k x :=
  ⟨.loc d ep off, fr, H, .loc d off, f, h1, hS, (show Same fr.loc (.loc d off) (.loc d ep off) from ⟨ep, cs, rfl, h0⟩), h2, h3, rfl, fun _ _ => rfl⟩

theorem move_ok (hS : Sub f fr) {y : Operand} (h : wMove f H y k = some x) : Ans f fr (fun w _ => wtagRes w) (fun r _ => tagRes r) (oMove fr H y) k x := by
  obtain ⟨w, h1, h2⟩ := bindW_some h
  obtain ⟨r, h3, h4⟩ := hS.ev h1
  exact ⟨r, fr, H, w, f, by simp [oMove, outR, h3], hS, h4, h2, same_res h4, rfl, fun _ _ => rfl⟩
theorem pick_ok (hS : Sub f fr) {ty : Nat} {c a b : Operand} (h : wPick T ty f H c a b k = some x) : Ans f fr (fun w _ => wtagRes w) (fun r _ => tagRes r) (oPick fr H c a b) k x := by
  unfold wPick at h
  split at h
  · rename_i c' hc
    have hc' := hS.eva hc
    split at h
    · rename_i p q e1 e2 e3
      have e2 := hS.ev_v e2
      have e3 := hS.ev_v e3
      refine ans_v hS (a := .bool (sel c' p q)) ?_ h rfl
      unfold oPick
      cases c' <;> rw [hc'] <;> simp [outR, e2, e3, sel]
    · rename_i kd z0 k1 p k2 q e1 e2 e3
      have e2 := hS.ev_v e2
      have e3 := hS.ev_v e3
      obtain ⟨h1, h2⟩ := condT_some h
      simp only [kindEq_eq, Bool.and_eq_true, decide_eq_true_eq] at h1
      obtain ⟨rfl, rfl⟩ := h1
      refine ans_v hS (a := .int kd (sel c' p q)) ?_ h2 rfl
      unfold oPick
      cases c' <;> rw [hc'] <;> simp [outR, e2, e3, sel]
    · rename_i p q e1 e2 e3
      have e2 := hS.ev_v e2
      have e3 := hS.ev_v e3
      refine ans_v hS (a := .str (sel c' p q)) ?_ h rfl
      unfold oPick
      cases c' <;> rw [hc'] <;> simp [outR, e2, e3, sel]
    · cases c' with
      | true =>
        obtain ⟨w, h1, h2⟩ := bindW_some (show bindW _ _ = some x from h)
        obtain ⟨r, h3, h4⟩ := hS.ev h1
        exact ⟨r, fr, H, w, f, by simp [oPick, hc', outR, h3], hS, h4, h2, same_res h4, rfl, fun _ _ => rfl⟩
      | false =>
        obtain ⟨w, h1, h2⟩ := bindW_some (show bindW _ _ = some x from h)
        obtain ⟨r, h3, h4⟩ := hS.ev h1
        exact ⟨r, fr, H, w, f, by simp [oPick, hc', outR, h3], hS, h4, h2, same_res h4, rfl, fun _ _ => rfl⟩
  · cases h

theorem Sub.box (hS : Sub f fr) (d : Nat) (cs : List AV) : Sub (f.box d cs) (fr.box d cs) := by
  have hl : ∀ e, (fr.box d cs).loc.get e = if e = d then some ⟨fr.nextEp d, cs⟩ else fr.loc.get e := fun e => Tr.get_set _ _ _ _
  refine ⟨hS.nt, hS.gl, fun t w e => ?_, fun e l h => ?_⟩
  · obtain ⟨e1, e2⟩ := Tr.get_filt _ _ _ _ (show (f.regs.filt (WV.isNot d)).get t = some w from e)
    obtain ⟨r, h1, h2⟩ := hS.regs t w e1
    refine ⟨r, h1, ?_⟩
    cases w with
    | v a => exact h2
    | loc d' off =>
      obtain ⟨ep, cs', rfl, h3⟩ := h2
      have hne : d' ≠ d := by
        intro hd
        subst hd
        simp [WV.isNot] at e2
      exact ⟨ep, cs', rfl, by rw [hl, if_neg hne]; exact h3⟩
  · have h' : (f.loc.set d cs).get e = some l := h
    rw [Tr.get_set] at h'
    rw [hl]
    split at h'
    · obtain rfl := Option.some.inj h'
      rename_i he
      exact ⟨_, by rw [if_pos he]⟩
    · rename_i he
      rw [if_neg he]
      exact hS.loc e l h'
theorem box_ok (hS : Sub f fr) {dst : Option Nat} {cs : List AV} (h : wBox promo dst f H cs k = some x) : Ans f fr (fun _ H' => tagBox promo dst H H') (fun _ H' => tagBox promo dst H H') (newBox promo dst fr H cs) k x := by
  unfold wBox at h
  split at h
  · rename_i d
    obtain ⟨h1, h⟩ := condT_some h
    unfold newBox
    rw [h1]
    simp only
    split at h
    · rename_i hp
      rw [hp]
      obtain ⟨hz, h⟩ := condT_some h
      refine ⟨_, _, _, .loc d 0, f.box d cs, rfl, hS.box d cs, ⟨_, cs, rfl, Tr.get_set_same _ _ _⟩, h, rfl, rfl, fun e he => ?_⟩
      refine Tr.get_set_ne _ _ fun ed => ?_
      subst ed
      rw [memB_of he] at hz
      cases hz
    · rename_i hp
      rw [hp]
      exact ⟨_, _, _, .v _, f, rfl, hS, rfl, h, rfl, rfl, fun _ _ => rfl⟩
  · cases h
theorem alloc_ok (hS : Sub f fr) {dst : Option Nat} {t : Nat} (h : wAlloc T promo dst f H t k = some x) : Ans f fr (fun _ H' => tagBox promo dst H H') (fun _ H' => tagBox promo dst H H') (oAlloc T promo dst fr H t) k x := by
  unfold wAlloc at h
  split at h
  · rename_i z hz
    have := box_ok hS h
    unfold oAlloc
    rw [hz]
    exact this
  · cases h
theorem boxV_ok (hS : Sub f fr) {dst : Option Nat} {t : Operand} (h : wBoxV promo dst f H t k = some x) : Ans f fr (fun _ H' => tagBox promo dst H H') (fun _ H' => tagBox promo dst H H') (oBox promo dst fr H t) k x := by
  unfold wBoxV at h
  split at h
  · rename_i z hz
    have := box_ok hS h
    unfold oBox
    rw [hS.eva hz]
    exact this
  · cases h
theorem build_ok (hS : Sub f fr) {t : Nat} {ps : List (Nat × Operand)} (h : wBuild T f H t ps k = some x) : Ans f fr (fun _ _ => .idle) (fun _ _ => .idle) (outV fr H (vbuild T fr t ps)) k x := by
  unfold wBuild at h
  split at h
  · rename_i as has
    obtain ⟨v, h1, h2⟩ := bindV_some h
    refine ans_v hS ?_ h2 rfl
    have : vbuild T fr t ps = some v := by
      unfold vbuild
      unfold wbuild at h1
      rw [hS.parts has]
      split at h1
      · rename_i z hz
        rw [hz]
        exact h1
      · cases h1
    rw [this]
    rfl
  · cases h
theorem buildSlice_ok (hS : Sub f fr) {t n : Nat} {ps : List (Nat × Operand)} (h : wBuildSlice T f H t n ps k = some x) : Ans f fr (fun _ H' => .eff H H') (fun _ H' => .eff H H') (outH fr (vbuildSlice T fr H t n ps)) k x := by
  unfold wBuildSlice at h
  split at h
  · rename_i as has
    split at h
    · rename_i s cs hcs
      have : vbuildSlice T fr H t n ps = some (.slice (some (H.next, 0)) n (some n) s, H.fresh cs) := by
        unfold vbuildSlice
        unfold wbuildSlice at hcs
        split at hcs
        · rename_i elem he
          rw [he]
          simp only
          split at hcs
          · rename_i s' z hs hz
            rw [hs, hz, hS.parts has]
            simp only
            split at hcs
            · rename_i hc
              rw [if_pos hc]
              split at hcs
              · rename_i cs' hv
                simp only [Option.some.injEq, Prod.mk.injEq] at hcs
                obtain ⟨rfl, rfl⟩ := hcs
                rw [hv]
              · cases hcs
            · cases hcs
          · cases hcs
        · cases hcs
      exact ⟨_, fr, _, .v _, f, by rw [this]; rfl, hS, rfl, h, rfl, rfl, fun _ _ => rfl⟩
    · cases h
  · cases h
theorem load_ok (hS : Sub f fr) {ty t : Nat} {a : Operand} (h : wLoad T ty f H t a k = some x) : Ans f fr (fun _ _ => wtagAddr (f.ev a)) (fun _ _ => tagAddr (fr.ev a)) (oLoad T fr H t a) k x := by
  unfold wLoad at h
  split at h
  · rename_i n b o hs he
    obtain ⟨l, h1, h⟩ := bindL_some h
    have h := castM_some h
    refine ans_v hS ?_ h (tag_addr hS he)
    unfold oLoad
    rw [hS.ev_v he]
    simp [vload, hs, h1, outV]
  · rename_i n d off hs he
    split at h
    · rename_i cs hcs
      obtain ⟨h1, hk⟩ := condT_some h
      clear h
      obtain ⟨ep, cs', e1, e2⟩ := hS.ev_loc he
      obtain ⟨ep', e3⟩ := hS.loc _ _ hcs
      rw [e2] at e3
      simp only [Option.some.injEq, LC.mk.injEq] at e3
      obtain ⟨rfl, rfl⟩ := e3
      refine ans_v hS ?_ hk (tag_addr hS he)
      unfold oLoad
      rw [e1]
      simp [vload, hs, Fr.locCells, e2, h1, outV]
    · cases h
  · rename_i n b o hs he
    obtain ⟨l, h1, h⟩ := bindV_some h
    have h := castM_some h
    refine ans_v hS ?_ h (tag_addr hS he)
    unfold oLoad
    rw [hS.ev_v he]
    simp [vload, hs, h1, outV]
  · rename_i n d off hs he
    split at h
    · rename_i cs hcs
      obtain ⟨v, h1, hk⟩ := bindV_some h
      clear h
      obtain ⟨ep, cs', e1, e2⟩ := hS.ev_loc he
      obtain ⟨ep', e3⟩ := hS.loc _ _ hcs
      rw [e2] at e3
      simp only [Option.some.injEq, LC.mk.injEq] at e3
      obtain ⟨rfl, rfl⟩ := e3
      refine ans_v hS ?_ hk (tag_addr hS he)
      unfold oLoad
      rw [e1]
      simp [vload, hs, Fr.locCells, e2, h1, outV]
    · cases h
  · cases h
theorem store_ok (hS : Sub f fr) {t : Nat} {a y : Operand} (h : wStore T f H t a y k = some x) : Ans f fr (fun _ H' => wtagStore (f.ev a) H H') (fun _ H' => tagStore (fr.ev a) H H') (oStore T fr H t a y) k x := by
  unfold wStore at h
  split at h
  · rename_i n r v hn hr hv
    obtain ⟨h1, hk⟩ := condT_some h
    clear h
    have hv' := hS.eva hv
    split at hk
    · rename_i b o
      obtain ⟨H', h2, hk⟩ := bindH_some hk
      refine ⟨.v (.tuple []), fr, H', .v (.tuple []), f, ?_, hS, (show Same fr.loc (.v (.tuple [])) (.v (.tuple [])) from rfl), hk, tag_store hS hr, rfl, fun _ _ => rfl⟩
      unfold oStore
      rw [hS.ev_v hr, hv']
      simp [vstore, hn, h1, h2]
    · rename_i d off
      split at hk
      · rename_i cs hcs
        obtain ⟨h2, hk2⟩ := condT_some hk
        clear hk
        simp only [Bool.and_eq_true, Bool.not_eq_true'] at h2
        obtain ⟨h2, hz⟩ := h2
        obtain ⟨ep, cs', e1, e2⟩ := hS.ev_loc hr
        obtain ⟨ep', e3⟩ := hS.loc _ _ hcs
        rw [e2] at e3
        simp only [Option.some.injEq, LC.mk.injEq] at e3
        obtain ⟨rfl, rfl⟩ := e3
        refine ⟨.v (.tuple []), { fr with loc := fr.loc.set d ⟨ep, cs'.take off ++ v.cells ++ cs'.drop (off + n)⟩ }, H, .v _, { f with loc := f.loc.set d (cs'.take off ++ v.cells ++ cs'.drop (off + n)) }, ?_, ?_, (by exact rfl), hk2, tag_store hS hr, rfl, fun e he => Tr.get_set_ne _ _ fun ed => by subst ed; rw [memB_of he] at hz; cases hz⟩
        · unfold oStore
          rw [e1, hv']
          simp [vstore, hn, h1, Fr.locCells, e2, h2]
        · have hl : ∀ e c, (fr.loc.set d c).get e = if e = d then some c else fr.loc.get e := fun e c => Tr.get_set _ _ _ _
          refine ⟨hS.nt, hS.gl, fun t' w e => ?_, fun e l h' => ?_⟩
          · obtain ⟨r', h3, h4⟩ := hS.regs t' w e
            refine ⟨r', h3, ?_⟩
            cases w with
            | v a => exact h4
            | loc d' off' =>
              obtain ⟨ep2, cs2, rfl, h5⟩ := h4
              show ∃ ep cs, _ ∧ (fr.loc.set d _).get d' = _
              by_cases hd : d' = d
              · subst hd
                rw [e2] at h5
                simp only [Option.some.injEq, LC.mk.injEq] at h5
                obtain ⟨rfl, rfl⟩ := h5
                exact ⟨ep, _, rfl, by rw [hl, if_pos rfl]⟩
              · exact ⟨ep2, cs2, rfl, by rw [hl, if_neg hd]; exact h5⟩
          · have h3 : (f.loc.set d (cs'.take off ++ v.cells ++ cs'.drop (off + n))).get e = some l := h'
            rw [Tr.get_set] at h3
            show ∃ ep, (fr.loc.set d _).get e = _
            rw [hl]
            split at h3
            · rename_i he
              obtain rfl := Option.some.inj h3
              exact ⟨ep, by rw [if_pos he]⟩
            · rename_i he
              rw [if_neg he]
              exact hS.loc e l h3
      · cases hk
    · cases hk
  · cases h
theorem nil_ok (hS : Sub f fr) {y : Operand} (h : wNil f H y k = some x) : Ans f fr (fun w _ => wtagRes w) (fun r _ => tagRes r) (oNil fr H y) k x := by
  unfold wNil at h
  split at h
  · rename_i p hp
    obtain ⟨b, o, rfl, h⟩ := asSome_some h
    refine ans_v hS ?_ h rfl
    unfold oNil
    rw [hS.evc_v hp]
  · rename_i v hne hp
    obtain ⟨i, a, b, rfl, h⟩ := asFn_some h
    refine ans_v hS ?_ h rfl
    unfold oNil
    rw [hS.evc_v hp]
  · rename_i d o hd
    split at h
    · obtain ⟨ep, cs, e1, e2, e3⟩ := hS.evc_loc hd
      refine ans_loc hS ?_ e3 h rfl
      unfold oNil
      rw [e1]
    · cases h
  · cases h
theorem bin_ok (hS : Sub f fr) {ty : Nat} {op : BinOp} {t : Nat} {y z : Operand} (h : wBin T ty f H op t y z k = some x) : Ans f fr (fun _ _ => .idle) (fun _ _ => .idle) (oBin T fr H op t y z) k x := by
  unfold wBin at h
  split at h
  · rename_i a b ha hb
    obtain ⟨h1, h⟩ := condT_some h
    obtain ⟨v, h2, h⟩ := bindV_some h
    have h := castM_some h
    refine ans_v hS ?_ h rfl
    simp [oBin, hS.eva ha, hS.eva hb, h1, h2, outV]
  · cases h
theorem un_ok (hS : Sub f fr) {op : UnOp} {y : Operand} (h : wUn f H op y k = some x) : Ans f fr (fun _ _ => .idle) (fun _ _ => .idle) (oUn fr H op y) k x := by
  unfold wUn at h
  split at h
  · rename_i a ha
    obtain ⟨v, h2, h⟩ := bindV_some h
    refine ans_v hS ?_ h rfl
    simp [oUn, hS.eva ha, h2, outV]
  · cases h
theorem conv_ok (hS : Sub f fr) {ty s d : Nat} {y : Operand} (h : wConv T ty f H s d y k = some x) : Ans f fr (fun _ _ => tagConv (f.eva y)) (fun _ _ => tagConv (fr.eva y)) (oConv T fr H s d y) k x := by
  unfold wConv at h
  split at h
  · rename_i a ha
    obtain ⟨v, H', h2, h⟩ := bindC_some h
    have h := castM_some h
    exact ⟨_, fr, H', .v _, f, by simp [oConv, hS.eva ha, h2, outH], hS, rfl, h, by rw [ha, hS.eva ha], rfl, fun _ _ => rfl⟩
  · cases h
theorem iface_ok (hS : Sub f fr) {t : Nat} {y : Operand} (h : wIface T f H t y k = some x) : Ans f fr (fun _ _ => .idle) (fun _ _ => .idle) (oIface T fr H t y) k x := by
  unfold wIface at h
  split at h
  · cases h
  · rename_i u a hne hu ha
    refine ans_v hS ?_ h rfl
    unfold oIface
    rw [hS.eva ha, hu]
    split
    · rename_i heq; cases heq; exact (hne _ rfl).elim
    · rename_i heq1 heq2; cases heq2; rfl
    · rename_i h1 h2; exact (h2 _ _ rfl rfl).elim
  · cases h
theorem func_ok (hS : Sub f fr) {fn : Fn} {a b : Array Operand} (h : wFunc f H fn a b k = some x) : Ans f fr (fun _ _ => .idle) (fun _ _ => .idle) (oFunc fr H fn a b) k x := by
  unfold wFunc at h
  split at h
  · rename_i ha hb
    refine ans_v hS ?_ h rfl
    simp [oFunc, hS.evas ha, hS.evas hb]
  · cases h
theorem makeSlice_ok (hS : Sub f fr) {ty t : Nat} {a b : Operand} (h : wMakeSlice T ty f H t a b k = some x) : Ans f fr (fun _ H' => .eff H H') (fun _ H' => .eff H H') (oMakeSlice T fr H t a b) k x := by
  unfold wMakeSlice at h
  split at h
  · rename_i ha hb
    obtain ⟨v, H', h2, h⟩ := bindC_some h
    have h := castM_some h
    exact ⟨_, fr, H', .v _, f, by simp [oMakeSlice, hS.eva ha, hS.eva hb, h2, outH], hS, rfl, h, rfl, rfl, fun _ _ => rfl⟩
  · cases h
theorem eva_ev {f : WF} {y : Operand} {a : AV} (h : f.eva y = some a) : f.ev y = some (.v a) := by
  unfold WF.eva at h
  split at h
  · rename_i b hb
    obtain rfl := Option.some.inj h
    exact hb
  · cases h
theorem slice_ok (hS : Sub f fr) {ty t : Nat} {a : Operand} {lo hi : Option Operand} (h : wSlice T ty f H t a lo hi k = some x) : Ans f fr (fun _ _ => wtagAddr (f.ev a)) (fun _ _ => tagAddr (fr.ev a)) (oSlice T fr H t a lo hi) k x := by
  unfold wSlice at h
  split at h
  · rename_i r p q ha hb hc
    obtain ⟨v, h2, h⟩ := bindV_some h
    have h := castM_some h
    refine ans_v hS ?_ h (tag_addr hS (eva_ev ha))
    simp [oSlice, hS.ev_v (eva_ev ha), hS.optEv hb, hS.optEv hc, h2, outV]
  · cases h
theorem fieldAddr_ok (hS : Sub f fr) {t i : Nat} {a : Operand} (h : wFieldAddr T f H t a i k = some x) : Ans f fr (fun w _ => wtagRes w) (fun r _ => tagRes r) (oFieldAddr T fr H t a i) k x := by
  unfold wFieldAddr at h
  split at h
  · rename_i fields hu
    split at h
    · rename_i fd hfd
      split at h
      · rename_i n hn
        split at h
        · rename_i b o ha
          refine ans_v hS ?_ h rfl
          unfold oFieldAddr
          rw [hS.evc_v ha]
          simp [vfieldAddr, hu, hfd, hn, outR]
        · rename_i d off ha
          split at h
          · obtain ⟨ep, cs, e1, e2, e3⟩ := hS.evc_loc ha
            refine ans_loc hS ?_ e3 h rfl
            unfold oFieldAddr
            rw [e1]
            simp [vfieldAddr, hu, hfd, hn, outR]
          · cases h
        · cases h
      · cases h
    · cases h
  · cases h
theorem field_ok (hS : Sub f fr) {t i : Nat} {a : Operand} (h : wField T f H t a i k = some x) : Ans f fr (fun _ _ => .idle) (fun _ _ => .idle) (oField T fr H t a i) k x := by
  unfold wField at h
  split at h
  · rename_i v ha
    obtain ⟨v, h2, h⟩ := bindV_some h
    refine ans_v hS ?_ h rfl
    simp [oField, hS.eva ha, h2, outV]
  · cases h
theorem indexAddr_ok (hS : Sub f fr) {t : Nat} {a i : Operand} (h : wIndexAddr T f H t a i k = some x) : Ans f fr (fun w _ => wtagRes w) (fun r _ => tagRes r) (oIndexAddr T fr H t a i) k x := by
  unfold wIndexAddr at h
  split at h
  · rename_i len elem b o kd n hu ha hi
    split at h
    · rename_i s hs
      obtain ⟨h1, h⟩ := condT_some h
      refine ans_v hS ?_ h rfl
      unfold oIndexAddr
      rw [hS.evc_v ha, hS.eva hi]
      simp [vindexAddr, hu, hs, h1, outR]
    · cases h
  · rename_i len elem d off kd n hu ha hi
    split at h
    · rename_i s cs hs hcs
      obtain ⟨h1, h⟩ := condT_some h
      obtain ⟨ep, cs, e1, e2, e3⟩ := hS.evc_loc ha
      refine ans_loc hS ?_ e3 h rfl
      unfold oIndexAddr
      rw [e1, hS.eva hi]
      simp [vindexAddr, hu, hs, h1, outR]
    · cases h
  · rename_i elem p len c e kd n hu ha hi
    split at h
    · rename_i s hs
      obtain ⟨b, o, rfl, h⟩ := asSome_some h
      obtain ⟨h1, h⟩ := condT_some h
      refine ans_v hS ?_ h rfl
      unfold oIndexAddr
      rw [hS.evc_v ha, hS.eva hi]
      simp [vindexAddr, hu, hs, h1, outR]
    · cases h
  · cases h
theorem index_ok (hS : Sub f fr) {ty t : Nat} {a i : Operand} (h : wIndex T ty f H t a i k = some x) : Ans f fr (fun _ _ => .idle) (fun _ _ => .idle) (oIndex T fr H t a i) k x := by
  unfold wIndex at h
  split at h
  · rename_i s kd n hu ha hi
    obtain ⟨h1, h⟩ := condT_some h
    refine ans_v hS ?_ h rfl
    unfold oIndex
    rw [hS.eva ha, hS.eva hi]
    simp [vindex, hu, h1, outV]
  · rename_i v kd n hu ha hi
    obtain ⟨v, h2, h⟩ := bindV_some h
    have h := castM_some h
    refine ans_v hS ?_ h rfl
    unfold oIndex
    rw [hS.eva ha, hS.eva hi]
    simp [h2, outV]
  · cases h
theorem extract_ok (hS : Sub f fr) {i : Nat} {a : Operand} (h : wExtract f H a i k = some x) : Ans f fr (fun _ _ => .idle) (fun _ _ => .idle) (oExtract fr H a i) k x := by
  unfold wExtract at h
  split at h
  · rename_i v ha
    obtain ⟨v, h2, h⟩ := bindV_some h
    refine ans_v hS ?_ h rfl
    simp [oExtract, hS.eva ha, h2, outV]
  · cases h
theorem call_ok (hS : Sub f fr) {ty : Nat} {c : Call} (h : wCall T callF ty c f H k = some x) : Ans f fr (fun _ H' => tagCall c H H') (fun _ H' => tagCall c H H') (vcallOp T callF c fr H) k x := by
  unfold wCall at h
  split at h
  · cases h
  · rename_i args hargs
    split at h
    · rename_i b hb
      obtain ⟨v, H', h2, h⟩ := bindC_some h
      have h := castM_some h
      exact ⟨_, fr, H', .v _, f, by unfold vcallOp; rw [hS.evas hargs]; simp [hb, h2, outH], hS, rfl, h, rfl, rfl, fun _ _ => rfl⟩
    · rename_i g hg
      split at h
      · rename_i v hv
        obtain ⟨i, a, b, rfl, h⟩ := asFn_some h
        obtain ⟨v, H', h2, h⟩ := bindC_some h
        have h := castM_some h
        exact ⟨_, fr, H', .v _, f, by unfold vcallOp; rw [hS.evas hargs]; simp only [hg, hS.eva hv, h2, outH], hS, rfl, h, rfl, rfl, fun _ _ => rfl⟩
      · cases h
    · cases h

theorem step_ok (hS : Sub f fr) {o : Oper} (h : wstep T callF promo o f H k = some x) : Ans f fr (fun w H' => wtag promo o f H H' w) (fun r H' => tagOf promo o fr H H' r) (vstep T callF promo o fr H) k x := by
  obtain ⟨dst, op, ty, pos, aft, gd⟩ := o
  cases op with
  | slice t y lo hi mx =>
    cases mx with
    | none => exact slice_ok hS h
    | some m => cases h
  | move y => exact move_ok hS h
  | assign y => exact move_ok hS h
  | pick c a b => exact pick_ok hS h
  | alloc t => exact alloc_ok hS h
  | box t y => exact boxV_ok hS h
  | build t ps => exact build_ok hS h
  | buildSlice t n ps => exact buildSlice_ok hS h
  | load t a => exact load_ok hS h
  | store t a y => exact store_ok hS h
  | nilCheck y => exact nil_ok hS h
  | binOp op t y z u => exact bin_ok hS h
  | unOp op u y => exact un_ok hS h
  | convert s d y => exact conv_ok hS h
  | makeInterface t y => exact iface_ok hS h
  | makeFunc fn a b => exact func_ok hS h
  | makeSlice t l c => exact makeSlice_ok hS h
  | fieldAddr t y i => exact fieldAddr_ok hS h
  | field t y i => exact field_ok hS h
  | indexAddr t y i => exact indexAddr_ok hS h
  | index t y i => exact index_ok hS h
  | extract y i => exact extract_ok hS h
  | call c => exact call_ok hS h
  | _ => cases h
end
end Go.Vm
