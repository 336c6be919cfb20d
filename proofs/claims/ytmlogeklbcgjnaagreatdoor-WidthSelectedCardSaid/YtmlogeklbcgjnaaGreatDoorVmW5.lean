/- The second machine against the first. -/
import Derived.Test.YtmlogeklbcgjnaaGreatDoorVmW
import Derived.Test.YtmlogeklbcgjnaaGreatDoorVmCall
/-! The second machine's operations against the first one's. -/
namespace Go.Vm
set_option linter.unusedSimpArgs false
set_option linter.unusedVariables false
set_option linter.unusedSectionVars false

theorem memB_of : ∀ {l : List Nat} {d : Nat}, d ∈ l → memB d l = true
  | a :: l, d, h => by
    show (Nat.beq d a || memB d l) = true
    rcases List.mem_cons.1 h with rfl | h
    · simp
    · simp [memB_of h]
def Same (loc : Tr LC) : WV → RV → Prop
  | .v a, r => r = .v a
  | .loc d off, r => ∃ ep cs, r = .loc d ep off ∧ loc.get d = some ⟨ep, cs⟩
/-- A frame of the second machine has no more than one of the first has. -/
structure Sub (f : WF) (fr : Fr) : Prop where
  nt : f.nt = fr.nt
  gl : f.gl = fr.gl
  regs : ∀ t w, f.regs.get t = some w → ∃ r, fr.regs.get t = some r ∧ Same fr.loc w r
  loc : ∀ d cs, f.loc.get d = some cs → ∃ ep, fr.loc.get d = some ⟨ep, cs⟩

section
variable {f : WF} {fr : Fr} (h : Sub f fr)
include h
theorem Sub.ev {x : Operand} {w : WV} (e : f.ev x = some w) : ∃ r, fr.ev x = some r ∧ Same fr.loc w r := by
  cases x with
  | tmp t =>
    obtain ⟨r, h1, h2⟩ := h.regs t w e
    exact ⟨r, by simp [Fr.ev, h1], h2⟩
  | const v =>
    simp only [WF.ev] at e
    split at e
    · rename_i a ha
      obtain rfl := Option.some.inj e
      exact ⟨.v a, by simp [Fr.ev, ha], rfl⟩
    · cases e
  | global g =>
    simp only [WF.ev] at e
    split at e
    · rename_i ha
      obtain rfl := Option.some.inj e
      refine ⟨.v (.ptr (some (g, 0))), ?_, rfl⟩
      rw [h.gl] at ha
      simp [Fr.ev, ha]
    · cases e
  | func g =>
    obtain rfl := Option.some.inj e
    exact ⟨_, rfl, rfl⟩
theorem Sub.ev_v {x : Operand} {a : AV} (e : f.ev x = some (.v a)) : fr.ev x = some (.v a) := by
  obtain ⟨r, h1, rfl⟩ := h.ev e
  exact h1
theorem Sub.ev_loc {x : Operand} {d off : Nat} (e : f.ev x = some (.loc d off)) : ∃ ep cs, fr.ev x = some (.loc d ep off) ∧ fr.loc.get d = some ⟨ep, cs⟩ := by
  obtain ⟨r, h1, ep, cs, rfl, h2⟩ := h.ev e
  exact ⟨ep, cs, h1, h2⟩
theorem Sub.eva {x : Operand} {a : AV} (e : f.eva x = some a) : fr.eva x = some a := by
  unfold WF.eva at e
  split at e
  · rename_i b hb
    obtain rfl := Option.some.inj e
    simp [Fr.eva, h.ev_v hb]
  · cases e
theorem Sub.evas : ∀ {xs : List Operand} {as : List AV}, f.evas xs = some as → fr.evas xs = some as
  | [], as, e => e
  | x :: xs, as, e => by
    simp only [WF.evas] at e
    split at e
    · rename_i a as' h1 h2
      obtain rfl := Option.some.inj e
      simp [Fr.evas, h.eva h1, Sub.evas h2]
    · cases e
theorem Sub.parts : ∀ {xs : List (Nat × Operand)} {as : List (Nat × AV)}, wparts f xs = some as → parts fr xs = some as
  | [], as, e => e
  | (i, x) :: xs, as, e => by
    simp only [wparts] at e
    split at e
    · rename_i a as' h1 h2
      obtain rfl := Option.some.inj e
      simp [Vm.parts, h.eva h1, Sub.parts h2]
    · cases e
theorem Sub.optEv {x : Option Operand} {a : Option AV} (e : woptEv f x = some a) : optEv fr x = some a := by
  cases x with
  | none => exact e
  | some x =>
    simp only [woptEv] at e
    split at e
    · rename_i b hb
      obtain rfl := Option.some.inj e
      simp [Vm.optEv, h.eva hb]
    · cases e
theorem Sub.evc_v {x : Operand} {a : AV} (e : f.ev x = some (.v a)) : evc fr x = some (.v a) := by
  unfold evc
  rw [h.ev_v e]
theorem Sub.evc_loc {x : Operand} {d off : Nat} (e : f.ev x = some (.loc d off)) : ∃ ep cs, evc fr x = some (.loc d ep off) ∧ fr.ev x = some (.loc d ep off) ∧ fr.loc.get d = some ⟨ep, cs⟩ := by
  obtain ⟨ep, cs, h1, h2⟩ := h.ev_loc e
  refine ⟨ep, cs, ?_, h1, h2⟩
  unfold evc
  rw [h1]
  simp [Fr.locCells, h2]
theorem Sub.put {w : WV} {r : RV} (d : Option Nat) (hs : Same fr.loc w r) : Sub (f.put d w) (fr.put d r) := by
  cases d with
  | none => exact h
  | some d =>
    unfold WF.put Fr.put
    simp only
    rw [h.nt]
    cases hb : Nat.blt d fr.nt with
    | false => exact h
    | true =>
      refine ⟨rfl, h.gl, fun t w' e => ?_, h.loc⟩
      have e' : (f.regs.set d w).get t = some w' := e
      rw [Tr.get_set] at e'
      show ∃ r', (fr.regs.set d r).get t = some r' ∧ _
      rw [Tr.get_set]
      split at e'
      · rename_i ht
        obtain rfl := Option.some.inj e'
        exact ⟨r, by simp [ht], hs⟩
      · rename_i ht
        simp only [ht, if_false]
        exact h.regs t w' e'
end

/-! The words. -/
section
variable {α : Type} {x : α}
theorem bindV_some {o : Option AV} {k : AV → Option α} (h : bindV o k = some x) : ∃ v, o = some v ∧ k v = some x := by
  unfold bindV at h; split at h
  · exact ⟨_, rfl, h⟩
  · cases h
theorem bindL_some {o : Option (List AV)} {k : List AV → Option α} (h : bindL o k = some x) : ∃ v, o = some v ∧ k v = some x := by
  unfold bindL at h; split at h
  · exact ⟨_, rfl, h⟩
  · cases h
theorem bindH_some {o : Option VH} {k : VH → Option α} (h : bindH o k = some x) : ∃ v, o = some v ∧ k v = some x := by
  unfold bindH at h; split at h
  · exact ⟨_, rfl, h⟩
  · cases h
theorem bindW_some {o : Option WV} {k : WV → Option α} (h : bindW o k = some x) : ∃ v, o = some v ∧ k v = some x := by
  unfold bindW at h; split at h
  · exact ⟨_, rfl, h⟩
  · cases h
theorem bindC_some {o : Option (AV × VH)} {k : AV → VH → Option α} (h : bindC o k = some x) : ∃ v H, o = some (v, H) ∧ k v H = some x := by
  unfold bindC at h; split at h
  · exact ⟨_, _, rfl, h⟩
  · cases h
theorem bindJ_some {o : Option (Ex × List AV × VH)} {k : Ex → List AV → VH → Option α} (h : bindJ o k = some x) : ∃ e l H, o = some (e, l, H) ∧ k e l H = some x := by
  unfold bindJ at h; split at h
  · exact ⟨_, _, _, rfl, h⟩
  · cases h
theorem condT_some {b : Bool} {k : Option α} (h : condT b k = some x) : b = true ∧ k = some x := by
  cases b with
  | true => exact ⟨rfl, h⟩
  | false => cases h
theorem asI_some {kd : IntKind} {v : AV} {k : Int → Option α} (h : asI kd v k = some x) : ∃ n, v = .int kd n ∧ k n = some x := by
  unfold asI at h; split at h
  · obtain ⟨h1, h2⟩ := condT_some h
    simp only [decide_eq_true_eq] at h1
    subst h1
    exact ⟨_, rfl, h2⟩
  · cases h
theorem asB_some {v : AV} {k : Bool → Option α} (h : asB v k = some x) : ∃ n, v = .bool n ∧ k n = some x := by
  unfold asB at h; split at h
  · exact ⟨_, rfl, h⟩
  · cases h
theorem asS_some {v : AV} {k : PS → Option α} (h : asS v k = some x) : ∃ n, v = .str n ∧ k n = some x := by
  unfold asS at h; split at h
  · exact ⟨_, rfl, h⟩
  · cases h
theorem asP_some {v : AV} {k : Option (Bk × Nat) → Option α} (h : asP v k = some x) : ∃ n, v = .ptr n ∧ k n = some x := by
  unfold asP at h; split at h
  · exact ⟨_, rfl, h⟩
  · cases h
theorem asSl_some {v : AV} {k : Option (Bk × Nat) → Nat → Option Nat → Nat → Option α} (h : asSl v k = some x) : ∃ a n c e, v = .slice a n c e ∧ k a n c e = some x := by
  unfold asSl at h; split at h
  · exact ⟨_, _, _, _, rfl, h⟩
  · cases h
theorem asM_some {v : AV} {k : Option Nat → Option α} (h : asM v k = some x) : ∃ n, v = .map n ∧ k n = some x := by
  unfold asM at h; split at h
  · exact ⟨_, rfl, h⟩
  · cases h
theorem asA_some {v : AV} {k : List AV → Option α} (h : asA v k = some x) : ∃ n, v = .agg n ∧ k n = some x := by
  unfold asA at h; split at h
  · exact ⟨_, rfl, h⟩
  · cases h
theorem asTu_some {v : AV} {k : List AV → Option α} (h : asTu v k = some x) : ∃ n, v = .tuple n ∧ k n = some x := by
  unfold asTu at h; split at h
  · exact ⟨_, rfl, h⟩
  · cases h
theorem asFn_some {v : AV} {k : Nat → List AV → List AV → Option α} (h : asFn v k = some x) : ∃ i a b, v = .func i a b ∧ k i a b = some x := by
  unfold asFn at h; split at h
  · exact ⟨_, _, _, rfl, h⟩
  · cases h
theorem asSome_some {a : Option (Bk × Nat)} {k : Bk → Nat → Option α} (h : asSome a k = some x) : ∃ b o, a = some (b, o) ∧ k b o = some x := by
  unfold asSome at h; split at h
  · exact ⟨_, _, rfl, h⟩
  · cases h
theorem unc_some {l : List AV} {k : AV → List AV → Option α} (h : unc l k = some x) : ∃ a as, l = a :: as ∧ k a as = some x := by
  unfold unc at h; split at h
  · exact ⟨_, _, rfl, h⟩
  · cases h
theorem endL_some {l : List AV} {k : Option α} (h : endL l k = some x) : l = [] ∧ k = some x := by
  unfold endL at h; split at h
  · exact ⟨rfl, h⟩
  · cases h
theorem castOne_some {z v : AV} {k : AV → Option α} (h : castOne z v k = some x) : k v = some x := by
  unfold castOne at h
  split at h
  · obtain ⟨_, rfl, hk⟩ := asB_some h; exact hk
  · obtain ⟨_, rfl, hk⟩ := asI_some h; exact hk
  · obtain ⟨_, rfl, hk⟩ := asS_some h; exact hk
  · obtain ⟨_, rfl, hk⟩ := asP_some h; exact hk
  · obtain ⟨_, _, _, _, rfl, hk⟩ := asSl_some h; exact hk
  · obtain ⟨_, rfl, hk⟩ := asM_some h; exact hk
  · exact h
theorem castL_some : ∀ {zs l : List AV} {k : List AV → Option α}, castL zs l k = some x → k l = some x
  | [], l, k, h => by
    obtain ⟨rfl, hk⟩ := endL_some h
    exact hk
  | z :: zs, l, k, h => by
    obtain ⟨a, as, rfl, hk⟩ := unc_some h
    exact castL_some (k := fun l => k (a :: l)) (castOne_some hk)
theorem castZ_some {z v : AV} {k : AV → Option α} (h : castZ z v k = some x) : k v = some x := by
  unfold castZ at h
  split at h
  · obtain ⟨_, rfl, hk⟩ := asA_some h
    exact castL_some (k := fun l => k (.agg l)) hk
  · exact castOne_some h
theorem castTL_some : ∀ {zs l : List AV} {k : List AV → Option α}, castTL zs l k = some x → k l = some x
  | [], l, k, h => by
    obtain ⟨rfl, hk⟩ := endL_some h
    exact hk
  | z :: zs, l, k, h => by
    obtain ⟨a, as, rfl, hk⟩ := unc_some h
    exact castTL_some (k := fun l => k (a :: l)) (castZ_some hk)
theorem castT_some {z v : AV} {k : AV → Option α} (h : castT z v k = some x) : k v = some x := by
  unfold castT at h
  split at h
  · obtain ⟨_, rfl, hk⟩ := asTu_some h
    exact castTL_some (k := fun l => k (.tuple l)) hk
  · exact castZ_some h
theorem castM_some {z : Option AV} {v : AV} {k : AV → Option α} (h : castM z v k = some x) : k v = some x := by
  unfold castM at h
  split at h
  · exact castT_some h
  · exact h
end

section
variable {α : Type} {T : Tb} {callF : Nat → List AV → VH → Option (AV × VH)} {promo : Nat → Bool} {f : WF} {fr : Fr} {H : VH} {k : Kop α} {x : α}

theorem same_res {loc : Tr LC} {w : WV} {r : RV} (h : Same loc w r) : wtagRes w = tagRes r := by
  cases w with
  | v a => obtain rfl := h; rfl
  | loc d off => obtain ⟨ep, cs, rfl, _⟩ := h; rfl
theorem tag_addr (hS : Sub f fr) {a : Operand} {w : WV} (h : f.ev a = some w) : wtagAddr (f.ev a) = tagAddr (fr.ev a) := by
  obtain ⟨r, h1, h2⟩ := hS.ev h
  rw [h, h1]
  cases w with
  | v a =>
    obtain rfl := h2
    cases a with
    | ptr p =>
      cases p with
      | none => rfl
      | some p => obtain ⟨b, o⟩ := p; rfl
    | _ => rfl
  | loc d off => obtain ⟨ep, cs, rfl, _⟩ := h2; rfl
theorem tag_store (hS : Sub f fr) {a : Operand} {w : WV} {H H' : VH} (h : f.ev a = some w) : wtagStore (f.ev a) H H' = tagStore (fr.ev a) H H' := by
  obtain ⟨r, h1, h2⟩ := hS.ev h
  rw [h, h1]
  cases w with
  | v a => obtain rfl := h2; rfl
  | loc d off => obtain ⟨ep, cs, rfl, _⟩ := h2; rfl

/-- What the first machine answers where the second one goes on. -/
def Ans (f : WF) (fr : Fr) (T : WV → VH → Tag) (T' : RV → VH → Tag) (out : Out) (k : Kop α) (x : α) : Prop :=
  ∃ r fr' H' w f', out = some (r, fr', H') ∧ Sub f' fr' ∧ Same fr'.loc w r ∧ k w f' H' = some x ∧ T w H' = T' r H' ∧ f'.frz = f.frz ∧ ∀ d ∈ f.frz, fr'.loc.get d = fr.loc.get d

variable {tw : WV → VH → Tag} {tv : RV → VH → Tag}
theorem ans_v (hS : Sub f fr) {out : Out} {a : AV} (h1 : out = some (.v a, fr, H)) (h2 : k (.v a) f H = some x) (h3 : tw (.v a) H = tv (.v a) H) : Ans f fr tw tv out k x :=
  ⟨.v a, fr, H, .v a, f, h1, hS, (show Same fr.loc (.v a) (.v a) from rfl), h2, h3, rfl, fun _ _ => rfl⟩
theorem ans_loc (hS : Sub f fr) {out : Out} {d ep off : Nat} {cs : List AV} (h1 : out = some (.loc d ep off, fr, H)) (h0 : fr.loc.get d = some ⟨ep, cs⟩) (h2 : k (.loc d off) f H = some x) (h3 : tw (.loc d off) H = tv (.loc d ep off) H) : Ans f fr tw tv out k x :=
  ⟨.loc d ep off, fr, H, .loc d off, f, h1, hS, (show Same fr.loc (.loc d off) (.loc d ep off) from ⟨ep, cs, rfl, h0⟩), h2, h3, rfl, fun _ _ => rfl⟩

theorem move_ok (hS : Sub f fr) {y : Operand} (h : wMove f H y k = some x) : Ans f fr (fun w _ => wtagRes w) (fun r _ => tagRes r) (oMove fr H y) k x := by
  obtain ⟨w, h1, h2⟩ := bindW_some h
  obtain ⟨r, h3, h4⟩ := hS.ev h1
  exact ⟨r, fr, H, w, f, by simp [oMove, outR, h3], hS, h4, h2, same_res h4, rfl, fun _ _ => rfl⟩
theorem pick_ok (hS : Sub f fr) {ty : Nat} {c a b : Operand} (h : wPick T ty f H c a b k = some x) : Ans f fr (fun w _ => wtagRes w) (fun r _ => tagRes r) (oPick fr H c a b) k x := by
  unfold wPick at h
  split at h
  · rename_i c' hc
    have hc' := hS.eva hc
    split at h
    · rename_i p q e1 e2 e3
      have e2 := hS.ev_v e2
      have e3 := hS.ev_v e3
      refine ans_v hS (a := .bool (sel c' p q)) ?_ h rfl
      unfold oPick
      cases c' <;> rw [hc'] <;> simp [outR, e2, e3, sel]
    · rename_i kd z0 k1 p k2 q e1 e2 e3
      have e2 := hS.ev_v e2
      have e3 := hS.ev_v e3
      obtain ⟨h1, h2⟩ := condT_some h
      simp only [kindEq_eq, Bool.and_eq_true, decide_eq_true_eq] at h1
      obtain ⟨rfl, rfl⟩ := h1
      refine ans_v hS (a := .int kd (sel c' p q)) ?_ h2 rfl
      unfold oPick
      cases c' <;> rw [hc'] <;> simp [outR, e2, e3, sel]
    · rename_i p q e1 e2 e3
      have e2 := hS.ev_v e2
      have e3 := hS.ev_v e3
      refine ans_v hS (a := .str (sel c' p q)) ?_ h rfl
      unfold oPick
      cases c' <;> rw [hc'] <;> simp [outR, e2, e3, sel]
    · cases c' with
      | true =>
        obtain ⟨w, h1, h2⟩ := bindW_some (show bindW _ _ = some x from h)
        obtain ⟨r, h3, h4⟩ := hS.ev h1
        exact ⟨r, fr, H, w, f, by simp [oPick, hc', outR, h3], hS, h4, h2, same_res h4, rfl, fun _ _ => rfl⟩
      | false =>
        obtain ⟨w, h1, h2⟩ := bindW_some (show bindW _ _ = some x from h)
        obtain ⟨r, h3, h4⟩ := hS.ev h1
        exact ⟨r, fr, H, w, f, by simp [oPick, hc', outR, h3], hS, h4, h2, same_res h4, rfl, fun _ _ => rfl⟩
  · cases h

theorem Sub.box (hS : Sub f fr) (d : Nat) (cs : List AV) : Sub (f.box d cs) (fr.box d cs) := by
  have hl : ∀ e, (fr.box d cs).loc.get e = if e = d then some ⟨fr.nextEp d, cs⟩ else fr.loc.get e := fun e => Tr.get_set _ _ _ _
  refine ⟨hS.nt, hS.gl, fun t w e => ?_, fun e l h => ?_⟩
  · obtain ⟨e1, e2⟩ := Tr.get_filt _ _ _ _ (show (f.regs.filt (WV.isNot d)).get t = some w from e)
    obtain ⟨r, h1, h2⟩ := hS.regs t w e1
    refine ⟨r, h1, ?_⟩
    cases w with
    | v a => exact h2
    | loc d' off =>
      obtain ⟨ep, cs', rfl, h3⟩ := h2
      have hne : d' ≠ d := by
        intro hd
        subst hd
        simp [WV.isNot] at e2
      exact ⟨ep, cs', rfl, by rw [hl, if_neg hne]; exact h3⟩
  · have h' : (f.loc.set d cs).get e = some l := h
    rw [Tr.get_set] at h'
    rw [hl]
    split at h'
    · obtain rfl := Option.some.inj h'
      rename_i he
      exact ⟨_, by rw [if_pos he]⟩
    · rename_i he
      rw [if_neg he]
      exact hS.loc e l h'
theorem box_ok (hS : Sub f fr) {dst : Option Nat} {cs : List AV} {e : Option Nat} (h : wBox promo dst f H cs e k = some x) : Ans f fr (fun _ H' => tagBox promo dst H H') (fun _ H' => tagBox promo dst H H') (newBox promo dst fr H cs e) k x := by
  unfold wBox at h
  split at h
  · rename_i d
    obtain ⟨h1, h⟩ := condT_some h
    unfold newBox
    rw [h1]
    simp only
    split at h
    · rename_i hp
      rw [hp]
      obtain ⟨hz, h⟩ := condT_some h
      refine ⟨_, _, _, .loc d 0, f.box d cs, rfl, hS.box d cs, ⟨_, cs, rfl, Tr.get_set_same _ _ _⟩, h, rfl, rfl, fun e he => ?_⟩
      refine Tr.get_set_ne _ _ fun ed => ?_
      subst ed
      rw [memB_of he] at hz
      cases hz
    · rename_i hp
      rw [hp]
      exact ⟨_, _, _, .v _, f, rfl, hS, rfl, h, rfl, rfl, fun _ _ => rfl⟩
  · cases h
theorem alloc_ok (hS : Sub f fr) {dst : Option Nat} {t : Nat} (h : wAlloc T promo dst f H t k = some x) : Ans f fr (fun _ H' => tagBox promo dst H H') (fun _ H' => tagBox promo dst H H') (oAlloc T promo dst fr H t) k x := by
  unfold wAlloc at h
  split at h
  · rename_i z hz
    have := box_ok hS h
    unfold oAlloc
    rw [hz]
    exact this
  · cases h
theorem boxV_ok (hS : Sub f fr) {dst : Option Nat} {u : Nat} {t : Operand} (h : wBoxV T promo dst f H u t k = some x) : Ans f fr (fun _ H' => tagBox promo dst H H') (fun _ H' => tagBox promo dst H H') (oBox T promo dst fr H u t) k x := by
  unfold wBoxV at h
  split at h
  · rename_i z hz
    have := box_ok hS h
    unfold oBox
    rw [hS.eva hz]
    exact this
  · cases h
theorem build_ok (hS : Sub f fr) {t : Nat} {ps : List (Nat × Operand)} (h : wBuild T f H t ps k = some x) : Ans f fr (fun _ _ => .idle) (fun _ _ => .idle) (outV fr H (vbuild T fr t ps)) k x := by
  unfold wBuild at h
  split at h
  · rename_i as has
    obtain ⟨v, h1, h2⟩ := bindV_some h
    refine ans_v hS ?_ h2 rfl
    have : vbuild T fr t ps = some v := by
      unfold vbuild
      unfold wbuild at h1
      rw [hS.parts has]
      split at h1
      · rename_i z hz
        rw [hz]
        exact h1
      · cases h1
    rw [this]
    rfl
  · cases h
theorem buildSlice_ok (hS : Sub f fr) {q : Bool} {t n : Nat} {ps : List (Nat × Operand)} (h : wBuildSlice T q f H t n ps k = some x) : Ans f fr (fun _ H' => tagLit q H H') (fun _ H' => tagLit q H H') (outH fr (vbuildSlice T q fr H t n ps)) k x := by
  unfold wBuildSlice at h
  split at h
  · rename_i as has
    split at h
    · rename_i s cs hcs
      have : vbuildSlice T q fr H t n ps = some (litOf q H n s cs) := by
        unfold vbuildSlice
        unfold wbuildSlice at hcs
        split at hcs
        · rename_i elem he
          rw [he]
          simp only
          split at hcs
          · rename_i s' z hs hz
            rw [hs, hz, hS.parts has]
            simp only
            split at hcs
            · rename_i hc
              rw [if_pos hc]
              split at hcs
              · rename_i cs' hv
                simp only [Option.some.injEq, Prod.mk.injEq] at hcs
                obtain ⟨rfl, rfl⟩ := hcs
                rw [hv]
              · cases hcs
            · cases hcs
          · cases hcs
        · cases hcs
      cases q with
      | true => exact ⟨_, fr, _, .v _, f, by rw [this]; rfl, hS, rfl, h, rfl, rfl, fun _ _ => rfl⟩
      | false => exact ⟨_, fr, _, .v _, f, by rw [this]; rfl, hS, rfl, h, rfl, rfl, fun _ _ => rfl⟩
    · cases h
  · cases h
theorem load_ok (hS : Sub f fr) {ty t : Nat} {a : Operand} (h : wLoad T ty f H t a k = some x) : Ans f fr (fun _ _ => wtagAddr (f.ev a)) (fun _ _ => tagAddr (fr.ev a)) (oLoad T fr H t a) k x := by
  unfold wLoad at h
  split at h
  · rename_i n b o hs he
    obtain ⟨l, h1, h⟩ := bindL_some h
    have h := castM_some h
    refine ans_v hS ?_ h (tag_addr hS he)
    unfold oLoad
    rw [hS.ev_v he]
    simp [vload, hs, h1, outV]
  · rename_i n d off hs he
    split at h
    · rename_i cs hcs
      obtain ⟨h1, hk⟩ := condT_some h
      clear h
      obtain ⟨ep, cs', e1, e2⟩ := hS.ev_loc he
      obtain ⟨ep', e3⟩ := hS.loc _ _ hcs
      rw [e2] at e3
      simp only [Option.some.injEq, LC.mk.injEq] at e3
      obtain ⟨rfl, rfl⟩ := e3
      refine ans_v hS ?_ hk (tag_addr hS he)
      unfold oLoad
      rw [e1]
      simp [vload, hs, Fr.locCells, e2, h1, outV]
    · cases h
  · rename_i n b o hs he
    obtain ⟨l, h1, h⟩ := bindV_some h
    have h := castM_some h
    refine ans_v hS ?_ h (tag_addr hS he)
    unfold oLoad
    rw [hS.ev_v he]
    simp [vload, hs, h1, outV]
  · rename_i n d off hs he
    split at h
    · rename_i cs hcs
      obtain ⟨v, h1, hk⟩ := bindV_some h
      clear h
      obtain ⟨ep, cs', e1, e2⟩ := hS.ev_loc he
      obtain ⟨ep', e3⟩ := hS.loc _ _ hcs
      rw [e2] at e3
      simp only [Option.some.injEq, LC.mk.injEq] at e3
      obtain ⟨rfl, rfl⟩ := e3
      refine ans_v hS ?_ hk (tag_addr hS he)
      unfold oLoad
      rw [e1]
      simp [vload, hs, Fr.locCells, e2, h1, outV]
    · cases h
  · cases h
theorem store_ok (hS : Sub f fr) {t : Nat} {a y : Operand} (h : wStore T f H t a y k = some x) : Ans f fr (fun _ H' => wtagStore (f.ev a) H H') (fun _ H' => tagStore (fr.ev a) H H') (oStore T fr H t a y) k x := by
  unfold wStore at h
  split at h
  · rename_i n r v hn hr hv
    obtain ⟨h1, hk⟩ := condT_some h
    clear h
    have hv' := hS.eva hv
    split at hk
    · rename_i b o
      obtain ⟨H', h2, hk⟩ := bindH_some hk
      refine ⟨.v (.tuple []), fr, H', .v (.tuple []), f, ?_, hS, (show Same fr.loc (.v (.tuple [])) (.v (.tuple [])) from rfl), hk, tag_store hS hr, rfl, fun _ _ => rfl⟩
      unfold oStore
      rw [hS.ev_v hr, hv']
      simp [vstore, hn, h1, h2]
    · rename_i d off
      split at hk
      · rename_i cs hcs
        obtain ⟨h2, hk2⟩ := condT_some hk
        clear hk
        simp only [Bool.and_eq_true, Bool.not_eq_true'] at h2
        obtain ⟨h2, hz⟩ := h2
        obtain ⟨ep, cs', e1, e2⟩ := hS.ev_loc hr
        obtain ⟨ep', e3⟩ := hS.loc _ _ hcs
        rw [e2] at e3
        simp only [Option.some.injEq, LC.mk.injEq] at e3
        obtain ⟨rfl, rfl⟩ := e3
        refine ⟨.v (.tuple []), { fr with loc := fr.loc.set d ⟨ep, cs'.take off ++ v.cells ++ cs'.drop (off + n)⟩ }, H, .v _, { f with loc := f.loc.set d (cs'.take off ++ v.cells ++ cs'.drop (off + n)) }, ?_, ?_, (by exact rfl), hk2, tag_store hS hr, rfl, fun e he => Tr.get_set_ne _ _ fun ed => by subst ed; rw [memB_of he] at hz; cases hz⟩
        · unfold oStore
          rw [e1, hv']
          simp [vstore, hn, h1, Fr.locCells, e2, h2]
        · have hl : ∀ e c, (fr.loc.set d c).get e = if e = d then some c else fr.loc.get e := fun e c => Tr.get_set _ _ _ _
          refine ⟨hS.nt, hS.gl, fun t' w e => ?_, fun e l h' => ?_⟩
          · obtain ⟨r', h3, h4⟩ := hS.regs t' w e
            refine ⟨r', h3, ?_⟩
            cases w with
            | v a => exact h4
            | loc d' off' =>
              obtain ⟨ep2, cs2, rfl, h5⟩ := h4
              show ∃ ep cs, _ ∧ (fr.loc.set d _).get d' = _
              by_cases hd : d' = d
              · subst hd
                rw [e2] at h5
                simp only [Option.some.injEq, LC.mk.injEq] at h5
                obtain ⟨rfl, rfl⟩ := h5
                exact ⟨ep, _, rfl, by rw [hl, if_pos rfl]⟩
              · exact ⟨ep2, cs2, rfl, by rw [hl, if_neg hd]; exact h5⟩
          · have h3 : (f.loc.set d (cs'.take off ++ v.cells ++ cs'.drop (off + n))).get e = some l := h'
            rw [Tr.get_set] at h3
            show ∃ ep, (fr.loc.set d _).get e = _
            rw [hl]
            split at h3
            · rename_i he
              obtain rfl := Option.some.inj h3
              exact ⟨ep, by rw [if_pos he]⟩
            · rename_i he
              rw [if_neg he]
              exact hS.loc e l h3
      · cases hk
    · cases hk
  · cases h
theorem nil_ok (hS : Sub f fr) {y : Operand} (h : wNil f H y k = some x) : Ans f fr (fun w _ => wtagRes w) (fun r _ => tagRes r) (oNil fr H y) k x := by
  unfold wNil at h
  split at h
  · rename_i p hp
    obtain ⟨b, o, rfl, h⟩ := asSome_some h
    refine ans_v hS ?_ h rfl
    unfold oNil
    rw [hS.evc_v hp]
  · rename_i v hne hp
    obtain ⟨i, a, b, rfl, h⟩ := asFn_some h
    refine ans_v hS ?_ h rfl
    unfold oNil
    rw [hS.evc_v hp]
  · rename_i d o hd
    split at h
    · obtain ⟨ep, cs, e1, e2, e3⟩ := hS.evc_loc hd
      refine ans_loc hS ?_ e3 h rfl
      unfold oNil
      rw [e1]
    · cases h
  · cases h
theorem bin_ok (hS : Sub f fr) {ty : Nat} {op : BinOp} {t : Nat} {y z : Operand} (h : wBin T ty f H op t y z k = some x) : Ans f fr (fun _ _ => .idle) (fun _ _ => .idle) (oBin T fr H op t y z) k x := by
  unfold wBin at h
  split at h
  · rename_i a b ha hb
    obtain ⟨h1, h⟩ := condT_some h
    obtain ⟨v, h2, h⟩ := bindV_some h
    have h := castM_some h
    refine ans_v hS ?_ h rfl
    simp [oBin, hS.eva ha, hS.eva hb, h1, h2, outV]
  · cases h
theorem un_ok (hS : Sub f fr) {op : UnOp} {y : Operand} (h : wUn f H op y k = some x) : Ans f fr (fun _ _ => .idle) (fun _ _ => .idle) (oUn fr H op y) k x := by
  unfold wUn at h
  split at h
  · rename_i a ha
    obtain ⟨v, h2, h⟩ := bindV_some h
    refine ans_v hS ?_ h rfl
    simp [oUn, hS.eva ha, h2, outV]
  · cases h
theorem conv_ok (hS : Sub f fr) {ty s d : Nat} {y : Operand} (h : wConv T ty f H s d y k = some x) : Ans f fr (fun _ H' => tagConv (f.eva y) H H') (fun _ H' => tagConv (fr.eva y) H H') (oConv T fr H s d y) k x := by
  unfold wConv at h
  split at h
  · rename_i a ha
    obtain ⟨v, H', h2, h⟩ := bindC_some h
    have h := castM_some h
    exact ⟨_, fr, H', .v _, f, by simp [oConv, hS.eva ha, h2, outH], hS, rfl, h, by rw [ha, hS.eva ha], rfl, fun _ _ => rfl⟩
  · cases h
theorem iface_ok (hS : Sub f fr) {t : Nat} {y : Operand} (h : wIface T f H t y k = some x) : Ans f fr (fun _ _ => .idle) (fun _ _ => .idle) (oIface T fr H t y) k x := by
  unfold wIface at h
  split at h
  · cases h
  · rename_i u a hne hu ha
    refine ans_v hS ?_ h rfl
    unfold oIface
    rw [hS.eva ha, hu]
    split
    · rename_i heq; cases heq; exact (hne _ rfl).elim
    · rename_i heq1 heq2; cases heq2; rfl
    · rename_i h1 h2; exact (h2 _ _ rfl rfl).elim
  · cases h
theorem func_ok (hS : Sub f fr) {fn : Fn} {a b : Array Operand} (h : wFunc f H fn a b k = some x) : Ans f fr (fun _ _ => .idle) (fun _ _ => .idle) (oFunc fr H fn a b) k x := by
  unfold wFunc at h
  split at h
  · rename_i ha hb
    refine ans_v hS ?_ h rfl
    simp [oFunc, hS.evas ha, hS.evas hb]
  · cases h
theorem makeSlice_ok (hS : Sub f fr) {ty t : Nat} {a b : Operand} (h : wMakeSlice T ty f H t a b k = some x) : Ans f fr (fun _ H' => .eff H H') (fun _ H' => .eff H H') (oMakeSlice T fr H t a b) k x := by
  unfold wMakeSlice at h
  split at h
  · rename_i ha hb
    obtain ⟨v, H', h2, h⟩ := bindC_some h
    have h := castM_some h
    exact ⟨_, fr, H', .v _, f, by simp [oMakeSlice, hS.eva ha, hS.eva hb, h2, outH], hS, rfl, h, rfl, rfl, fun _ _ => rfl⟩
  · cases h
theorem eva_ev {f : WF} {y : Operand} {a : AV} (h : f.eva y = some a) : f.ev y = some (.v a) := by
  unfold WF.eva at h
  split at h
  · rename_i b hb
    obtain rfl := Option.some.inj h
    exact hb
  · cases h
theorem slice_ok (hS : Sub f fr) {ty t : Nat} {a : Operand} {lo hi : Option Operand} (h : wSlice T ty f H t a lo hi k = some x) : Ans f fr (fun _ _ => wtagAddr (f.ev a)) (fun _ _ => tagAddr (fr.ev a)) (oSlice T fr H t a lo hi) k x := by
  unfold wSlice at h
  split at h
  · rename_i r p q ha hb hc
    obtain ⟨v, h2, h⟩ := bindV_some h
    have h := castM_some h
    refine ans_v hS ?_ h (tag_addr hS (eva_ev ha))
    simp [oSlice, hS.ev_v (eva_ev ha), hS.optEv hb, hS.optEv hc, h2, outV]
  · cases h
theorem fieldAddr_ok (hS : Sub f fr) {t i : Nat} {a : Operand} (h : wFieldAddr T f H t a i k = some x) : Ans f fr (fun w _ => wtagRes w) (fun r _ => tagRes r) (oFieldAddr T fr H t a i) k x := by
  unfold wFieldAddr at h
  split at h
  · rename_i fields hu
    split at h
    · rename_i fd hfd
      split at h
      · rename_i n hn
        split at h
        · rename_i b o ha
          refine ans_v hS ?_ h rfl
          unfold oFieldAddr
          rw [hS.evc_v ha]
          simp [vfieldAddr, hu, hfd, hn, outR]
        · rename_i d off ha
          split at h
          · obtain ⟨ep, cs, e1, e2, e3⟩ := hS.evc_loc ha
            refine ans_loc hS ?_ e3 h rfl
            unfold oFieldAddr
            rw [e1]
            simp [vfieldAddr, hu, hfd, hn, outR]
          · cases h
        · cases h
      · cases h
    · cases h
  · cases h
theorem field_ok (hS : Sub f fr) {t i : Nat} {a : Operand} (h : wField T f H t a i k = some x) : Ans f fr (fun _ _ => .idle) (fun _ _ => .idle) (oField T fr H t a i) k x := by
  unfold wField at h
  split at h
  · rename_i v ha
    obtain ⟨v, h2, h⟩ := bindV_some h
    refine ans_v hS ?_ h rfl
    simp [oField, hS.eva ha, h2, outV]
  · cases h
theorem indexAddr_ok (hS : Sub f fr) {t : Nat} {a i : Operand} (h : wIndexAddr T f H t a i k = some x) : Ans f fr (fun w _ => wtagRes w) (fun r _ => tagRes r) (oIndexAddr T fr H t a i) k x := by
  unfold wIndexAddr at h
  split at h
  · rename_i len elem b o kd n hu ha hi
    split at h
    · rename_i s hs
      obtain ⟨h1, h⟩ := condT_some h
      refine ans_v hS ?_ h rfl
      unfold oIndexAddr
      rw [hS.evc_v ha, hS.eva hi]
      simp [vindexAddr, hu, hs, h1, outR]
    · cases h
  · rename_i len elem d off kd n hu ha hi
    split at h
    · rename_i s cs hs hcs
      obtain ⟨h1, h⟩ := condT_some h
      obtain ⟨ep, cs, e1, e2, e3⟩ := hS.evc_loc ha
      refine ans_loc hS ?_ e3 h rfl
      unfold oIndexAddr
      rw [e1, hS.eva hi]
      simp [vindexAddr, hu, hs, h1, outR]
    · cases h
  · rename_i elem p len c e kd n hu ha hi
    split at h
    · rename_i s hs
      obtain ⟨b, o, rfl, h⟩ := asSome_some h
      obtain ⟨h1, h⟩ := condT_some h
      refine ans_v hS ?_ h rfl
      unfold oIndexAddr
      rw [hS.evc_v ha, hS.eva hi]
      simp [vindexAddr, hu, hs, h1, outR]
    · cases h
  · cases h
theorem index_ok (hS : Sub f fr) {ty t : Nat} {a i : Operand} (h : wIndex T ty f H t a i k = some x) : Ans f fr (fun _ _ => .idle) (fun _ _ => .idle) (oIndex T fr H t a i) k x := by
  unfold wIndex at h
  split at h
  · rename_i s kd n hu ha hi
    obtain ⟨h1, h⟩ := condT_some h
    refine ans_v hS ?_ h rfl
    unfold oIndex
    rw [hS.eva ha, hS.eva hi]
    simp [vindex, hu, h1, outV]
  · rename_i v kd n hu ha hi
    obtain ⟨v, h2, h⟩ := bindV_some h
    have h := castM_some h
    refine ans_v hS ?_ h rfl
    unfold oIndex
    rw [hS.eva ha, hS.eva hi]
    simp [h2, outV]
  · cases h
theorem extract_ok (hS : Sub f fr) {ty i : Nat} {a : Operand} (h : wExtract T ty f H a i k = some x) : Ans f fr (fun _ _ => .idle) (fun _ _ => .idle) (oExtract fr H a i) k x := by
  unfold wExtract at h
  split at h
  · rename_i v ha
    obtain ⟨v, h2, h⟩ := bindV_some h
    have h := castM_some h
    refine ans_v hS ?_ h rfl
    simp [oExtract, hS.eva ha, h2, outV]
  · cases h
theorem lookup_ok2 (hS : Sub f fr) {ty t : Nat} {a i : Operand} {ok : Bool} (h : wLookup T ty f H t a i ok k = some x) : Ans f fr (fun _ _ => tagMap (f.eva a)) (fun _ _ => tagMap (fr.eva a)) (oLookup T fr H t a i ok) k x := by
  unfold wLookup at h
  split at h
  · rename_i m b ha hb
    obtain ⟨v, h2, h⟩ := bindV_some h
    have h := castM_some h
    refine ans_v hS ?_ h (by rw [ha, hS.eva ha])
    simp [oLookup, hS.eva ha, hS.eva hb, h2, outV]
  · cases h
theorem mapUpdate_ok2 (hS : Sub f fr) {t : Nat} {a i y : Operand} (h : wMapUpdate T f H t a i y k = some x) : Ans f fr (fun _ H' => .eff H H') (fun _ H' => .eff H H') (oMapUpdate T fr H t a i y) k x := by
  unfold wMapUpdate at h
  split at h
  · rename_i ha hb hc
    obtain ⟨H', h2, h⟩ := bindH_some h
    exact ⟨_, fr, H', .v _, f, by simp [oMapUpdate, hS.eva ha, hS.eva hb, hS.eva hc, h2, outU], hS, rfl, h, rfl, rfl, fun _ _ => rfl⟩
  · cases h
theorem mapEntry_ok2 (hS : Sub f fr) {t : Nat} {a i : Operand} (h : wMapEntry T f H t a i k = some x) : Ans f fr (fun _ H' => .eff H H') (fun _ H' => .eff H H') (oMapEntry T fr H t a i) k x := by
  unfold wMapEntry at h
  split at h
  · rename_i ha hb
    obtain ⟨v, H', h2, h⟩ := bindC_some h
    exact ⟨_, fr, H', .v _, f, by simp [oMapEntry, hS.eva ha, hS.eva hb, h2, outH], hS, rfl, h, rfl, rfl, fun _ _ => rfl⟩
  · cases h
theorem entryStore_ok2 (hS : Sub f fr) {a i y : Operand} (h : wEntryStore f H a i y k = some x) : Ans f fr (fun _ H' => .eff H H') (fun _ H' => .eff H H') (oEntryStore fr H a i y) k x := by
  unfold wEntryStore at h
  split at h
  · rename_i ha hb hc
    obtain ⟨H', h2, h⟩ := bindH_some h
    exact ⟨_, fr, H', .v _, f, by simp [oEntryStore, hS.eva ha, hS.eva hb, hS.eva hc, h2, outU], hS, rfl, h, rfl, rfl, fun _ _ => rfl⟩
  · cases h
theorem makeMap_ok2 (hS : Sub f fr) {ty t : Nat} {a : Option Operand} (h : wMakeMap T ty f H t a k = some x) : Ans f fr (fun _ H' => .eff H H') (fun _ H' => .eff H H') (oMakeMap T fr H t a) k x := by
  unfold wMakeMap at h
  split at h
  · rename_i r ha
    obtain ⟨v, H', h2, h⟩ := bindC_some h
    have h := castM_some h
    exact ⟨_, fr, H', .v _, f, by simp [oMakeMap, hS.optEv ha, h2, outH], hS, rfl, h, rfl, rfl, fun _ _ => rfl⟩
  · cases h
theorem bindN_some {o : Option (Option (AV × AV) × VH)} {a : VH → Option α} {b : AV → AV → VH → Option α} (h : bindN o a b = some x) : (∃ H, o = some (none, H) ∧ a H = some x) ∨ ∃ k v H, o = some (some (k, v), H) ∧ b k v H = some x := by
  unfold bindN at h; split at h
  · exact .inl ⟨_, rfl, h⟩
  · exact .inr ⟨_, _, _, rfl, h⟩
  · cases h
theorem range_ok2 (hS : Sub f fr) {t : Nat} {a : Operand} (h : wRange T f H t a k = some x) : Ans f fr (fun _ H' => .eff H H') (fun _ H' => .eff H H') (oRange T fr H t a) k x := by
  unfold wRange at h
  split at h
  · rename_i r ha
    obtain ⟨v, H', h2, h⟩ := bindC_some h
    obtain ⟨p, rfl, h⟩ := asP_some h
    exact ⟨_, fr, H', .v _, f, by simp [oRange, hS.eva ha, h2, outH], hS, rfl, h, rfl, rfl, fun _ _ => rfl⟩
  · cases h
theorem next_ok2 (hS : Sub f fr) {ty : Nat} {a : Operand} {str : Bool} (h : wNext T ty f H a str k = some x) : Ans f fr (fun _ H' => .eff H H') (fun _ H' => .eff H H') (oNext fr H a str) k x := by
  unfold wNext at h
  split at h
  · rename_i r ha
    rcases bindN_some h with ⟨H', h2, h⟩ | ⟨p, q, H', h2, h⟩
    · exact ⟨_, fr, H', .v _, f, by simp [oNext, hS.eva ha, h2, nextV, outH], hS, rfl, h, rfl, rfl, fun _ _ => rfl⟩
    · have h := castM_some h
      exact ⟨_, fr, H', .v _, f, by simp [oNext, hS.eva ha, h2, nextV, outH], hS, rfl, h, rfl, rfl, fun _ _ => rfl⟩
  · cases h
theorem entry_ok2 (hS : Sub f fr) {ty : Nat} {a : Operand} (h : wEntry ty f H a k = some x) : Ans f fr (fun _ H' => .eff H H') (fun _ H' => .eff H H') (oEntry fr H a) k x := by
  unfold wEntry at h
  split at h
  · rename_i r ha
    obtain ⟨v, H', h2, h⟩ := bindC_some h
    obtain ⟨l, rfl, h⟩ := asTu_some h
    obtain ⟨p, l, rfl, h⟩ := unc_some h
    obtain ⟨q, l, rfl, h⟩ := unc_some h
    obtain ⟨rfl, h⟩ := endL_some h
    exact ⟨_, fr, H', .v _, f, by simp [oEntry, hS.eva ha, h2, outH], hS, rfl, h, rfl, rfl, fun _ _ => rfl⟩
  · cases h
theorem call_ok (hS : Sub f fr) {q : Bool} {ty : Nat} {c : Call} (h : wCall T callF q ty c f H k = some x) : Ans f fr (fun _ H' => wtagCall c f H H') (fun _ H' => tagCall c fr H H') (vcallOp T callF q c fr H) k x := by
  unfold wCall at h
  split at h
  · cases h
  · rename_i args hargs
    have htag : ∀ H', wtagCall c f H H' = tagCall c fr H H' := fun H' => by unfold wtagCall tagCall; rw [hargs, hS.evas hargs]; generalize c.callee = q; (cases q with | builtin b => cases b <;> rfl | value _ => rfl | invoke _ _ => rfl)
    split at h
    · rename_i b hb
      obtain ⟨v, H', h2, h⟩ := bindC_some h
      have h := castM_some h
      exact ⟨_, fr, H', .v _, f, by unfold vcallOp; rw [hS.evas hargs]; simp [hb, h2, outH], hS, rfl, h, htag _, rfl, fun _ _ => rfl⟩
    · rename_i g hg
      split at h
      · rename_i v hv
        obtain ⟨i, a, b, rfl, h⟩ := asFn_some h
        obtain ⟨v, H', h2, h⟩ := bindC_some h
        have h := castM_some h
        exact ⟨_, fr, H', .v _, f, by unfold vcallOp; rw [hS.evas hargs]; simp only [hg, hS.eva hv, h2, outH], hS, rfl, h, htag _, rfl, fun _ _ => rfl⟩
      · cases h
    · cases h

theorem step_ok (hS : Sub f fr) {o : Oper} (h : wstep T callF promo o f H k = some x) : Ans f fr (fun w H' => wtag promo o f H H' w) (fun r H' => tagOf promo o fr H H' r) (vstep T callF promo o fr H) k x := by
  obtain ⟨dst, op, ty, pos, aft, gd⟩ := o
  cases op with
  | slice t y lo hi mx =>
    cases mx with
    | none => exact slice_ok hS h
    | some m => cases h
  | move y => exact move_ok hS h
  | assign y => exact move_ok hS h
  | pick c a b => exact pick_ok hS h
  | alloc t => exact alloc_ok hS h
  | box t y => exact boxV_ok hS h
  | build t ps => exact build_ok hS h
  | buildSlice t n ps => exact buildSlice_ok hS h
  | load t a => exact load_ok hS h
  | store t a y => exact store_ok hS h
  | nilCheck y => exact nil_ok hS h
  | binOp op t y z u => exact bin_ok hS h
  | unOp op u y => exact un_ok hS h
  | convert s d y => exact conv_ok hS h
  | makeInterface t y => exact iface_ok hS h
  | makeFunc fn a b => exact func_ok hS h
  | makeSlice t l c => exact makeSlice_ok hS h
  | fieldAddr t y i => exact fieldAddr_ok hS h
  | field t y i => exact field_ok hS h
  | indexAddr t y i => exact indexAddr_ok hS h
  | index t y i => exact index_ok hS h
  | extract y i => exact extract_ok hS h
  | call c => exact call_ok hS h
  | makeMap t r => exact makeMap_ok2 (ty := ty) hS h
  | lookup t y i ok => exact lookup_ok2 hS h
  | mapUpdate t m i v => exact mapUpdate_ok2 hS h
  | mapEntry t m i => exact mapEntry_ok2 hS h
  | entryStore t m i v => exact entryStore_ok2 hS h
  | insert t m i v => exact mapUpdate_ok2 hS h
  | range t y => exact range_ok2 hS h
  | next y s => exact next_ok2 hS h
  | entry y => exact entry_ok2 (ty := ty) hS h
  | _ => cases h
end
end Go.Vm
/-! The second machine's regions, code and calls against the first one's. -/
namespace Go.Vm
set_option linter.unusedSimpArgs false
set_option linter.unusedVariables false
set_option linter.unusedSectionVars false

/-! What a step leaves of a frame. -/
/-- Registers and boxes outside a list stay. -/
structure Off (as : List Nat) (fr fr' : Fr) : Prop where
  regs : ∀ t, t ∉ as → fr'.regs.get t = fr.regs.get t
  loc : ∀ d ep cs, d ∉ as → fr.loc.get d = some ⟨ep, cs⟩ → ∃ cs', fr'.loc.get d = some ⟨ep, cs'⟩
  nt : fr'.nt = fr.nt
  gl : fr'.gl = fr.gl
theorem Off.refl (as : List Nat) (fr : Fr) : Off as fr fr := ⟨fun _ _ => rfl, fun _ _ cs _ h => ⟨cs, h⟩, rfl, rfl⟩
theorem Off.trans {as : List Nat} {a b c : Fr} (h : Off as a b) (k : Off as b c) : Off as a c :=
  ⟨fun t ht => (k.regs t ht).trans (h.regs t ht), fun d ep cs hd hc => let ⟨cs', h'⟩ := h.loc d ep cs hd hc; k.loc d ep cs' hd h', k.nt.trans h.nt, k.gl.trans h.gl⟩
theorem Off.mono {as bs : List Nat} {a b : Fr} (h : Off as a b) (hs : ∀ t ∈ as, t ∈ bs) : Off bs a b :=
  ⟨fun t ht => h.regs t fun e => ht (hs t e), fun d ep cs hd => h.loc d ep cs fun e => hd (hs d e), h.nt, h.gl⟩
/-- What an operation leaves of a frame, ahead of its own register. -/
structure FrKept (dst : Option Nat) (fr fr' : Fr) : Prop where
  regs : fr'.regs = fr.regs
  loc : ∀ d ep cs, dst ≠ some d → fr.loc.get d = some ⟨ep, cs⟩ → ∃ cs', fr'.loc.get d = some ⟨ep, cs'⟩
  nt : fr'.nt = fr.nt
  gl : fr'.gl = fr.gl
theorem FrKept.refl (dst : Option Nat) (fr : Fr) : FrKept dst fr fr := ⟨rfl, fun _ _ cs _ h => ⟨cs, h⟩, rfl, rfl⟩
def dstL (d : Option Nat) : List Nat := d.toList
theorem put_off (d : Option Nat) (fr : Fr) (r : RV) : Off (dstL d) fr (fr.put d r) := by
  cases d with
  | none => exact .refl _ _
  | some d =>
    unfold Fr.put
    cases hb : Nat.blt d fr.nt with
    | false => simp only [hb]; exact .refl _ _
    | true =>
      simp only [hb]
      refine ⟨fun t ht => ?_, fun _ _ cs _ h => ⟨cs, h⟩, rfl, rfl⟩
      exact Tr.get_set_ne _ _ (by simpa [dstL] using ht)
theorem FrKept.off {d : Option Nat} {fr fr' : Fr} (h : FrKept d fr fr') (r : RV) : Off (dstL d) fr (fr'.put d r) := by
  have h1 : Off (dstL d) fr fr' := ⟨fun t _ => by rw [h.regs], fun e ep cs he hc => h.loc e ep cs (by intro e2; subst e2; simp [dstL] at he) hc, h.nt, h.gl⟩
  exact h1.trans (put_off d fr' r)

section
variable {T : Tb} {fr fr' : Fr} {H H' : VH} {r : RV} {promo : Nat → Bool} {dst : Option Nat}
theorem outR_kept {x : Option RV} (h : outR fr H x = some (r, fr', H')) : FrKept dst fr fr' := by obtain ⟨_, rfl, _⟩ := outR_spec h; exact .refl _ _
theorem outV_kept {x : Option AV} (h : outV fr H x = some (r, fr', H')) : FrKept dst fr fr' := by obtain ⟨_, _, _, rfl, _⟩ := outV_spec h; exact .refl _ _
theorem outH_kept {x : Option (AV × VH)} (h : outH fr x = some (r, fr', H')) : FrKept dst fr fr' := by obtain ⟨_, _, _, rfl⟩ := outH_spec h; exact .refl _ _
theorem newBox_kept {cs : List AV} {e : Option Nat} (h : newBox promo dst fr H cs e = some (r, fr', H')) : FrKept dst fr fr' := by
  unfold newBox at h
  split at h
  · rename_i d _
    split at h
    · simp only [Option.some.injEq, Prod.mk.injEq] at h
      obtain ⟨_, rfl, _⟩ := h
      refine ⟨rfl, fun e ep cs' he hc => ⟨cs', ?_⟩, rfl, rfl⟩
      show (fr.loc.set d _).get e = _
      rw [Tr.get_set_ne _ _ (by intro e2; subst e2; exact he rfl)]
      exact hc
    · simp only [Option.some.injEq, Prod.mk.injEq] at h
      rw [← h.2.1]
      exact .refl _ _
  · cases h
theorem vstore_kept {t : Nat} {r : RV} {v : AV} (h : vstore T fr H t r v = some (fr', H')) : FrKept dst fr fr' := by
  unfold vstore at h
  split at h
  · split at h
    · split at h
      · rw [Option.map_eq_some_iff] at h
        obtain ⟨H1, _, h2⟩ := h
        simp only [Prod.mk.injEq] at h2
        rw [← h2.1]
        exact .refl _ _
      · rename_i d ep off
        split at h
        · rename_i cs hcs
          split at h
          · simp only [Option.some.injEq, Prod.mk.injEq] at h
            obtain ⟨rfl, _⟩ := h
            refine ⟨rfl, fun e ep' cs' he hc => ?_, rfl, rfl⟩
            show ∃ cs, (fr.loc.set d _).get e = _
            rw [Tr.get_set]
            by_cases e2 : e = d
            · subst e2
              have : ep' = ep := by
                unfold Fr.locCells at hcs
                rw [hc] at hcs
                simp only at hcs
                split at hcs
                · rename_i e3
                  simpa using e3
                · cases hcs
              subst this
              exact ⟨_, by rw [if_pos rfl]⟩
            · exact ⟨cs', by rw [if_neg e2]; exact hc⟩
          · cases h
        · cases h
      · cases h
    · cases h
  · cases h
theorem vop_kept {op : Op} (h : vop T promo dst op fr H = some (r, fr', H')) : FrKept dst fr fr' := by
  unfold vop at h
  split at h
  · exact outR_kept h
  · exact outR_kept h
  · unfold oPick at h
    split at h
    · exact outR_kept h
    · exact outR_kept h
    · cases h
  · unfold oAlloc at h
    split at h
    · exact newBox_kept h
    · cases h
  · unfold oBox at h
    split at h
    · exact newBox_kept h
    · cases h
  · exact outV_kept h
  · exact outH_kept h
  · unfold oLoad at h
    split at h
    · exact outV_kept h
    · cases h
  · unfold oStore at h
    split at h
    · split at h
      · rename_i hs
        simp only [Option.some.injEq, Prod.mk.injEq] at h
        obtain ⟨_, rfl, rfl⟩ := h
        exact vstore_kept hs
      · cases h
    · cases h
  · unfold oNil at h
    split at h <;> first | (simp only [Option.some.injEq, Prod.mk.injEq] at h; rw [← h.2.1]; exact .refl _ _) | cases h
  · unfold oBin at h
    split at h
    · split at h
      · exact outV_kept h
      · cases h
    · cases h
  · unfold oUn at h
    split at h
    · exact outV_kept h
    · cases h
  · unfold oConv at h
    split at h
    · exact outH_kept h
    · cases h
  · unfold oIface at h
    split at h
    · cases h
    · simp only [Option.some.injEq, Prod.mk.injEq] at h; rw [← h.2.1]; exact .refl _ _
    · cases h
  · unfold oFunc at h
    split at h
    · simp only [Option.some.injEq, Prod.mk.injEq] at h; rw [← h.2.1]; exact .refl _ _
    · cases h
  · unfold oMakeSlice at h
    split at h
    · exact outH_kept h
    · cases h
  · unfold oSlice at h
    split at h
    · exact outV_kept h
    · cases h
  · unfold oFieldAddr at h
    split at h
    · exact outR_kept h
    · cases h
  · unfold oField at h
    split at h
    · exact outV_kept h
    · cases h
  · unfold oIndexAddr at h
    split at h
    · exact outR_kept h
    · cases h
  · unfold oIndex at h
    split at h
    · exact outV_kept h
    · cases h
  · unfold oExtract at h
    split at h
    · exact outV_kept h
    · cases h
  · unfold oMakeMap at h
    split at h
    · exact outH_kept h
    · cases h
  · unfold oLookup at h
    split at h
    · exact outV_kept h
    · cases h
  · unfold oMapUpdate at h
    split at h
    · obtain ⟨_, _, rfl⟩ := outU_spec h; exact .refl _ _
    · cases h
  · unfold oMapEntry at h
    split at h
    · exact outH_kept h
    · cases h
  · unfold oEntryStore at h
    split at h
    · obtain ⟨_, _, rfl⟩ := outU_spec h; exact .refl _ _
    · cases h
  · unfold oMapUpdate at h
    split at h
    · obtain ⟨_, _, rfl⟩ := outU_spec h; exact .refl _ _
    · cases h
  · unfold oRange at h
    split at h
    · exact outH_kept h
    · cases h
  · unfold oNext at h
    split at h
    · exact outH_kept h
    · cases h
  · unfold oEntry at h
    split at h
    · exact outH_kept h
    · cases h
  · cases h
variable {callF : Nat → List AV → VH → Option (AV × VH)}
theorem vstep_kept {o : Oper} (h : vstep T callF promo o fr H = some (r, fr', H')) : FrKept o.dst fr fr' := by
  unfold vstep at h
  split at h
  · unfold vcallOp at h
    split at h
    · cases h
    · split at h
      · exact outH_kept h
      · split at h
        · exact outH_kept h
        · cases h
      · cases h
  · exact vop_kept h
theorem assignedOps_cons (o : Oper) (os : List Oper) : ∀ t, t ∈ dstL o.dst ∨ t ∈ assignedOps os → t ∈ assignedOps (o :: os) := by
  intro t ht
  show t ∈ (match o.dst with | some d => d :: assignedOps os | none => assignedOps os)
  cases e : o.dst with
  | none => rw [e] at ht; simpa [dstL] using ht
  | some d => rw [e] at ht; simpa [dstL] using ht
theorem vops_off {ops : Array Oper} : ∀ {os : List Oper} {fr fr' : Fr} {H H' : VH}, vops T callF promo ops os fr H = some (fr', H') → Off (assignedOps os) fr fr'
  | [], _, _, _, _, h => by
    simp only [vops, Option.some.injEq, Prod.mk.injEq] at h
    rw [h.1]
    exact .refl _ _
  | o :: os, fr, fr', H, H', h => by
    change opsCons T callF promo ops o (vops T callF promo ops os) fr H = some (fr', H') at h
    have hm1 := fun t ht => assignedOps_cons o os t (.inl ht)
    have hm2 := fun t ht => assignedOps_cons o os t (.inr ht)
    unfold opsCons at h
    split at h
    · split at h
      · rename_i hs
        exact (((vstep_kept hs).off _).mono hm1).trans ((vops_off h).mono hm2)
      · cases h
    · exact ((put_off _ _ _).mono hm1).trans ((vops_off h).mono hm2)
    · cases h
theorem vopsT_off {ops : Array Oper} {bef : Array Nat} : ∀ {os : List Oper} {k : Nat} {ts : List Tag} {fr fr' : Fr} {H H' : VH}, vopsT T callF promo ops bef os k ts fr H = some (fr', H') → Off (assignedOps os) fr fr'
  | [], _, _, _, _, _, _, h => by
    simp only [vopsT, Option.some.injEq, Prod.mk.injEq] at h
    rw [h.1]
    exact .refl _ _
  | o :: os, k, ts, fr, fr', H, H', h => by
    change opsConsT T callF promo ops bef o (vopsT T callF promo ops bef os) k ts fr H = some (fr', H') at h
    have hm1 := fun t ht => assignedOps_cons o os t (.inl ht)
    have hm2 := fun t ht => assignedOps_cons o os t (.inr ht)
    unfold opsConsT at h
    split at h
    · split at h
      · rename_i hs
        split at h
        · exact (((vstep_kept hs).off _).mono hm1).trans ((vopsT_off h).mono hm2)
        · cases h
      · cases h
    · exact ((put_off _ _ _).mono hm1).trans ((vopsT_off h).mono hm2)
    · cases h
theorem loopStep_off {as : List Nat} {x y : Run} (hx : ∀ fr H e fr' H', x fr H = some (e, fr', H') → Off as fr fr') (hy : ∀ fr H e fr' H', y fr H = some (e, fr', H') → Off as fr fr') : ∀ fr H e fr' H', loopStep x y fr H = some (e, fr', H') → Off as fr fr' := by
  intro fr H e fr' H' h
  unfold loopStep at h
  split at h
  · rename_i h1
    exact (hx _ _ _ _ _ h1).trans (hy _ _ _ _ _ h)
  · exact hx _ _ _ _ _ h
theorem vcode_off (n : Nat) (c : Code) : ∀ fr H e fr' H', vcode T callF promo n c fr H = some (e, fr', H') → Off (assigned c) fr fr' := by
  induction c with
  | region id ops d =>
    intro fr H e fr' H' h
    change cRegion T callF promo ops d fr H = some (e, fr', H') at h
    unfold cRegion at h
    split at h
    · rename_i fr1 H1 h1
      simp only [Option.some.injEq, Prod.mk.injEq] at h
      obtain ⟨_, rfl, _⟩ := h
      cases d with
      | true => exact vopsT_off h1
      | false => exact vops_off h1
    · cases h
  | seq a b iha ihb =>
    exact loopStep_off (fun fr H e fr' H' h => (iha fr H e fr' H' h).mono fun t ht => List.mem_append_left _ ht) (fun fr H e fr' H' h => (ihb fr H e fr' H' h).mono fun t ht => List.mem_append_right _ ht)
  | cond c a b iha ihb =>
    intro fr H e fr' H' h
    change cCond c _ _ fr H = some (e, fr', H') at h
    unfold cCond at h
    split at h
    · exact (iha _ _ _ _ _ h).mono fun t ht => List.mem_append_left _ ht
    · exact (ihb _ _ _ _ _ h).mono fun t ht => List.mem_append_right _ ht
    · cases h
  | block id c ih =>
    intro fr H e fr' H' h
    change cBlock id _ fr H = some (e, fr', H') at h
    unfold cBlock at h
    split at h
    · rename_i h1
      split at h <;> (simp only [Option.some.injEq, Prod.mk.injEq] at h; obtain ⟨_, rfl, _⟩ := h; exact ih _ _ _ _ _ h1)
    · exact ih _ _ _ _ _ h
  | loop c ih =>
    have : ∀ m, ∀ fr H e fr' H', vloop (vcode T callF promo n c) m fr H = some (e, fr', H') → Off (assigned c) fr fr' := by
      intro m
      induction m with
      | zero => intro fr H e fr' H' h; cases h
      | succ m ihm => exact loopStep_off ih ihm
    exact this n
  | skip | exit | label | ret =>
    intro fr H e fr' H' h
    simp only [vcode, cEx, Option.some.injEq, Prod.mk.injEq] at h
    obtain ⟨_, rfl, _⟩ := h
    exact .refl _ _
  | _ =>
    intro fr H e fr' H' h
    exact absurd h (by simp [vcode, cNone])
end

/-! Regions. -/
section
variable {α : Type} {T : Tb} {callF : Nat → List AV → VH → Option (AV × VH)} {promo : Nat → Bool} {x : α}

/-- A guard: the first machine does as the second one, with a frame that has more. -/
theorem guard_ok {ops : Array Oper} {o : Oper} {f : WF} {fr : Fr} (hS : Sub f fr) {yes no : WF → Option α} (h : wguard ops o f yes no = some x) :
    (guardOf ops o fr = some true ∧ ∃ f', Sub f' fr ∧ yes f' = some x ∧ f'.frz = f.frz) ∨ (guardOf ops o fr = some false ∧ ∃ f', Sub f' fr ∧ no f' = some x ∧ f'.frz = f.frz) := by
  unfold wguard at h
  unfold guardOf
  split at h
  · rename_i e
    rw [e]
    exact .inl ⟨rfl, f, hS, h, rfl⟩
  · rename_i j want e
    rw [e]
    simp only
    split at h
    · rename_i e2
      rw [e2]
      exact .inr ⟨rfl, f, hS, h, rfl⟩
    · rename_i d e2
      rw [e2]
      simp only
      split at h
      · rename_i b e3
        obtain ⟨r, e4, e5⟩ := hS.regs _ _ e3
        obtain rfl : r = .v (.bool b) := e5
        rw [e4]
        simp only
        have hset : Sub { f with regs := f.regs.set d (.v (.bool b)) } fr := by
          refine ⟨hS.nt, hS.gl, fun t w hw => ?_, hS.loc⟩
          have hw' : (f.regs.set d (.v (.bool b))).get t = some w := hw
          rw [Tr.get_set] at hw'
          split at hw'
          · rename_i et
            subst et
            obtain rfl := Option.some.inj hw'
            exact ⟨_, e4, rfl⟩
          · exact hS.regs t w hw'
        cases want <;> cases b
        · exact .inl ⟨rfl, _, hset, h, rfl⟩
        · exact .inr ⟨rfl, _, hset, h, rfl⟩
        · exact .inr ⟨rfl, _, hset, h, rfl⟩
        · exact .inl ⟨rfl, _, hset, h, rfl⟩
      · rename_i e3
        obtain ⟨r, e4, e5⟩ := hS.regs _ _ e3
        obtain rfl : r = .v (.tuple []) := e5
        rw [e4]
        exact .inr ⟨rfl, f, hS, h, rfl⟩
      · cases h

theorem WF.frz_put (f : WF) (d : Option Nat) (w : WV) : (f.put d w).frz = f.frz := by
  cases d with
  | none => rfl
  | some d => unfold WF.put; cases h : Nat.blt d f.nt <;> simp only [h]
theorem Fr.loc_put (f : Fr) (d : Option Nat) (w : RV) : (f.put d w).loc = f.loc := by
  cases d with
  | none => rfl
  | some d => unfold Fr.put; cases h : Nat.blt d f.nt <;> simp only [h]
/-- The boxes that must not be changed are as they were. -/
def Frz (f f' : WF) (fr fr' : Fr) : Prop := f'.frz = f.frz ∧ ∀ d ∈ f.frz, fr'.loc.get d = fr.loc.get d
theorem Frz.refl {f : WF} {fr : Fr} : Frz f f fr fr := ⟨rfl, fun _ _ => rfl⟩
theorem Frz.trans {a b c : WF} {x y z : Fr} (h : Frz a b x y) (k : Frz b c y z) : Frz a c x z := ⟨k.1.trans h.1, fun d hd => (k.2 d (h.1 ▸ hd)).trans (h.2 d hd)⟩
theorem Frz.step {f f1 f2 : WF} {fr fr2 : Fr} {d : Option Nat} {w : WV} {r : RV} (h1 : f1.frz = f.frz) (h2 : f2.frz = f1.frz) (h3 : ∀ d ∈ f1.frz, fr2.loc.get d = fr.loc.get d) : Frz f (f2.put d w) fr (fr2.put d r) :=
  ⟨by rw [WF.frz_put, h2, h1], fun e he => by rw [Fr.loc_put]; exact h3 e (h1 ▸ he)⟩
theorem ops_ok {ops : Array Oper} : ∀ {os : List Oper} {k : WF → VH → Option α} {f : WF} {fr : Fr} {H : VH}, Sub f fr → wops T callF promo ops os k f H = some x →
    ∃ fr' H' f', vops T callF promo ops os fr H = some (fr', H') ∧ Sub f' fr' ∧ k f' H' = some x ∧ Frz f f' fr fr'
  | [], k, f, fr, H, hS, h => ⟨fr, H, f, rfl, hS, h, .refl⟩
  | o :: os, k, f, fr, H, hS, h => by
    change wopsCons T callF promo ops o (wops T callF promo ops os) k f H = some x at h
    unfold wopsCons at h
    show ∃ fr' H' f', opsCons T callF promo ops o (vops T callF promo ops os) fr H = some (fr', H') ∧ _
    unfold opsCons
    rcases guard_ok hS h with ⟨hg, f1, hS1, h1, hz⟩ | ⟨hg, f1, hS1, h1, hz⟩
    · rw [hg]
      obtain ⟨r, fr2, H2, w, f2, e1, e2, e3, e4, _, e8, e9⟩ := step_ok hS1 h1
      simp only [e1]
      obtain ⟨a, b, c, k1, k2, k3, k4⟩ := ops_ok (e2.put o.dst e3) e4
      exact ⟨a, b, c, k1, k2, k3, (Frz.step hz e8 e9).trans k4⟩
    · rw [hg]
      obtain ⟨a, b, c, k1, k2, k3, k4⟩ := ops_ok (hS1.put o.dst (w := .v (.tuple [])) (r := .v (.tuple [])) rfl) h1
      exact ⟨a, b, c, k1, k2, k3, (Frz.step hz rfl fun _ _ => rfl).trans k4⟩
theorem opsT_ok {ops : Array Oper} {bef : Array Nat} : ∀ {os : List Oper} {n : Nat} {ts : List Tag} {k : WF → VH → Option α} {f : WF} {fr : Fr} {H : VH}, Sub f fr → wopsT T callF promo ops bef os n ts k f H = some x →
    ∃ fr' H' f', vopsT T callF promo ops bef os n ts fr H = some (fr', H') ∧ Sub f' fr' ∧ k f' H' = some x ∧ Frz f f' fr fr'
  | [], n, ts, k, f, fr, H, hS, h => ⟨fr, H, f, rfl, hS, h, .refl⟩
  | o :: os, n, ts, k, f, fr, H, hS, h => by
    change wopsConsT T callF promo ops bef o (wopsT T callF promo ops bef os) n ts k f H = some x at h
    unfold wopsConsT at h
    show ∃ fr' H' f', opsConsT T callF promo ops bef o (vopsT T callF promo ops bef os) n ts fr H = some (fr', H') ∧ _
    unfold opsConsT
    rcases guard_ok hS h with ⟨hg, f1, hS1, h1, hz⟩ | ⟨hg, f1, hS1, h1, hz⟩
    · rw [hg]
      obtain ⟨r, fr2, H2, w, f2, e1, e2, e3, e4, e5, e8, e9⟩ := step_ok hS1 h1
      obtain ⟨e6, e7⟩ := condT_some e4
      simp only [e1]
      rw [show tagOf promo o fr H H2 r = wtag promo o f1 H H2 w from e5.symm, e6]
      obtain ⟨a, b, c, k1, k2, k3, k4⟩ := opsT_ok (e2.put o.dst e3) e7
      exact ⟨a, b, c, k1, k2, k3, (Frz.step hz e8 e9).trans k4⟩
    · rw [hg]
      obtain ⟨a, b, c, k1, k2, k3, k4⟩ := opsT_ok (hS1.put o.dst (w := .v (.tuple [])) (r := .v (.tuple [])) rfl) h1
      exact ⟨a, b, c, k1, k2, k3, (Frz.step hz rfl fun _ _ => rfl).trans k4⟩
end
end Go.Vm
/-! The second machine's code and calls against the first one's. -/
namespace Go.Vm
set_option linter.unusedSimpArgs false
set_option linter.unusedVariables false
set_option linter.unusedSectionVars false

section
variable {α : Type} {T : Tb} {x : α} {as : List Nat} {f f1 : WF} {fr fr' : Fr}

theorem keepLoc_get {f : WF} : ∀ {keep : List Nat} {d : Nat} {cs : List AV}, (keepLoc f keep).get d = some cs → d ∈ keep ∧ f.loc.get d = some cs
  | [], d, cs, h => by
    have : (Tr.leaf : Tr (List AV)).get d = some cs := h
    rw [Tr.get_leaf] at this
    cases this
  | e :: keep, d, cs, h => by
    have h' : (match f.loc.get e with | some cs => (keepLoc f keep).set e cs | none => keepLoc f keep).get d = some cs := h
    split at h'
    · rename_i cs' he
      rw [Tr.get_set] at h'
      split at h'
      · rename_i ed
        subst ed
        obtain rfl := Option.some.inj h'
        exact ⟨List.mem_cons_self, he⟩
      · obtain ⟨h1, h2⟩ := keepLoc_get h'
        exact ⟨List.mem_cons_of_mem _ h1, h2⟩
    · obtain ⟨h1, h2⟩ := keepLoc_get h'
      exact ⟨List.mem_cons_of_mem _ h1, h2⟩
theorem base_sub {keep : List Nat} (hS : Sub f fr) (hO : Off as fr fr') (hK : ∀ d ∈ keep, fr'.loc.get d = fr.loc.get d) (j : Jn) : Sub (base as keep j f) fr' := by
  refine ⟨hS.nt.trans hO.nt.symm, hS.gl.trans hO.gl.symm, fun t w h => ?_, fun d cs h => ?_⟩
  · obtain ⟨h1, h2⟩ := Tr.get_filt _ _ _ _ (show ((f.regs.dels as).filt (keepW as keep j.boxes)).get t = some w from h)
    rw [Tr.get_dels] at h1
    split at h1
    · cases h1
    · rename_i ht
      obtain ⟨r, h3, h4⟩ := hS.regs t w h1
      refine ⟨r, (hO.regs t ht).trans h3, ?_⟩
      cases w with
      | v a => exact h4
      | loc d off =>
        obtain ⟨ep, cs, rfl, h5⟩ := h4
        have hd : d ∉ as := by
          intro hd
          have := memB_of hd
          simp [keepW, this] at h2
        obtain ⟨cs', h6⟩ := hO.loc d ep cs hd h5
        exact ⟨ep, cs', rfl, h6⟩
  · obtain ⟨h1, h2⟩ := keepLoc_get (show (keepLoc f keep).get d = some cs from h)
    obtain ⟨ep, h3⟩ := hS.loc d cs h2
    exact ⟨ep, (hK d h1).trans h3⟩
theorem Sub.freeze (h : Sub f fr) (keep : List Nat) : Sub (f.freeze keep) fr := ⟨h.nt, h.gl, h.regs, h.loc⟩
theorem Sub.set_v (hS : Sub f fr) {t : Nat} {a : AV} (h : fr.regs.get t = some (.v a)) : Sub { f with regs := f.regs.set t (.v a) } fr := by
  refine ⟨hS.nt, hS.gl, fun t' w hw => ?_, hS.loc⟩
  have hw' : (f.regs.set t (.v a)).get t' = some w := hw
  rw [Tr.get_set] at hw'
  split at hw'
  · rename_i et
    subst et
    obtain rfl := Option.some.inj hw'
    exact ⟨_, h, rfl⟩
  · exact hS.regs t' w hw'
theorem rbRegs_ok (h1 : Sub f1 fr) {rest : List AV} : ∀ {l : List (Nat × Nat)} {vs : List AV} {f : WF} {k : WF → List AV → Option α}, colRegs f1 rest l = some vs → Sub f fr → rbRegs T l k f vs = some x → ∃ f', Sub f' fr ∧ k f' rest = some x ∧ f'.frz = f.frz
  | [], vs, f, k, hc, hS, h => by
    obtain rfl : rest = vs := Option.some.inj hc
    exact ⟨f, hS, h, rfl⟩
  | p :: l, vs, f, k, hc, hS, h => by
    change (match f1.eva (.tmp p.1), colRegs f1 rest l with | some a, some as => some (a :: as) | _, _ => none) = some vs at hc
    split at hc
    · rename_i a as ha has
      obtain rfl := Option.some.inj hc
      have h2 : castM (zt T p.2) a (fun a => rbRegs T l k { f with regs := f.regs.set p.1 (.v a) } as) = some x := h
      have h3 := castM_some h2
      have h4 : f1.ev (.tmp p.1) = some (.v a) := eva_ev ha
      obtain ⟨r, h5, h6⟩ := h1.regs p.1 (.v a) h4
      obtain rfl : r = .v a := h6
      exact rbRegs_ok (f := { f with regs := f.regs.set p.1 (.v a) }) h1 has (hS.set_v h5) h3
    · cases hc
theorem castBox_some {z : Option AV} {l : List AV} {k : List AV → Option α} (h : castBox z l k = some x) : k l = some x := by
  unfold castBox at h
  split at h
  · exact castL_some h
  · exact h
theorem rbBoxes_ok (h1 : Sub f1 fr) : ∀ {l : List (Nat × Nat)} {vs : List AV} {f : WF} {k : WF → Option α}, colBoxes f1 l = some vs → Sub f fr → rbBoxes T l k f vs = some x → ∃ f', Sub f' fr ∧ k f' = some x ∧ f'.frz = f.frz
  | [], vs, f, k, hc, hS, h => by
    obtain ⟨_, h⟩ := endL_some h
    exact ⟨f, hS, h, rfl⟩
  | p :: l, vs, f, k, hc, hS, h => by
    change (match f1.loc.get p.1, colBoxes f1 l with | some cs, some as => some (.agg cs :: as) | _, _ => none) = some vs at hc
    split at hc
    · rename_i cs as hcs has
      obtain rfl := Option.some.inj hc
      have h2 : castBox (zeroOf T p.2) cs (fun cs => rbBoxes T l k { f with loc := f.loc.set p.1 cs } as) = some x := h
      have h3 := castBox_some h2
      obtain ⟨ep, h5⟩ := h1.loc p.1 cs hcs
      refine rbBoxes_ok (f := { f with loc := f.loc.set p.1 cs }) h1 has ⟨hS.nt, hS.gl, hS.regs, fun d l' hl => ?_⟩ h3
      have hl' : (f.loc.set p.1 cs).get d = some l' := hl
      rw [Tr.get_set] at hl'
      split at hl'
      · rename_i ed
        subst ed
        obtain rfl := Option.some.inj hl'
        exact ⟨ep, h5⟩
      · exact hS.loc d l' hl'
    · cases hc
theorem rbLocs_ok (h1 : Sub f1 fr) : ∀ {l : List (Nat × Nat × Nat)} {f : WF} {k : WF → Option α}, colLocs f1 l = true → Sub f fr → rbLocs l k f = some x → ∃ f', Sub f' fr ∧ k f' = some x ∧ f'.frz = f.frz
  | [], f, k, hc, hS, h => ⟨f, hS, h, rfl⟩
  | p :: l, f, k, hc, hS, h => by
    change (match f1.regs.get p.1 with | some (.loc d off) => Nat.beq d p.2.1 && Nat.beq off p.2.2 && colLocs f1 l | _ => false) = true at hc
    split at hc
    · rename_i d off hr
      simp only [Bool.and_eq_true, Nat.beq_eq] at hc
      obtain ⟨⟨rfl, rfl⟩, hc⟩ := hc
      have h3 : rbLocs l k { f with regs := f.regs.set p.1 (.loc p.2.1 p.2.2) } = some x := h
      refine rbLocs_ok (f := { f with regs := f.regs.set p.1 (.loc p.2.1 p.2.2) }) h1 hc ⟨hS.nt, hS.gl, fun t w hw => ?_, hS.loc⟩ h3
      have hw' : (f.regs.set p.1 (.loc p.2.1 p.2.2)).get t = some w := hw
      rw [Tr.get_set] at hw'
      split at hw'
      · rename_i et
        subst et
        obtain rfl := Option.some.inj hw'
        exact h1.regs _ _ hr
      · exact hS.regs t w hw'
    · cases hc
theorem rebuild_ok {keep : List Nat} (hS : Sub f fr) (hO : Off as fr fr') (hK : ∀ d ∈ keep, fr'.loc.get d = fr.loc.get d) (h1 : Sub f1 fr') {j : Jn} {vs : List AV} {k : WF → Option α} (hc : collect f1 j = some vs) (h : rebuild T as keep f j vs k = some x) : ∃ f', Sub f' fr' ∧ k f' = some x ∧ f'.frz = f.frz := by
  unfold collect at hc
  split at hc
  · rename_i hl
    split at hc
    · rename_i bs hb
      obtain ⟨f2, h2, h3, z1⟩ := rbRegs_ok h1 hc (base_sub hS hO hK j) h
      obtain ⟨f3, h4, h5, z2⟩ := rbBoxes_ok h1 hb h2 h3
      obtain ⟨f4, h6, h7, z3⟩ := rbLocs_ok h1 hl h4 h5
      exact ⟨f4, h6, h7, z3.trans (z2.trans z1)⟩
    · cases hc
  · cases hc
theorem exEq_eq {a b : Ex} (h : exEq a b = true) : a = b := by
  cases a <;> cases b <;> simp [exEq] at h ⊢
  exact h
theorem caseEx_eq (e y : Ex) (a b : Option α) : caseEx e y a b = match exEq e y with | true => a | false => b := by
  cases e <;> cases y <;> rfl
theorem join_ok {keep : List Nat} (hS : Sub f fr) (hO : Off as fr fr') (hK : ∀ d ∈ keep, fr'.loc.get d = fr.loc.get d) (h1 : Sub f1 fr') {K : KC α} {ex e : Ex} {H H' : VH} {vs : List AV} : ∀ {js : List (Ex × Jn)}, leaveJ js ex f1 H = some (e, vs, H') → enterJ T as keep js K f e vs H' = some x → ∃ f', Sub f' fr' ∧ K ex f' H = some x ∧ f'.frz = f.frz
  | [], hl, he => by cases hl
  | p :: js, hl, he => by
    change (match exEq p.1 ex with | true => bindL (collect f1 p.2) fun vs => some (ex, vs, H) | false => leaveJ js ex f1 H) = some (e, vs, H') at hl
    change caseEx p.1 e (rebuild T as keep f p.2 vs fun f => K p.1 f H') (enterJ T as keep js K f e vs H') = some x at he
    rw [caseEx_eq] at he
    split at hl
    · rename_i hx
      obtain ⟨vs', hc, h2⟩ := bindL_some hl
      simp only [Option.some.injEq, Prod.mk.injEq] at h2
      obtain ⟨rfl, rfl, rfl⟩ := h2
      rw [hx] at he
      obtain ⟨f', h3, h4, z⟩ := rebuild_ok hS hO hK h1 hc he
      rw [exEq_eq hx] at h4
      exact ⟨f', h3, h4, z⟩
    · rename_i hx
      have key : ∀ {js : List (Ex × Jn)}, leaveJ js ex f1 H = some (e, vs, H') → e = ex := by
        intro js
        induction js with
        | nil => intro h; cases h
        | cons q js ih =>
          intro h
          change (match exEq q.1 ex with | true => bindL (collect f1 q.2) fun vs => some (ex, vs, H) | false => leaveJ js ex f1 H) = some (e, vs, H') at h
          split at h
          · obtain ⟨vs', _, h2⟩ := bindL_some h
            simp only [Option.some.injEq, Prod.mk.injEq] at h2
            exact h2.1.symm
          · exact ih h
      obtain rfl := key hl
      rw [hx] at he
      exact join_ok hS hO hK h1 hl he
end

/-! Code. -/
def WRunOk (run : WRun) (v : Run) : Prop :=
  ∀ (α : Type) (ann : Ann) (K : KC α) (f : WF) (H : VH) (x : α) (fr : Fr), Sub f fr → run α ann K f H = some x → ∃ ex fr' H' f', v fr H = some (ex, fr', H') ∧ Sub f' fr' ∧ K ex f' H' = some x ∧ Frz f f' fr fr'

section
variable {T : Tb} {callF : Nat → List AV → VH → Option (AV × VH)} {promo : Nat → Bool}
theorem viaJ_ok {as : List Nat} {core : WRun} {v : Run} (hv : ∀ fr H e fr' H', v fr H = some (e, fr', H') → Off as fr fr') (hc : WRunOk core v) : WRunOk (viaJ T (fun _ => as) core) v := by
  intro α ann K f H x fr hS h
  unfold viaJ at h
  split at h
  · rename_i keep js a
    obtain ⟨e, l, H1, h1, h2⟩ := bindJ_some h
    obtain ⟨ex, fr', H', f', h3, h4, h5, z⟩ := hc _ _ _ _ _ _ _ (hS.freeze keep) h1
    obtain ⟨f2, h6, h7, z2⟩ := join_ok hS (hv _ _ _ _ _ h3) (fun d hd => z.2 d (List.mem_append_left _ hd)) h4 h5 h2
    exact ⟨ex, fr', H', f2, h3, h6, h7, z2, fun d hd => z.2 d (List.mem_append_right _ hd)⟩
  · exact hc _ _ _ _ _ _ _ hS h

theorem wloop_ok {n : Nat} {c : Code} {run : WRun} (hr : WRunOk run (vcode T callF promo n c)) (m : Nat) : WRunOk (wLoop T c run m) (vloop (vcode T callF promo n c) m) := by
  intro α ann K f H x fr hS h
  unfold wLoop at h
  split at h
  · rename_i keep hd js a
    obtain ⟨vs, h1, h2⟩ := bindL_some h
    obtain ⟨e, l, H1, h3, h4⟩ := bindJ_some h2
    have key : ∀ (m : Nat) (vs : List AV) (H : VH) (f1 : WF) (fr1 : Fr), Sub f1 fr1 → Off (assigned c) fr fr1 → collect f1 hd = some vs → (∀ d ∈ keep ++ f.frz, fr1.loc.get d = fr.loc.get d) → loopN (wbody T (assigned c) keep hd js (run R a) f) m vs H = some (e, l, H1) →
        ∃ ex fr' H' f', vloop (vcode T callF promo n c) m fr1 H = some (ex, fr', H') ∧ Sub f' fr' ∧ Off (assigned c) fr fr' ∧ leaveJ js ex f' H' = some (e, l, H1) ∧ ∀ d ∈ keep ++ f.frz, fr'.loc.get d = fr.loc.get d := by
      intro m
      induction m with
      | zero => intro vs H f1 fr1 _ _ _ _ h; cases h
      | succ m ih =>
        intro vs H f1 fr1 s1 o1 c1 z1 h5
        change wbody T (assigned c) keep hd js (run R a) f (loopN (wbody T (assigned c) keep hd js (run R a) f) m) vs H = some (e, l, H1) at h5
        unfold wbody at h5
        obtain ⟨f2, s2, h6, z2⟩ := rebuild_ok hS o1 (fun d hd => z1 d (List.mem_append_left _ hd)) s1 c1 h5
        obtain ⟨ex, fr2, H2, f3, h7, s3, h8, z3⟩ := hr _ _ _ _ _ _ _ (s2.freeze keep) h6
        have z4 : ∀ d ∈ keep ++ f.frz, fr2.loc.get d = fr.loc.get d := fun d hd => (z3.2 d (show d ∈ keep ++ f2.frz by rw [z2]; exact hd)).trans (z1 d hd)
        have o2 := o1.trans (vcode_off n c _ _ _ _ _ h7)
        show ∃ ex fr' H' f', loopStep (vcode T callF promo n c) (vloop (vcode T callF promo n c) m) fr1 H = some (ex, fr', H') ∧ _
        unfold loopStep
        rw [h7]
        unfold onBody at h8
        cases ex with
        | normal =>
          obtain ⟨vs', c2, h9⟩ := bindL_some h8
          exact ih vs' H2 f3 fr2 s3 o2 c2 z4 h9
        | ret => exact ⟨.ret, fr2, H2, f3, rfl, s3, o2, h8, z4⟩
        | exit i => exact ⟨.exit i, fr2, H2, f3, rfl, s3, o2, h8, z4⟩
    obtain ⟨ex, fr', H', f', h5, h6, h7, h8, z⟩ := key m vs H f fr hS (.refl _ _) h1 (fun _ _ => rfl) h3
    obtain ⟨f2, h9, h10, z2⟩ := join_ok hS h7 (fun d hd => z d (List.mem_append_left _ hd)) h6 h8 h4
    exact ⟨ex, fr', H', f2, h5, h9, h10, z2, fun d hd => z d (List.mem_append_right _ hd)⟩
  · cases h

theorem wcode_ok (n : Nat) (c : Code) : WRunOk (wc T callF promo n c) (vcode T callF promo n c) := by
  induction c with
  | skip =>
    intro α ann K f H x fr hS h
    exact ⟨.normal, fr, H, f, rfl, hS, h, .refl⟩
  | region id ops d =>
    refine viaJ_ok (vcode_off n (.region id ops d)) ?_
    intro α ann K f H x fr hS h
    show ∃ ex fr' H' f', cRegion T callF promo ops d fr H = some (ex, fr', H') ∧ _
    unfold cRegion
    cases d with
    | true =>
      obtain ⟨fr', H', f', h1, h2, h3, z⟩ := opsT_ok hS (show wopsT T callF promo ops (Region.before ops) ops.toList 0 [] (K .normal) f H = some x from h)
      simp only [h1]
      exact ⟨.normal, fr', H', f', rfl, h2, h3, z⟩
    | false =>
      obtain ⟨fr', H', f', h1, h2, h3, z⟩ := ops_ok hS (show wops T callF promo ops ops.toList (K .normal) f H = some x from h)
      simp only [h1]
      exact ⟨.normal, fr', H', f', rfl, h2, h3, z⟩
  | seq a b iha ihb =>
    change WRunOk (viaJ T (fun _ => assigned (.seq a b)) fun α ann K f H => wc T callF promo n a α ann.left (kSeq (wc T callF promo n b α ann.right K) K) f H) _
    refine viaJ_ok (vcode_off n (.seq a b)) ?_
    intro α ann K f H x fr hS h
    obtain ⟨ex, fr', H', f', h1, h2, h3, z⟩ := iha _ _ _ _ _ _ _ hS h
    show ∃ ex fr' H' f', loopStep (vcode T callF promo n a) (vcode T callF promo n b) fr H = some (ex, fr', H') ∧ _
    unfold loopStep
    rw [h1]
    unfold kSeq at h3
    cases ex with
    | normal =>
      obtain ⟨ex, fr2, H2, f2, k1, k2, k3, z2⟩ := ihb _ _ _ _ _ _ _ h2 h3
      exact ⟨ex, fr2, H2, f2, k1, k2, k3, z.trans z2⟩
    | ret => exact ⟨_, fr', H', f', rfl, h2, h3, z⟩
    | exit i => exact ⟨_, fr', H', f', rfl, h2, h3, z⟩
  | cond y a b iha ihb =>
    change WRunOk (viaJ T (fun _ => assigned (.cond y a b)) fun α ann K f H => wCond y (wc T callF promo n a α ann.left K) (wc T callF promo n b α ann.right K) f H) _
    refine viaJ_ok (vcode_off n (.cond y a b)) ?_
    intro α ann K f H x fr hS h
    change wCond y _ _ f H = some x at h
    show ∃ ex fr' H' f', cCond y (vcode T callF promo n a) (vcode T callF promo n b) fr H = some (ex, fr', H') ∧ _
    unfold wCond at h
    unfold cCond
    split at h
    · rename_i e he
      rw [hS.eva he]
      cases e with
      | true => exact iha _ _ _ _ _ _ _ hS h
      | false => exact ihb _ _ _ _ _ _ _ hS h
    · cases h
  | block id c ih =>
    change WRunOk (viaJ T (fun _ => assigned (.block id c)) fun α ann K f H => wc T callF promo n c α ann.left (kBlock id K) f H) _
    refine viaJ_ok (vcode_off n (.block id c)) ?_
    intro α ann K f H x fr hS h
    obtain ⟨ex, fr', H', f', h1, h2, h3, z⟩ := ih _ _ _ _ _ _ _ hS h
    show ∃ ex fr' H' f', cBlock id (vcode T callF promo n c) fr H = some (ex, fr', H') ∧ _
    unfold cBlock
    rw [h1]
    unfold kBlock at h3
    cases ex with
    | normal => exact ⟨_, fr', H', f', rfl, h2, h3, z⟩
    | ret => exact ⟨_, fr', H', f', rfl, h2, h3, z⟩
    | exit i =>
      simp only at h3 ⊢
      cases hb : Nat.beq i id with
      | true => rw [hb] at h3; exact ⟨_, fr', H', f', by simp, h2, h3, z⟩
      | false => rw [hb] at h3; exact ⟨_, fr', H', f', by simp, h2, h3, z⟩
  | loop c ih => exact wloop_ok ih n
  | exit id =>
    intro α ann K f H x fr hS h
    exact ⟨.exit id, fr, H, f, rfl, hS, h, .refl⟩
  | label l =>
    intro α ann K f H x fr hS h
    exact ⟨.normal, fr, H, f, rfl, hS, h, .refl⟩
  | ret =>
    intro α ann K f H x fr hS h
    exact ⟨.ret, fr, H, f, rfl, hS, h, .refl⟩
  | _ =>
    intro α ann K f H x fr hS h
    cases h

variable {α : Type} {x : α}
theorem results_ok2 {f : WF} {fr : Fr} {H : VH} (hS : Sub f fr) : ∀ {rs : List ResultVar} {k : List AV → Option α}, wresults T f H rs k = some x → ∃ vs, vresults T fr H rs = some vs ∧ k vs = some x
  | [], k, h => ⟨[], rfl, h⟩
  | .tmp t :: rs, k, h => by
    change bindV (f.eva (.tmp t)) (fun a => wresults T f H rs fun as => k (a :: as)) = some x at h
    obtain ⟨a, h1, h2⟩ := bindV_some h
    obtain ⟨vs, h3, h4⟩ := results_ok2 hS h2
    exact ⟨a :: vs, by simp [vresults, hS.eva h1, h3], h4⟩
  | .cell t ty :: rs, k, h => by
    change wLoad T ty f H ty (.tmp t) (fun w _ _ => match w with | .v a => wresults T f H rs fun as => k (a :: as) | .loc _ _ => none) = some x at h
    obtain ⟨r, fr', H', w, f', h1, h2, h3, h4, _, _, _⟩ := load_ok hS h
    unfold oLoad at h1
    split at h1
    · rename_i r0 hr0
      obtain ⟨a, h5, rfl, rfl, rfl⟩ := outV_spec h1
      cases w with
      | loc d off => cases h4
      | v b =>
        obtain ⟨rfl⟩ : RV.v a = .v b := h3
        obtain ⟨vs, h6, h7⟩ := results_ok2 hS h4
        exact ⟨a :: vs, by simp [vresults, hr0, h5, h6], h7⟩
    · cases h1
theorem enter_sub (gl : Nat → Bool) (nt : Nat) (args : List AV) : Sub (enterWF gl nt args) (enterFr gl nt args) := by
  refine ⟨rfl, rfl, fun t w h => ?_, fun d cs h => ?_⟩
  · have h1 : (Tr.ofListFrom .leaf 0 (args.map WV.v)).get t = some w := h
    show ∃ r, (Tr.ofListFrom (Tr.room nt) 0 (args.map RV.v)).get t = some r ∧ _
    rw [Tr.get_ofListFrom] at h1 ⊢
    split at h1
    · rename_i ht
      simp only [List.length_map] at ht ⊢
      simp only [List.getElem?_map, Option.map_eq_some_iff] at h1
      obtain ⟨a, h2, rfl⟩ := h1
      exact ⟨.v a, by simp only [ht, if_true, List.getElem?_map, and_self, h2, Option.map_some], rfl⟩
    · rw [Tr.get_leaf] at h1; cases h1
  · have h1 : (Tr.leaf : Tr (List AV)).get d = some cs := h
    rw [Tr.get_leaf] at h1; cases h1

/-- What the second machine answers, a call answers. -/
theorem call_of_wfun {ext : Nat → Option (VH → List AV → Option XR)} {promo : Nat → Nat → Bool} {n f : Nat} {fn : Func} {ann : Ann} {args args0 : List AV} {H H0 : VH} {v : AV × VH} (hx : ext f = none) (hf : T.fn.get f = some fn)
    (hz : frzArgs (promo f (fn.ntmps + 1)) args0 H0 = (args, H)) (h : wfun T (vcall T ext promo n) (promo f) n ann fn args H = some v) : vcall T ext promo (n + 1) f args0 H0 = some v := by
  show callStep T ext promo n (vcall T ext promo n) f args0 H0 = some v
  unfold callStep
  rw [hx, hf]
  simp only
  unfold wfun at h
  cases hb : fn.body with
  | none => rw [hb] at h; cases h
  | some c =>
    rw [hb] at h
    simp only at h ⊢
    have hlen : args.length = args0.length := by
      have := frzArgs_len (promo f (fn.ntmps + 1)) args0 H0
      rw [hz] at this
      exact this
    rw [hz]
    rw [← hlen]
    cases hl : Nat.ble args.length fn.ntmps with
    | false => rw [hl] at h; cases h
    | true =>
      rw [hl] at h
      simp only [if_true] at h ⊢
      unfold callStep.runStep
      obtain ⟨ex, fr', H', f', h1, h2, h3, _⟩ := wcode_ok n c _ _ _ _ _ _ _ (enter_sub T.gl fn.ntmps args) h
      rw [h1]
      unfold wEnd at h3
      cases ex with
      | normal =>
        obtain ⟨vs, h4, h5⟩ := results_ok2 h2 h3
        simp only [callStep.retStep, h4]
        exact h5
      | ret =>
        obtain ⟨vs, h4, h5⟩ := results_ok2 h2 h3
        simp only [callStep.retStep, h4]
        exact h5
      | exit i => cases h3
end
end Go.Vm
/-! The words of the reduced functions. -/
namespace Go.Vm
set_option linter.unusedSimpArgs false
set_option linter.unusedVariables false
set_option linter.unusedSectionVars false
abbrev CF := Nat → List AV → VH → Option (AV × VH)
noncomputable def iand (k : IntKind) (a b : Int) : Int := fwrap k (.ofNat (Nat.land (nmod a (modOf k)) (nmod b (modOf k))))
noncomputable def ior (k : IntKind) (a b : Int) : Int := fwrap k (.ofNat (Nat.lor (nmod a (modOf k)) (nmod b (modOf k))))
noncomputable def ixor (k : IntKind) (a b : Int) : Int := fwrap k (.ofNat (Nat.xor (nmod a (modOf k)) (nmod b (modOf k))))
noncomputable def iandn (k : IntKind) (a b : Int) : Int := fwrap k (.ofNat (Nat.land (nmod a (modOf k)) (modOf k - 1 - nmod b (modOf k))))
noncomputable def inot (k : IntKind) (n : Int) : Int := fwrap k (.ofNat (Nat.xor (nmod (if k.signed then -1 else k.max) (modOf k)) (nmod n (modOf k))))
noncomputable def imin (a b : Int) : Int := if ilt b a then b else a
noncomputable def imax (a b : Int) : Int := if ilt a b then b else a
/-- A heap at a call's begin. -/
def VH.lo (H : VH) : VH := { H with low := H.next }
end Go.Vm
