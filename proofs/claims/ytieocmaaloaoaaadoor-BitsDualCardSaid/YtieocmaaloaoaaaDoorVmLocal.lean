/- An operation looks at no more of the frame and of the heap than its tag says. -/
import Derived.Test.YtieocmaaloaoaaaDoorVmHs
namespace Go.Vm
set_option linter.unusedSimpArgs false
set_option linter.unusedVariables false
set_option linter.unusedSectionVars false

def Tag.touches (d : Nat) : Tag → Prop
  | .box d' => d' = d
  | .loc d' => d' = d
  | _ => False
def Tag.isEff : Tag → Prop
  | .eff _ _ => True
  | _ => False

structure Agree (o : Oper) (t : Tag) (fr fs : Fr) (H K : VH) : Prop where
  ev : ∀ x ∈ o.op.operands, fs.ev x = fr.ev x
  heap : t.isEff → K = H
  read : ∀ bs ls, t = .read bs ls → (∀ b ∈ bs, SameB H K b) ∧ ∀ d ∈ ls, fs.loc.get d = fr.loc.get d
  own : ∀ d, t.touches d → fs.loc.get d = fr.loc.get d

structure Moved (t : Tag) (fr fr' fs fs' : Fr) (H H' K K' : VH) : Prop where
  regs : fr'.regs = fr.regs ∧ fr'.nt = fr.nt ∧ fr'.gl = fr.gl
  regs' : fs'.regs = fs.regs ∧ fs'.nt = fs.nt ∧ fs'.gl = fs.gl
  loc : ∀ d, ¬ t.touches d → fr'.loc.get d = fr.loc.get d ∧ fs'.loc.get d = fs.loc.get d
  own : ∀ d, t.touches d → fs'.loc.get d = fr'.loc.get d
  heap : ¬ t.isEff → H' = H ∧ K' = K
  eff : t.isEff → K' = H'

section
variable {t : Tag} {fr fs : Fr} {H K : VH}
theorem Moved.quiet (h1 : ∀ d, ¬ t.touches d) (h2 : ¬ t.isEff) : Moved t fr fr fs fs H H K K :=
  ⟨⟨rfl, rfl, rfl⟩, ⟨rfl, rfl, rfl⟩, fun _ _ => ⟨rfl, rfl⟩, fun d h => (h1 d h).elim, fun _ => ⟨rfl, rfl⟩, fun h => (h2 h).elim⟩
theorem Moved.effect (h1 : ∀ d, ¬ t.touches d) (h2 : t.isEff) (H' : VH) : Moved t fr fr fs fs H H' K H' :=
  ⟨⟨rfl, rfl, rfl⟩, ⟨rfl, rfl, rfl⟩, fun _ _ => ⟨rfl, rfl⟩, fun d h => (h1 d h).elim, fun h => (h h2).elim, fun _ => rfl⟩

theorem eva_congr {x : Operand} (h : fs.ev x = fr.ev x) : fs.eva x = fr.eva x := by unfold Fr.eva; rw [h]
theorem evas_congr : ∀ {xs : List Operand}, (∀ x ∈ xs, fs.ev x = fr.ev x) → fs.evas xs = fr.evas xs
  | [], _ => rfl
  | x :: xs, h => by
    have ih : fs.evas xs = fr.evas xs := evas_congr fun y hy => h y (by simp [hy])
    simp only [Fr.evas, eva_congr (h x (by simp)), ih]
theorem parts_congr : ∀ {ps : List (Nat × Operand)}, (∀ p ∈ ps, fs.ev p.2 = fr.ev p.2) → parts fs ps = parts fr ps
  | [], _ => rfl
  | (i, x) :: ps, h => by
    have ih : parts fs ps = parts fr ps := parts_congr fun y hy => h y (by simp [hy])
    simp only [parts, eva_congr (h (i, x) (by simp)), ih]
theorem optEv_congr {x : Option Operand} (h : ∀ y, x = some y → fs.ev y = fr.ev y) : optEv fs x = optEv fr x := by
  unfold optEv
  cases x with
  | none => rfl
  | some y => simp only [eva_congr (h y rfl)]
theorem locCells_congr {d ep : Nat} (h : fs.loc.get d = fr.loc.get d) : fs.locCells d ep = fr.locCells d ep := by unfold Fr.locCells; rw [h]

/-- What holds of the two runs of one operation. -/
def Twin (f : Fr → VH → Out) (t : Tag) (fr fs : Fr) (H K : VH) (r : RV) (fr' : Fr) (H' : VH) : Prop :=
  ∃ fs' K', f fs K = some (r, fs', K') ∧ Moved t fr fr' fs fs' H H' K K'

variable {r : RV} {fr' : Fr} {H' : VH}
theorem twin_outV {f : Fr → VH → Option AV} (h : outV fr H (f fr H) = some (r, fr', H')) (h1 : ∀ d, ¬ t.touches d) (h2 : ¬ t.isEff) (he : f fs K = f fr H) : Twin (fun fr H => outV fr H (f fr H)) t fr fs H K r fr' H' := by
  obtain ⟨v, hv, rfl, rfl, rfl⟩ := outV_spec h
  exact ⟨fs, K, by simp only [outV, he, hv], .quiet h1 h2⟩
theorem twin_outR {f : Fr → VH → Option RV} (h : outR fr H (f fr H) = some (r, fr', H')) (h1 : ∀ d, ¬ t.touches d) (h2 : ¬ t.isEff) (he : f fs K = f fr H) : Twin (fun fr H => outR fr H (f fr H)) t fr fs H K r fr' H' := by
  obtain ⟨hv, rfl, rfl⟩ := outR_spec h
  exact ⟨fs, K, by simp only [outR, he, hv], .quiet h1 h2⟩
theorem twin_outH {f : Fr → VH → Option (AV × VH)} (h : outH fr (f fr H) = some (r, fr', H')) (h1 : ∀ d, ¬ t.touches d) (h2 : t.isEff) (hK : K = H) (he : f fs H = f fr H) : Twin (fun fr H => outH fr (f fr H)) t fr fs H K r fr' H' := by
  obtain ⟨v, hv, rfl, rfl⟩ := outH_spec h
  subst hK
  exact ⟨fs, H', by simp only [outH, he, hv], .effect h1 h2 H'⟩

theorem tagRes_touch (r : RV) (d : Nat) : ¬ (tagRes r).touches d := by cases r <;> exact fun h => h
theorem tagRes_eff (r : RV) : ¬ (tagRes r).isEff := by cases r <;> exact fun h => h
theorem tagAddr_touch (r : Option RV) (d : Nat) : ¬ (tagAddr r).touches d := by unfold tagAddr; split <;> exact fun h => h
theorem tagAddr_eff (r : Option RV) : ¬ (tagAddr r).isEff := by unfold tagAddr; split <;> exact fun h => h
theorem tagConv_touch (r : Option AV) (d : Nat) : ¬ (tagConv r).touches d := by unfold tagConv; split <;> exact fun h => h
theorem tagConv_eff (r : Option AV) : ¬ (tagConv r).isEff := by unfold tagConv; split <;> exact fun h => h

theorem evc_congr {x : Operand} (he : fs.ev x = fr.ev x) (hl : ∀ d e o, fr.ev x = some (.loc d e o) → fs.loc.get d = fr.loc.get d) : evc fs x = evc fr x := by
  unfold evc
  rw [he]
  split
  · rename_i d e o h
    rw [locCells_congr (hl d e o h)]
  · rfl

variable {T : Tb}
theorem vload_congr {ty : Nat} {rv : RV} (hb : ∀ b o, rv = .v (.ptr (some (b, o))) → SameB H K b) (hl : ∀ d e o, rv = .loc d e o → fs.loc.get d = fr.loc.get d) : vload T fs K ty rv = vload T fr H ty rv := by
  unfold vload
  split
  · split
    · rw [cells_same (hb _ _ rfl)]
    · rw [locCells_congr (hl _ _ _ rfl)]
    · rfl
  · split
    · rw [(hb _ _ rfl).1]
    · rw [locCells_congr (hl _ _ _ rfl)]
    · rfl
  · rfl

theorem twin_newBox {promo : Nat → Bool} {dst : Option Nat} {cs : List AV} (h : newBox promo dst fr H cs = some (r, fr', H')) (heap : (tagBox promo dst H H').isEff → K = H) (own : ∀ d, (tagBox promo dst H H').touches d → fs.loc.get d = fr.loc.get d) :
    Twin (fun fr H => newBox promo dst fr H cs) (tagBox promo dst H H') fr fs H K r fr' H' := by
  unfold newBox at h
  split at h
  · rename_i d hone
    unfold tagBox at heap own ⊢
    simp only at heap own ⊢
    split at h
    · rename_i hp
      simp only [hp] at heap own ⊢
      simp only [Option.some.injEq, Prod.mk.injEq] at h
      obtain ⟨rfl, rfl, rfl⟩ := h
      have hld := own d rfl
      have hep : fs.nextEp d = fr.nextEp d := by unfold Fr.nextEp; rw [hld]
      refine ⟨fs.box d cs, K, by simp only [newBox, hone, hp, hep], ⟨rfl, rfl, rfl⟩, ⟨rfl, rfl, rfl⟩, fun k hk => ?_, fun k hk => ?_, fun _ => ⟨rfl, rfl⟩, fun h => h.elim⟩
      · have : k ≠ d := fun e => hk e.symm
        simp [Fr.box, Tr.get_set, this]
      · obtain rfl : d = k := hk
        simp [Fr.box, Tr.get_set, hep]
    · rename_i hp
      simp only [hp] at heap own ⊢
      simp only [Option.some.injEq, Prod.mk.injEq] at h
      obtain ⟨rfl, rfl, rfl⟩ := h
      have hK : K = H := heap trivial
      subst hK
      exact ⟨fs, K.fresh cs, by simp only [newBox, hone, hp], Moved.effect (t := Tag.eff K (K.fresh cs)) (fun _ h => h) trivial _⟩
  · cases h

theorem twin_store {ty : Nat} {x y : Operand} (h : oStore T fr H ty x y = some (r, fr', H')) (ex : fs.ev x = fr.ev x) (ey : fs.ev y = fr.ev y) (heap : (tagStore (fr.ev x) H H').isEff → K = H) (own : ∀ d, (tagStore (fr.ev x) H H').touches d → fs.loc.get d = fr.loc.get d) :
    Twin (fun fr H => oStore T fr H ty x y) (tagStore (fr.ev x) H H') fr fs H K r fr' H' := by
  unfold oStore at h
  split at h
  · rename_i rv v hrv hv
    split at h
    · rename_i fr1 H1 hs
      simp only [Option.some.injEq, Prod.mk.injEq] at h
      obtain ⟨rfl, rfl, rfl⟩ := h
      have hv' : fs.eva y = some v := by rw [eva_congr ey]; exact hv
      unfold vstore at hs
      split at hs
      · rename_i n hn
        split at hs
        · rename_i hc
          split at hs
          · rename_i b off
            simp only [Option.map_eq_some_iff, Prod.mk.injEq] at hs
            obtain ⟨H2, h1, rfl, rfl⟩ := hs
            rw [hrv] at heap own ⊢
            have hK : K = H := heap trivial
            subst hK
            refine ⟨fs, H2, ?_, Moved.effect (t := Tag.eff K H2) (fun _ h => h) trivial _⟩
            simp only [oStore, ex, hrv, hv', vstore, hn, hc, if_true, h1, Option.map_some]
          · rename_i d ep off
            split at hs
            · rename_i cs hcs
              split at hs
              · rename_i hle
                simp only [Option.some.injEq, Prod.mk.injEq] at hs
                obtain ⟨rfl, rfl⟩ := hs
                rw [hrv] at heap own ⊢
                have hld := own d rfl
                refine ⟨{ fs with loc := fs.loc.set d ⟨ep, cs.take off ++ v.cells ++ cs.drop (off + n)⟩ }, K, by simp only [oStore, ex, hrv, hv', vstore, hn, hc, if_true, locCells_congr hld, hcs, hle], ⟨rfl, rfl, rfl⟩, ⟨rfl, rfl, rfl⟩, fun k hk => ?_, fun k hk => ?_, fun _ => ⟨rfl, rfl⟩, fun h => h.elim⟩
                · have : k ≠ d := fun e => hk e.symm
                  simp [Tr.get_set, this]
                · obtain rfl : d = k := hk
                  simp [Tr.get_set]
              · cases hs
            · cases hs
          · cases hs
        · cases hs
      · cases hs
    · cases h
  · cases h

variable {o : Oper} {promo : Nat → Bool}
theorem vop_local (h : vop T promo o.dst o.op fr H = some (r, fr', H')) (hA : Agree o (tagOf promo o fr H H' r) fr fs H K) : Twin (vop T promo o.dst o.op) (tagOf promo o fr H H' r) fr fs H K r fr' H' := by
  obtain ⟨dst, op, ty, pos, after, guard⟩ := o
  obtain ⟨aev, aheap, aread, aown⟩ := hA
  cases op with
  | move x => exact twin_outR (f := fun fr _ => fr.ev x) h (tagRes_touch r) (tagRes_eff r) (aev x (by simp [Op.operands]))
  | assign x => exact twin_outR (f := fun fr _ => fr.ev x) h (tagRes_touch r) (tagRes_eff r) (aev x (by simp [Op.operands]))
  | pick c x y =>
    have hc := eva_congr (aev c (by simp [Op.operands]))
    have hx := aev x (by simp [Op.operands])
    have hy := aev y (by simp [Op.operands])
    change oPick fr H c x y = _ at h
    unfold oPick at h
    split at h
    · rename_i e
      obtain ⟨fs', K', h1, h2⟩ := twin_outR (f := fun fr _ => fr.ev x) (fs := fs) (K := K) h (tagRes_touch r) (tagRes_eff r) hx
      exact ⟨fs', K', by show oPick fs K c x y = _; simp only [oPick, hc, e]; exact h1, h2⟩
    · rename_i e
      obtain ⟨fs', K', h1, h2⟩ := twin_outR (f := fun fr _ => fr.ev y) (fs := fs) (K := K) h (tagRes_touch r) (tagRes_eff r) hy
      exact ⟨fs', K', by show oPick fs K c x y = _; simp only [oPick, hc, e]; exact h1, h2⟩
    · cases h
  | alloc t =>
    change oAlloc T promo dst fr H t = _ at h
    unfold oAlloc at h
    split at h
    · rename_i z hz
      obtain ⟨fs', K', h1, h2⟩ := twin_newBox (fs := fs) (K := K) h aheap aown
      exact ⟨fs', K', by show oAlloc T promo dst fs K t = _; simp only [oAlloc, hz]; exact h1, h2⟩
    · cases h
  | box t x =>
    have hx := eva_congr (aev x (by simp [Op.operands]))
    change oBox promo dst fr H x = _ at h
    unfold oBox at h
    split at h
    · rename_i v hv
      obtain ⟨fs', K', h1, h2⟩ := twin_newBox (fs := fs) (K := K) h aheap aown
      exact ⟨fs', K', by show oBox promo dst fs K x = _; simp only [oBox, hx, hv]; exact h1, h2⟩
    · cases h
  | build t ps =>
    have hp : parts fs ps.toList = parts fr ps.toList := parts_congr fun p hp => aev p.2 (by simp only [Op.operands, List.mem_toArray]; exact List.mem_map.2 ⟨p, hp, rfl⟩)
    exact twin_outV (f := fun fr _ => vbuild T fr t ps.toList) h (fun d h => h) (fun h => h) (by simp only [vbuild, hp])
  | buildSlice t n ps =>
    have hp : parts fs ps.toList = parts fr ps.toList := parts_congr fun p hp => aev p.2 (by simp only [Op.operands, List.mem_toArray]; exact List.mem_map.2 ⟨p, hp, rfl⟩)
    exact twin_outH (f := fun fr H => vbuildSlice T fr H t n ps.toList) h (fun d h => h) trivial (aheap trivial) (by simp only [vbuildSlice, hp])
  | load t x =>
    have hx := aev x (by simp [Op.operands])
    change oLoad T fr H t x = _ at h
    unfold oLoad at h
    split at h
    · rename_i rv hrv
      have hc : vload T fs K t rv = vload T fr H t rv := by
        have ht : tagOf promo ⟨dst, .load t x, ty, pos, after, guard⟩ fr H H' r = tagAddr (fr.ev x) := rfl
        rw [ht, hrv] at aread
        refine vload_congr (fun b o e => ?_) fun d e o e' => ?_
        · subst e; exact (aread [b] [] rfl).1 b (by simp)
        · subst e'; exact (aread [] [d] rfl).2 d (by simp)
      obtain ⟨fs', K', h1, h2⟩ := twin_outV (f := fun fr H => vload T fr H t rv) (fs := fs) (K := K) h (tagAddr_touch (fr.ev x)) (tagAddr_eff (fr.ev x)) hc
      exact ⟨fs', K', by show oLoad T fs K t x = _; simp only [oLoad, hx, hrv]; exact h1, h2⟩
    · cases h
  | store t x y => exact twin_store h (aev x (by simp [Op.operands])) (aev y (by simp [Op.operands])) aheap aown
  | nilCheck x =>
    change oNil fr H x = _ at h
    have ht : tagOf promo ⟨dst, .nilCheck x, ty, pos, after, guard⟩ fr H H' r = tagRes r := rfl
    rw [ht] at aread
    have hc : evc fs x = evc fr x := by
      refine evc_congr (aev x (by simp [Op.operands])) fun d e o he => ?_
      have : ∃ e' o', r = .loc d e' o' := by
        unfold oNil evc at h
        rw [he] at h
        simp only at h
        split at h
        · rename_i h1; split at h1 <;> cases h1
        · rename_i h1
          split at h1
          · simp only [Option.some.injEq, RV.loc.injEq] at h1
            obtain ⟨rfl, _⟩ := h1
            simp only [Option.some.injEq, Prod.mk.injEq] at h
            exact ⟨_, _, h.1.symm⟩
          · cases h1
        · rename_i h1; split at h1 <;> cases h1
        · cases h
      obtain ⟨e', o', rfl⟩ := this
      exact (aread [] [d] rfl).2 d (by simp)
    rw [ht]
    unfold oNil at h
    refine ⟨fs, K, ?_, ?_⟩
    · show oNil fs K x = _
      unfold oNil
      rw [hc]
      split at h <;> first | cases h | skip
      all_goals (first | rfl | (simp only [Option.some.injEq, Prod.mk.injEq] at h; obtain ⟨rfl, _, _⟩ := h; rfl))
    · split at h <;> first | (simp only [Option.some.injEq, Prod.mk.injEq] at h; obtain ⟨_, rfl, rfl⟩ := h; exact .quiet (tagRes_touch r) (tagRes_eff r)) | cases h
  | binOp op t x y t' =>
    have hx := eva_congr (aev x (by simp [Op.operands]))
    have hy := eva_congr (aev y (by simp [Op.operands]))
    change oBin T fr H op t x y = _ at h
    unfold oBin at h
    split at h
    · rename_i p q hp hq
      split at h
      · rename_i hn
        obtain ⟨fs', K', h1, h2⟩ := twin_outV (t := .idle) (f := fun _ _ => vbinOp T op t p q) (fs := fs) (K := K) h (fun d h => h) (fun h => h) rfl
        exact ⟨fs', K', by show oBin T fs K op t x y = _; simp only [oBin, hx, hy, hp, hq, hn]; exact h1, h2⟩
      · cases h
    · cases h
  | unOp op t x =>
    have hx := eva_congr (aev x (by simp [Op.operands]))
    change oUn fr H op x = _ at h
    unfold oUn at h
    split at h
    · rename_i p hp
      obtain ⟨fs', K', h1, h2⟩ := twin_outV (t := .idle) (f := fun _ _ => vunOp op p) (fs := fs) (K := K) h (fun d h => h) (fun h => h) rfl
      exact ⟨fs', K', by show oUn fs K op x = _; simp only [oUn, hx, hp]; exact h1, h2⟩
    · cases h
  | convert s d x =>
    have hx := eva_congr (aev x (by simp [Op.operands]))
    change oConv T fr H s d x = _ at h
    unfold oConv at h
    split at h
    · rename_i p hp
      obtain ⟨v, hv, rfl, rfl⟩ := outH_spec h
      obtain rfl := vconvert_same hv
      have ht : tagOf promo ⟨dst, .convert s d x, ty, pos, after, guard⟩ fr' H' H' (.v v) = tagConv (fr'.eva x) := rfl
      rw [ht] at aread ⊢
      rw [hp] at aread
      refine ⟨fs, K, ?_, .quiet (tagConv_touch _) (tagConv_eff _)⟩
      show oConv T fs K s d x = _
      simp only [oConv, hx, hp]
      have : vconvert T K s d p = some (v, K) := by
        unfold vconvert at hv ⊢
        split at hv
        · simp only [Option.some.injEq, Prod.mk.injEq] at hv; simp [*]
        · simp only [Option.some.injEq, Prod.mk.injEq] at hv; simp [*]
        · rename_i e ad len cap esz u1 u2
          try simp only [u1, u2]
          split at hv
          · rename_i u3
            simp only [Option.some.injEq, Prod.mk.injEq] at hv
            simp [u3, hv.1]
          · rename_i b off u3
            have hs : SameB H' K b := (aread [b] [] rfl).1 b (by simp)
            try simp only [u3]
            rw [cells_same hs]
            split at hv
            · rename_i cs hcs
              simp only [Option.map_eq_some_iff, Prod.mk.injEq] at hv
              obtain ⟨z, hz, hz1, _⟩ := hv
              simp [hcs, hz, hz1]
            · cases hv
          · cases hv
        · cases hv
      simp only [this, outH]
    · cases h
  | makeInterface t x =>
    have hx := eva_congr (aev x (by simp [Op.operands]))
    change oIface T fr H t x = _ at h
    unfold oIface at h
    refine ⟨fs, K, ?_, ?_⟩
    · show oIface T fs K t x = _
      unfold oIface
      rw [hx]
      split at h
      · cases h
      · rename_i e1 e2
        simp only [Option.some.injEq, Prod.mk.injEq] at h
        obtain ⟨rfl, _, _⟩ := h
        rfl
      · cases h
    · split at h
      · cases h
      · simp only [Option.some.injEq, Prod.mk.injEq] at h
        obtain ⟨_, rfl, rfl⟩ := h
        exact .quiet (fun d h => h) (fun h => h)
      · cases h
  | makeFunc fn first cap =>
    have h1 : fs.evas first.toList = fr.evas first.toList := evas_congr fun x hx => aev x (by simp only [Op.operands]; exact Array.mem_append.2 (.inl (by simpa using hx)))
    have h2 : fs.evas cap.toList = fr.evas cap.toList := evas_congr fun x hx => aev x (by simp only [Op.operands]; exact Array.mem_append.2 (.inr (by simpa using hx)))
    change oFunc fr H fn first cap = _ at h
    unfold oFunc at h
    refine ⟨fs, K, ?_, ?_⟩
    · show oFunc fs K fn first cap = _
      unfold oFunc
      rw [h1, h2]
      split at h
      · rename_i e1 e2
        simp only [Option.some.injEq, Prod.mk.injEq] at h
        obtain ⟨rfl, _, _⟩ := h
        rfl
      · cases h
    · split at h
      · simp only [Option.some.injEq, Prod.mk.injEq] at h
        obtain ⟨_, rfl, rfl⟩ := h
        exact .quiet (fun d h => h) (fun h => h)
      · cases h
  | makeSlice t l c =>
    have hl := eva_congr (aev l (by simp [Op.operands]))
    have hc := eva_congr (aev c (by simp [Op.operands]))
    change oMakeSlice T fr H t l c = _ at h
    unfold oMakeSlice at h
    split at h
    · rename_i p q hp hq
      obtain ⟨fs', K', h1, h2⟩ := twin_outH (t := .eff H H') (f := fun _ H => vmakeSlice T H t p q) (fs := fs) (K := K) h (fun d h => h) trivial (aheap trivial) rfl
      exact ⟨fs', K', by show oMakeSlice T fs K t l c = _; simp only [oMakeSlice, hl, hc, hp, hq]; exact h1, h2⟩
    · cases h
  | slice t x lo hi mx =>
    cases mx with
    | some m => cases h
    | none =>
      have hx := aev x (by simp [Op.operands])
      have hlo : optEv fs lo = optEv fr lo := optEv_congr fun y e => aev y (by subst e; simp [Op.operands])
      have hhi : optEv fs hi = optEv fr hi := optEv_congr fun y e => aev y (by subst e; simp [Op.operands])
      change oSlice T fr H t x lo hi = _ at h
      unfold oSlice at h
      split at h
      · rename_i rv p q hrv hp hq
        have ht : tagOf promo ⟨dst, .slice t x lo hi none, ty, pos, after, guard⟩ fr H H' r = tagAddr (fr.ev x) := rfl
        rw [ht] at aread ⊢
        rw [hrv] at aread
        have hc : vslice T K t rv p q = vslice T H t rv p q := by
          unfold vslice
          split <;> try rfl
          split
          · rename_i b off _ _ s _
            have hs : SameB H K b := (aread [b] [] rfl).1 b (by simp)
            simp only [vsliceArr, hs.2]
          · rfl
        obtain ⟨fs', K', h1, h2⟩ := twin_outV (f := fun _ H => vslice T H t rv p q) (fs := fs) (K := K) h (tagAddr_touch (fr.ev x)) (tagAddr_eff (fr.ev x)) hc
        exact ⟨fs', K', by show oSlice T fs K t x lo hi = _; simp only [oSlice, hx, hlo, hhi, hrv, hp, hq]; exact h1, h2⟩
      · cases h
  | fieldAddr t x f =>
    change oFieldAddr T fr H t x f = _ at h
    unfold oFieldAddr at h
    split at h
    · rename_i rv hrv
      have ht : tagOf promo ⟨dst, .fieldAddr t x f, ty, pos, after, guard⟩ fr H H' r = tagRes r := rfl
      rw [ht] at aread ⊢
      have hc : evc fs x = evc fr x := by
        refine evc_congr (aev x (by simp [Op.operands])) fun d e o he => ?_
        have hr : rv = .loc d e o := by
          unfold evc at hrv
          rw [he] at hrv
          simp only at hrv
          split at hrv
          · exact (Option.some.inj hrv).symm
          · cases hrv
        subst hr
        obtain ⟨hv, _⟩ := outR_spec h
        have : ∃ e' o', r = .loc d e' o' := by
          unfold vfieldAddr at hv
          split at hv
          · split at hv
            · split at hv
              · exact ⟨_, _, (Option.some.inj hv).symm⟩
              · cases hv
            · cases hv
          · cases hv
        obtain ⟨e', o', rfl⟩ := this
        exact (aread [] [d] rfl).2 d (by simp)
      obtain ⟨fs', K', h1, h2⟩ := twin_outR (f := fun _ _ => vfieldAddr T t rv f) (fs := fs) (K := K) h (tagRes_touch r) (tagRes_eff r) rfl
      exact ⟨fs', K', by show oFieldAddr T fs K t x f = _; simp only [oFieldAddr, hc, hrv]; exact h1, h2⟩
    · cases h
  | field t x f =>
    have hx := eva_congr (aev x (by simp [Op.operands]))
    change oField T fr H t x f = _ at h
    unfold oField at h
    split at h
    · rename_i p hp
      obtain ⟨fs', K', h1, h2⟩ := twin_outV (t := .idle) (f := fun _ _ => vfield T t p f) (fs := fs) (K := K) h (fun d h => h) (fun h => h) rfl
      exact ⟨fs', K', by show oField T fs K t x f = _; simp only [oField, hx, hp]; exact h1, h2⟩
    · cases h
  | indexAddr t x y =>
    have hy := eva_congr (aev y (by simp [Op.operands]))
    change oIndexAddr T fr H t x y = _ at h
    unfold oIndexAddr at h
    split at h
    · rename_i rv k n hrv hn
      have ht : tagOf promo ⟨dst, .indexAddr t x y, ty, pos, after, guard⟩ fr H H' r = tagRes r := rfl
      rw [ht] at aread ⊢
      have hc : evc fs x = evc fr x := by
        refine evc_congr (aev x (by simp [Op.operands])) fun d e o he => ?_
        have hr : rv = .loc d e o := by
          unfold evc at hrv
          rw [he] at hrv
          simp only at hrv
          split at hrv
          · exact (Option.some.inj hrv).symm
          · cases hrv
        subst hr
        obtain ⟨hv, _⟩ := outR_spec h
        have : ∃ e' o', r = .loc d e' o' := by
          unfold vindexAddr at hv
          split at hv
          · split at hv
            · split at hv
              · exact ⟨_, _, (Option.some.inj hv).symm⟩
              · cases hv
            · cases hv
          · cases hv
          · cases hv
        obtain ⟨e', o', rfl⟩ := this
        exact (aread [] [d] rfl).2 d (by simp)
      obtain ⟨fs', K', h1, h2⟩ := twin_outR (f := fun _ _ => vindexAddr T t rv n) (fs := fs) (K := K) h (tagRes_touch r) (tagRes_eff r) rfl
      exact ⟨fs', K', by show oIndexAddr T fs K t x y = _; simp only [oIndexAddr, hc, hrv, hy, hn]; exact h1, h2⟩
    · cases h
  | index t x y =>
    have hx := eva_congr (aev x (by simp [Op.operands]))
    have hy := eva_congr (aev y (by simp [Op.operands]))
    change oIndex T fr H t x y = _ at h
    unfold oIndex at h
    split at h
    · rename_i p k n hp hn
      obtain ⟨fs', K', h1, h2⟩ := twin_outV (t := .idle) (f := fun _ _ => vindex T t p n) (fs := fs) (K := K) h (fun d h => h) (fun h => h) rfl
      exact ⟨fs', K', by show oIndex T fs K t x y = _; simp only [oIndex, hx, hy, hp, hn]; exact h1, h2⟩
    · cases h
  | extract x i =>
    have hx := eva_congr (aev x (by simp [Op.operands]))
    change oExtract fr H x i = _ at h
    unfold oExtract at h
    split at h
    · rename_i vs hp
      obtain ⟨fs', K', h1, h2⟩ := twin_outV (t := .idle) (f := fun _ _ => vs[i]?) (fs := fs) (K := K) h (fun d h => h) (fun h => h) rfl
      exact ⟨fs', K', by show oExtract fs K x i = _; simp only [oExtract, hx, hp]; exact h1, h2⟩
    · cases h
  | _ => cases h

theorem vlen_idle {ts : List Nat} {args : List AV} {v : AV} {H H' K : VH} (h : vbuiltin T H .len ts args = some (v, H')) : H' = H ∧ vbuiltin T K .len ts args = some (v, K) := by
  match args, h with
  | [x], h =>
    change vlen T H ts x = _ at h
    refine ⟨vlen_same h, ?_⟩
    show vlen T K ts x = _
    unfold vlen at h ⊢
    split at h
    · split at h <;> first | (simp only [Option.some.injEq, Prod.mk.injEq] at h; obtain ⟨rfl, _⟩ := h; first | rfl | simp [*]) | cases h
    · cases h
  | [], h => cases h
  | _ :: _ :: _, h => cases h
theorem vcap_idle {ts : List Nat} {args : List AV} {v : AV} {H H' K : VH} (h : vbuiltin T H .cap ts args = some (v, H')) : H' = H ∧ vbuiltin T K .cap ts args = some (v, K) := by
  match args, h with
  | [x], h =>
    change vcap T H ts x = _ at h
    refine ⟨vcap_same h, ?_⟩
    show vcap T K ts x = _
    unfold vcap at h ⊢
    split at h
    · split at h <;> first | (simp only [Option.some.injEq, Prod.mk.injEq] at h; obtain ⟨rfl, _⟩ := h; first | rfl | simp [*]) | cases h
    · cases h
  | [], h => cases h
  | _ :: _ :: _, h => cases h
theorem vmin_idle {ts : List Nat} {args : List AV} {v : AV} {H H' K : VH} (h : vbuiltin T H .min ts args = some (v, H')) : H' = H ∧ vbuiltin T K .min ts args = some (v, K) := by
  match args, h with
  | x :: xs, h =>
    change (match vminmax false x xs with | some r => some (r, H) | none => none) = _ at h
    show _ ∧ (match vminmax false x xs with | some r => some (r, K) | none => none) = _
    split at h
    · simp only [Option.some.injEq, Prod.mk.injEq] at h
      obtain ⟨rfl, rfl⟩ := h
      exact ⟨rfl, by simp [*]⟩
    · cases h
  | [], h => cases h
theorem vmax_idle {ts : List Nat} {args : List AV} {v : AV} {H H' K : VH} (h : vbuiltin T H .max ts args = some (v, H')) : H' = H ∧ vbuiltin T K .max ts args = some (v, K) := by
  match args, h with
  | x :: xs, h =>
    change (match vminmax true x xs with | some r => some (r, H) | none => none) = _ at h
    show _ ∧ (match vminmax true x xs with | some r => some (r, K) | none => none) = _
    split at h
    · simp only [Option.some.injEq, Prod.mk.injEq] at h
      obtain ⟨rfl, rfl⟩ := h
      exact ⟨rfl, by simp [*]⟩
    · cases h
  | [], h => cases h

variable {callF : Nat → List AV → VH → Option (AV × VH)}
theorem step_local (h : vstep T callF promo o fr H = some (r, fr', H')) (hA : Agree o (tagOf promo o fr H H' r) fr fs H K) : Twin (vstep T callF promo o) (tagOf promo o fr H H' r) fr fs H K r fr' H' := by
  by_cases hc : ∃ c, o.op = .call c
  · obtain ⟨c, ho⟩ := hc
    have ht : tagOf promo o fr H H' r = tagCall c H H' := by unfold tagOf; rw [ho]
    have hv : ∀ fr H, vstep T callF promo o fr H = vcallOp T callF c fr H := fun fr H => by unfold vstep; rw [ho]
    rw [hv] at h
    rw [ht] at hA ⊢
    obtain ⟨aev, aheap, aread, aown⟩ := hA
    rw [ho] at aev
    have hargs : fs.evas c.args.toList = fr.evas c.args.toList := evas_congr fun x hx => aev x (by simp only [Op.operands, Call.operands]; exact Array.mem_append.2 (.inr (by simpa using hx)))
    have eff : ∀ {f : Fr → VH → Option (AV × VH)}, (tagCall c H H').isEff → outH fr (f fr H) = some (r, fr', H') → f fs H = f fr H → Twin (fun fr H => outH fr (f fr H)) (tagCall c H H') fr fs H K r fr' H' := fun {f} he h1 h2 =>
      twin_outH (f := f) h1 (by unfold tagCall at he ⊢; split <;> exact fun d h => h) he (aheap he) h2
    unfold vcallOp at h
    split at h
    · cases h
    · rename_i args ha
      split at h
      · rename_i b hb
        have go : ∀ {fs' K'}, outH fs (vbuiltin T K b c.argTypes.toList args) = some (r, fs', K') → vstep T callF promo o fs K = some (r, fs', K') := fun {fs' K'} h1 => by
          rw [hv]; unfold vcallOp; simp only [hargs, ha, hb]; exact h1
        by_cases he : (tagCall c H H').isEff
        · obtain ⟨fs', K', h1, h2⟩ := eff (f := fun _ H => vbuiltin T H b c.argTypes.toList args) he h rfl
          exact ⟨fs', K', go h1, h2⟩
        · obtain ⟨v, hv1, rfl, rfl⟩ := outH_spec h
          have key : H' = H ∧ vbuiltin T K b c.argTypes.toList args = some (v, K) := by
            unfold tagCall at he
            rw [hb] at he
            cases b <;> first
              | exact (he trivial).elim
              | exact vlen_idle hv1
              | exact vcap_idle hv1
              | exact vmin_idle hv1
              | exact vmax_idle hv1
          obtain ⟨rfl, hk⟩ := key
          refine ⟨fs, K, go (by simp only [hk, outH]), .quiet (by unfold tagCall; split <;> exact fun d h => h) he⟩
      · rename_i g hg
        have hge : fs.eva g = fr.eva g := eva_congr (aev g (by simp [Op.operands, Call.operands, hg]))
        have he : (tagCall c H H').isEff := by unfold tagCall; rw [hg]; trivial
        split at h
        · rename_i f first cap hf
          obtain ⟨fs', K', h1, h2⟩ := eff (f := fun _ H => callF f (first ++ args ++ cap) H) he h rfl
          refine ⟨fs', K', ?_, h2⟩
          rw [hv]
          unfold vcallOp
          simp only [hargs, ha, hg, hge, hf]
          exact h1
        · cases h
      · cases h
  · have hv : ∀ fr H, vstep T callF promo o fr H = vop T promo o.dst o.op fr H := fun fr H => by
      unfold vstep
      split
      · rename_i c e; exact (hc ⟨c, e⟩).elim
      · rfl
    rw [hv] at h
    obtain ⟨fs', K', h1, h2⟩ := vop_local h hA
    exact ⟨fs', K', by rw [hv]; exact h1, h2⟩
end
end Go.Vm
