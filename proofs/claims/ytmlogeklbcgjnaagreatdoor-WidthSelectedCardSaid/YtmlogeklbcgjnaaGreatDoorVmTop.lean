/- Frames' own boxes, orders that are left open, calls: the machine's answers are the model's. -/
import Derived.Test.YtmlogeklbcgjnaaGreatDoorVmCall
/-! An operation looks at no more of the frame and of the heap than its tag says. -/
namespace Go.Vm
set_option linter.unusedSimpArgs false
set_option linter.unusedVariables false
set_option linter.unusedSectionVars false

def Tag.touches (d : Nat) : Tag → Prop
  | .box d' => d' = d
  | .loc d' => d' = d
  | _ => False
def Tag.isEff : Tag → Prop
  | .eff _ _ => True
  | _ => False

structure Agree (o : Oper) (t : Tag) (fr fs : Fr) (H K : VH) : Prop where
  ev : ∀ x ∈ o.op.operands, fs.ev x = fr.ev x
  heap : t.isEff → K = H
  read : ∀ bs ls, t = .read bs ls → (∀ b ∈ bs, SameB H K b) ∧ ∀ d ∈ ls, fs.loc.get d = fr.loc.get d
  own : ∀ d, t.touches d → fs.loc.get d = fr.loc.get d

structure Moved (t : Tag) (fr fr' fs fs' : Fr) (H H' K K' : VH) : Prop where
  regs : fr'.regs = fr.regs ∧ fr'.nt = fr.nt ∧ fr'.gl = fr.gl
  regs' : fs'.regs = fs.regs ∧ fs'.nt = fs.nt ∧ fs'.gl = fs.gl
  loc : ∀ d, ¬ t.touches d → fr'.loc.get d = fr.loc.get d ∧ fs'.loc.get d = fs.loc.get d
  own : ∀ d, t.touches d → fs'.loc.get d = fr'.loc.get d
  heap : ¬ t.isEff → H' = H ∧ K' = K
  eff : t.isEff → K' = H'

section
variable {t : Tag} {fr fs : Fr} {H K : VH}
theorem Moved.quiet (h1 : ∀ d, ¬ t.touches d) (h2 : ¬ t.isEff) : Moved t fr fr fs fs H H K K :=
  ⟨⟨rfl, rfl, rfl⟩, ⟨rfl, rfl, rfl⟩, fun _ _ => ⟨rfl, rfl⟩, fun d h => (h1 d h).elim, fun _ => ⟨rfl, rfl⟩, fun h => (h2 h).elim⟩
theorem Moved.effect (h1 : ∀ d, ¬ t.touches d) (h2 : t.isEff) (H' : VH) : Moved t fr fr fs fs H H' K H' :=
  ⟨⟨rfl, rfl, rfl⟩, ⟨rfl, rfl, rfl⟩, fun _ _ => ⟨rfl, rfl⟩, fun d h => (h1 d h).elim, fun h => (h h2).elim, fun _ => rfl⟩

theorem eva_congr {x : Operand} (h : fs.ev x = fr.ev x) : fs.eva x = fr.eva x := by unfold Fr.eva; rw [h]
theorem evas_congr : ∀ {xs : List Operand}, (∀ x ∈ xs, fs.ev x = fr.ev x) → fs.evas xs = fr.evas xs
  | [], _ => rfl
  | x :: xs, h => by
    have ih : fs.evas xs = fr.evas xs := evas_congr fun y hy => h y (by simp [hy])
    simp only [Fr.evas, eva_congr (h x (by simp)), ih]
theorem parts_congr : ∀ {ps : List (Nat × Operand)}, (∀ p ∈ ps, fs.ev p.2 = fr.ev p.2) → parts fs ps = parts fr ps
  | [], _ => rfl
  | (i, x) :: ps, h => by
    have ih : parts fs ps = parts fr ps := parts_congr fun y hy => h y (by simp [hy])
    simp only [parts, eva_congr (h (i, x) (by simp)), ih]
theorem optEv_congr {x : Option Operand} (h : ∀ y, x = some y → fs.ev y = fr.ev y) : optEv fs x = optEv fr x := by
  unfold optEv
  cases x with
  | none => rfl
  | some y => simp only [eva_congr (h y rfl)]
theorem locCells_congr {d ep : Nat} (h : fs.loc.get d = fr.loc.get d) : fs.locCells d ep = fr.locCells d ep := by unfold Fr.locCells; rw [h]

/-- What holds of the two runs of one operation. -/
def Twin (f : Fr → VH → Out) (t : Tag) (fr fs : Fr) (H K : VH) (r : RV) (fr' : Fr) (H' : VH) : Prop :=
  ∃ fs' K', f fs K = some (r, fs', K') ∧ Moved t fr fr' fs fs' H H' K K'

variable {r : RV} {fr' : Fr} {H' : VH}
theorem twin_outV {f : Fr → VH → Option AV} (h : outV fr H (f fr H) = some (r, fr', H')) (h1 : ∀ d, ¬ t.touches d) (h2 : ¬ t.isEff) (he : f fs K = f fr H) : Twin (fun fr H => outV fr H (f fr H)) t fr fs H K r fr' H' := by
  obtain ⟨v, hv, rfl, rfl, rfl⟩ := outV_spec h
  exact ⟨fs, K, by simp only [outV, he, hv], .quiet h1 h2⟩
theorem twin_outR {f : Fr → VH → Option RV} (h : outR fr H (f fr H) = some (r, fr', H')) (h1 : ∀ d, ¬ t.touches d) (h2 : ¬ t.isEff) (he : f fs K = f fr H) : Twin (fun fr H => outR fr H (f fr H)) t fr fs H K r fr' H' := by
  obtain ⟨hv, rfl, rfl⟩ := outR_spec h
  exact ⟨fs, K, by simp only [outR, he, hv], .quiet h1 h2⟩
theorem twin_outH {f : Fr → VH → Option (AV × VH)} (h : outH fr (f fr H) = some (r, fr', H')) (h1 : ∀ d, ¬ t.touches d) (h2 : t.isEff) (hK : K = H) (he : f fs H = f fr H) : Twin (fun fr H => outH fr (f fr H)) t fr fs H K r fr' H' := by
  obtain ⟨v, hv, rfl, rfl⟩ := outH_spec h
  subst hK
  exact ⟨fs, H', by simp only [outH, he, hv], .effect h1 h2 H'⟩

theorem twin_outU {f : Fr → VH → Option VH} (h : outU fr (f fr H) = some (r, fr', H')) (h1 : ∀ d, ¬ t.touches d) (h2 : t.isEff) (hK : K = H) (he : f fs H = f fr H) : Twin (fun fr H => outU fr (f fr H)) t fr fs H K r fr' H' := by
  obtain ⟨hv, rfl, rfl⟩ := outU_spec h
  subst hK
  exact ⟨fs, H', by simp only [outU, he, hv], .effect h1 h2 H'⟩
theorem tagMap_touch (x : Option AV) (d : Nat) : ¬ (tagMap x).touches d := by unfold tagMap; split <;> exact fun h => h
theorem tagMap_eff (x : Option AV) : ¬ (tagMap x).isEff := by unfold tagMap; split <;> exact fun h => h
theorem tagLen_touch (x : Option (List AV)) (d : Nat) : ¬ (tagLen x).touches d := by unfold tagLen; split; exact tagMap_touch _ d; exact fun h => h
theorem tagLen_eff (x : Option (List AV)) : ¬ (tagLen x).isEff := by unfold tagLen; split; exact tagMap_eff _; exact fun h => h
theorem ments_congr {m : AV} (h : ∀ bs ls, tagMap (some m) = .read bs ls → ∀ b ∈ bs, SameB H K b) : ments K m = ments H m := by
  cases m with
  | map b =>
    cases b with
    | none => rfl
    | some b => exact (h [b] [] rfl b (by simp)).2.2
  | _ => rfl
theorem tagRes_touch (r : RV) (d : Nat) : ¬ (tagRes r).touches d := by cases r <;> exact fun h => h
theorem tagRes_eff (r : RV) : ¬ (tagRes r).isEff := by cases r <;> exact fun h => h
theorem tagAddr_touch (r : Option RV) (d : Nat) : ¬ (tagAddr r).touches d := by unfold tagAddr; split <;> exact fun h => h
theorem tagAddr_eff (r : Option RV) : ¬ (tagAddr r).isEff := by unfold tagAddr; split <;> exact fun h => h
theorem tagConv_touch (r : Option AV) (H H' : VH) (d : Nat) : ¬ (tagConv r H H').touches d := by unfold tagConv; split <;> exact fun h => h

theorem evc_congr {x : Operand} (he : fs.ev x = fr.ev x) (hl : ∀ d e o, fr.ev x = some (.loc d e o) → fs.loc.get d = fr.loc.get d) : evc fs x = evc fr x := by
  unfold evc
  rw [he]
  split
  · rename_i d e o h
    rw [locCells_congr (hl d e o h)]
  · rfl

variable {T : Tb}
theorem vload_congr {ty : Nat} {rv : RV} (hb : ∀ b o, rv = .v (.ptr (some (b, o))) → SameK H K b) (hl : ∀ d e o, rv = .loc d e o → fs.loc.get d = fr.loc.get d) : vload T fs K ty rv = vload T fr H ty rv := by
  unfold vload
  split
  · split
    · rw [cells_sameK (hb _ _ rfl)]
    · rw [locCells_congr (hl _ _ _ rfl)]
    · rfl
  · split
    · rw [(hb _ _ rfl).cell]
    · rw [locCells_congr (hl _ _ _ rfl)]
    · rfl
  · rfl

theorem twin_newBox {promo : Nat → Bool} {dst : Option Nat} {cs : List AV} {e : Option Nat} (h : newBox promo dst fr H cs e = some (r, fr', H')) (heap : (tagBox promo dst H H').isEff → K = H) (own : ∀ d, (tagBox promo dst H H').touches d → fs.loc.get d = fr.loc.get d) :
    Twin (fun fr H => newBox promo dst fr H cs e) (tagBox promo dst H H') fr fs H K r fr' H' := by
  unfold newBox at h
  split at h
  · rename_i d hone
    unfold tagBox at heap own ⊢
    simp only at heap own ⊢
    split at h
    · rename_i hp
      simp only [hp] at heap own ⊢
      simp only [Option.some.injEq, Prod.mk.injEq] at h
      obtain ⟨rfl, rfl, rfl⟩ := h
      have hld := own d rfl
      have hep : fs.nextEp d = fr.nextEp d := by unfold Fr.nextEp; rw [hld]
      refine ⟨fs.box d cs, K, by simp only [newBox, hone, hp, hep], ⟨rfl, rfl, rfl⟩, ⟨rfl, rfl, rfl⟩, fun k hk => ?_, fun k hk => ?_, fun _ => ⟨rfl, rfl⟩, fun h => h.elim⟩
      · have : k ≠ d := fun e => hk e.symm
        simp [Fr.box, Tr.get_set, this]
      · obtain rfl : d = k := hk
        simp [Fr.box, Tr.get_set, hep]
    · rename_i hp
      simp only [hp] at heap own ⊢
      simp only [Option.some.injEq, Prod.mk.injEq] at h
      obtain ⟨rfl, rfl, rfl⟩ := h
      have hK : K = H := heap trivial
      subst hK
      exact ⟨fs, K.freshE cs e, by simp only [newBox, hone, hp], Moved.effect (t := Tag.eff K (K.freshE cs e)) (fun _ h => h) trivial _⟩
  · cases h

theorem twin_store {ty : Nat} {x y : Operand} (h : oStore T fr H ty x y = some (r, fr', H')) (ex : fs.ev x = fr.ev x) (ey : fs.ev y = fr.ev y) (heap : (tagStore (fr.ev x) H H').isEff → K = H) (own : ∀ d, (tagStore (fr.ev x) H H').touches d → fs.loc.get d = fr.loc.get d) :
    Twin (fun fr H => oStore T fr H ty x y) (tagStore (fr.ev x) H H') fr fs H K r fr' H' := by
  unfold oStore at h
  split at h
  · rename_i rv v hrv hv
    split at h
    · rename_i fr1 H1 hs
      simp only [Option.some.injEq, Prod.mk.injEq] at h
      obtain ⟨rfl, rfl, rfl⟩ := h
      have hv' : fs.eva y = some v := by rw [eva_congr ey]; exact hv
      unfold vstore at hs
      split at hs
      · rename_i n hn
        split at hs
        · rename_i hc
          split at hs
          · rename_i b off
            simp only [Option.map_eq_some_iff, Prod.mk.injEq] at hs
            obtain ⟨H2, h1, rfl, rfl⟩ := hs
            rw [hrv] at heap own ⊢
            have hK : K = H := heap trivial
            subst hK
            refine ⟨fs, H2, ?_, Moved.effect (t := Tag.eff K H2) (fun _ h => h) trivial _⟩
            simp only [oStore, ex, hrv, hv', vstore, hn, hc, if_true, h1, Option.map_some]
          · rename_i d ep off
            split at hs
            · rename_i cs hcs
              split at hs
              · rename_i hle
                simp only [Option.some.injEq, Prod.mk.injEq] at hs
                obtain ⟨rfl, rfl⟩ := hs
                rw [hrv] at heap own ⊢
                have hld := own d rfl
                refine ⟨{ fs with loc := fs.loc.set d ⟨ep, cs.take off ++ v.cells ++ cs.drop (off + n)⟩ }, K, by simp only [oStore, ex, hrv, hv', vstore, hn, hc, if_true, locCells_congr hld, hcs, hle], ⟨rfl, rfl, rfl⟩, ⟨rfl, rfl, rfl⟩, fun k hk => ?_, fun k hk => ?_, fun _ => ⟨rfl, rfl⟩, fun h => h.elim⟩
                · have : k ≠ d := fun e => hk e.symm
                  simp [Tr.get_set, this]
                · obtain rfl : d = k := hk
                  simp [Tr.get_set]
              · cases hs
            · cases hs
          · cases hs
        · cases hs
      · cases hs
    · cases h
  · cases h

theorem buildSlice_pure {t n : Nat} {ps : List (Nat × Operand)} {v : AV} (h : vbuildSlice T true fr H t n ps = some (v, H')) : H' = H ∧ ∀ (fs : Fr) (X : VH), parts fs ps = parts fr ps → vbuildSlice T true fs X t n ps = some (v, X) := by
  unfold vbuildSlice at h
  split at h
  · rename_i elem hu
    split at h
    · rename_i s z cs hs hz hcs
      split at h
      · rename_i hc
        split at h
        · rename_i l hl
          simp only [litOf, Option.some.injEq, Prod.mk.injEq] at h
          obtain ⟨rfl, rfl⟩ := h
          exact ⟨rfl, fun fs X e => by unfold vbuildSlice; simp only [hu, hs, hz, e, hcs, hc, if_true, hl, litOf]⟩
        · cases h
      · cases h
    · cases h
  · cases h
theorem twin_lit {q : Bool} {t n : Nat} {ps : List (Nat × Operand)} (h : outH fr (vbuildSlice T q fr H t n ps) = some (r, fr', H')) (hp : parts fs ps = parts fr ps) (heap : (tagLit q H H').isEff → K = H) :
    Twin (fun fr H => outH fr (vbuildSlice T q fr H t n ps)) (tagLit q H H') fr fs H K r fr' H' := by
  cases q with
  | false => exact twin_outH (f := fun fr H => vbuildSlice T false fr H t n ps) h (fun d h => h) trivial (heap trivial) (by simp only [vbuildSlice, hp])
  | true =>
    obtain ⟨v, hv, rfl, rfl⟩ := outH_spec h
    obtain ⟨rfl, h2⟩ := buildSlice_pure hv
    exact ⟨fs, K, by simp only [outH, h2 fs K hp], .quiet (fun d h => h) (fun h => h)⟩
variable {o : Oper} {promo : Nat → Bool}
theorem vop_local (h : vop T promo o.dst o.op fr H = some (r, fr', H')) (hA : Agree o (tagOf promo o fr H H' r) fr fs H K) : Twin (vop T promo o.dst o.op) (tagOf promo o fr H H' r) fr fs H K r fr' H' := by
  obtain ⟨dst, op, ty, pos, after, guard⟩ := o
  obtain ⟨aev, aheap, aread, aown⟩ := hA
  cases op with
  | move x => exact twin_outR (f := fun fr _ => fr.ev x) h (tagRes_touch r) (tagRes_eff r) (aev x (by simp [Op.operands]))
  | assign x => exact twin_outR (f := fun fr _ => fr.ev x) h (tagRes_touch r) (tagRes_eff r) (aev x (by simp [Op.operands]))
  | pick c x y =>
    have hc := eva_congr (aev c (by simp [Op.operands]))
    have hx := aev x (by simp [Op.operands])
    have hy := aev y (by simp [Op.operands])
    change oPick fr H c x y = _ at h
    unfold oPick at h
    split at h
    · rename_i e
      obtain ⟨fs', K', h1, h2⟩ := twin_outR (f := fun fr _ => fr.ev x) (fs := fs) (K := K) h (tagRes_touch r) (tagRes_eff r) hx
      exact ⟨fs', K', by show oPick fs K c x y = _; simp only [oPick, hc, e]; exact h1, h2⟩
    · rename_i e
      obtain ⟨fs', K', h1, h2⟩ := twin_outR (f := fun fr _ => fr.ev y) (fs := fs) (K := K) h (tagRes_touch r) (tagRes_eff r) hy
      exact ⟨fs', K', by show oPick fs K c x y = _; simp only [oPick, hc, e]; exact h1, h2⟩
    · cases h
  | alloc t =>
    change oAlloc T promo dst fr H t = _ at h
    unfold oAlloc at h
    split at h
    · rename_i z hz
      obtain ⟨fs', K', h1, h2⟩ := twin_newBox (fs := fs) (K := K) h aheap aown
      exact ⟨fs', K', by show oAlloc T promo dst fs K t = _; simp only [oAlloc, hz]; exact h1, h2⟩
    · cases h
  | box t x =>
    have hx := eva_congr (aev x (by simp [Op.operands]))
    change oBox T promo dst fr H t x = _ at h
    unfold oBox at h
    split at h
    · rename_i v hv
      obtain ⟨fs', K', h1, h2⟩ := twin_newBox (fs := fs) (K := K) h aheap aown
      exact ⟨fs', K', by show oBox T promo dst fs K t x = _; simp only [oBox, hx, hv]; exact h1, h2⟩
    · cases h
  | build t ps =>
    have hp : parts fs ps.toList = parts fr ps.toList := parts_congr fun p hp => aev p.2 (by simp only [Op.operands, List.mem_toArray]; exact List.mem_map.2 ⟨p, hp, rfl⟩)
    exact twin_outV (f := fun fr _ => vbuild T fr t ps.toList) h (fun d h => h) (fun h => h) (by simp only [vbuild, hp])
  | buildSlice t n ps =>
    have hp : parts fs ps.toList = parts fr ps.toList := parts_congr fun p hp => aev p.2 (by simp only [Op.operands, List.mem_toArray]; exact List.mem_map.2 ⟨p, hp, rfl⟩)
    exact twin_lit h hp aheap
  | load t x =>
    have hx := aev x (by simp [Op.operands])
    change oLoad T fr H t x = _ at h
    unfold oLoad at h
    split at h
    · rename_i rv hrv
      have hc : vload T fs K t rv = vload T fr H t rv := by
        have ht : tagOf promo ⟨dst, .load t x, ty, pos, after, guard⟩ fr H H' r = tagAddr (fr.ev x) := rfl
        rw [ht, hrv] at aread
        refine vload_congr (fun b o e => ?_) fun d e o e' => ?_
        · subst e
          cases b with
          | blk b => exact (aread (bkl b) [] rfl).1 b (by simp [bkl])
          | pur cs => trivial
        · subst e'; exact (aread [] [d] rfl).2 d (by simp)
      obtain ⟨fs', K', h1, h2⟩ := twin_outV (f := fun fr H => vload T fr H t rv) (fs := fs) (K := K) h (tagAddr_touch (fr.ev x)) (tagAddr_eff (fr.ev x)) hc
      exact ⟨fs', K', by show oLoad T fs K t x = _; simp only [oLoad, hx, hrv]; exact h1, h2⟩
    · cases h
  | store t x y => exact twin_store h (aev x (by simp [Op.operands])) (aev y (by simp [Op.operands])) aheap aown
  | nilCheck x =>
    change oNil fr H x = _ at h
    have ht : tagOf promo ⟨dst, .nilCheck x, ty, pos, after, guard⟩ fr H H' r = tagRes r := rfl
    rw [ht] at aread
    have hc : evc fs x = evc fr x := by
      refine evc_congr (aev x (by simp [Op.operands])) fun d e o he => ?_
      have : ∃ e' o', r = .loc d e' o' := by
        unfold oNil evc at h
        rw [he] at h
        simp only at h
        split at h
        · rename_i h1; split at h1 <;> cases h1
        · rename_i h1
          split at h1
          · simp only [Option.some.injEq, RV.loc.injEq] at h1
            obtain ⟨rfl, _⟩ := h1
            simp only [Option.some.injEq, Prod.mk.injEq] at h
            exact ⟨_, _, h.1.symm⟩
          · cases h1
        · rename_i h1; split at h1 <;> cases h1
        · cases h
      obtain ⟨e', o', rfl⟩ := this
      exact (aread [] [d] rfl).2 d (by simp)
    rw [ht]
    unfold oNil at h
    refine ⟨fs, K, ?_, ?_⟩
    · show oNil fs K x = _
      unfold oNil
      rw [hc]
      split at h <;> first | cases h | skip
      all_goals (first | rfl | (simp only [Option.some.injEq, Prod.mk.injEq] at h; obtain ⟨rfl, _, _⟩ := h; rfl))
    · split at h <;> first | (simp only [Option.some.injEq, Prod.mk.injEq] at h; obtain ⟨_, rfl, rfl⟩ := h; exact .quiet (tagRes_touch r) (tagRes_eff r)) | cases h
  | binOp op t x y t' =>
    have hx := eva_congr (aev x (by simp [Op.operands]))
    have hy := eva_congr (aev y (by simp [Op.operands]))
    change oBin T fr H op t x y = _ at h
    unfold oBin at h
    split at h
    · rename_i p q hp hq
      split at h
      · rename_i hn
        obtain ⟨fs', K', h1, h2⟩ := twin_outV (t := .idle) (f := fun _ _ => vbinOp T op t p q) (fs := fs) (K := K) h (fun d h => h) (fun h => h) rfl
        exact ⟨fs', K', by show oBin T fs K op t x y = _; simp only [oBin, hx, hy, hp, hq, hn]; exact h1, h2⟩
      · cases h
    · cases h
  | unOp op t x =>
    have hx := eva_congr (aev x (by simp [Op.operands]))
    change oUn fr H op x = _ at h
    unfold oUn at h
    split at h
    · rename_i p hp
      obtain ⟨fs', K', h1, h2⟩ := twin_outV (t := .idle) (f := fun _ _ => vunOp op p) (fs := fs) (K := K) h (fun d h => h) (fun h => h) rfl
      exact ⟨fs', K', by show oUn fs K op x = _; simp only [oUn, hx, hp]; exact h1, h2⟩
    · cases h
  | convert s d x =>
    have hx := eva_congr (aev x (by simp [Op.operands]))
    change oConv T fr H s d x = _ at h
    unfold oConv at h
    split at h
    · rename_i p hp
      by_cases he : (tagConv (some p) H H').isEff
      · have ht : tagOf promo ⟨dst, .convert s d x, ty, pos, after, guard⟩ fr H H' r = tagConv (fr.eva x) H H' := rfl
        rw [ht, hp] at aheap ⊢
        obtain ⟨fs', K', h1, h2⟩ := twin_outH (f := fun _ H => vconvert T H s d p) (fs := fs) (K := K) h (tagConv_touch _ _ _) he (aheap he) rfl
        exact ⟨fs', K', by show oConv T fs K s d x = _; simp only [oConv, hx, hp]; exact h1, h2⟩
      obtain ⟨v, hv, rfl, rfl⟩ := outH_spec h
      have ht : tagOf promo ⟨dst, .convert s d x, ty, pos, after, guard⟩ fr' H H' (.v v) = tagConv (fr'.eva x) H H' := rfl
      rw [ht] at aread ⊢
      rw [hp] at aread ⊢
      have key : H' = H ∧ vconvert T K s d p = some (v, K) := by
        unfold vconvert at hv ⊢
        split at hv
        · simp only [Option.some.injEq, Prod.mk.injEq] at hv; simp [*]
        · rename_i st u1 u2
          exact (he trivial).elim
        · rename_i e ad len cap esz u1 u2
          try simp only [u1, u2]
          split at hv
          · rename_i u3
            simp only [Option.some.injEq, Prod.mk.injEq] at hv
            simp [u3, hv.1, hv.2]
          · rename_i b off u3
            have hs : SameK H K b := by
              cases b with
              | blk b => exact (aread (bkl b) [] rfl).1 b (by simp [bkl])
              | pur cs => trivial
            try simp only [u3]
            rw [cells_sameK hs]
            split at hv
            · rename_i cs hcs
              simp only [Option.map_eq_some_iff, Prod.mk.injEq] at hv
              obtain ⟨z, hz, hz1, hz2⟩ := hv
              simp [hcs, hz, hz1, hz2]
            · cases hv
          · cases hv
        · exact (he trivial).elim
        · exact (he trivial).elim
        · exact (he trivial).elim
        · cases hv
      obtain ⟨rfl, this⟩ := key
      refine ⟨fs, K, ?_, .quiet (tagConv_touch _ _ _) he⟩
      show oConv T fs K s d x = _
      simp only [oConv, hx, hp]
      simp only [this, outH]
    · cases h
  | makeInterface t x =>
    have hx := eva_congr (aev x (by simp [Op.operands]))
    change oIface T fr H t x = _ at h
    unfold oIface at h
    refine ⟨fs, K, ?_, ?_⟩
    · show oIface T fs K t x = _
      unfold oIface
      rw [hx]
      split at h
      · cases h
      · rename_i e1 e2
        simp only [Option.some.injEq, Prod.mk.injEq] at h
        obtain ⟨rfl, _, _⟩ := h
        rfl
      · cases h
    · split at h
      · cases h
      · simp only [Option.some.injEq, Prod.mk.injEq] at h
        obtain ⟨_, rfl, rfl⟩ := h
        exact .quiet (fun d h => h) (fun h => h)
      · cases h
  | makeFunc fn first cap =>
    have h1 : fs.evas first.toList = fr.evas first.toList := evas_congr fun x hx => aev x (by simp only [Op.operands]; exact Array.mem_append.2 (.inl (by simpa using hx)))
    have h2 : fs.evas cap.toList = fr.evas cap.toList := evas_congr fun x hx => aev x (by simp only [Op.operands]; exact Array.mem_append.2 (.inr (by simpa using hx)))
    change oFunc fr H fn first cap = _ at h
    unfold oFunc at h
    refine ⟨fs, K, ?_, ?_⟩
    · show oFunc fs K fn first cap = _
      unfold oFunc
      rw [h1, h2]
      split at h
      · rename_i e1 e2
        simp only [Option.some.injEq, Prod.mk.injEq] at h
        obtain ⟨rfl, _, _⟩ := h
        rfl
      · cases h
    · split at h
      · simp only [Option.some.injEq, Prod.mk.injEq] at h
        obtain ⟨_, rfl, rfl⟩ := h
        exact .quiet (fun d h => h) (fun h => h)
      · cases h
  | makeSlice t l c =>
    have hl := eva_congr (aev l (by simp [Op.operands]))
    have hc := eva_congr (aev c (by simp [Op.operands]))
    change oMakeSlice T fr H t l c = _ at h
    unfold oMakeSlice at h
    split at h
    · rename_i p q hp hq
      obtain ⟨fs', K', h1, h2⟩ := twin_outH (t := .eff H H') (f := fun _ H => vmakeSlice T H t p q) (fs := fs) (K := K) h (fun d h => h) trivial (aheap trivial) rfl
      exact ⟨fs', K', by show oMakeSlice T fs K t l c = _; simp only [oMakeSlice, hl, hc, hp, hq]; exact h1, h2⟩
    · cases h
  | slice t x lo hi mx =>
    cases mx with
    | some m => cases h
    | none =>
      have hx := aev x (by simp [Op.operands])
      have hlo : optEv fs lo = optEv fr lo := optEv_congr fun y e => aev y (by subst e; simp [Op.operands])
      have hhi : optEv fs hi = optEv fr hi := optEv_congr fun y e => aev y (by subst e; simp [Op.operands])
      change oSlice T fr H t x lo hi = _ at h
      unfold oSlice at h
      split at h
      · rename_i rv p q hrv hp hq
        have ht : tagOf promo ⟨dst, .slice t x lo hi none, ty, pos, after, guard⟩ fr H H' r = tagAddr (fr.ev x) := rfl
        rw [ht] at aread ⊢
        rw [hrv] at aread
        have hc : vslice T K t rv p q = vslice T H t rv p q := by
          unfold vslice
          split <;> try rfl
          split
          · rename_i b off _ _ s _
            have hs : SameB H K b := (aread [b] [] rfl).1 b (by simp)
            simp only [vsliceArr, hs.2]
          · rfl
        obtain ⟨fs', K', h1, h2⟩ := twin_outV (f := fun _ H => vslice T H t rv p q) (fs := fs) (K := K) h (tagAddr_touch (fr.ev x)) (tagAddr_eff (fr.ev x)) hc
        exact ⟨fs', K', by show oSlice T fs K t x lo hi = _; simp only [oSlice, hx, hlo, hhi, hrv, hp, hq]; exact h1, h2⟩
      · cases h
  | fieldAddr t x f =>
    change oFieldAddr T fr H t x f = _ at h
    unfold oFieldAddr at h
    split at h
    · rename_i rv hrv
      have ht : tagOf promo ⟨dst, .fieldAddr t x f, ty, pos, after, guard⟩ fr H H' r = tagRes r := rfl
      rw [ht] at aread ⊢
      have hc : evc fs x = evc fr x := by
        refine evc_congr (aev x (by simp [Op.operands])) fun d e o he => ?_
        have hr : rv = .loc d e o := by
          unfold evc at hrv
          rw [he] at hrv
          simp only at hrv
          split at hrv
          · exact (Option.some.inj hrv).symm
          · cases hrv
        subst hr
        obtain ⟨hv, _⟩ := outR_spec h
        have : ∃ e' o', r = .loc d e' o' := by
          unfold vfieldAddr at hv
          split at hv
          · split at hv
            · split at hv
              · exact ⟨_, _, (Option.some.inj hv).symm⟩
              · cases hv
            · cases hv
          · cases hv
        obtain ⟨e', o', rfl⟩ := this
        exact (aread [] [d] rfl).2 d (by simp)
      obtain ⟨fs', K', h1, h2⟩ := twin_outR (f := fun _ _ => vfieldAddr T t rv f) (fs := fs) (K := K) h (tagRes_touch r) (tagRes_eff r) rfl
      exact ⟨fs', K', by show oFieldAddr T fs K t x f = _; simp only [oFieldAddr, hc, hrv]; exact h1, h2⟩
    · cases h
  | field t x f =>
    have hx := eva_congr (aev x (by simp [Op.operands]))
    change oField T fr H t x f = _ at h
    unfold oField at h
    split at h
    · rename_i p hp
      obtain ⟨fs', K', h1, h2⟩ := twin_outV (t := .idle) (f := fun _ _ => vfield T t p f) (fs := fs) (K := K) h (fun d h => h) (fun h => h) rfl
      exact ⟨fs', K', by show oField T fs K t x f = _; simp only [oField, hx, hp]; exact h1, h2⟩
    · cases h
  | indexAddr t x y =>
    have hy := eva_congr (aev y (by simp [Op.operands]))
    change oIndexAddr T fr H t x y = _ at h
    unfold oIndexAddr at h
    split at h
    · rename_i rv k n hrv hn
      have ht : tagOf promo ⟨dst, .indexAddr t x y, ty, pos, after, guard⟩ fr H H' r = tagRes r := rfl
      rw [ht] at aread ⊢
      have hc : evc fs x = evc fr x := by
        refine evc_congr (aev x (by simp [Op.operands])) fun d e o he => ?_
        have hr : rv = .loc d e o := by
          unfold evc at hrv
          rw [he] at hrv
          simp only at hrv
          split at hrv
          · exact (Option.some.inj hrv).symm
          · cases hrv
        subst hr
        obtain ⟨hv, _⟩ := outR_spec h
        have : ∃ e' o', r = .loc d e' o' := by
          unfold vindexAddr at hv
          split at hv
          · split at hv
            · split at hv
              · exact ⟨_, _, (Option.some.inj hv).symm⟩
              · cases hv
            · cases hv
          · cases hv
          · cases hv
        obtain ⟨e', o', rfl⟩ := this
        exact (aread [] [d] rfl).2 d (by simp)
      obtain ⟨fs', K', h1, h2⟩ := twin_outR (f := fun _ _ => vindexAddr T t rv n) (fs := fs) (K := K) h (tagRes_touch r) (tagRes_eff r) rfl
      exact ⟨fs', K', by show oIndexAddr T fs K t x y = _; simp only [oIndexAddr, hc, hrv, hy, hn]; exact h1, h2⟩
    · cases h
  | index t x y =>
    have hx := eva_congr (aev x (by simp [Op.operands]))
    have hy := eva_congr (aev y (by simp [Op.operands]))
    change oIndex T fr H t x y = _ at h
    unfold oIndex at h
    split at h
    · rename_i p k n hp hn
      obtain ⟨fs', K', h1, h2⟩ := twin_outV (t := .idle) (f := fun _ _ => vindex T t p n) (fs := fs) (K := K) h (fun d h => h) (fun h => h) rfl
      exact ⟨fs', K', by show oIndex T fs K t x y = _; simp only [oIndex, hx, hy, hp, hn]; exact h1, h2⟩
    · cases h
  | extract x i =>
    have hx := eva_congr (aev x (by simp [Op.operands]))
    change oExtract fr H x i = _ at h
    unfold oExtract at h
    split at h
    · rename_i vs hp
      obtain ⟨fs', K', h1, h2⟩ := twin_outV (t := .idle) (f := fun _ _ => vs[i]?) (fs := fs) (K := K) h (fun d h => h) (fun h => h) rfl
      exact ⟨fs', K', by show oExtract fs K x i = _; simp only [oExtract, hx, hp]; exact h1, h2⟩
    · cases h
  | lookup t x i ok =>
    have hx := eva_congr (aev x (by simp [Op.operands]))
    have hi := eva_congr (aev i (by simp [Op.operands]))
    change oLookup T fr H t x i ok = _ at h
    unfold oLookup at h
    split at h
    · rename_i m k hm hk
      have hme : ments K m = ments H m := ments_congr fun bs ls e => (aread bs ls (by show tagMap (fr.eva x) = _; rw [hm]; exact e)).1
      have hl : vlookup T K t m k ok = vlookup T H t m k ok := by unfold vlookup; rw [hme]
      obtain ⟨fs', K', h1, h2⟩ := twin_outV (t := tagMap (fr.eva x)) (f := fun _ H => vlookup T H t m k ok) (fs := fs) (K := K) h (tagMap_touch _) (tagMap_eff _) hl
      exact ⟨fs', K', by show oLookup T fs K t x i ok = _; simp only [oLookup, hx, hi, hm, hk]; exact h1, h2⟩
    · cases h
  | makeMap t x =>
    have hx : optEv fs x = optEv fr x := optEv_congr fun y e => aev y (by simp [Op.operands, e])
    change oMakeMap T fr H t x = _ at h
    unfold oMakeMap at h
    split at h
    · rename_i y hy
      obtain ⟨fs', K', h1, h2⟩ := twin_outH (t := .eff H H') (f := fun _ H => vmakeMap T H t y) (fs := fs) (K := K) h (fun d h => h) trivial (aheap trivial) rfl
      exact ⟨fs', K', by show oMakeMap T fs K t x = _; simp only [oMakeMap, hx, hy]; exact h1, h2⟩
    · cases h
  | range t x =>
    have hx := eva_congr (aev x (by simp [Op.operands]))
    change oRange T fr H t x = _ at h
    unfold oRange at h
    split at h
    · rename_i y hy
      obtain ⟨fs', K', h1, h2⟩ := twin_outH (t := .eff H H') (f := fun _ H => vrange T H t y) (fs := fs) (K := K) h (fun d h => h) trivial (aheap trivial) rfl
      exact ⟨fs', K', by show oRange T fs K t x = _; simp only [oRange, hx, hy]; exact h1, h2⟩
    · cases h
  | next x str =>
    have hx := eva_congr (aev x (by simp [Op.operands]))
    change oNext fr H x str = _ at h
    unfold oNext at h
    split at h
    · rename_i y hy
      obtain ⟨fs', K', h1, h2⟩ := twin_outH (t := .eff H H') (f := fun _ H => nextV (vnext H y)) (fs := fs) (K := K) h (fun d h => h) trivial (aheap trivial) rfl
      exact ⟨fs', K', by show oNext fs K x false = _; simp only [oNext, hx, hy]; exact h1, h2⟩
    · cases h
  | entry x =>
    have hx := eva_congr (aev x (by simp [Op.operands]))
    change oEntry fr H x = _ at h
    unfold oEntry at h
    split at h
    · rename_i y hy
      obtain ⟨fs', K', h1, h2⟩ := twin_outH (t := .eff H H') (f := fun _ H => entryV H y) (fs := fs) (K := K) h (fun d h => h) trivial (aheap trivial) rfl
      exact ⟨fs', K', by show oEntry fs K x = _; simp only [oEntry, hx, hy]; exact h1, h2⟩
    · cases h
  | mapUpdate t x y z =>
    have hx := eva_congr (aev x (by simp [Op.operands]))
    have hy := eva_congr (aev y (by simp [Op.operands]))
    have hz := eva_congr (aev z (by simp [Op.operands]))
    change oMapUpdate T fr H t x y z = _ at h
    unfold oMapUpdate at h
    split at h
    · rename_i m k v hm hk hv
      obtain ⟨fs', K', h1, h2⟩ := twin_outU (t := .eff H H') (f := fun _ H => vmapUpdate T H t m k v) (fs := fs) (K := K) h (fun d h => h) trivial (aheap trivial) rfl
      exact ⟨fs', K', by show oMapUpdate T fs K t x y z = _; simp only [oMapUpdate, hx, hy, hz, hm, hk, hv]; exact h1, h2⟩
    · cases h
  | insert t x y z =>
    have hx := eva_congr (aev x (by simp [Op.operands]))
    have hy := eva_congr (aev y (by simp [Op.operands]))
    have hz := eva_congr (aev z (by simp [Op.operands]))
    change oMapUpdate T fr H t x y z = _ at h
    unfold oMapUpdate at h
    split at h
    · rename_i m k v hm hk hv
      obtain ⟨fs', K', h1, h2⟩ := twin_outU (t := .eff H H') (f := fun _ H => vmapUpdate T H t m k v) (fs := fs) (K := K) h (fun d h => h) trivial (aheap trivial) rfl
      exact ⟨fs', K', by show oMapUpdate T fs K t x y z = _; simp only [oMapUpdate, hx, hy, hz, hm, hk, hv]; exact h1, h2⟩
    · cases h
  | mapEntry t x y =>
    have hx := eva_congr (aev x (by simp [Op.operands]))
    have hy := eva_congr (aev y (by simp [Op.operands]))
    change oMapEntry T fr H t x y = _ at h
    unfold oMapEntry at h
    split at h
    · rename_i m k hm hk
      obtain ⟨fs', K', h1, h2⟩ := twin_outH (t := .eff H H') (f := fun _ H => vmapEntry T H t m k) (fs := fs) (K := K) h (fun d h => h) trivial (aheap trivial) rfl
      exact ⟨fs', K', by show oMapEntry T fs K t x y = _; simp only [oMapEntry, hx, hy, hm, hk]; exact h1, h2⟩
    · cases h
  | entryStore t x y z =>
    have hx := eva_congr (aev x (by simp [Op.operands]))
    have hy := eva_congr (aev y (by simp [Op.operands]))
    have hz := eva_congr (aev z (by simp [Op.operands]))
    change oEntryStore fr H x y z = _ at h
    unfold oEntryStore at h
    split at h
    · rename_i m st v hm hk hv
      obtain ⟨fs', K', h1, h2⟩ := twin_outU (t := .eff H H') (f := fun _ H => ventryStore H m st v) (fs := fs) (K := K) h (fun d h => h) trivial (aheap trivial) rfl
      exact ⟨fs', K', by show oEntryStore fs K x y z = _; simp only [oEntryStore, hx, hy, hz, hm, hk, hv]; exact h1, h2⟩
    · cases h
  | _ => cases h

theorem vlen_idle {ts : List Nat} {args : List AV} {v : AV} {H H' K : VH} (hr : ∀ bs ls, tagLen (some args) = .read bs ls → ∀ b ∈ bs, SameB H K b) (h : vbuiltin T H .len ts args = some (v, H')) : H' = H ∧ vbuiltin T K .len ts args = some (v, K) := by
  match args, h with
  | [x], h =>
    change vlen T H ts x = _ at h
    refine ⟨vlen_same h, ?_⟩
    show vlen T K ts x = _
    have hme : ments K x = ments H x := ments_congr hr
    unfold vlen at h ⊢
    split at h
    · split at h
      · simp only [Option.some.injEq, Prod.mk.injEq] at h; obtain ⟨rfl, _⟩ := h; first | rfl | simp [*]
      · simp only [Option.some.injEq, Prod.mk.injEq] at h; obtain ⟨rfl, _⟩ := h; first | rfl | simp [*]
      · split at h
        · rename_i he
          simp only [Option.some.injEq, Prod.mk.injEq] at h
          obtain ⟨rfl, rfl⟩ := h
          simp [*]
        · cases h
      · cases h
    · cases h
  | [], h => cases h
  | _ :: _ :: _, h => cases h
theorem vcap_idle {ts : List Nat} {args : List AV} {v : AV} {H H' K : VH} (h : vbuiltin T H .cap ts args = some (v, H')) : H' = H ∧ vbuiltin T K .cap ts args = some (v, K) := by
  match args, h with
  | [x], h =>
    change vcap T H ts x = _ at h
    refine ⟨vcap_same h, ?_⟩
    show vcap T K ts x = _
    unfold vcap at h ⊢
    split at h
    · split at h <;> first | (simp only [Option.some.injEq, Prod.mk.injEq] at h; obtain ⟨rfl, _⟩ := h; first | rfl | simp [*]) | cases h
    · cases h
  | [], h => cases h
  | _ :: _ :: _, h => cases h
theorem vmin_idle {ts : List Nat} {args : List AV} {v : AV} {H H' K : VH} (h : vbuiltin T H .min ts args = some (v, H')) : H' = H ∧ vbuiltin T K .min ts args = some (v, K) := by
  match args, h with
  | x :: xs, h =>
    change (match vminmax false x xs with | some r => some (r, H) | none => none) = _ at h
    show _ ∧ (match vminmax false x xs with | some r => some (r, K) | none => none) = _
    split at h
    · simp only [Option.some.injEq, Prod.mk.injEq] at h
      obtain ⟨rfl, rfl⟩ := h
      exact ⟨rfl, by simp [*]⟩
    · cases h
  | [], h => cases h
theorem vmax_idle {ts : List Nat} {args : List AV} {v : AV} {H H' K : VH} (h : vbuiltin T H .max ts args = some (v, H')) : H' = H ∧ vbuiltin T K .max ts args = some (v, K) := by
  match args, h with
  | x :: xs, h =>
    change (match vminmax true x xs with | some r => some (r, H) | none => none) = _ at h
    show _ ∧ (match vminmax true x xs with | some r => some (r, K) | none => none) = _
    split at h
    · simp only [Option.some.injEq, Prod.mk.injEq] at h
      obtain ⟨rfl, rfl⟩ := h
      exact ⟨rfl, by simp [*]⟩
    · cases h
  | [], h => cases h

variable {callF : Nat → List AV → VH → Option (AV × VH)}
theorem tagCall_touch (c : Call) (fr : Fr) (H H' : VH) (d : Nat) : ¬ (tagCall c fr H H').touches d := by
  unfold tagCall
  split <;> first | exact tagLen_touch _ d | exact fun h => h
theorem step_local (h : vstep T callF promo o fr H = some (r, fr', H')) (hA : Agree o (tagOf promo o fr H H' r) fr fs H K) : Twin (vstep T callF promo o) (tagOf promo o fr H H' r) fr fs H K r fr' H' := by
  by_cases hc : ∃ c, o.op = .call c
  · obtain ⟨c, ho⟩ := hc
    have ht : tagOf promo o fr H H' r = tagCall c fr H H' := by unfold tagOf; rw [ho]
    have hv : ∀ fr H, vstep T callF promo o fr H = vcallOp T callF (litQ promo o.dst) c fr H := fun fr H => by unfold vstep; rw [ho]
    rw [hv] at h
    rw [ht] at hA ⊢
    obtain ⟨aev, aheap, aread, aown⟩ := hA
    rw [ho] at aev
    have hargs : fs.evas c.args.toList = fr.evas c.args.toList := evas_congr fun x hx => aev x (by simp only [Op.operands, Call.operands]; exact Array.mem_append.2 (.inr (by simpa using hx)))
    have eff : ∀ {f : Fr → VH → Option (AV × VH)}, (tagCall c fr H H').isEff → outH fr (f fr H) = some (r, fr', H') → f fs H = f fr H → Twin (fun fr H => outH fr (f fr H)) (tagCall c fr H H') fr fs H K r fr' H' := fun {f} he h1 h2 =>
      twin_outH (f := f) h1 (tagCall_touch c fr H H') he (aheap he) h2
    unfold vcallOp at h
    split at h
    · cases h
    · rename_i args ha
      split at h
      · rename_i b hb
        have go : ∀ {fs' K'}, outH fs (vbuiltin T (frzSrc (litQ promo o.dst) b args K).2 b c.argTypes.toList (frzSrc (litQ promo o.dst) b args K).1) = some (r, fs', K') → vstep T callF promo o fs K = some (r, fs', K') := fun {fs' K'} h1 => by
          rw [hv]; unfold vcallOp; simp only [hargs, ha, hb]; exact h1
        by_cases he : (tagCall c fr H H').isEff
        · obtain ⟨fs', K', h1, h2⟩ := eff (f := fun _ H => vbuiltin T (frzSrc (litQ promo o.dst) b args H).2 b c.argTypes.toList (frzSrc (litQ promo o.dst) b args H).1) he h rfl
          exact ⟨fs', K', go h1, h2⟩
        · obtain ⟨v, hv1, rfl, rfl⟩ := outH_spec h
          have hna : b ≠ .append := fun e => he (by unfold tagCall; rw [hb, e]; trivial)
          rw [frzSrc_not _ hna] at hv1
          have key : H' = H ∧ vbuiltin T K b c.argTypes.toList args = some (v, K) := by
            unfold tagCall at he
            rw [hb] at he
            cases b <;> first
              | exact (he trivial).elim
              | exact vlen_idle (fun bs ls e => (aread bs ls (by unfold tagCall; rw [hb, ha]; exact e)).1) hv1
              | exact vcap_idle hv1
              | exact vmin_idle hv1
              | exact vmax_idle hv1
          obtain ⟨rfl, hk⟩ := key
          refine ⟨fs, K, go (by rw [frzSrc_not _ hna]; simp only [hk, outH]), .quiet (tagCall_touch c _ _ _) he⟩
      · rename_i g hg
        have hge : fs.eva g = fr.eva g := eva_congr (aev g (by simp [Op.operands, Call.operands, hg]))
        have he : (tagCall c fr H H').isEff := by unfold tagCall; rw [hg]; trivial
        split at h
        · rename_i f first cap hf
          obtain ⟨fs', K', h1, h2⟩ := eff (f := fun _ H => callF f (first ++ args ++ cap) H) he h rfl
          refine ⟨fs', K', ?_, h2⟩
          rw [hv]
          unfold vcallOp
          simp only [hargs, ha, hg, hge, hf]
          exact h1
        · cases h
      · cases h
  · have hv : ∀ fr H, vstep T callF promo o fr H = vop T promo o.dst o.op fr H := fun fr H => by
      unfold vstep
      split
      · rename_i c e; exact (hc ⟨c, e⟩).elim
      · rfl
    rw [hv] at h
    obtain ⟨fs', K', h1, h2⟩ := vop_local h hA
    exact ⟨fs', K', by rw [hv]; exact h1, h2⟩
end
end Go.Vm
/-! The run of a region in the text's order, step by step. -/
namespace Go.Vm
set_option linter.unusedSimpArgs false
set_option linter.unusedVariables false
set_option linter.unusedSectionVars false

def dstAt (ops : Array Oper) (i : Nat) : Option Nat := (ops[i]?).bind (·.dst)

section
variable (T : Tb) (callF : Nat → List AV → VH → Option (AV × VH)) (promo : Nat → Bool) (ops : Array Oper) (bef : Array Nat) (F : Nat → Fr) (Hh : Nat → VH) (tg : Nat → Tag) (rs : Nat → RV)
def StepAt (k : Nat) (o : Oper) : Prop :=
  ops[k]? = some o ∧
  ((guardOf ops o (F k) = some true ∧ ∃ fr', vstep T callF promo o (F k) (Hh k) = some (rs k, fr', Hh (k + 1)) ∧ tg k = tagOf promo o (F k) (Hh k) (Hh (k + 1)) (rs k) ∧ F (k + 1) = fr'.put o.dst (rs k)) ∨
   (guardOf ops o (F k) = some false ∧ rs k = .v (.tuple []) ∧ tg k = .idle ∧ Hh (k + 1) = Hh k ∧ F (k + 1) = (F k).put o.dst (rs k)))
structure Trace : Prop where
  step : ∀ k, k < ops.size → ∃ o, StepAt T callF promo ops F Hh tg rs k o
  free : ∀ i k, i < k → k < ops.size → (bef.getD k 0).testBit i = true ∨ (tg i).free (tg k) = true
end

section
variable {T : Tb} {callF : Nat → List AV → VH → Option (AV × VH)} {promo : Nat → Bool} {ops : Array Oper} {bef : Array Nat}

theorem freeOf_spec {t : Tag} {m : Nat} : ∀ {ts : List Tag} {k : Nat}, ts.length = k → freeOf t m k ts = true → ∀ i u, i < k → ts[k - 1 - i]? = some u → m.testBit i = true ∨ u.free t = true
  | [], k, hl, _, i, u, hi, _ => by simp at hl; omega
  | v :: ts, k, hl, h, i, u, hi, hu => by
    simp only [freeOf, Bool.and_eq_true, Bool.or_eq_true] at h
    simp only [List.length_cons] at hl
    by_cases e : i = k - 1
    · subst e
      rw [Nat.sub_self] at hu
      simp only [List.getElem?_cons_zero, Option.some.injEq] at hu
      subst hu
      exact h.1
    · refine freeOf_spec (ts := ts) (k := k - 1) (by omega) h.2 i u (by omega) ?_
      rw [show k - 1 - i = (k - 1 - 1 - i) + 1 by omega] at hu
      simpa using hu

theorem trace_of {fr' : Fr} {H' : VH} : ∀ (os : List Oper) (k : Nat) (ts : List Tag) (fr : Fr) (H : VH), ops.toList.drop k = os → k ≤ ops.size → ts.length = k → vopsT T callF promo ops bef os k ts fr H = some (fr', H') →
    ∃ F Hh tg rs, F k = fr ∧ Hh k = H ∧ F ops.size = fr' ∧ Hh ops.size = H' ∧ (∀ i, i < k → ts[k - 1 - i]? = some (tg i)) ∧ (∀ j, k ≤ j → j < ops.size → ∃ o, StepAt T callF promo ops F Hh tg rs j o) ∧
      ∀ i j, i < j → k ≤ j → j < ops.size → (bef.getD j 0).testBit i = true ∨ (tg i).free (tg j) = true
  | [], k, ts, fr, H, hd, hk, hl, h => by
    have hks : k = ops.size := by
      have := congrArg List.length hd
      simp at this
      omega
    simp only [vopsT, Option.some.injEq, Prod.mk.injEq] at h
    obtain ⟨rfl, rfl⟩ := h
    refine ⟨fun _ => fr, fun _ => H, fun i => (ts[k - 1 - i]?).getD .idle, fun _ => .v .undef, rfl, rfl, rfl, rfl, fun i hi => ?_, fun j h1 h2 => by omega, fun i j _ h1 h2 => by omega⟩
    have hlt : k - 1 - i < ts.length := by omega
    simp only [List.getElem?_eq_getElem hlt, Option.getD_some]
  | o :: os, k, ts, fr, H, hd, hk, hl, h => by
    have hlt : k < ops.size := by
      have := congrArg List.length hd
      simp at this
      omega
    have ho : ops[k]? = some o := by
      have := congrArg (·[0]?) hd
      simpa using this
    have hd' : ops.toList.drop (k + 1) = os := by
      have := congrArg List.tail hd
      simpa using this
    change opsConsT T callF promo ops bef o (vopsT T callF promo ops bef os) k ts fr H = some (fr', H') at h
    unfold opsConsT at h
    have go : ∀ (t : Tag) (r : RV) (fr1 : Fr) (H1 : VH), (∀ i u, i < k → ts[k - 1 - i]? = some u → (bef.getD k 0).testBit i = true ∨ u.free t = true) →
        vopsT T callF promo ops bef os (k + 1) (t :: ts) fr1 H1 = some (fr', H') →
        ((guardOf ops o fr = some true ∧ ∃ fr0, vstep T callF promo o fr H = some (r, fr0, H1) ∧ t = tagOf promo o fr H H1 r ∧ fr1 = fr0.put o.dst r) ∨ (guardOf ops o fr = some false ∧ r = .v (.tuple []) ∧ t = .idle ∧ H1 = H ∧ fr1 = fr.put o.dst r)) →
        ∃ F Hh tg rs, F k = fr ∧ Hh k = H ∧ F ops.size = fr' ∧ Hh ops.size = H' ∧ (∀ i, i < k → ts[k - 1 - i]? = some (tg i)) ∧ (∀ j, k ≤ j → j < ops.size → ∃ o, StepAt T callF promo ops F Hh tg rs j o) ∧
          ∀ i j, i < j → k ≤ j → j < ops.size → (bef.getD j 0).testBit i = true ∨ (tg i).free (tg j) = true := by
      intro t r fr1 H1 hfree hrun hstep
      obtain ⟨F, Hh, tg, rs, e1, e2, e3, e4, e5, e6, e7⟩ := trace_of os (k + 1) (t :: ts) fr1 H1 hd' (by omega) (by simp [hl]) hrun
      have htk : tg k = t := by
        have := e5 k (by omega)
        simp only [Nat.add_sub_cancel, Nat.sub_self, List.getElem?_cons_zero, Option.some.injEq] at this
        exact this.symm
      have htl : ∀ i, i < k → ts[k - 1 - i]? = some (tg i) := fun i hi => by
        have := e5 i (by omega)
        rw [show k + 1 - 1 - i = (k - 1 - i) + 1 by omega] at this
        simpa using this
      have ne : ∀ j, k + 1 ≤ j → ¬ j = k := fun j h => by omega
      refine ⟨fun i => if i = k then fr else F i, fun i => if i = k then H else Hh i, tg, fun i => if i = k then r else rs i, by simp, by simp, by simp [ne ops.size (by omega), e3], by simp [ne ops.size (by omega), e4], htl, fun j hj hjs => ?_, fun i j hij hj hjs => ?_⟩
      · by_cases e : j = k
        · subst e
          refine ⟨o, ho, ?_⟩
          simp only [if_true, ne (j + 1) (by omega), if_false, e1, e2, htk]
          exact hstep
        · obtain ⟨o', h1, h2⟩ := e6 j (by omega) hjs
          refine ⟨o', h1, ?_⟩
          simp only [e, if_false, ne (j + 1) (by omega)]
          exact h2
      · by_cases e : j = k
        · subst e
          rw [htk]
          exact hfree i (tg i) hij (htl i hij)
        · exact e7 i j hij (by omega) hjs
    split at h
    · rename_i hg
      split at h
      · rename_i r fr0 H1 hs
        split at h
        · rename_i hf
          exact go _ r _ H1 (freeOf_spec hl hf) h (.inl ⟨hg, fr0, hs, rfl, rfl⟩)
        · cases h
      · cases h
    · rename_i hg
      exact go .idle (.v (.tuple [])) _ H (fun i u _ _ => .inr (by cases u <;> rfl)) h (.inr ⟨hg, rfl, rfl, rfl, rfl⟩)
    · cases h

variable {F : Nat → Fr} {Hh : Nat → VH} {tg : Nat → Tag} {rs : Nat → RV} {fr fr' : Fr} {H H' : VH} {r : RV} {o : Oper}

theorem step_self (h : vstep T callF promo o fr H = some (r, fr', H')) : Moved (tagOf promo o fr H H' r) fr fr' fr fr' H H' H H' := by
  obtain ⟨fs', K', h1, h2⟩ := step_local (fs := fr) (K := H) h ⟨fun _ _ => rfl, fun _ => rfl, fun _ _ _ => ⟨fun b _ => .refl _ _, fun _ _ => rfl⟩, fun _ _ => rfl⟩
  rw [h] at h1
  simp only [Option.some.injEq, Prod.mk.injEq] at h1
  obtain ⟨_, rfl, rfl⟩ := h1
  exact h2
theorem put_get (fr : Fr) (d : Option Nat) (r : RV) (t : Nat) : (fr.put d r).regs.get t = if d = some t ∧ t < fr.nt then some r else fr.regs.get t := by
  unfold Fr.put
  cases d with
  | none => simp
  | some d =>
    simp only
    rw [blt_eq]
    by_cases hd : d < fr.nt
    · rw [decide_eq_true hd]
      simp only [Tr.get_set, Option.some.injEq]
      by_cases e : t = d
      · subst e; rw [if_pos rfl, if_pos ⟨rfl, hd⟩]
      · rw [if_neg e, if_neg fun h => e h.1.symm]
    · rw [decide_eq_false hd]
      simp only [Option.some.injEq]
      rw [if_neg]
      rintro ⟨rfl, h⟩
      exact hd h
theorem put_loc (fr : Fr) (d : Option Nat) (r : RV) : (fr.put d r).loc = fr.loc ∧ (fr.put d r).nt = fr.nt ∧ (fr.put d r).gl = fr.gl := by
  unfold Fr.put
  cases d with
  | none => exact ⟨rfl, rfl, rfl⟩
  | some d => simp only; split <;> exact ⟨rfl, rfl, rfl⟩

variable (hT : Trace T callF promo ops bef F Hh tg rs)
include hT
/-- Each step moves the frame on. -/
theorem Trace.moved {k : Nat} (hk : k < ops.size) : ∃ fr0, Moved (tg k) (F k) fr0 (F k) fr0 (Hh k) (Hh (k + 1)) (Hh k) (Hh (k + 1)) ∧ F (k + 1) = fr0.put (dstAt ops k) (rs k) := by
  obtain ⟨o, ho, h | h⟩ := hT.step k hk
  · obtain ⟨_, fr0, h1, h2, h3⟩ := h
    refine ⟨fr0, ?_, ?_⟩
    · rw [h2]; exact step_self h1
    · rw [h3]; simp [dstAt, ho]
  · obtain ⟨_, h1, h2, h3, h4⟩ := h
    refine ⟨F k, ?_, ?_⟩
    · rw [h2, h3]; exact .quiet (fun _ h => h) (fun h => h)
    · rw [h4]; simp [dstAt, ho]
theorem Trace.nt : ∀ j, j ≤ ops.size → (F j).nt = (F 0).nt ∧ (F j).gl = (F 0).gl
  | 0, _ => ⟨rfl, rfl⟩
  | j + 1, hj => by
    obtain ⟨fr0, h1, h2⟩ := hT.moved (k := j) (by omega)
    obtain ⟨i1, i2⟩ := Trace.nt j (by omega)
    rw [h2, (put_loc _ _ _).2.1, (put_loc _ _ _).2.2, h1.regs.2.1, h1.regs.2.2]
    exact ⟨i1, i2⟩
theorem Trace.wrote (hd : ∀ i j d, i < ops.size → j < ops.size → dstAt ops i = some d → dstAt ops j = some d → i = j) : ∀ j, j ≤ ops.size → ∀ i, i < j → ∀ t, dstAt ops i = some t → t < (F 0).nt → (F j).regs.get t = some (rs i)
  | 0, _, i, hi => by omega
  | j + 1, hj, i, hi => fun t ht hlt => by
    obtain ⟨fr0, h1, h2⟩ := hT.moved (k := j) (by omega)
    have hnt := (hT.nt j (by omega)).1
    rw [h2, put_get]
    by_cases e : i = j
    · subst e
      rw [if_pos ⟨ht, by rw [h1.regs.2.1, hnt]; exact hlt⟩]
    · rw [if_neg fun h => e (hd i j t (by omega) (by omega) ht h.1), h1.regs.1]
      exact Trace.wrote hd j (by omega) i (by omega) t ht hlt
theorem Trace.kept : ∀ j, j ≤ ops.size → ∀ t, (∀ i, i < j → dstAt ops i = some t → (F 0).nt ≤ t) → (F j).regs.get t = (F 0).regs.get t
  | 0, _, _, _ => rfl
  | j + 1, hj, t, h => by
    obtain ⟨fr0, h1, h2⟩ := hT.moved (k := j) (by omega)
    have hnt := (hT.nt j (by omega)).1
    rw [h2, put_get, if_neg, h1.regs.1]
    · exact Trace.kept j (by omega) t fun i hi => h i (by omega)
    · rintro ⟨e, hlt⟩
      have := h j (by omega) e
      rw [h1.regs.2.1, hnt] at hlt
      omega
theorem Trace.loc {d : Nat} (p : Nat) : ∀ q, p ≤ q → q ≤ ops.size → (∀ i, p ≤ i → i < q → ¬ (tg i).touches d) → (F q).loc.get d = (F p).loc.get d
  | 0, h, _, _ => by
    obtain rfl : p = 0 := by omega
    rfl
  | q + 1, h, hq, hn => by
    by_cases e : p = q + 1
    · rw [e]
    · obtain ⟨fr0, h1, h2⟩ := hT.moved (k := q) (by omega)
      rw [h2, (put_loc _ _ _).1, (h1.loc d (hn q (by omega) (by omega))).1]
      exact Trace.loc p q (by omega) (by omega) fun i h1 h2 => hn i h1 (by omega)
theorem Trace.heap (p : Nat) : ∀ q, p ≤ q → q ≤ ops.size → (∀ i, p ≤ i → i < q → ¬ (tg i).isEff) → Hh q = Hh p
  | 0, h, _, _ => by
    obtain rfl : p = 0 := by omega
    rfl
  | q + 1, h, hq, hn => by
    by_cases e : p = q + 1
    · rw [e]
    · obtain ⟨fr0, h1, h2⟩ := hT.moved (k := q) (by omega)
      rw [(h1.heap (hn q (by omega) (by omega))).1]
      exact Trace.heap p q (by omega) (by omega) fun i h1 h2 => hn i h1 (by omega)
theorem Trace.same {b : Nat} (p : Nat) : ∀ q, p ≤ q → q ≤ ops.size → (∀ i, p ≤ i → i < q → (tg i).isEff → SameB (Hh i) (Hh (i + 1)) b) → SameB (Hh p) (Hh q) b
  | 0, h, _, _ => by
    obtain rfl : p = 0 := by omega
    exact .refl _ _
  | q + 1, h, hq, hn => by
    by_cases e : p = q + 1
    · rw [e]; exact .refl _ _
    · obtain ⟨fr0, h1, h2⟩ := hT.moved (k := q) (by omega)
      refine (Trace.same p q (by omega) (by omega) fun i h1 h2 => hn i h1 (by omega)).trans ?_
      by_cases he : (tg q).isEff
      · exact hn q (by omega) (by omega) he
      · rw [(h1.heap he).1]; exact .refl _ _
theorem Trace.wf (hC : CallsHs callF) (h0 : WfH (Hh 0)) : ∀ j, j ≤ ops.size → WfH (Hh j)
  | 0, _ => h0
  | j + 1, hj => by
    have ih := Trace.wf hC h0 j (by omega)
    obtain ⟨o, ho, h | h⟩ := hT.step j (by omega)
    · obtain ⟨_, fr0, h1, _⟩ := h
      exact ((vstep_hs hC h1).later ih).2.1
    · rw [h.2.2.2.1]; exact ih
omit hT in
theorem tagOf_eff (h : (tagOf promo o fr H H' r).isEff) : tagOf promo o fr H H' r = .eff H H' := by
  revert h
  unfold tagOf
  split <;> intro h <;> first
    | rfl
    | exact h.elim
    | exact (tagRes_eff _ h).elim
    | exact (tagAddr_eff _ h).elim
    | (unfold tagConv at h ⊢; split at h <;> first | rfl | exact h.elim)
    | (unfold tagBox at h ⊢; split at h <;> first | rfl | skip
       split at h <;> first | rfl | exact h.elim)
    | (unfold tagStore at h ⊢; split at h <;> first | rfl | exact h.elim)
    | (unfold tagLit at h ⊢; split at h <;> first | rfl | exact h.elim)
    | exact (tagMap_eff _ h).elim
    | (unfold tagCall at h ⊢; split at h <;> first | rfl | exact (tagLen_eff _ h).elim | exact h.elim)
omit hT in
theorem allSame_spec : ∀ {bs : List Nat}, allSame H H' bs = true → ∀ b ∈ bs, H.same H' b = true
  | [], _, b, hb => by cases hb
  | c :: bs, h, b, hb => by
    simp only [allSame, Bool.and_eq_true] at h
    rcases List.mem_cons.1 hb with rfl | hb
    · exact h.1
    · exact allSame_spec h.2 b hb
/-- An effect and a read that may come up in either order. -/
theorem Trace.free_same (hC : CallsHs callF) (h0 : WfH (Hh 0)) {j : Nat} (hj : j < ops.size) (he : (tg j).isEff) {bs ls : List Nat} (hf : (tg j).free (.read bs ls) = true ∨ (Tag.read bs ls).free (tg j) = true) {b : Nat} (hb : b ∈ bs) : SameB (Hh j) (Hh (j + 1)) b := by
  obtain ⟨o, ho, h | h⟩ := hT.step j hj
  · obtain ⟨_, fr0, h1, h2, _⟩ := h
    have ht : tg j = .eff (Hh j) (Hh (j + 1)) := by rw [h2] at he ⊢; exact tagOf_eff he
    rw [ht] at hf
    have : allSame (Hh j) (Hh (j + 1)) bs = true := by rcases hf with hf | hf <;> exact hf
    exact same_of ((vstep_hs hC h1).later (hT.wf hC h0 j (by omega))) (allSame_spec this b hb)
  · rw [h.2.2.1] at he; exact he.elim
end
end Go.Vm
/-! The regions that draw their order: whatever the order, they do what they do in the text's order. -/
namespace Go.Vm
set_option linter.unusedSimpArgs false
set_option linter.unusedVariables false
set_option linter.unusedSectionVars false

/-! ## What an operation waits for -/
theorem bits_fold (md : Region.Mode) (acc : Array Nat) : ∀ (es : List Edge) (s : Nat) (j : Nat), (es.foldl (fun s e => if Region.binds md e then s ||| 2 ^ e.on ||| acc.getD e.on 0 else s) s).testBit j = true →
    s.testBit j = true ∨ ∃ e ∈ es, Region.binds md e = true ∧ (e.on = j ∨ (acc.getD e.on 0).testBit j = true)
  | [], s, j, h => .inl h
  | e :: es, s, j, h => by
    simp only [List.foldl_cons] at h
    rcases bits_fold md acc es _ j h with h | ⟨e', h1, h2⟩
    · split at h
      · rename_i hb
        simp only [Nat.testBit_or, Bool.or_eq_true, Nat.testBit_two_pow, decide_eq_true_eq] at h
        rcases h with (h | h) | h
        · exact .inl h
        · exact .inr ⟨e, by simp, hb, .inl h⟩
        · exact .inr ⟨e, by simp, hb, .inr h⟩
      · exact .inl h
    · exact .inr ⟨e', by simp [h1], h2⟩

theorem foldl_push_spec {α β : Type} (g : Array β → α → β) : ∀ (l : List α) (acc : Array β), (∀ i, i < acc.size → (l.foldl (fun acc o => acc.push (g acc o)) acc)[i]? = acc[i]?) ∧
    ∀ k o, l[k]? = some o → ∃ pre : Array β, (l.foldl (fun acc o => acc.push (g acc o)) acc)[acc.size + k]? = some (g pre o) ∧ pre.size = acc.size + k ∧ ∀ i, i < pre.size → (l.foldl (fun acc o => acc.push (g acc o)) acc)[i]? = pre[i]?
  | [], acc => ⟨fun _ _ => rfl, fun k o h => by simp at h⟩
  | x :: l, acc => by
    obtain ⟨h1, h2⟩ := foldl_push_spec g l (acc.push (g acc x))
    simp only [List.foldl_cons]
    refine ⟨fun i hi => ?_, fun k o hk => ?_⟩
    · rw [h1 i (by simp; omega)]
      simp [Array.getElem?_push, Nat.ne_of_lt hi]
    · cases k with
      | zero =>
        simp only [List.getElem?_cons_zero, Option.some.injEq] at hk
        subst hk
        refine ⟨acc, ?_, by simp, fun i hi => ?_⟩
        · rw [Nat.add_zero, h1 acc.size (by simp)]; simp
        · rw [h1 i (by simp; omega)]
          simp [Array.getElem?_push, Nat.ne_of_lt hi]
      | succ k =>
        obtain ⟨pre, e1, e2, e3⟩ := h2 k o (by simpa using hk)
        simp only [Array.size_push] at e1 e2
        exact ⟨pre, by rw [← e1]; congr 1; omega, by omega, e3⟩

theorem before_spec {ops : Array Oper} {k : Nat} {o : Oper} (ho : ops[k]? = some o) {j : Nat} (h : ((Region.before ops).getD k 0).testBit j = true) :
    ∃ e ∈ o.after.toList, Region.binds .any e = true ∧ (e.on = j ∨ ((Region.before ops).getD e.on 0).testBit j = true) := by
  have hb : Region.before ops = ops.toList.foldl (fun acc o => acc.push (o.after.foldl (fun s e => if Region.binds .any e then s ||| 2 ^ e.on ||| acc.getD e.on 0 else s) 0)) #[] := by
    unfold Region.before
    rw [← Array.foldl_toList]
  obtain ⟨_, h2⟩ := foldl_push_spec (fun (acc : Array Nat) (o : Oper) => o.after.foldl (fun s e => if Region.binds .any e then s ||| 2 ^ e.on ||| acc.getD e.on 0 else s) 0) ops.toList #[]
  obtain ⟨pre, e1, e2, e3⟩ := h2 k o (by simpa using ho)
  rw [← hb] at e1 e3
  simp only [List.size_toArray, List.length_nil, Nat.zero_add] at e1 e2
  rw [Array.getD_eq_getD_getElem?, e1, Option.getD_some, ← Array.foldl_toList] at h
  rcases bits_fold .any pre o.after.toList 0 j h with h | ⟨e, h3, h4, h5⟩
  · simp at h
  · refine ⟨e, h3, h4, h5.imp id fun h5 => ?_⟩
    by_cases hlt : e.on < pre.size
    · rw [Array.getD_eq_getD_getElem?, e3 _ hlt, ← Array.getD_eq_getD_getElem?]
      exact h5
    · rw [Array.getD_eq_getD_getElem?, Array.getElem?_eq_none (by omega)] at h5
      simp at h5

/-- What is asked of a region's text. -/
structure RegOk (ops : Array Oper) : Prop where
  edges : ∀ k o, ops[k]? = some o → ∀ e ∈ o.after.toList, Region.binds .any e = true → e.on < k
  dsts : ∀ i j d, i < ops.size → j < ops.size → dstAt ops i = some d → dstAt ops j = some d → i = j
  looks : ∀ i j d o, i < ops.size → i ≠ j → dstAt ops i = some d → ops[j]? = some o → d ∈ o.looksAt ops → (i < j → ((Region.before ops).getD j 0).testBit i = true) ∧ (j < i → ((Region.before ops).getD i 0).testBit j = true)

theorem RelF.congr {ρ : Rho} {G : Nat → Prop} {n0 : Nat} {lam : Nat → Option Nat} {f g : Fr} {tmps : Array Value} {w : World} (h : RelF ρ G n0 lam f tmps w) (h1 : ∀ t, g.regs.get t = f.regs.get t) (h2 : ∀ d, g.loc.get d = f.loc.get d) (h3 : g.nt = f.nt) (h4 : g.gl = f.gl) : RelF ρ G n0 lam g tmps w := by
  refine ⟨by rw [h3]; exact h.size, fun t ht => ?_, fun t ht => by rw [h1]; exact h.over t (by rw [← h3]; exact ht), fun x hx => h.glob x (by rw [← h4]; exact hx), ⟨fun d c hd => h.loc.box d c (by rw [← h2]; exact hd), fun d d' c c' hd hd' => h.loc.inj d d' c c' (by rw [← h2]; exact hd) (by rw [← h2]; exact hd'), fun t d ep off ht => ?_⟩⟩
  · rw [h1]
    have := h.regs t (by rw [← h3]; exact ht)
    cases hq : (f.regs.get t).getD (.v .undef) with
    | v x => rw [hq] at this; exact this
    | loc d ep off => rw [hq] at this; exact fun c hc => this c (by rw [← h2]; exact hc)
  · obtain ⟨c, hc, hle⟩ := h.loc.stale t d ep off (by rw [← h1]; exact ht)
    exact ⟨c, by rw [h2]; exact hc, hle⟩

/-- Where the operations L are done. -/
structure Done (ops : Array Oper) (F : Nat → Fr) (Hh : Nat → VH) (tg : Nat → Tag) (rs : Nat → RV) (L : Nat → Prop) (f : Fr) (K : VH) : Prop where
  nt : f.nt = (F 0).nt ∧ f.gl = (F 0).gl
  wrote : ∀ i, i < ops.size → L i → ∀ t, dstAt ops i = some t → t < (F 0).nt → f.regs.get t = some (rs i)
  kept : ∀ t, (∀ i, i < ops.size → L i → dstAt ops i = some t → (F 0).nt ≤ t) → f.regs.get t = (F 0).regs.get t
  loc : ∀ d, ∃ m, m ≤ ops.size ∧ (∀ i, i < ops.size → (tg i).touches d → (L i ↔ i < m)) ∧ f.loc.get d = (F m).loc.get d
  heap : ∃ m, m ≤ ops.size ∧ (∀ i, i < ops.size → (tg i).isEff → (L i ↔ i < m)) ∧ K = Hh m
  closed : ∀ i, i < ops.size → L i → ∀ j, ((Region.before ops).getD i 0).testBit j = true → L j

section
variable {T : Tb} {callF : Nat → List AV → VH → Option (AV × VH)} {promo : Nat → Bool} {ops : Array Oper} {F : Nat → Fr} {Hh : Nat → VH} {tg : Nat → Tag} {rs : Nat → RV}
variable (hT : Trace T callF promo ops (Region.before ops) F Hh tg rs) (hR : RegOk ops) (hC : CallsHs callF) (h0 : WfH (Hh 0)) {L : Nat → Prop} {f : Fr} {K : VH} (hD : Done ops F Hh tg rs L f K)

include hT in
theorem Done.start : Done ops F Hh tg rs (fun _ => False) (F 0) (Hh 0) :=
  ⟨⟨rfl, rfl⟩, fun _ _ h => h.elim, fun _ _ => rfl, fun d => ⟨0, Nat.zero_le _, fun i _ _ => ⟨fun h => h.elim, fun h => by omega⟩, rfl⟩, ⟨0, Nat.zero_le _, fun i _ _ => ⟨fun h => h.elim, fun h => by omega⟩, rfl⟩, fun _ _ h => h.elim⟩

include hT hR hD in
theorem Done.finish (hL : ∀ i, i < ops.size → L i) : (∀ t, (F ops.size).regs.get t = f.regs.get t) ∧ (∀ d, (F ops.size).loc.get d = f.loc.get d) ∧ (F ops.size).nt = f.nt ∧ (F ops.size).gl = f.gl ∧ K = Hh ops.size := by
  have hnt := hT.nt ops.size (Nat.le_refl _)
  refine ⟨fun t => ?_, fun d => ?_, by rw [hnt.1, hD.nt.1], by rw [hnt.2, hD.nt.2], ?_⟩
  · by_cases h : ∃ i, i < ops.size ∧ dstAt ops i = some t ∧ t < (F 0).nt
    · obtain ⟨i, h1, h2, h3⟩ := h
      rw [hT.wrote hR.dsts ops.size (Nat.le_refl _) i h1 t h2 h3, hD.wrote i h1 (hL i h1) t h2 h3]
    · have h' : ∀ i, i < ops.size → dstAt ops i = some t → (F 0).nt ≤ t := fun i h1 h2 => Nat.le_of_not_lt fun h3 => h ⟨i, h1, h2, h3⟩
      rw [hT.kept ops.size (Nat.le_refl _) t h', hD.kept t fun i h1 _ h2 => h' i h1 h2]
  · obtain ⟨m, h1, h2, h3⟩ := hD.loc d
    rw [h3, hT.loc m ops.size h1 (Nat.le_refl _) fun i h4 h5 h6 => ?_]
    have := (h2 i h5 h6).1 (hL i h5)
    omega
  · obtain ⟨m, h1, h2, h3⟩ := hD.heap
    rw [h3, hT.heap m ops.size h1 (Nat.le_refl _) fun i h4 h5 h6 => ?_]
    have := (h2 i h5 h6).1 (hL i h5)
    omega

variable {i : Nat} {o : Oper} (hi : i < ops.size) (ho : ops[i]? = some o) (hn : ¬ L i) (hready : ∀ j, ((Region.before ops).getD i 0).testBit j = true → L j)

include hR hT hD hi ho hn hready in
theorem Done.regs : ∀ t ∈ o.looksAt ops, f.regs.get t = (F i).regs.get t := by
  intro t ht
  by_cases h : ∃ k, k < ops.size ∧ dstAt ops k = some t ∧ t < (F 0).nt
  · obtain ⟨k, h1, h2, h3⟩ := h
    have only : ∀ j, j < ops.size → dstAt ops j = some t → j = k := fun j hj e => hR.dsts j k t hj h1 e h2
    have none_ : ¬ L k → f.regs.get t = (F 0).regs.get t := fun hk => hD.kept t fun j hj hLj e => by
      obtain rfl := only j hj e
      exact (hk hLj).elim
    have none' : ¬ k < i → (F i).regs.get t = (F 0).regs.get t := fun hk => hT.kept i (Nat.le_of_lt hi) t fun j hj e => by
      obtain rfl := only j (by omega) e
      exact (hk hj).elim
    by_cases e : k = i
    · subst e
      rw [none_ hn, none' (by omega)]
    · obtain ⟨l1, l2⟩ := hR.looks k i t o h1 e h2 ho ht
      rcases Nat.lt_or_gt_of_ne e with hlt | hgt
      · rw [hD.wrote k h1 (hready k (l1 hlt)) t h2 h3, hT.wrote hR.dsts i (Nat.le_of_lt hi) k hlt t h2 h3]
      · rw [none_ fun hk => hn (hD.closed k h1 hk i (l2 hgt)), none' (by omega)]
  · have h' : ∀ k, k < ops.size → dstAt ops k = some t → (F 0).nt ≤ t := fun k h1 h2 => Nat.le_of_not_lt fun h3 => h ⟨k, h1, h2, h3⟩
    rw [hD.kept t fun k h1 _ h2 => h' k h1 h2, hT.kept i (Nat.le_of_lt hi) t fun k h1 h2 => h' k (by omega) h2]

include hT hready in
theorem Done.ahead {j : Nat} (hj : j < i) (hi : i < ops.size) (hf : (tg j).free (tg i) = false) : L j := by
  rcases hT.free j i hj hi with h | h
  · exact hready j h
  · rw [hf] at h; cases h
include hT hD hn in
theorem Done.behind {j : Nat} (hj : i < j) (hjs : j < ops.size) (hf : (tg i).free (tg j) = false) : ¬ L j := fun h => by
  rcases hT.free i j hj hjs with h1 | h1
  · exact hn (hD.closed j hjs h i h1)
  · rw [hf] at h1; cases h1

theorem eff_eff {s t : Tag} (h1 : s.isEff) (h2 : t.isEff) : s.free t = false := by
  cases s <;> cases t <;> first | rfl | exact h1.elim | exact h2.elim
theorem touch_touch {s t : Tag} {d : Nat} (h1 : s.touches d) (h2 : t.touches d) : s.free t = false := by
  cases s <;> cases t <;> first
    | exact h1.elim
    | exact h2.elim
    | (obtain rfl : _ = d := h1; obtain rfl : _ = _ := h2; simp [Tag.free])
theorem touch_read {s : Tag} {d : Nat} {bs ls : List Nat} (h1 : s.touches d) (h2 : d ∈ ls) : s.free (.read bs ls) = false ∧ (Tag.read bs ls).free s = false := by
  cases s <;> first
    | exact h1.elim
    | (obtain rfl : _ = d := h1; exact ⟨by simp [Tag.free, h2], by simp [Tag.free, h2]⟩)

include hT hD hi hn hready in
theorem Done.locAt {d : Nat} (h : (tg i).touches d ∨ ∃ bs ls, tg i = .read bs ls ∧ d ∈ ls) : f.loc.get d = (F i).loc.get d := by
  obtain ⟨m, h1, h2, h3⟩ := hD.loc d
  have hnf : ∀ s : Tag, s.touches d → s.free (tg i) = false ∧ (tg i).free s = false := fun s hs => by
    rcases h with h | ⟨bs, ls, e, hd⟩
    · exact ⟨touch_touch hs h, touch_touch h hs⟩
    · rw [e]; exact touch_read hs hd
  rw [h3]
  rcases Nat.le_total m i with hm | hm
  · refine (hT.loc m i hm (Nat.le_of_lt hi) fun j h4 h5 h6 => ?_).symm
    have := (h2 j (by omega) h6).1 (Done.ahead hT hready h5 hi (hnf _ h6).1)
    omega
  · refine hT.loc i m hm h1 fun j h4 h5 h6 => ?_
    have hL := (h2 j (by omega) h6).2 h5
    by_cases e : j = i
    · rw [e] at hL; exact hn hL
    · exact Done.behind hT hD hn (by omega) (by omega) (hnf _ h6).2 hL
include hT hD hi hn hready in
theorem Done.heapAt (h : (tg i).isEff) : K = Hh i := by
  obtain ⟨m, h1, h2, h3⟩ := hD.heap
  rw [h3]
  rcases Nat.le_total m i with hm | hm
  · refine (hT.heap m i hm (Nat.le_of_lt hi) fun j h4 h5 h6 => ?_).symm
    have := (h2 j (by omega) h6).1 (Done.ahead hT hready h5 hi (eff_eff h6 h))
    omega
  · refine hT.heap i m hm h1 fun j h4 h5 h6 => ?_
    have hL := (h2 j (by omega) h6).2 h5
    by_cases e : j = i
    · rw [e] at hL; exact hn hL
    · exact Done.behind hT hD hn (by omega) (by omega) (eff_eff h h6) hL
include hT hD hi hn hready hC h0 in
theorem Done.sameAt {bs ls : List Nat} (h : tg i = .read bs ls) {b : Nat} (hb : b ∈ bs) : SameB (Hh i) K b := by
  obtain ⟨m, h1, h2, h3⟩ := hD.heap
  rw [h3]
  rcases Nat.le_total m i with hm | hm
  · refine (hT.same m i hm (Nat.le_of_lt hi) fun j h4 h5 h6 => ?_).symm
    have hnL : ¬ L j := fun hL => by have := (h2 j (by omega) h6).1 hL; omega
    rcases hT.free j i h5 hi with h7 | h7
    · exact (hnL (hready j h7)).elim
    · rw [h] at h7
      exact hT.free_same hC h0 (by omega) h6 (.inl h7) hb
  · refine hT.same i m hm h1 fun j h4 h5 h6 => ?_
    have hL := (h2 j (by omega) h6).2 h5
    by_cases e : j = i
    · rw [e] at hL; exact (hn hL).elim
    · rcases hT.free i j (by omega) (by omega) with h7 | h7
      · exact (hn (hD.closed j (by omega) hL i h7)).elim
      · rw [h] at h7
        exact hT.free_same hC h0 (by omega) h6 (.inr h7) hb

include hT hR hC h0 hD hi ho hn hready in
theorem Done.agree : Agree o (tg i) (F i) f (Hh i) K := by
  have hregs := Done.regs hT hR hD hi ho hn hready
  have hnt := hT.nt i (Nat.le_of_lt hi)
  refine ⟨fun x hx => ?_, Done.heapAt hT hD hi hn hready, fun bs ls e => ⟨fun b hb => Done.sameAt hT hC h0 hD hi hn hready e hb, fun d hd => Done.locAt hT hD hi hn hready (.inr ⟨bs, ls, e, hd⟩)⟩, fun d hd => Done.locAt hT hD hi hn hready (.inl hd)⟩
  cases x with
  | tmp t =>
    have : t ∈ o.looksAt ops := List.mem_append_left _ (List.mem_filterMap.2 ⟨.tmp t, by simpa using hx, rfl⟩)
    simp only [Fr.ev, hregs t this]
  | const v => rfl
  | global g => simp only [Fr.ev, hD.nt.2, hnt.2]
  | func g => rfl

/-- One more operation is done. -/
theorem Done.step (hT : Trace T callF promo ops (Region.before ops) F Hh tg rs) (hR : RegOk ops) (hD : Done ops F Hh tg rs L f K) (hi : i < ops.size) (hn : ¬ L i) (hready : ∀ j, ((Region.before ops).getD i 0).testBit j = true → L j)
    {fr0 f' : Fr} {K' : VH} (hm : Moved (tg i) (F i) fr0 f f' (Hh i) (Hh (i + 1)) K K') (hF : F (i + 1) = fr0.put (dstAt ops i) (rs i)) : Done ops F Hh tg rs (fun j => L j ∨ j = i) (f'.put (dstAt ops i) (rs i)) K' := by
  obtain ⟨p1, p2, p3⟩ := put_loc f' (dstAt ops i) (rs i)
  have hnt : f'.nt = (F 0).nt := by rw [hm.regs'.2.1]; exact hD.nt.1
  refine ⟨⟨by rw [p2]; exact hnt, by rw [p3, hm.regs'.2.2]; exact hD.nt.2⟩, fun j hj hL t ht hlt => ?_, fun t ht => ?_, fun d => ?_, ?_, fun j hj hL k hk => ?_⟩
  · rw [put_get]
    by_cases e : j = i
    · subst e
      rw [if_pos ⟨ht, by rw [hnt]; exact hlt⟩]
    · rw [if_neg fun h => e (hR.dsts j i t hj hi ht h.1), hm.regs'.1]
      exact hD.wrote j hj (hL.resolve_right e) t ht hlt
  · rw [put_get, if_neg, hm.regs'.1]
    · exact hD.kept t fun j hj hL e => ht j hj (.inl hL) e
    · rintro ⟨e, hlt⟩
      have := ht i hi (.inr rfl) e
      omega
  · rw [p1]
    by_cases htd : (tg i).touches d
    · refine ⟨i + 1, hi, fun j hj hjd => ?_, ?_⟩
      · constructor
        · rintro (hL | rfl)
          · rcases Nat.lt_or_ge i j with hlt | hge
            · exact (Done.behind hT hD hn hlt hj (touch_touch htd hjd) hL).elim
            · omega
          · omega
        · intro hlt
          by_cases e : j = i
          · exact .inr e
          · exact .inl (Done.ahead hT hready (by omega) hi (touch_touch hjd htd))
      · rw [hm.own d htd, hF, (put_loc _ _ _).1]
    · obtain ⟨m, h1, h2, h3⟩ := hD.loc d
      refine ⟨m, h1, fun j hj hjd => ?_, by rw [(hm.loc d htd).2]; exact h3⟩
      have : j ≠ i := fun e => htd (e ▸ hjd)
      rw [← h2 j hj hjd]
      exact ⟨fun h => h.resolve_right this, .inl⟩
  · by_cases hte : (tg i).isEff
    · refine ⟨i + 1, hi, fun j hj hjd => ?_, hm.eff hte⟩
      constructor
      · rintro (hL | rfl)
        · rcases Nat.lt_or_ge i j with hlt | hge
          · exact (Done.behind hT hD hn hlt hj (eff_eff hte hjd) hL).elim
          · omega
        · omega
      · intro hlt
        by_cases e : j = i
        · exact .inr e
        · exact .inl (Done.ahead hT hready (by omega) hi (eff_eff hjd hte))
    · obtain ⟨m, h1, h2, h3⟩ := hD.heap
      refine ⟨m, h1, fun j hj hjd => ?_, by rw [(hm.heap hte).2]; exact h3⟩
      have : j ≠ i := fun e => hte (e ▸ hjd)
      rw [← h2 j hj hjd]
      exact ⟨fun h => h.resolve_right this, .inl⟩
  · rcases hL with hL | rfl
    · exact .inl (hD.closed j hj hL k hk)
    · exact .inl (hready k hk)
end
end Go.Vm
/-! The regions that draw their order against the model's. -/
namespace Go.Vm
set_option linter.unusedSimpArgs false
set_option linter.unusedVariables false
set_option linter.unusedSectionVars false

theorem countP_lt {α : Type} (p q : α → Bool) (h : ∀ x, q x = true → p x = true) : ∀ (l : List α) (i : α), i ∈ l → p i = true → q i = false → l.countP q < l.countP p
  | [], _, hm, _, _ => by cases hm
  | x :: l, i, hm, hp, hq => by
    have hle : ∀ l : List α, l.countP q ≤ l.countP p := fun l => List.countP_mono_left fun x _ hx => h x hx
    rcases List.mem_cons.1 hm with rfl | hm
    · rw [List.countP_cons, List.countP_cons]
      simp only [hp, hq, if_true]
      have := hle l
      simp
      omega
    · have ih := countP_lt p q h l i hm hp hq
      rw [List.countP_cons, List.countP_cons]
      have : (if q x = true then 1 else 0) ≤ (if p x = true then 1 else 0) := by
        by_cases hx : q x = true
        · simp [hx, h x hx]
        · simp [hx]
      omega

section
variable {ops : Array Oper} {listed : Array Bool}
theorem ready_spec (i : Nat) : i ∈ Region.ready .any ops listed ↔ i < ops.size ∧ listed.getD i true = false ∧ ∃ o, ops[i]? = some o ∧ ∀ e ∈ o.after.toList, Region.binds .any e = true → listed.getD e.on false = true := by
  unfold Region.ready
  rw [List.mem_filter, List.mem_range]
  refine and_congr_right fun hi => ?_
  rw [Bool.and_eq_true, Bool.not_eq_true']
  refine and_congr_right fun _ => ?_
  rw [Array.getElem?_eq_getElem hi]
  simp only [Option.map_some, Option.getD_some, Option.some.injEq, exists_eq_left', Array.all_eq_true_iff_forall_mem, Array.mem_toList_iff]
  constructor
  · intro h e he hb
    have := h e he
    simpa [hb] using this
  · intro h e he
    cases hb : Region.binds .any e with
    | false => rfl
    | true => simp [h e he hb]
theorem getD_false_true (hs : listed.size = ops.size) {i : Nat} (hi : i < ops.size) : listed.getD i true = listed.getD i false := by
  rw [Array.getD_eq_getD_getElem?, Array.getD_eq_getD_getElem?, Array.getElem?_eq_getElem (by omega)]
  rfl
theorem getD_set (hs : listed.size = ops.size) {i : Nat} (hi : i < ops.size) (j : Nat) (b : Bool) : (listed.setIfInBounds i true).getD j b = if j = i then true else listed.getD j b := by
  rw [Array.getD_eq_getD_getElem?, Array.getD_eq_getD_getElem?, Array.getElem?_setIfInBounds]
  by_cases e : i = j
  · subst e; simp [hs, hi]
  · rw [if_neg e, if_neg (fun h => e h.symm)]
/-- If nothing is ready, all is done. -/
theorem ready_nil (hR : RegOk ops) (hs : listed.size = ops.size) (h : Region.ready .any ops listed = []) : ∀ i, i < ops.size → listed.getD i false = true := by
  intro i
  induction i using Nat.strongRecOn with
  | _ i ih =>
    intro hi
    cases hl : listed.getD i false with
    | true => rfl
    | false =>
      have : i ∈ Region.ready .any ops listed := (ready_spec i).2 ⟨hi, by rw [getD_false_true hs hi]; exact hl, ops[i], Array.getElem?_eq_getElem hi, fun e he hb => by
        have hlt := hR.edges i ops[i] (Array.getElem?_eq_getElem hi) e he hb
        exact ih e.on hlt (by omega)⟩
      rw [h] at this
      cases this
end

theorem guard_congr {ops : Array Oper} {o : Oper} {f g : Fr} (h : ∀ t ∈ o.looksAt ops, f.regs.get t = g.regs.get t) : guardOf ops o f = guardOf ops o g := by
  unfold guardOf
  split
  · rfl
  · rename_i j want e
    split
    · rfl
    · rename_i d e2
      rw [h d (List.mem_append_right _ (by simp [e, e2]))]

section
variable {T : Tb} {P : Program} (hT : TbOk T P) {callF : Nat → List AV → VH → Option (AV × VH)} (hC : CallsOk P T callF) (hCH : CallsHs callF) {promo : Nat → Bool} {ops : Array Oper} (hR : RegOk ops)
variable {ρ0 : Rho} {w0 : World} {H0 : VH} {G : Nat → Prop} {n0 : Nat} {F : Nat → Fr} {Hh : Nat → VH} {tg : Nat → Tag} {rs : Nat → RV} (hTr : Trace T callF promo ops (Region.before ops) F Hh tg rs) (hwf : WfH (Hh 0))

include hT hC hCH hR hTr hwf in
theorem any_sim {Q : Exit → Act → World → Prop} (hQ : ∀ a w ρ lam, Inv T ρ0 w0 H0 G n0 (F ops.size) (Hh ops.size) a w ρ lam → Q .normal a w) :
    ∀ (fuel : Nat) (listed : Array Bool) (a : Act) (w : World) (f : Fr) (K : VH) (ρ : Rho) (lam : Nat → Option Nat), listed.size = ops.size → (List.range ops.size).countP (fun i => !listed.getD i true) ≤ fuel →
      Done ops F Hh tg rs (fun i => listed.getD i false = true) f K → Inv T ρ0 w0 H0 G n0 f K a w ρ lam → wpAny P .any ops Q fuel listed a w := by
  have fin : ∀ (listed : Array Bool) (a : Act) (w : World) (f : Fr) (K : VH) (ρ : Rho) (lam : Nat → Option Nat), listed.size = ops.size → (∀ i, i < ops.size → listed.getD i false = true) →
      Done ops F Hh tg rs (fun i => listed.getD i false = true) f K → Inv T ρ0 w0 H0 G n0 f K a w ρ lam → Q .normal a w := by
    intro listed a w f K ρ lam hs hall hD hI
    obtain ⟨h1, h2, h3, h4, rfl⟩ := Done.finish hTr hR hD hall
    exact hQ a w ρ lam ⟨hI.post, hI.frame.congr h1 h2 h3 h4, hI.mem, hI.heap, hI.defers, hI.low, hI.glob⟩
  intro fuel
  induction fuel with
  | zero =>
    intro listed a w f K ρ lam hs hcnt hD hI
    have hall : ∀ i, i < ops.size → listed.getD i false = true := fun i hi => by
      have h0 : (List.range ops.size).countP (fun i => !listed.getD i true) = 0 := by omega
      rw [List.countP_eq_zero] at h0
      have := h0 i (List.mem_range.2 hi)
      rw [← getD_false_true hs hi]
      simpa using this
    refine ⟨?_, fin listed a w f K ρ lam hs hall hD hI⟩
    apply List.eq_nil_iff_forall_not_mem.2
    intro i hm
    obtain ⟨hi, h1, _⟩ := (ready_spec i).1 hm
    rw [getD_false_true hs hi, hall i hi] at h1
    cases h1
  | succ fuel ih =>
    intro listed a w f K ρ lam hs hcnt hD hI
    refine ⟨fun hnil => fin listed a w f K ρ lam hs (ready_nil hR hs hnil) hD hI, fun i hm => ?_⟩
    obtain ⟨hi, hun, o, ho, hafter⟩ := (ready_spec i).1 hm
    have hn : ¬ listed.getD i false = true := by rw [← getD_false_true hs hi, hun]; simp
    have hready : ∀ j, ((Region.before ops).getD i 0).testBit j = true → listed.getD j false = true := by
      intro j hj
      obtain ⟨e, he, hb, h1⟩ := before_spec ho hj
      have hl := hafter e he hb
      rcases h1 with rfl | h1
      · exact hl
      · refine hD.closed e.on ?_ hl j h1
        have := hR.edges i o ho e he hb
        omega
    have hdst : dstAt ops i = o.dst := by simp [dstAt, ho]
    have next : ∀ (fr0 f' : Fr) (K' : VH) (a' : Act) (w' : World) (ρ' : Rho) (lam' : Nat → Option Nat), Moved (tg i) (F i) fr0 f f' (Hh i) (Hh (i + 1)) K K' → F (i + 1) = fr0.put (dstAt ops i) (rs i) →
        Inv T ρ0 w0 H0 G n0 (f'.put o.dst (rs i)) K' a' w' ρ' lam' → wpAny P .any ops Q fuel (listed.setIfInBounds i true) a' w' := by
      intro fr0 f' K' a' w' ρ' lam' hmv hF hI'
      have hD' := Done.step hTr hR hD hi hn hready hmv hF
      rw [hdst] at hD'
      refine ih _ a' w' _ K' ρ' lam' (by simp [hs]) ?_ ?_ hI'
      · have := countP_lt (fun j => !listed.getD j true) (fun j => !(listed.setIfInBounds i true).getD j true) (fun j hj => by
          rw [getD_set hs hi] at hj
          split at hj
          · cases hj
          · exact hj) (List.range ops.size) i (List.mem_range.2 hi) (by simp [hun]) (by rw [getD_set hs hi]; simp)
        omega
      · have e : (fun j => (listed.setIfInBounds i true).getD j false = true) = (fun j => listed.getD j false = true ∨ j = i) := by
          funext j
          rw [getD_set hs hi]
          by_cases e : j = i
          · simp [e]
          · simp [e]
        rw [e]
        exact hD'
    have hregs := Done.regs hTr hR hD hi ho hn hready
    unfold wpOp
    simp only [ho]
    obtain ⟨o', ho', h | h⟩ := hTr.step i hi
    · rw [ho] at ho'
      obtain rfl := Option.some.inj ho'
      obtain ⟨hg, fr0, hst, htg, hF⟩ := h
      rw [← guard_congr hregs] at hg
      rw [guard_sim hI.frame hg]
      simp only [if_true]
      have hA := Done.agree hTr hR hCH hwf hD hi ho hn hready
      rw [htg] at hA
      obtain ⟨f', K', h1, h2⟩ := step_local hst hA
      rw [← htg] at h2
      exact .inl (step_sim hT hC hI.glob hI.frame hI.mem hI.low h1 fun u w' ρ' lam' hgot => next fr0 f' K' _ _ _ _ h2 (by rw [hdst]; exact hF) (hI.got hgot o.dst))
    · rw [ho] at ho'
      obtain rfl := Option.some.inj ho'
      obtain ⟨hg, hrs, htg, hH, hF⟩ := h
      rw [← guard_congr hregs] at hg
      rw [guard_sim hI.frame hg]
      simp only [Bool.false_eq_true, if_false]
      refine next (F i) f K _ _ _ _ ?_ (by rw [hdst]; exact hF) (by rw [hrs]; exact hI.skip o.dst)
      rw [htg, hH]
      exact .quiet (fun _ h => h) (fun h => h)
end

theorem draw_ok {T : Tb} {P : Program} (hT : TbOk T P) {callF : Nat → List AV → VH → Option (AV × VH)} (hC : CallsOk P T callF) (hCH : CallsHs callF) {promo : Nat → Bool} {ops : Array Oper} (hR : RegOk ops) : DrawOk P T callF promo ops := by
  intro id ρ0 w0 H0 G n0 fr H ex fr' H' a w ρ lam Q h hI hQ
  unfold cRegion at h
  simp only at h
  split at h
  · rename_i fr1 H1 h1
    simp only [Option.some.injEq, Prod.mk.injEq] at h
    obtain ⟨rfl, rfl, rfl⟩ := h
    obtain ⟨F, Hh, tg, rs, e1, e2, e3, e4, _, e6, e7⟩ := trace_of (bef := Region.before ops) ops.toList 0 [] fr H rfl (Nat.zero_le _) rfl h1
    subst e1 e2 e3 e4
    have hTr : Trace T callF promo ops (Region.before ops) F Hh tg rs := ⟨fun k hk => e6 k (Nat.zero_le _) hk, fun i k hik hk => e7 i k hik (Nat.zero_le _) hk⟩
    refine wp_region_any hT.mixed (any_sim hT hC hCH hR hTr (fun b x hx => hI.mem.lt b x hx) (fun a w ρ lam hI' => hQ a w ρ lam hI') ops.size _ a _ _ _ ρ lam (by simp) ?_ ?_ hI.drawn)
    · refine Nat.le_trans List.countP_le_length ?_
      simp
    · have : (fun i => (Array.replicate ops.size false).getD i false = true) = fun _ => False := by
        funext i
        rw [Array.getD_eq_getD_getElem?]
        by_cases hi : i < ops.size
        · simp [hi]
        · simp [hi]
      rw [this]
      exact Done.start hTr
  · cases h

/-! ## The check of a region's text -/
def idxAll (p : Nat → Oper → Bool) : Nat → List Oper → Bool
  | _, [] => true
  | k, o :: os => p k o && idxAll p (k + 1) os
theorem idxAll_spec {p : Nat → Oper → Bool} : ∀ {os : List Oper} {k : Nat}, idxAll p k os = true → ∀ i o, os[i]? = some o → p (k + i) o = true
  | [], _, _, i, o, h => by simp at h
  | x :: os, k, h, i, o, ho => by
    simp only [idxAll, Bool.and_eq_true] at h
    cases i with
    | zero => simp only [List.getElem?_cons_zero, Option.some.injEq] at ho; subst ho; exact h.1
    | succ i =>
      have := idxAll_spec h.2 i o (by simpa using ho)
      rwa [show k + 1 + i = k + (i + 1) by omega] at this

/-- Two operations of a region: different results; and what one looks at of the other is ordered. -/
def pairOk (ops : Array Oper) (bef : Array Nat) (i : Nat) (x : Oper) (j : Nat) (y : Oper) : Bool :=
  match Nat.beq i j, x.dst with
  | true, _ => true
  | false, none => true
  | false, some d =>
    !(y.dst == some d) && (!(y.looksAt ops).contains d || (if Nat.blt i j then (bef.getD j 0).testBit i else (bef.getD i 0).testBit j))
def edgesOk (k : Nat) (o : Oper) : Bool := o.after.toList.all fun e => !Region.binds .any e || Nat.blt e.on k
def regOk (ops : Array Oper) : Bool :=
  idxAll edgesOk 0 ops.toList && idxAll (fun i x => idxAll (pairOk ops (Region.before ops) i x) 0 ops.toList) 0 ops.toList
theorem regOk_spec {ops : Array Oper} (h : regOk ops = true) : RegOk ops := by
  simp only [regOk, Bool.and_eq_true] at h
  obtain ⟨h1, h2⟩ := h
  have pair : ∀ i j x y, ops[i]? = some x → ops[j]? = some y → pairOk ops (Region.before ops) i x j y = true := fun i j x y hx hy => by
    have := idxAll_spec h2 i x (by simpa using hx)
    rw [Nat.zero_add] at this
    have := idxAll_spec this j y (by simpa using hy)
    rwa [Nat.zero_add] at this
  refine ⟨fun k o ho e he hb => ?_, fun i j d hi hj hdi hdj => ?_, fun i j d o hi hne hd ho hl => ?_⟩
  · have := idxAll_spec h1 k o (by simpa using ho)
    rw [Nat.zero_add] at this
    have := List.all_eq_true.1 this e he
    simpa [hb] using this
  · have hx := Array.getElem?_eq_getElem hi
    have hy := Array.getElem?_eq_getElem hj
    have hp := pair i j _ _ hx hy
    simp only [dstAt, hx, hy, Option.bind_some] at hdi hdj
    by_cases e : i = j
    · exact e
    · exfalso
      have e' : Nat.beq i j = false := by
        cases hb : Nat.beq i j with
        | false => rfl
        | true => exact (e (Nat.eq_of_beq_eq_true hb)).elim
      simp [pairOk, e', hdi, hdj] at hp
  · have hx := Array.getElem?_eq_getElem hi
    have hp := pair i j _ _ hx ho
    simp only [dstAt, hx, Option.bind_some] at hd
    have e' : Nat.beq i j = false := by
      cases hb : Nat.beq i j with
      | false => rfl
      | true => exact (hne (Nat.eq_of_beq_eq_true hb)).elim
    simp only [pairOk, e', hd, Bool.and_eq_true, Bool.or_eq_true] at hp
    have hc : (o.looksAt ops).contains d = true := List.contains_iff_mem.2 hl
    rw [hc] at hp
    have hp2 := hp.2.resolve_left (by simp)
    refine ⟨fun hlt => ?_, fun hlt => ?_⟩
    · rw [if_pos (by simpa using hlt)] at hp2; exact hp2
    · rw [if_neg (by simp; omega)] at hp2; exact hp2

/-- The check of a function's text. -/
noncomputable def codeOk (c : Code) : Bool :=
  Code.rec (motive := fun _ => Bool) true (fun _ ops d => match d with | true => regOk ops | false => true) (fun _ _ a b => a && b) (fun _ _ _ a b => a && b) (fun _ _ c => c)
    (fun _ c => c) (fun _ _ _ _ _ _ => true) (fun _ => true) (fun _ _ => true) (fun _ => true) (fun _ => true) true (fun _ => true) c
theorem codeOk_spec {T : Tb} {P : Program} (hT : TbOk T P) {callF : Nat → List AV → VH → Option (AV × VH)} (hC : CallsOk P T callF) (hCH : CallsHs callF) {promo : Nat → Bool} : ∀ c, codeOk c = true → allDraw (DrawOk P T callF promo) c
  | .skip, _ => trivial
  | .region _ ops d, h => fun hd => by subst hd; exact draw_ok hT hC hCH (regOk_spec h)
  | .seq a b, h => by
    have : (codeOk a && codeOk b) = true := h
    simp only [Bool.and_eq_true] at this
    exact ⟨codeOk_spec hT hC hCH a this.1, codeOk_spec hT hC hCH b this.2⟩
  | .cond _ a b, h => by
    have : (codeOk a && codeOk b) = true := h
    simp only [Bool.and_eq_true] at this
    exact ⟨codeOk_spec hT hC hCH a this.1, codeOk_spec hT hC hCH b this.2⟩
  | .block _ c, h => codeOk_spec hT hC hCH c h
  | .loop c, h => codeOk_spec hT hC hCH c h
  | .rangeFunc .., _ => trivial
  | .exit _, _ => trivial
  | .scope _, _ => trivial
  | .label _, _ => trivial
  | .goto _, _ => trivial
  | .ret, _ => trivial
  | .refuse _, _ => trivial
end Go.Vm
/-! The abstract machine's calls against the model's: the whole. -/
namespace Go.Vm
set_option linter.unusedSimpArgs false
set_option linter.unusedVariables false
set_option linter.unusedSectionVars false

/-- What is asked of the program's regions that draw their order. -/
def DrawsOk (T : Tb) : Prop := ∀ f F c, T.fn.get f = some F → F.body = some c → codeOk c = true

theorem calls_ok {T : Tb} {P : Program} (hT : TbOk T P) {ext : Nat → Option (VH → List AV → Option XR)} (hX : ExtOk T P ext) {promo : Nat → Nat → Bool} (hD : DrawsOk T) : ∀ n, CallsOk P T (vcall T ext promo n)
  | 0 => fun f vals H v H' h => by cases h
  | n + 1 => by
    have ih := calls_ok (promo := promo) hT hX hD n
    intro f vals H v H' h ρ G w args hH hv hg
    change callStep T ext promo n (vcall T ext promo n) f vals H = some (v, H') at h
    unfold callStep at h
    split at h
    · rename_i g he
      have key : ∀ x, g H vals = some x → (∀ u w', XOk ρ w x u w' → ∃ ρ', Post ρ ρ' (fun _ => False) w w' ∧ RelH ρ' G H' w' ∧ VR ρ' v u ∧ Hs H H') → Answers P f args w fun u w' => ∃ ρ', Post ρ ρ' (fun _ => False) w w' ∧ RelH ρ' G H' w' ∧ VR ρ' v u ∧ Hs H H' := by
        intro x hx mono
        have := hX f g he H vals x hx ρ G w args hH hg hv
        unfold Answers at *
        split at this
        · exact Calls.mono this fun e w2 he => by
            cases e with
            | returned u => exact mono _ _ he
            | panicked ch => exact he
            | outgrown => exact he
        · exact mono _ _ this
        · exact this
      split at h
      · rename_i x hx
        simp only [Option.some.injEq, Prod.mk.injEq] at h
        obtain ⟨rfl, rfl⟩ := h
        exact key _ hx fun u w' ⟨h1, h2, h3⟩ => ⟨ρ, h1, hH.grown h1.size (fun b pl hb => h2 b pl hb (hH.has b pl hb).2.1) (fun k hk => h1.frame k (hH.qlt k hk) (fun _ _ _ _ => hk) (fun h => h)), h3, .refl _⟩
      · rename_i k e hx
        simp only [Option.some.injEq, Prod.mk.injEq] at h
        obtain ⟨rfl, rfl⟩ := h
        refine key _ hx fun u w' ⟨cs, g1, g2, g3, g4, g5, g6⟩ => ?_
        have hm := blank_sim hH cs e
        exact ⟨_, post_of (post_alloc hH (.cells cs e) H.next cs.size (Nat.le_refl _)) g3 g4 g5 g6, hm.of_heap g3, by
          rw [g2]
          exact ⟨_, 0, cs.size, Rho.set_same _ _ _, rfl, g1, (fun c' e => by cases e), (fun _ => rfl), (by show 0 + cs.size * 1 ≤ cs.size; omega)⟩, .blank _ _⟩
      · cases h
    · split at h
      · cases h
      · rename_i fn hfn
        split at h
        · cases h
        · rename_i c hc
          split at h
          · rename_i hle
            have hle0 := Nat.le_of_ble_eq_true hle
            obtain ⟨ρ0, p0, r0, v0, s0⟩ := frzArgs_ok (promo f (fn.ntmps + 1)) hH hv
            have hle' : (frzArgs (promo f (fn.ntmps + 1)) vals H).1.length ≤ fn.ntmps := by rw [frzArgs_len]; exact hle0
            have hg0 := hg.mono p0.le
            unfold callStep.runStep at h
            generalize (frzArgs (promo f (fn.ntmps + 1)) vals H).1 = vals0 at *
            generalize (frzArgs (promo f (fn.ntmps + 1)) vals H).2 = H0 at *
            have hf := hT.fn f fn hfn
            have hnm := hT.named f fn hfn
            have hrun : (callFunc f args).run P w = .ok (.enter f args) w := by
              simp only [callFunc, Sem.run_bind, run_program, Result.andThen, hf, hnm, hc, Option.isNone_some, Bool.false_eq_true, if_false, Sem.run_pure]
            unfold Answers
            rw [hrun]
            simp only
            refine calls_of_wp hf hc ?_
            have hI : Inv T ρ0 w { H0 with low := H0.next } G w.heap.size (enterFr T.gl fn.ntmps vals0) { H0 with low := H0.next } { tmps := args ++ Array.replicate (fn.ntmps - args.size) undef, defers := [] } w ρ0 (fun _ => none) :=
              ⟨.refl _ _ _, enter_frame v0 hle' hg0, r0.low _, .refl _, rfl, Nat.le_refl _, hg0⟩
            have hcode := code_ok (promo := promo f) hT ih n c (codeOk_spec hT ih (vcall_hs T ext promo n) c (hD f fn c hfn hc))
            have fin : ∀ fr' H1 a' w' ρ' lam', callStep.retStep T (promo f fn.ntmps) fn fr' H0 H1 = some (v, H') → Inv T ρ0 w { H0 with low := H0.next } G w.heap.size fr' H1 a' w' ρ' lam' →
                a'.defers = [] ∧ ∃ u, (results fn a'.tmps).run P w' = .ok u w' ∧ ∃ ρ', Post ρ ρ' (fun _ => False) w w' ∧ RelH ρ' G H' w' ∧ VR ρ' v u ∧ Hs H H' := by
              intro fr' H1 a' w' ρ' lam' hr hI'
              unfold callStep.retStep at hr
              split at hr
              · rename_i vs hvs
                simp only [back, Option.some.injEq, Prod.mk.injEq] at hr
                obtain ⟨rfl, rfl⟩ := hr
                obtain ⟨u, h1, h2⟩ := results_ok (P := P) hT hI'.frame hI'.mem fn hvs
                obtain ⟨ρ2, p2, r2, v2, s2⟩ := frzV_ok (promo f fn.ntmps) hI'.mem h2
                obtain ⟨ρ3, p3, r3, v3, s3⟩ := leave_ok r0 (hI'.heap.trans s2) (hI'.post.trans (p2.mono fun _ h => h.elim)) r2 v2
                exact ⟨hI'.defers, u, h1, ρ3, p0.trans p3, r3, v3, s0.trans s3⟩
              · cases hr
            split at h
            · rename_i fr' H1 hr
              exact hcode _ _ _ _ _ _ _ _ _ _ _ _ _ _ _ hr hI fun a' w' ρ' lam' hI' => fin _ _ _ _ _ _ h hI'
            · rename_i fr' H1 hr
              exact hcode _ _ _ _ _ _ _ _ _ _ _ _ _ _ _ hr hI fun a' w' ρ' lam' hI' => fin _ _ _ _ _ _ h hI'
            · cases h
          · cases h

/-! ## Checks of tables -/
namespace Tr
variable {α : Type}
def optAll (p : α → Bool) : Option α → Bool
  | some x => p x
  | none => true
noncomputable def all (p : α → Bool) (t : Tr α) : Bool :=
  Tr.rec (motive := fun _ => Bool) true (fun _ v _ l r => optAll p v && (l && r)) t
theorem all_spec (p : α → Bool) : ∀ (t : Tr α), all p t = true → ∀ k x, t.get k = some x → p x = true
  | .leaf, _, k, x, h => by rw [get_leaf] at h; cases h
  | .node l v r, ha, k, x, h => by
    have ha' : (optAll p v && (all p l && all p r)) = true := ha
    simp only [Bool.and_eq_true] at ha'
    cases k with
    | zero =>
      rw [get_node_zero] at h
      subst h
      exact ha'.1
    | succ k =>
      rw [get_node_succ] at h
      split at h
      · exact all_spec p l ha'.2.1 _ x h
      · exact all_spec p r ha'.2.2 _ x h
end Tr
noncomputable def fnOk (F : Func) : Bool :=
  !(F.name == "runtime.NumGoroutine") && (match F.body with | some c => codeOk c | none => true)

/-- A table of types, held against the program's. -/
structure TabOk (T : Tb) (P : Program) : Prop where
  ty : ∀ t i, T.ty.get t = some i → P.info? t = some i
  fn : ∀ f F, T.fn.get f = some F → P.funcs[f]? = some F
  ok : T.fn.all fnOk = true
  eq : ∀ t, T.eqOk t = true → P.stoodInHeld t = false ∧ P.eqGuardType P.depth t = false
  mixed : P.follows .mixedOrders = true
  fields : ∀ t fs, T.und t = some (.struct fs) → ∀ f ∈ fs.toList, ∃ i, P.info? f.type = some i
  lies : ∀ e o u, T.liesB e o u = true → liesAt P P.depth e 1 o u 1 = true
theorem TabOk.tb {T : Tb} {P : Program} (h : TabOk T P) : TbOk T P where
  ty := h.ty
  fn := h.fn
  named := fun f F hf => by
    have := Tr.all_spec _ _ h.ok f F hf
    simp only [fnOk, Bool.and_eq_true, Bool.not_eq_true'] at this
    exact this.1
  eq := h.eq
  mixed := h.mixed
  fields := h.fields
  lies := h.lies
theorem TabOk.draws {T : Tb} {P : Program} (h : TabOk T P) : DrawsOk T := fun f F c hf hc => by
  have := Tr.all_spec _ _ h.ok f F hf
  simp only [fnOk, hc, Bool.and_eq_true] at this
  exact this.2

/-- The empty heap. -/
def VH.empty (n : Nat) : VH := ⟨n, .leaf, .leaf, n⟩
end Go.Vm
