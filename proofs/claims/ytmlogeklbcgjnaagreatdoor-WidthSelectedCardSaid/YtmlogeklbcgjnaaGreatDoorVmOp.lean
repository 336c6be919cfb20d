/- Operations on maps; every operation: the abstract ones against the model's. -/
import Derived.Test.YtmlogeklbcgjnaaGreatDoorVmSim
namespace Go.Vm
set_option linter.unusedSimpArgs false
set_option linter.unusedVariables false
set_option linter.unusedSectionVars false
theorem list_modify_set {α : Type} (f : α → α) : ∀ (l : List α) (i : Nat) (y : α), l[i]? = some y → l.modify i f = l.set i (f y)
  | [], i, y, h => by simp at h
  | x :: l, 0, y, h => by
    obtain rfl : x = y := by simpa using h
    rfl
  | x :: l, i + 1, y, h => by simp only [List.modify_succ_cons, List.set_cons_succ]; rw [list_modify_set f l i y (by simpa using h)]
theorem arr_findIdx {α : Type} (a : Array α) (p : α → Bool) : a.findIdx? p = a.toList.findIdx? p := by
  rcases a with ⟨l⟩
  simp
section
variable {ρ : Rho} {G : Nat → Prop} {n0 : Nat} {lam : Nat → Option Nat} {fr : Fr} {a : Act} {w : World}
variable {T : Tb} {P : Program} (hT : TbOk T P) {H : VH} (hF : RelF ρ G n0 lam fr a.tmps w) (hH : RelH ρ G H w) {o : Oper} {promo : Nat → Bool} {r : RV} {fr' : Fr} {H' : VH}
include hT hH in
theorem lookup_ok {t : Nat} {m k v : AV} {um uk : Value} {ok : Bool} (hm : VR ρ m um) (hk : VR ρ k uk) (h : vlookup T H t m k ok = some v) : ∃ u, (Instr.lookup t um uk ok).run P w = .ok u w ∧ VR ρ v u := by
  unfold vlookup at h
  split at h
  · rename_i kt et hu
    split at h
    · rename_i es hf he
      obtain ⟨d, hd, hkd⟩ := keyFit_spec hf
      have hck : ∀ e, (Instr.checkKey e 10000 kt uk).run P w = .ok () w := fun e => run_checkKey e (und_ok hT hd) hkd hk
      obtain ⟨vs, hvs, hget⟩ : ∃ vs : List MapEntry, MR ρ es vs ∧ ∀ (K : Array MapEntry → Sem Value), (∀ a : Array MapEntry, a.toList = vs → (K a).run P w = (K vs.toArray).run P w) → ((do
          let es ← match um with
            | .map none => pure #[]
            | .map (some r) => do
              let .map es _ ← getObj r | stuck "Lookup: map expected"
              pure es
            | _ => stuck "Lookup: map expected"
          K es) : Sem Value).run P w = (K vs.toArray).run P w := by
        rcases ments_ok hH hm he with ⟨rfl, rfl⟩ | ⟨r, a, c, rfl, h1, h2⟩
        · exact ⟨[], rfl, fun K _ => by simp⟩
        · exact ⟨a.toList, h2, fun K hK => by simp [run_getMap h1]⟩
      have hrun : (Instr.lookup t um uk ok).run P w = ((do
          Instr.checkKey (vs.toArray).isEmpty 10000 kt uk
          let (v, ok') ← match ← Instr.findKey kt uk vs with
            | some (_, v) => pure (v, true)
            | none => pure (← zeroValue et, false)
          pure (if ok then .tuple #[v, .bool ok'] else v)) : Sem Value).run P w := by
        unfold Instr.lookup
        simp only [Sem.run_bind, run_und hT hu w, Result.andThen]
        have := hget (fun es => (do
          Instr.checkKey es.isEmpty 10000 kt uk
          let (v, ok') ← match ← Instr.findKey kt uk es.toList with
            | some (_, v) => pure (v, true)
            | none => pure (← zeroValue et, false)
          pure (if ok then .tuple #[v, .bool ok'] else v))) (fun a ha => by subst ha; rfl)
        simp only [Sem.run_bind, Result.andThen] at this ⊢
        exact this
      rw [hrun]
      simp only [Sem.run_bind, hck, Result.andThen]
      split at h
      · rename_i j e z hq hz
        rcases mfind_ok hkd hk hvs hq with ⟨g, _⟩ | ⟨j', e', y, g1, g2, g3, g4, g5, g6, g7, g8⟩
        · cases g
        · obtain ⟨rfl, rfl⟩ := Prod.mk.inj (Option.some.inj g1)
          rw [run_findKey (und_ok hT hd) g8]
          cases ok with
          | true =>
            obtain rfl := Option.some.inj h
            exact ⟨_, rfl, #[y.val, .bool true], rfl, ⟨_, _, rfl, g5, _, _, rfl, rfl, rfl⟩⟩
          | false =>
            obtain rfl := Option.some.inj h
            exact ⟨_, rfl, g5⟩
      · rename_i z hq hz
        rcases mfind_ok hkd hk hvs hq with ⟨_, g⟩ | ⟨j', e', y, g1, _⟩
        · rw [run_findKey (und_ok hT hd) g]
          obtain ⟨vz, z1, z2, _⟩ := run_zero hT hz w
          simp only [Sem.run_bind, z1, Result.andThen]
          cases ok with
          | true =>
            obtain rfl := Option.some.inj h
            exact ⟨_, rfl, #[vz, .bool false], rfl, ⟨_, _, rfl, z2 ρ, _, _, rfl, rfl, rfl⟩⟩
          | false =>
            obtain rfl := Option.some.inj h
            exact ⟨_, rfl, z2 ρ⟩
        · cases g1
      · cases h
    · cases h
  · cases h

include hT hH in
theorem mapUpdate_ok {t : Nat} {m k v : AV} {um uk uv : Value} (hm : VR ρ m um) (hk : VR ρ k uk) (hv : VR ρ v uv) (h : vmapUpdate T H t m k v = some H') :
    ∃ w', (Instr.mapUpdate t um uk uv).run P w = .ok () w' ∧ Post ρ ρ (fun _ => False) w w' ∧ RelH ρ G H' w' ∧ Hs H H' := by
  unfold vmapUpdate at h
  split at h
  · rename_i kt et b hu
    obtain ⟨pl, hb, rfl⟩ := hm
    split at h
    · rename_i es c ver hf hq
      obtain ⟨d, hd, hkd⟩ := keyFit_spec hf
      obtain ⟨_, ⟨a, h1, h2⟩, hi⟩ := hH.map_of hb hq
      have hck : (Instr.checkKey false 10000 kt uk).run P w = .ok () w := run_checkKey false (und_ok hT hd) hkd hk
      split at h
      · rename_i j e hfd
        obtain rfl := Option.some.inj h
        rcases mfind_ok hkd hk h2 hfd with ⟨g, _⟩ | ⟨j', e', y, g1, g2, g3, g4, g5, g6, g7, g8⟩
        · cases g
        · obtain ⟨rfl, rfl⟩ := Prod.mk.inj (Option.some.inj g1)
          rw [Nat.zero_add] at g8 ⊢
          have hy : a[j']? = some y := by rw [← Array.getElem?_toList]; exact g3
          have hks : (Instr.keyThatStays y.key uk).run P w = .ok uk w := run_keyStays hk g4 g7
          have hlt : j' < a.size := (Array.getElem?_eq_some_iff.1 hy).1
          have hmod : (a.modify j' fun x => { x with key := uk, val := uv }).toList = a.toList.set j' { y with key := uk, val := uv } := by
            rw [Array.toList_modify]
            exact list_modify_set _ _ _ _ g3
          obtain ⟨s1, s2⟩ := mapSet_sim hH hb hq (mset ⟨k, v, e.born⟩ es j') c (a.modify j' fun x => { x with key := uk, val := uv }) (isIt_mset hi _ fun _ => hkd.ne) (by rw [hmod]; exact MR.set (x := ⟨k, v, e.born⟩) (y := { y with key := uk, val := uv }) hk hv g6 h2)
          refine ⟨_, ?_, s2, s1, .setMap _ _ (map?_get hq)⟩
          simp [Instr.mapUpdate, run_und hT hu w, run_getMap h1, hck, run_findKey (und_ok hT hd) g8, hy, hks, run_setMap _ h1]
      · rename_i hfd
        obtain rfl := Option.some.inj h
        rcases mfind_ok hkd hk h2 hfd with ⟨_, g⟩ | ⟨_, _, _, g1, _⟩
        · obtain ⟨s1, s2⟩ := mapSet_sim hH hb hq (es ++ [⟨k, v, c⟩]) (c + 1) (a.push { key := uk, val := uv, born := c }) (isIt_snoc hi hkd.ne) (by
            rw [Array.toList_push]
            exact MR.append h2 ⟨_, [], rfl, hk, hv, rfl, rfl⟩)
          refine ⟨_, ?_, s2, s1, .setMap _ _ (map?_get hq)⟩
          simp [Instr.mapUpdate, run_und hT hu w, run_getMap h1, hck, run_findKey (und_ok hT hd) g, run_setMap _ h1]
        · cases g1
      · cases h
    · cases h
  · cases h
include hT hH in
theorem mapEntry_ok {t : Nat} {m k v : AV} {um uk : Value} (hm : VR ρ m um) (hk : VR ρ k uk) (h : vmapEntry T H t m k = some (v, H')) :
    ∃ u w', (Instr.mapEntry t um uk).run P w = .ok u w' ∧ Post ρ ρ (fun _ => False) w w' ∧ RelH ρ G H' w' ∧ VR ρ v u ∧ Hs H H' := by
  unfold vmapEntry at h
  split at h
  · rename_i kt et b hu
    obtain ⟨pl, hb, rfl⟩ := hm
    split at h
    · rename_i es c ver z hf hq hz
      obtain ⟨d, hd, hkd⟩ := keyFit_spec hf
      obtain ⟨_, ⟨a, h1, h2⟩, hi⟩ := hH.map_of hb hq
      have hck : (Instr.checkKey false 10000 kt uk).run P w = .ok () w := run_checkKey false (und_ok hT hd) hkd hk
      obtain ⟨vz, z1, z2, _⟩ := run_zero hT hz w
      split at h
      · rename_i j e hfd
        obtain ⟨rfl, rfl⟩ := Prod.mk.inj (Option.some.inj h)
        rcases mfind_ok hkd hk h2 hfd with ⟨g, _⟩ | ⟨j', e', y, g1, g2, g3, g4, g5, g6, g7, g8⟩
        · cases g
        · obtain ⟨rfl, rfl⟩ := Prod.mk.inj (Option.some.inj g1)
          rw [Nat.zero_add] at g8 ⊢
          have hy : a[j']? = some y := by rw [← Array.getElem?_toList]; exact g3
          have hks : (Instr.keyThatStays y.key uk).run P w = .ok uk w := run_keyStays hk g4 g7
          have hmod : (a.modify j' fun x => { x with key := uk }).toList = a.toList.set j' { y with key := uk } := by
            rw [Array.toList_modify]
            exact list_modify_set _ _ _ _ g3
          obtain ⟨s1, s2⟩ := mapSet_sim hH hb hq (mset ⟨k, e.v, e.born⟩ es j') c (a.modify j' fun x => { x with key := uk }) (isIt_mset hi _ fun _ => hkd.ne) (by rw [hmod]; exact MR.set (x := ⟨k, e.v, e.born⟩) (y := { y with key := uk }) hk g5 g6 h2)
          refine ⟨.tuple #[y.val, goInt y.born], _, ?_, s2, s1, ⟨_, rfl, _, _, rfl, g5, _, _, rfl, by rw [g6]; rfl, rfl⟩, .setMap _ _ (map?_get hq)⟩
          simp [Instr.mapEntry, run_und hT hu w, run_getMap h1, hck, run_findKey (und_ok hT hd) g8, hy, hks, run_setMap _ h1]
      · rename_i hfd
        obtain ⟨rfl, rfl⟩ := Prod.mk.inj (Option.some.inj h)
        rcases mfind_ok hkd hk h2 hfd with ⟨_, g⟩ | ⟨_, _, _, g1, _⟩
        · obtain ⟨s1, s2⟩ := mapSet_sim hH hb hq (es ++ [⟨k, z, c⟩]) (c + 1) (a.push { key := uk, val := vz, born := c }) (isIt_snoc hi hkd.ne) (by
            rw [Array.toList_push]
            exact MR.append h2 ⟨_, [], rfl, hk, z2 ρ, rfl, rfl⟩)
          refine ⟨.tuple #[vz, goInt c], _, ?_, s2, s1, ⟨_, rfl, _, _, rfl, z2 ρ, _, _, rfl, rfl, rfl⟩, .setMap _ _ (map?_get hq)⟩
          simp [Instr.mapEntry, run_und hT hu w, run_getMap h1, hck, run_findKey (und_ok hT hd) g, z1, run_setMap _ h1]
        · cases g1
      · cases h
    · cases h
  · cases h
theorem mborn_ok {ρ : Rho} {n : Int} : ∀ {es : List ME} {vs : List MapEntry} {i : Nat} {e : ME} {j : Nat}, MR ρ es vs → mborn n es i = some (j, e) →
    ∃ j' y, j = i + j' ∧ es[j']? = some e ∧ vs[j']? = some y ∧ VR ρ e.k y.key ∧ y.born = e.born ∧ vs.findIdx? (fun x => (x.born : Int) == n) = some j'
  | [], vs, i, e, j, _, h => by cases h
  | x :: es, vs, i, e, j, ⟨y, us, ev, h1, h2, h3, h4⟩, h => by
    subst ev
    unfold mborn at h
    split at h
    · rename_i hq
      obtain ⟨rfl, rfl⟩ := Prod.mk.inj (Option.some.inj h)
      refine ⟨0, y, rfl, rfl, rfl, h1, h3, ?_⟩
      rw [ieq_eq, beq_iff_eq] at hq
      rw [List.findIdx?_cons, h3, if_pos (by rw [← hq]; simp)]
    · rename_i hq
      obtain ⟨j', y', g1, g2, g3, g4, g5, g6⟩ := mborn_ok h4 h
      refine ⟨j' + 1, y', by omega, g2, g3, g4, g5, ?_⟩
      have hq' : ¬ ((y.born : Int) == n) = true := by
        rw [ieq_eq] at hq
        rw [h3]
        intro hc
        rw [beq_iff_eq] at hc
        rw [← hc] at hq
        simp at hq
      rw [List.findIdx?_cons, if_neg hq', g6]
      rfl
include hH in
theorem entryStore_ok {t : Nat} {m st v : AV} {um us uv : Value} (hm : VR ρ m um) (hs : VR ρ st us) (hv : VR ρ v uv) (h : ventryStore H m st v = some H') :
    ∃ w', (Instr.entryStore t um us uv).run P w = .ok () w' ∧ Post ρ ρ (fun _ => False) w w' ∧ RelH ρ G H' w' ∧ Hs H H' := by
  unfold ventryStore at h
  split at h
  · rename_i b n
    obtain ⟨pl, hb, rfl⟩ := hm
    obtain rfl : us = .int .i64 n := hs
    split at h
    · rename_i es c ver hq
      obtain ⟨_, ⟨a, h1, h2⟩, hi⟩ := hH.map_of hb hq
      split at h
      · rename_i i e hfd
        obtain rfl := Option.some.inj h
        obtain ⟨j', y, rfl, g2, g3, g4, g5, g6⟩ := mborn_ok h2 hfd
        rw [Nat.zero_add]
        have hfi : a.findIdx? (fun x => (x.born : Int) == n) = some j' := by rw [arr_findIdx]; exact g6
        have hmod : (a.modify j' fun x => { x with val := uv }).toList = a.toList.set j' { y with val := uv } := by
          rw [Array.toList_modify]
          exact list_modify_set _ _ _ _ g3
        obtain ⟨s1, s2⟩ := mapSet_sim hH hb hq (mset ⟨e.k, v, e.born⟩ es j') c (a.modify j' fun x => { x with val := uv }) (isIt_mset hi _ fun ej => by
          obtain ⟨d, hd1, hd2⟩ := mborn_get hfd
          have : d = 0 := by omega
          subst this
          cases es with
          | nil => cases hd2
          | cons e0 es0 =>
            obtain rfl := Option.some.inj hd2
            show e0.k ≠ .undef
            exact isIt_head hi) (by rw [hmod]; exact MR.set (x := ⟨e.k, v, e.born⟩) (y := { y with val := uv }) g4 hv g5 h2)
        refine ⟨_, ?_, s2, s1, .setMap _ _ (map?_get hq)⟩
        simp [Instr.entryStore, run_getMap h1, asInt, asIntOf, hfi, run_setMap _ h1]
      · cases h
    · cases h
  · cases h
include hT hH in
theorem makeMap_ok {t : Nat} {x : Option AV} {ux : Option Value} {v : AV} (hx : OptR ρ x ux) (h : vmakeMap T H t x = some (v, H')) :
    ∃ u w' ρ', (Instr.makeMap t ux).run P w = .ok u w' ∧ Post ρ ρ' (fun _ => False) w w' ∧ RelH ρ' G H' w' ∧ VR ρ' v u ∧ Hs H H' := by
  have key : v = .map (some H.next) → H' = H.newMap → (Instr.makeMap t ux).run P w = .ok (.map (some w.heap.size)) (w.alloc (.map #[] 0)) → ∃ u w' ρ', (Instr.makeMap t ux).run P w = .ok u w' ∧ Post ρ ρ' (fun _ => False) w w' ∧ RelH ρ' G H' w' ∧ VR ρ' v u ∧ Hs H H' := by
    rintro rfl rfl hr
    exact ⟨_, _, _, hr, post_alloc hH (.map #[] 0) H.next 0 (Nat.le_refl _), newMap_sim hH (.inl ⟨rfl, #[], rfl, rfl⟩), ⟨_, Rho.set_same _ _ _, rfl⟩, .newMap H _ _⟩
  unfold vmakeMap at h
  split at h
  · rename_i kt et hu
    obtain ⟨h1, h2⟩ := Prod.mk.inj (Option.some.inj h)
    cases ux with
    | some _ => exact hx.elim
    | none => exact key h1.symm h2.symm (by simp [Instr.makeMap, newObj, Sem.run])
  · rename_i kt et i n hu
    obtain ⟨h1, h2⟩ := Prod.mk.inj (Option.some.inj h)
    cases ux with
    | none => exact hx.elim
    | some y =>
      obtain rfl : y = .int i n := hx
      exact key h1.symm h2.symm (by simp [Instr.makeMap, run_und hT hu w, asInt, asIntOf])
  · cases h
include hT hH in
theorem sim_delete {ts : List Nat} {m k v : AV} {um uk : Value} {ty : Nat} (hm : VR ρ m um) (hk : VR ρ k uk) (h : vdelete T H ts m k = some (v, H')) : BSim P ρ G w H v H' (Builtin.delete_ ts.toArray ty #[um, uk]) := by
  unfold vdelete at h
  split at h
  · rename_i mt ts
    split at h
    · rename_i kt et hu
      split at h
      · rename_i hf
        obtain ⟨rfl, rfl⟩ := Prod.mk.inj (Option.some.inj h)
        obtain ⟨d, hd, hkd⟩ := keyFit_spec hf
        obtain rfl : um = .map none := hm
        exact ⟨.tuple #[], w, ρ, by simp [Builtin.delete_, run_und hT hu w, run_checkKey true (und_ok hT hd) hkd hk], .refl _ _ _, hH, ⟨#[], rfl, rfl⟩, .refl _⟩
      · cases h
    · rename_i kt et b hu
      obtain ⟨pl, hb, rfl⟩ := hm
      split at h
      · rename_i es c ver hf hq
        obtain ⟨d, hd, hkd⟩ := keyFit_spec hf
        obtain ⟨_, ⟨a, h1, h2⟩, hi⟩ := hH.map_of hb hq
        have hck : ∀ e, (Instr.checkKey e 10000 kt uk).run P w = .ok () w := fun e => run_checkKey e (und_ok hT hd) hkd hk
        split at h
        · rename_i j e hfd
          have hmd : isIt (mdrop es j) = false := by
            cases hq2 : isIt (mdrop es j) with
            | false => rfl
            | true => rw [hq2] at h; cases h
          rw [hmd] at h
          obtain ⟨rfl, rfl⟩ := Prod.mk.inj (Option.some.inj h)
          rcases mfind_ok hkd hk h2 hfd with ⟨g, _⟩ | ⟨j', e', y, g1, g2, g3, g4, g5, g6, g7, g8⟩
          · cases g
          · obtain ⟨rfl, rfl⟩ := Prod.mk.inj (Option.some.inj g1)
            rw [Nat.zero_add] at g8 hmd ⊢
            have hy : a[j']? = some y := by rw [← Array.getElem?_toList]; exact g3
            have hlt : j' < a.size := (Array.getElem?_eq_some_iff.1 hy).1
            obtain ⟨s1, s2⟩ := mapSet_sim hH hb hq (mdrop es j') c (a.eraseIdxIfInBounds j') hmd (by rw [Array.eraseIdxIfInBounds, dif_pos hlt, Array.toList_eraseIdx]; exact MR.drop h2)
            exact ⟨.tuple #[], _, ρ, by simp [Builtin.delete_, run_und hT hu w, run_getMap h1, hck, run_findKey (und_ok hT hd) g8, run_setMap _ h1], s2, s1, ⟨#[], rfl, rfl⟩, .setMap _ _ (map?_get hq)⟩
        · rename_i hfd
          obtain ⟨rfl, rfl⟩ := Prod.mk.inj (Option.some.inj h)
          rcases mfind_ok hkd hk h2 hfd with ⟨_, g⟩ | ⟨_, _, _, g1, _⟩
          · obtain ⟨s1, s2⟩ := mapSet_sim hH hb hq es c a hi h2
            exact ⟨.tuple #[], _, ρ, by simp [Builtin.delete_, run_und hT hu w, run_getMap h1, hck, run_findKey (und_ok hT hd) g, run_setMap _ h1], s2, s1, ⟨#[], rfl, rfl⟩, .setMap _ _ (map?_get hq)⟩
          · cases g1
        · cases h
      · cases h
    · cases h
  · cases h
include hT hH in
theorem range_ok {t : Nat} {m : AV} {um : Value} {v : AV} (hm : VR ρ m um) (h : vrange T H t m = some (v, H')) :
    ∃ u w' ρ', (Instr.range t um).run P w = .ok u w' ∧ Post ρ ρ' (fun _ => False) w w' ∧ RelH ρ' G H' w' ∧ VR ρ' v u ∧ Hs H H' := by
  unfold vrange at h
  split at h
  · rename_i kt et hu
    obtain ⟨rfl, rfl⟩ := Prod.mk.inj (Option.some.inj h)
    obtain rfl : um = .map none := hm
    exact ⟨.pointer (some ⟨w.heap.size, 0, none⟩), w.alloc (.mapIter none 0 #[] 0), _, by simp [Instr.range, run_und hT hu w, newObj, Sem.run], post_alloc hH _ H.next 0 (Nat.le_refl _), newMap_sim hH (.inr ⟨.map none, 0, [], none, rfl, rfl, rfl⟩), ⟨_, Rho.set_same _ _ _, rfl⟩, .newMap H _ _⟩
  · rename_i kt et b hu
    split at h
    · rename_i es c ver hq
      obtain ⟨rfl, rfl⟩ := Prod.mk.inj (Option.some.inj h)
      have hm' := hm
      obtain ⟨pl, hb, rfl⟩ := hm
      obtain ⟨_, ⟨a, h1, h2⟩, hi⟩ := hH.map_of hb hq
      exact ⟨.pointer (some ⟨w.heap.size, 0, none⟩), w.alloc (.mapIter (some pl.rb) c #[] c), _, by simp [Instr.range, run_und hT hu w, run_getMap h1, newObj, Sem.run], post_alloc hH _ H.next 0 (Nat.le_refl _), newMap_sim hH (.inr ⟨.map (some b), c, [], some pl.rb, rfl, hm', rfl⟩), ⟨_, Rho.set_same _ _ _, rfl⟩, .newMap H _ _⟩
    · cases h
  · cases h
include hH in
theorem next_ok {m : AV} {um : Value} {v : AV} {ty : Nat} (hm : VR ρ m um) (h : nextV (vnext H m) = some (v, H')) :
    ∃ u w', (Instr.next um false ty).run P w = .ok u w' ∧ Post ρ ρ (fun _ => False) w w' ∧ RelH ρ G H' w' ∧ VR ρ v u ∧ Hs H H' := by
  have over : v = .tuple [.bool false] → H' = H → (Instr.next um false ty).run P w = .ok (.tuple #[.bool false]) w → ∃ u w', (Instr.next um false ty).run P w = .ok u w' ∧ Post ρ ρ (fun _ => False) w w' ∧ RelH ρ G H' w' ∧ VR ρ v u ∧ Hs H H' := by
    rintro rfl rfl hr
    exact ⟨_, _, hr, .refl _ _ _, hH, ⟨_, rfl, _, _, rfl, rfl, rfl⟩, .refl _⟩
  have nover : ∀ {K : VH}, nextV (some (none, K)) = some (v, H') → v = .tuple [.bool false] ∧ H' = K := fun h => ⟨(Prod.mk.inj (Option.some.inj h)).1.symm, (Prod.mk.inj (Option.some.inj h)).2.symm⟩
  unfold vnext at h
  split at h
  · rename_i r
    obtain ⟨pl, hb, rfl⟩ := hm
    split at h
    · rename_i s seen c ver hq
      obtain ⟨⟨_, hb0⟩, ⟨o, h1, h2⟩, _⟩ := hH.map r pl _ _ _ hb (iter?_get hq)
      obtain ⟨um, h3, rfl⟩ := h2.iter
      obtain rfl : um = none := by cases um with | none => rfl | some _ => cases h3
      obtain ⟨g1, g2⟩ := nover h
      refine over g1 g2 ?_
      rw [hb0]
      simp [Instr.next, run_getIter h1]
    · rename_i b s seen c ver hq
      obtain ⟨⟨_, hb0⟩, ⟨o, h1, h2⟩, _⟩ := hH.map r pl _ _ _ hb (iter?_get hq)
      obtain ⟨um, h3, rfl⟩ := h2.iter
      obtain ⟨pb, hpb, hum⟩ := h3
      obtain rfl : um = some pb.rb := Value.map.inj hum
      split at h
      · rename_i es clock vm hq2
        obtain ⟨_, ⟨a, h4, h5⟩, hi⟩ := hH.map_of hpb hq2
        unfold vstepIt at h
        split at h
        · obtain ⟨g1, g2⟩ := nover h
          have ha : a = #[] := Array.toList_eq_nil_iff.1 h5
          subst ha
          refine over g1 g2 ?_
          rw [hb0]
          simp [Instr.next, run_getIter h1, run_getMap h4, run_choose_drew, Question.forced]
        · rename_i e
          obtain ⟨y, ys, ha, k1, k2, k3, k4⟩ := h5
          obtain rfl : ys = [] := k4
          have ha : a = #[y] := Array.toList_inj.1 ha
          subst ha
          split at h
          · split at h
            · rename_i hlt
              have hlt' : e.born < s := by rw [blt_eq] at hlt; exact of_decide_eq_true hlt
              obtain ⟨rfl, rfl⟩ := Prod.mk.inj (Option.some.inj h)
              obtain ⟨s1, s2⟩ := setMap_sim hH hb (iter?_get hq) [⟨.undef, .map (some b), s⟩, ⟨.undef, .undef, e.born⟩] clock (.mapIter (some pb.rb) s #[e.born] clock) (.inr ⟨.map (some b), s, [⟨.undef, .undef, e.born⟩], some pb.rb, rfl, ⟨pb, hpb, rfl⟩, rfl⟩)
              refine ⟨.tuple #[.bool true, y.key, y.val], _, ?_, s2, s1, ⟨_, rfl, _, _, rfl, rfl, _, _, rfl, k1, _, _, rfl, k2, rfl⟩, .setMap _ _ (iter?_get hq)⟩
              rw [hb0]
              have hlt2 : y.born < s := by omega
              have hls : ¬ s ≤ e.born := by omega
              have hf1 : List.filter (fun a : MapEntry => decide (a.born < s)) [y] = [y] := by simp [hlt2]
              have hf2 : List.filter (fun a : MapEntry => decide (s ≤ a.born)) [y] = [] := by simp; omega
              simp [Instr.next, run_getIter h1, run_getMap h4, run_choose_drew, Question.forced, hlt2, run_setIter _ h1, k3, hls, hf1, hf2]
            · cases h
          · rename_i x
            split at h
            · rename_i hc
              simp only [Bool.and_eq_true, Nat.beq_eq, blt_eq, decide_eq_true_eq] at hc
              obtain ⟨hc1, hc2⟩ := hc
              obtain ⟨g1, g2⟩ := nover h
              refine over g1 g2 ?_
              rw [hb0]
              have hlt2 : ¬ c ≤ y.born := by omega
              have he : y.born = x.born := by omega
              simp [Instr.next, run_getIter h1, run_getMap h4, run_choose_drew, Question.forced, hlt2, he]
              omega
            · cases h
          · cases h
        · cases h
      · cases h
    · cases h
  · cases h
include hH in
theorem entry_ok {m : AV} {um : Value} {v : AV} (hm : VR ρ m um) (h : ventry H m = some v) : ∃ u, (Instr.entry um).run P w = .ok u w ∧ VR ρ v u := by
  unfold ventry at h
  split at h
  · rename_i r
    obtain ⟨pl, hb, rfl⟩ := hm
    split at h
    · rename_i b s x c ver hq
      obtain ⟨⟨_, hb0⟩, ⟨o, h1, h2⟩, _⟩ := hH.map r pl _ _ _ hb (iter?_get hq)
      obtain ⟨um, h3, rfl⟩ := h2.iter
      obtain ⟨pb, hpb, hum⟩ := h3
      obtain rfl : um = some pb.rb := Value.map.inj hum
      split at h
      · rename_i e clock vm hq2
        obtain ⟨_, ⟨a, h4, h5⟩, hi⟩ := hH.map_of hpb hq2
        split at h
        · rename_i hc
          simp only [Bool.and_eq_true, Nat.beq_eq] at hc
          obtain ⟨hc1, hc2⟩ := hc
          obtain rfl := Option.some.inj h
          obtain ⟨y, ys, ha, k1, k2, k3, k4⟩ := h5
          obtain rfl : ys = [] := k4
          have ha : a = #[y] := Array.toList_inj.1 ha
          subst ha
          refine ⟨.tuple #[y.key, y.val], ?_, ⟨_, rfl, _, _, rfl, k1, _, _, rfl, k2, rfl⟩⟩
          rw [hb0]
          have he : y.born = x.born := by omega
          simp [Instr.entry, run_getIter h1, run_getMap h4, hc1, he]
        · cases h
      · cases h
    · cases h
  · cases h
theorem outU_spec {fr : Fr} {x : Option VH} {r : RV} {fr' : Fr} {H' : VH} (h : outU fr x = some (r, fr', H')) : x = some H' ∧ r = .v (.tuple []) ∧ fr' = fr := by
  unfold outU at h
  split at h
  · simp only [Option.some.injEq, Prod.mk.injEq] at h
    obtain ⟨rfl, rfl, rfl⟩ := h
    exact ⟨rfl, rfl, rfl⟩
  · cases h
include hT hF hH in
theorem sim_lookup {t : Nat} {x y : Operand} {ok : Bool} (ho : o.op = .lookup t x y ok) (h : oLookup T fr H t x y ok = some (r, fr', H')) : Sim P o ρ G n0 lam fr a w H r fr' H' := by
  unfold oLookup at h
  split at h
  · rename_i m k hm hk
    obtain ⟨v, hx, rfl, rfl, rfl⟩ := outV_spec h
    obtain ⟨u, e1, e2⟩ := lookup_ok (P := P) hT hH (eva_rel hF hm) (eva_rel hF hk) hx
    exact ⟨u, w, ρ, lam, .value (by simp [execOp, ho, e1]), .quietA hF hH e2⟩
  · cases h
include hT hF hH in
theorem sim_mapUpdate {t : Nat} {x y z : Operand} (ho : o.op = .mapUpdate t x y z ∨ o.op = .insert t x y z) (h : oMapUpdate T fr H t x y z = some (r, fr', H')) : Sim P o ρ G n0 lam fr a w H r fr' H' := by
  unfold oMapUpdate at h
  split at h
  · rename_i m k v hm hk hv
    obtain ⟨hx, rfl, rfl⟩ := outU_spec h
    obtain ⟨w', e1, e2, e3, e4⟩ := mapUpdate_ok (P := P) hT hH (eva_rel hF hm) (eva_rel hF hk) (eva_rel hF hv) hx
    refine ⟨_, w', ρ, lam, .skip ?_, .turn hF e2 e3 ⟨#[], rfl, rfl⟩ e4⟩
    rcases ho with ho | ho <;> simp [execOp, ho, e1]
  · cases h
include hT hF hH in
theorem sim_mapEntry {t : Nat} {x y : Operand} (ho : o.op = .mapEntry t x y) (h : oMapEntry T fr H t x y = some (r, fr', H')) : Sim P o ρ G n0 lam fr a w H r fr' H' := by
  unfold oMapEntry at h
  split at h
  · rename_i m k hm hk
    obtain ⟨v, hx, rfl, rfl⟩ := outH_spec h
    obtain ⟨u, w', e1, e2, e3, e4, e5⟩ := mapEntry_ok (P := P) hT hH (eva_rel hF hm) (eva_rel hF hk) hx
    exact ⟨u, w', ρ, lam, .value (by simp [execOp, ho, e1]), .turn hF e2 e3 e4 e5⟩
  · cases h
include hF hH in
theorem sim_entryStore {t : Nat} {x y z : Operand} (ho : o.op = .entryStore t x y z) (h : oEntryStore fr H x y z = some (r, fr', H')) : Sim P o ρ G n0 lam fr a w H r fr' H' := by
  unfold oEntryStore at h
  split at h
  · rename_i m st v hm hs hv
    obtain ⟨hx, rfl, rfl⟩ := outU_spec h
    obtain ⟨w', e1, e2, e3, e4⟩ := entryStore_ok (P := P) (t := t) hH (eva_rel hF hm) (eva_rel hF hs) (eva_rel hF hv) hx
    exact ⟨_, w', ρ, lam, .skip (by simp [execOp, ho, e1]), .turn hF e2 e3 ⟨#[], rfl, rfl⟩ e4⟩
  · cases h
include hT hF hH in
theorem sim_makeMap {t : Nat} {x : Option Operand} (ho : o.op = .makeMap t x) (h : oMakeMap T fr H t x = some (r, fr', H')) : Sim P o ρ G n0 lam fr a w H r fr' H' := by
  unfold oMakeMap at h
  split at h
  · rename_i y hy
    obtain ⟨v, hx, rfl, rfl⟩ := outH_spec h
    obtain ⟨u, w', ρ', e1, e2, e3, e4, e5⟩ := makeMap_ok (P := P) hT hH (optEv_rel hF hy) hx
    exact ⟨u, w', ρ', lam, .value (by simp [execOp, ho, e1]), .turn hF e2 e3 e4 e5⟩
  · cases h
include hT hF hH in
theorem sim_range {t : Nat} {x : Operand} (ho : o.op = .range t x) (h : oRange T fr H t x = some (r, fr', H')) : Sim P o ρ G n0 lam fr a w H r fr' H' := by
  unfold oRange at h
  split at h
  · rename_i y hy
    obtain ⟨v, hx, rfl, rfl⟩ := outH_spec h
    obtain ⟨u, w', ρ', e1, e2, e3, e4, e5⟩ := range_ok (P := P) hT hH (eva_rel hF hy) hx
    exact ⟨u, w', ρ', lam, .value (by simp [execOp, ho, e1]), .turn hF e2 e3 e4 e5⟩
  · cases h
include hF hH in
theorem sim_next {x : Operand} {str : Bool} (ho : o.op = .next x str) (h : oNext fr H x str = some (r, fr', H')) : Sim P o ρ G n0 lam fr a w H r fr' H' := by
  unfold oNext at h
  split at h
  · rename_i y hy
    obtain ⟨v, hx, rfl, rfl⟩ := outH_spec h
    obtain ⟨u, w', e1, e2, e3, e4, e5⟩ := next_ok (P := P) (ty := o.type) hH (eva_rel hF hy) hx
    exact ⟨u, w', ρ, lam, .value (by simp [execOp, ho, e1]), .turn hF e2 e3 e4 e5⟩
  · cases h
include hF hH in
theorem sim_entry {x : Operand} (ho : o.op = .entry x) (h : oEntry fr H x = some (r, fr', H')) : Sim P o ρ G n0 lam fr a w H r fr' H' := by
  unfold oEntry at h
  split at h
  · rename_i y hy
    obtain ⟨v, hx, rfl, rfl⟩ := outH_spec h
    unfold entryV at hx
    split at hx
    · rename_i hx2
      obtain ⟨rfl, rfl⟩ := Prod.mk.inj (Option.some.inj hx)
      obtain ⟨u, e1, e2⟩ := entry_ok (P := P) hH (eva_rel hF hy) hx2
      exact ⟨u, w, ρ, lam, .value (by simp [execOp, ho, e1]), .quietA hF hH e2⟩
    · cases hx
  · cases h
include hT hH in
theorem sim_builtin {b : Builtin} {ts : Array TypeId} {cn : Array Bool} {ty : Nat} {args : List AV} {us : Array Value} {v : AV} (hv : VRs ρ args us.toList) (h : vbuiltin T H b ts.toList args = some (v, H')) :
    ∃ u w' ρ', (builtin b ts ty cn us).run P w = .ok (.value u) w' ∧ Post ρ ρ' (fun _ => False) w w' ∧ RelH ρ' G H' w' ∧ VR ρ' v u ∧ Hs H H' := by
  have one : ∀ {x : AV}, VRs ρ [x] us.toList → ∃ u, us = #[u] ∧ VR ρ x u := fun ⟨u, l, e, h1, h2⟩ => ⟨u, by apply Array.ext'; rw [e, show l = [] from h2], h1⟩
  have two : ∀ {x y : AV}, VRs ρ [x, y] us.toList → ∃ u v, us = #[u, v] ∧ VR ρ x u ∧ VR ρ y v := fun ⟨u, l, e, h1, v, l', e', h2, h3⟩ => ⟨u, v, by apply Array.ext'; rw [e, e', show l' = [] from h3], h1, h2⟩
  have fin : ∀ {s : Sem Value}, builtin b ts ty cn us = (do pure (.value (← s))) → BSim P ρ G w H v H' s → ∃ u w' ρ', (builtin b ts ty cn us).run P w = .ok (.value u) w' ∧ Post ρ ρ' (fun _ => False) w w' ∧ RelH ρ' G H' w' ∧ VR ρ' v u ∧ Hs H H' := by
    rintro s e ⟨u, w', ρ', h1, h2⟩
    exact ⟨u, w', ρ', by rw [e]; simp [h1], h2⟩
  have hts : ts = ts.toList.toArray := by simp
  unfold vbuiltin at h
  split at h
  · obtain ⟨u, rfl, h1⟩ := one hv
    have := sim_len (P := P) (ty := ty) hT hH h1 h
    rw [← hts] at this
    exact fin rfl this
  · obtain ⟨u, rfl, h1⟩ := one hv
    have := sim_cap (P := P) (ty := ty) hT hH h1 h
    rw [← hts] at this
    exact fin rfl this
  · obtain ⟨u, u', rfl, h1, h2⟩ := two hv
    have hl : ∃ st xt, ts = #[st, xt] := by
      unfold vappend at h
      split at h
      · rename_i st xt e
        exact ⟨st, xt, by rw [hts, e]⟩
      · cases h
    obtain ⟨st, xt, rfl⟩ := hl
    exact fin rfl (sim_append (P := P) (ty := ty) hT hH h1 h2 h)
  · obtain ⟨u, u', rfl, h1, h2⟩ := two hv
    have := sim_copy (P := P) (ty := ty) hT hH h1 h2 h
    rw [← hts] at this
    exact fin rfl this
  · rename_i x xs
    split at h
    · rename_i r0 hr
      simp only [Option.some.injEq, Prod.mk.injEq] at h
      obtain ⟨rfl, rfl⟩ := h
      obtain ⟨u, l, e, h1, h2⟩ := hv
      obtain ⟨z, h3, h4⟩ := min_ok (P := P) (w := w) h1 h2 hr
      exact fin rfl ⟨z, w, ρ, by simp [Builtin.min_, e, h4], .refl _ _ _, hH, h3, .refl _⟩
    · cases h
  · rename_i x xs
    split at h
    · rename_i r0 hr
      simp only [Option.some.injEq, Prod.mk.injEq] at h
      obtain ⟨rfl, rfl⟩ := h
      obtain ⟨u, l, e, h1, h2⟩ := hv
      obtain ⟨z, h3, h4⟩ := max_ok (P := P) (w := w) h1 h2 hr
      exact fin rfl ⟨z, w, ρ, by simp [Builtin.max_, e, h4], .refl _ _ _, hH, h3, .refl _⟩
    · cases h
  · obtain ⟨u, rfl, h1⟩ := one hv
    have := sim_clear (P := P) (ty := ty) hT hH h1 h
    rw [← hts] at this
    exact fin rfl this
  · obtain ⟨u, u', rfl, h1, h2⟩ := two hv
    have := sim_delete (P := P) (ty := ty) hT hH h1 h2 h
    rw [← hts] at this
    exact fin rfl this
  · obtain ⟨u, rfl, h1⟩ := one hv
    simp only [Option.some.injEq, Prod.mk.injEq] at h
    obtain ⟨rfl, rfl⟩ := h
    obtain ⟨rfl, _, _⟩ := h1
    exact fin rfl ⟨.pointer none, w, ρ, rfl, .refl _ _ _, hH, rfl, .refl _⟩
  · rename_i ad k c e0 e1
    obtain ⟨u, rfl, h1⟩ := one hv
    simp only [Option.some.injEq, Prod.mk.injEq] at h
    obtain ⟨rfl, rfl⟩ := h
    obtain ⟨pl, ro, rc, k1, rfl, k3, k4, k5, k6⟩ := h1
    obtain rfl := k5 (by omega)
    exact fin rfl ⟨_, w, ρ, Lib.run_unsafeSliceData_row w ts ty _ _ rc (by omega), .refl _ _ _, hH, ⟨pl, k1, rfl⟩, .refl _⟩
  · rename_i q n
    obtain ⟨u, u', rfl, h1, h2⟩ := two hv
    obtain rfl : u' = .int .i64 n := h2
    have hq : ∃ ad, u = .pointer ad ∧ (∀ (b : Bk) off, q = some (b, off) → ∃ pl, At ρ b pl ∧ ad = some ⟨pl.rb, pl.base + off, none⟩) := by
      cases q with
      | none => exact ⟨none, h1, fun _ _ e => by cases e⟩
      | some q =>
        obtain ⟨pl, g1, g2⟩ := h1
        exact ⟨_, g2, fun b off e => by obtain rfl := Option.some.inj e; exact ⟨pl, g1, rfl⟩⟩
    obtain ⟨ad, rfl, hq⟩ := hq
    unfold vunsafeString at h
    split at h
    · rename_i pt it hts2
      obtain rfl : ts = #[pt, it] := by rw [hts, hts2]
      split at h
      · rename_i hn
        rw [ieq_eq] at hn
        obtain rfl : n = 0 := by simpa using hn
        simp only [Option.some.injEq, Prod.mk.injEq] at h
        obtain ⟨rfl, rfl⟩ := h
        exact fin rfl ⟨.string .empty, w, ρ, Lib.run_unsafeString_none w pt it ty ad, .refl _ _ _, hH, ⟨.empty, rfl, rfl⟩, .refl _⟩
      · rename_i hn
        rw [ieq_eq] at hn
        have hn' : n ≠ 0 := by simpa using hn
        split at h
        rotate_left
        · cases h
        rename_i b off
        split at h
        · rename_i e rr hu hrr
          split at h
          · rename_i hc
            simp only [Bool.and_eq_true, ile_eq, decide_eq_true_eq] at hc
            obtain ⟨⟨⟨⟨c1, c2⟩, c3⟩, c4⟩, c5⟩ := hc
            split at h
            · rename_i cs hcs
              cases hgo : vconvert.go cs with
              | none => rw [hgo] at h; cases h
              | some st =>
                rw [hgo] at h
                simp only [Option.map_some, Option.some.injEq, Prod.mk.injEq] at h
                obtain ⟨rfl, rfl⟩ := h
                obtain ⟨pl, k1', rfl⟩ := hq b off rfl
                have k1 : ρ b = some pl := k1'
                obtain ⟨us, g1, g2, g3, g4⟩ := cells_read hH k1' hcs
                obtain ⟨ns, rfl, hst⟩ := go_bytes hgo g2
                have hety : rr.ety = some e := by
                  split at c1
                  · rename_i e' he'
                    rw [he', Nat.eq_of_beq_eq_true c1]
                  · cases c1
                have hs1 : sizeOfT T e = some 1 := by
                  split at c2
                  · assumption
                  · cases c2
                obtain ⟨a1, c, fz, a2⟩ := hH.ety b pl rr e k1 hrr hety
                have hsh : w.shape? pl.rb = some (e, c.size) := by simp [World.shape?, a2]
                have hce : P.cellsOf e = 1 := cells_of hT hs1
                rw [List.length_map] at g1
                have hnl : n = (ns.length : Int) := by omega
                have hne : ns ≠ [] := fun e => by rw [e] at hnl; exact hn' hnl
                have hend : pl.base + off + ns.length ≤ c.size := by
                  have hl : ns.length - 1 < ns.length := by
                    have : ns.length ≠ 0 := by simpa using hne
                    omega
                  have := g4 (ns.length - 1) (.int .u8 ns[ns.length - 1]) (by simp [hl])
                  simp only [World.cell?, a2] at this
                  simp only [Option.isSome_none, Bool.false_eq_true, if_false] at this
                  have := (Array.getElem?_eq_some_iff.1 this).1
                  omega
                have hrun := run_unsafeString_at (P := P) w pt it ty e (und_ok hT hu) hce pl.rb (pl.base + off) c.size hsh ns hne hend (by omega) (fun j x hx => by
                  rw [addr_add]
                  exact g4 j (.int .u8 x) (by simp [hx]))
                obtain ⟨m1, m2⟩ := dead_sim hH k1 hrr c3 (pl.base + off) ns.length
                subst hnl
                exact fin rfl ⟨_, _, ρ, hrun, m2, m1, ⟨⟨(ns.map fun n => UInt8.ofNat n.toNat).toArray⟩, rfl, by rw [hst]⟩, .dead hrr c3⟩
            · cases h
          · cases h
        · cases h
    · cases h
  · cases h

include hT hF hH in
theorem sim_op (hn : n0 ≤ w.heap.size) (h : vop T promo o.dst o.op fr H = some (r, fr', H')) : Sim P o ρ G n0 lam fr a w H r fr' H' := by
  unfold vop at h
  split at h
  · exact sim_move hF hH (.inl ‹_›) h
  · exact sim_move hF hH (.inr ‹_›) h
  · exact sim_pick hF hH ‹_› h
  · exact sim_alloc hT hF hH hn ‹_› h
  · exact sim_box (T := T) hF hH hn ‹_› h
  · exact sim_build hT hF hH ‹_› h
  · exact sim_buildSlice hT hF hH ‹_› h
  · exact sim_load hT hF hH ‹_› h
  · exact sim_store hT hF hH ‹_› h
  · exact sim_nil hF hH ‹_› h
  · exact sim_bin hT hF hH ‹_› h
  · exact sim_un hF hH ‹_› h
  · exact sim_conv hT hF hH ‹_› h
  · exact sim_iface hT hF hH ‹_› h
  · exact sim_func hF hH ‹_› h
  · exact sim_makeSlice hT hF hH ‹_› h
  · exact sim_slice hT hF hH ‹_› h
  · exact sim_fieldAddr hT hF hH ‹_› h
  · exact sim_field hT hF hH ‹_› h
  · exact sim_indexAddr hT hF hH ‹_› h
  · exact sim_index hT hF hH ‹_› h
  · exact sim_extract hF hH ‹_› h
  · exact sim_makeMap hT hF hH ‹_› h
  · exact sim_lookup hT hF hH ‹_› h
  · exact sim_mapUpdate hT hF hH (.inl ‹_›) h
  · exact sim_mapEntry hT hF hH ‹_› h
  · exact sim_entryStore hF hH ‹_› h
  · exact sim_mapUpdate hT hF hH (.inr ‹_›) h
  · exact sim_range hT hF hH ‹_› h
  · exact sim_next hF hH ‹_› h
  · exact sim_entry hF hH ‹_› h
  · cases h
end
end Go.Vm
