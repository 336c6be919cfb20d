/- Maps: the abstract ones against the model's. -/
import Derived.Test.YtmlogeklbcgjnaaGreatDoorVmMem
import Derived.Laws.StructEq
namespace Go.Vm
set_option linter.unusedSimpArgs false
set_option linter.unusedVariables false
set_option linter.unusedSectionVars false
theorem run_getMap {P : Program} {w : World} {r : Nat} {a : Array MapEntry} {c : Nat} (h : w.heap[r]? = some (.map a c)) : (getObj r).run P w = .ok (.map a c) w := by simp [getObj, Sem.run, h]
/-- A block's new content. -/
def mapW (w : World) (r : Nat) (o : Obj) : World := { w with heap := w.heap.setIfInBounds r o }
theorem run_setMap {P : Program} {w : World} {r : Nat} {a : Array MapEntry} {c : Nat} (o : Obj) (h : w.heap[r]? = some (.map a c)) : (setObj r o).run P w = .ok () (mapW w r o) := by simp [setObj, Sem.run, h, mapW]
theorem run_setIter {P : Program} {w : World} {r : Nat} {m : Option Nat} {s : Nat} {a : Array Nat} {c : Nat} (o : Obj) (h : w.heap[r]? = some (.mapIter m s a c)) : (setObj r o).run P w = .ok () (mapW w r o) := by simp [setObj, Sem.run, h, mapW]
theorem run_getIter {P : Program} {w : World} {r : Nat} {m : Option Nat} {s : Nat} {a : Array Nat} {c : Nat} (h : w.heap[r]? = some (.mapIter m s a c)) : (getObj r).run P w = .ok (.mapIter m s a c) w := by simp [getObj, Sem.run, h]
theorem heap_mapW (w : World) (r : Nat) (o : Obj) (k : Nat) : (mapW w r o).heap[k]? = if k = r then (if r < w.heap.size then some o else none) else w.heap[k]? := by
  show (w.heap.setIfInBounds r o)[k]? = _
  by_cases h : k = r
  · subst h
    rw [if_pos rfl, Array.getElem?_setIfInBounds]
    simp
  · rw [if_neg h, Array.getElem?_setIfInBounds_ne (Ne.symm h)]
theorem size_mapW (w : World) (r : Nat) (o : Obj) : (mapW w r o).heap.size = w.heap.size := by
  show (w.heap.setIfInBounds r o).size = _
  simp
theorem map?_spec {H : VH} {b : Nat} {es : List ME} {c v : Nat} (h : H.map? b = some (es, c, v)) : H.get b = some (.map es c v) ∧ isIt es = false := by
  unfold VH.map? at h
  split at h
  · rename_i hg
    split at h
    · cases h
    · rename_i q
      simp only [Option.some.injEq, Prod.mk.injEq] at h
      obtain ⟨rfl, rfl, rfl⟩ := h
      exact ⟨hg, q⟩
  · cases h
theorem map?_get {H : VH} {b : Nat} {es : List ME} {c v : Nat} (h : H.map? b = some (es, c, v)) : H.get b = some (.map es c v) := (map?_spec h).1
theorem iter?_get {H : VH} {b : Nat} {m : AV} {s : Nat} {seen : List ME} {c v : Nat} (h : H.iter? b = some (m, s, seen, c, v)) : H.get b = some (.map (⟨.undef, m, s⟩ :: seen) c v) := by
  unfold VH.iter? at h
  split at h
  · rename_i hg
    simp only [Option.some.injEq, Prod.mk.injEq] at h
    obtain ⟨rfl, rfl, rfl, rfl, rfl⟩ := h
    exact hg
  · cases h
theorem RelH.map_of {ρ : Rho} {G : Nat → Prop} {H : VH} {w : World} (h : RelH ρ G H w) {b : Nat} {pl : Pl} (hb : ρ b = some pl) {es : List ME} {c v : Nat} (hq : H.map? b = some (es, c, v)) :
    (¬ ρ.q pl.rb ∧ pl.base = 0) ∧ (∃ a, w.heap[pl.rb]? = some (.map a c) ∧ MR ρ es a.toList) ∧ isIt es = false := by
  obtain ⟨h1, h2⟩ := map?_spec hq
  obtain ⟨q, ⟨o, h3, h4⟩, _⟩ := h.map b pl es c v hb h1
  obtain ⟨a, rfl, h5⟩ := h4.map h2
  exact ⟨q, ⟨a, h3, h5⟩, h2⟩
theorem row?_map {H : VH} {b : Nat} {es : List ME} {c v : Nat} (h : H.get b = some (.map es c v)) : H.row? b = none := by
  unfold VH.row?
  rw [h]
/-- A new map, or a new iterator. -/
theorem newMap_sim {ρ : Rho} {G : Nat → Prop} {H : VH} {w : World} (h : RelH ρ G H w) {es0 : List ME} {c0 : Nat} {o0 : Obj} (hor : OR ρ es0 c0 o0) : RelH (ρ.set H.next ⟨w.heap.size, 0, 0⟩) G (H.newMap es0 c0) (w.alloc o0) := by
  have hnone := h.set_none
  have hle : ρ.le (ρ.set H.next ⟨w.heap.size, 0, 0⟩) := Rho.le_set _ hnone
  have old : ∀ b pl, b ≠ H.next → ρ.set H.next ⟨w.heap.size, 0, 0⟩ b = some pl → ρ b = some pl := fun b pl hne e => by rwa [Rho.set_ne _ _ hne] at e
  have hw : ∀ b pl, ρ b = some pl → (w.alloc o0).heap[pl.rb]? = w.heap[pl.rb]? := fun b pl hb => by
    rw [heap_walloc, if_neg (by have := (h.has b pl hb).2.1; omega)]
  have hget : ∀ b, (H.newMap es0 c0).get b = if b = H.next then some (.map es0 c0 0) else H.get b := fun b => get_valloc _ _ _
  have hrow : ∀ b, (H.newMap es0 c0).row? b = if b = H.next then none else H.row? b := fun b => by
    by_cases e : b = H.next
    · rw [if_pos e, row?_map (by rw [hget, if_pos e])]
    · rw [if_neg e]
      unfold VH.row?
      rw [hget, if_neg e]
  refine ⟨fun b pl hb => ?_, fun k hk => ?_, fun b pl r hb hr => ?_, fun b b' pl pl' r hb hb' hrb hr hlv hne => ?_, fun b r hr => ?_, fun l g e => ?_, fun b x hx => ?_, fun b pl r x hb hr he => ?_, fun b pl es c v hb he => ?_, h.qlt' (by rw [size_walloc]; exact Nat.le_succ _), h.fz' (w' := w.alloc o0) fun k hk => by rw [heap_walloc, if_neg (by have := h.qlt k hk; omega)]⟩
  · by_cases e : b = H.next
    · subst e
      rw [Rho.set_same] at hb
      obtain rfl := Option.some.inj hb
      refine ⟨fun hg => Nat.lt_irrefl _ (h.g _ hg), by rw [size_walloc]; exact Nat.lt_succ_self _, ?_⟩
      rw [hget, if_pos rfl]; exact ⟨_, rfl⟩
    · obtain ⟨h1, h2, x, h3⟩ := h.has b pl (old b pl e hb)
      refine ⟨h1, by rw [size_walloc]; omega, x, ?_⟩
      rw [hget, if_neg e]; exact h3
  · rw [size_walloc]; have := h.g k hk; omega
  · rw [hrow] at hr
    split at hr
    · cases hr
    · rename_i e
      exact (h.row b pl r (old b pl e hb) hr).mono hle (fun e => e) id (hw b pl (old b pl e hb))
  · rw [hrow] at hr
    split at hr
    · cases hr
    · rename_i e
      by_cases e' : b' = H.next
      · subst e'
        rw [Rho.set_same] at hb'
        obtain rfl := Option.some.inj hb'
        have := (h.has b pl (old b pl e hb)).2.1
        simp only at hrb
        omega
      · obtain ⟨r', h1, h2⟩ := h.sep b b' pl pl' r (old b pl e hb) (old b' pl' e' hb') hrb hr hlv hne
        exact ⟨r', by rw [hrow, if_neg e']; exact h1, h2⟩
  · show r.lin < H.next + 1
    rw [hrow] at hr
    split at hr
    · cases hr
    · have := h.lin b r hr; omega
  · show l < H.next + 1
    have := h.wgl l g e; omega
  · show b < H.next + 1
    rw [hget] at hx
    split at hx
    · omega
    · have := h.lt b x hx; omega
  · rw [hrow] at hr
    split at hr
    · cases hr
    · rename_i e
      obtain ⟨g1, g2⟩ := h.ety b pl r x (old b pl e hb) hr he
      exact ⟨g1, by rw [hw b pl (old b pl e hb)]; exact g2⟩
  · by_cases e : b = H.next
    · subst e
      rw [Rho.set_same] at hb
      obtain rfl := Option.some.inj hb
      rw [hget, if_pos rfl] at he
      simp only [Option.some.injEq, Blk.map.injEq] at he
      obtain ⟨rfl, rfl, rfl⟩ := he
      refine ⟨⟨fun e => Nat.lt_irrefl _ (h.qlt _ e), rfl⟩, ⟨o0, by rw [heap_walloc, if_pos rfl], hor.mono hle⟩, fun b' pl' hb' e' => ?_⟩
      by_cases e2 : b' = H.next
      · exact e2
      · have := (h.has b' pl' (old b' pl' e2 hb')).2.1
        simp only at e'
        omega
    · rw [hget, if_neg e] at he
      obtain ⟨q, ⟨a, h3, h4⟩, h5⟩ := h.map b pl es c v (old b pl e hb) he
      refine ⟨q, ⟨a, by rw [hw b pl (old b pl e hb)]; exact h3, h4.mono hle⟩, fun b' pl' hb' e' => ?_⟩
      by_cases e2 : b' = H.next
      · subst e2
        rw [Rho.set_same] at hb'
        obtain rfl := Option.some.inj hb'
        have := (h.has b pl (old b pl e hb)).2.1
        simp only at e'
        omega
      · exact h5 b' pl' (old b' pl' e2 hb') e'
/-- A map that is changed. -/
theorem setMap_sim {ρ : Rho} {G : Nat → Prop} {H : VH} {w : World} (h : RelH ρ G H w) {b : Nat} {pl : Pl} {es : List ME} {c v : Nat} (hb : ρ b = some pl) (hg : H.get b = some (.map es c v)) (es' : List ME) (c' : Nat) (o' : Obj) (hr : OR ρ es' c' o') :
    RelH ρ G (H.setMap b es' c' v) (mapW w pl.rb o') ∧ Post ρ ρ (fun _ => False) w (mapW w pl.rb o') := by
  obtain ⟨q, ⟨a, h1, hro⟩, alone⟩ := h.map b pl es c v hb hg
  have hlt : pl.rb < w.heap.size := (h.has b pl hb).2.1
  have hget : ∀ k, (H.setMap b es' c' v).get k = if k = b then some (.map es' c' (v + 1)) else H.get k := fun k => get_vset _ _ _ _
  have hrow : ∀ k, (H.setMap b es' c' v).row? k = H.row? k := fun k => by
    by_cases e : k = b
    · rw [row?_map (by rw [hget, if_pos e]), e, row?_map hg]
    · unfold VH.row?
      rw [hget, if_neg e]
  have hnx : (H.setMap b es' c' v).next = H.next := rfl
  have hother : ∀ k, k ≠ pl.rb → (mapW w pl.rb o').heap[k]? = w.heap[k]? := fun k hk => by rw [heap_mapW, if_neg hk]
  have hne : ∀ k pk r, ρ k = some pk → H.row? k = some r → pk.rb ≠ pl.rb := fun k pk r hk hr e => by
    obtain ⟨c1, et, fz, e1, _⟩ := h.row k pk r hk hr
    rw [e, h1] at e1
    obtain rfl := Option.some.inj e1
    exact hro.isM.elim
  refine ⟨⟨fun k pk hk => ?_, fun k hk => by rw [size_mapW]; exact h.g k hk, fun k pk r hk hr => ?_, fun k k' pk pk' r hk hk' hrb hr hlv hnk => ?_, fun k r hr => ?_, fun l g e => h.wgl l g e, fun k x hx => ?_, fun k pk r x hk hr he => ?_, fun k pk fs cc vv hk he => ?_, h.qlt' (by rw [size_mapW]; exact Nat.le_refl _), h.fz' fun k hk => hother k fun e => q.1 (e ▸ hk)⟩,
    ⟨.refl ρ, rfl, rfl, rfl, by rw [size_mapW]; exact Nat.le_refl _, fun k hk hq _ => ?_, fun x px hx => .inr ⟨x, px, hx, rfl⟩, fun _ e => .inl e⟩⟩
  · obtain ⟨g1, g2, x, g3⟩ := h.has k pk hk
    refine ⟨g1, by rw [size_mapW]; exact g2, ?_⟩
    rw [hget]
    split
    · exact ⟨_, rfl⟩
    · exact ⟨x, g3⟩
  · rw [hrow] at hr
    exact (h.row k pk r hk hr).mono (.refl ρ) (fun e => e) id (hother _ (hne k pk r hk hr))
  · rw [hrow] at hr
    obtain ⟨r', g1, g2⟩ := h.sep k k' pk pk' r hk hk' hrb hr hlv hnk
    exact ⟨r', by rw [hrow]; exact g1, g2⟩
  · rw [hrow] at hr
    exact h.lin k r hr
  · rw [hget] at hx
    split at hx
    · rename_i e
      subst e
      exact h.lt k _ hg
    · exact h.lt k x hx
  · rw [hrow] at hr
    obtain ⟨g1, g2⟩ := h.ety k pk r x hk hr he
    exact ⟨g1, by rw [hother _ (hne k pk r hk hr)]; exact g2⟩
  · rw [hget] at he
    split at he
    · rename_i e
      subst e
      rw [hb] at hk
      obtain rfl := Option.some.inj hk
      simp only [Option.some.injEq, Blk.map.injEq] at he
      obtain ⟨rfl, rfl, rfl⟩ := he
      exact ⟨q, ⟨o', by rw [heap_mapW, if_pos rfl, if_pos hlt], hr⟩, alone⟩
    · rename_i e
      obtain ⟨q2, ⟨a2, h3, h4⟩, h5⟩ := h.map k pk fs cc vv hk he
      exact ⟨q2, ⟨a2, by rw [hother _ (fun e2 => e (alone k pk hk e2))]; exact h3, h4⟩, h5⟩
  · refine hother k fun e => ?_
    have := hq b pl hb e.symm
    rw [e] at this
    exact q.1 this

/-! Keys. -/
theorem bytes_beq (p q : ByteArray) : (p == q) = (p.data.toList == q.data.toList) := by rw [beq_toListBytes, ByteArray.toList_eq, ByteArray.toList_eq]
theorem bytes_eq {p q : ByteArray} (h : (p == q) = true) : p = q := by
  rw [bytes_beq, beq_iff_eq] at h
  cases p; cases q
  simp only at h
  rw [Array.toList_inj.1 h]
theorem kEq_ok {ρ : Rho} {k x : AV} {u y : Value} {b : Bool} (hk : VR ρ k u) (hx : VR ρ x y) (h : kEq k x = some b) :
    (∃ p q, k = .bool p ∧ u = .bool p ∧ y = .bool q ∧ b = (p == q)) ∨ (∃ i p q, k = .int i p ∧ u = .int i p ∧ y = .int i q ∧ b = (p == q)) ∨ (∃ (s : PS) (p q : ByteArray), k = .str s ∧ u = .string p ∧ y = .string q ∧ b = (p == q)) := by
  cases k with
  | bool p =>
    cases x with
    | bool q => exact .inl ⟨p, q, rfl, hk, hx, (Option.some.inj h).symm⟩
    | _ => cases h
  | int i p =>
    cases x with
    | int j q =>
      simp only [kEq] at h
      split at h
      · rename_i hkd
        rw [kindEq_eq, decide_eq_true_eq] at hkd
        subst hkd
        refine .inr (.inl ⟨i, p, q, rfl, hk, hx, ?_⟩)
        rw [← Option.some.inj h, ieq_eq]
      · cases h
    | _ => cases h
  | str s =>
    cases x with
    | str t =>
      obtain ⟨p, rfl, rfl⟩ := hk
      obtain ⟨q, rfl, rfl⟩ := hx
      refine .inr (.inr ⟨_, p, q, rfl, rfl, rfl, ?_⟩)
      rw [← Option.some.inj h, bytes_beq, PS.eq_of]
    | _ => cases h
  | _ => cases h

theorem sameBits_self_bool (p : Bool) : Instr.sameBits 10000 (.bool p) (.bool p) = true := by simp [Instr.sameBits]
theorem sameBits_self_int (i : IntKind) (p : Int) : Instr.sameBits 10000 (.int i p) (.int i p) = true := by simp [Instr.sameBits]
theorem sameBits_self_str (p : ByteArray) : Instr.sameBits 10000 (.string p) (.string p) = true := by simp [Instr.sameBits, bytes_beq]
theorem run_keyStays {P : Program} {w : World} {u y : Value} {ρ : Rho} {k x : AV} (hk : VR ρ k u) (hx : VR ρ x y) (h : kEq k x = some true) : (Instr.keyThatStays y u).run P w = .ok u w := by
  unfold Instr.keyThatStays
  rcases kEq_ok hk hx h with ⟨p, q, _, rfl, rfl, e⟩ | ⟨i, p, q, _, rfl, rfl, e⟩ | ⟨s, p, q, _, rfl, rfl, e⟩
  · obtain rfl : p = q := by simpa using e.symm
    rw [if_pos (sameBits_self_bool p)]
    rfl
  · obtain rfl : p = q := by simpa using e.symm
    rw [if_pos (sameBits_self_int i p)]
    rfl
  · obtain rfl : p = q := bytes_eq e.symm
    rw [if_pos (sameBits_self_str p)]
    rfl
/-- A key's kind. -/
def KindOf (d : TypeDesc) (k : AV) : Prop := (∃ i j p, d = .int i ∧ k = .int j p) ∨ (∃ s, d = .string ∧ k = .str s) ∨ (∃ b, d = .bool ∧ k = .bool b)
/-- A map that is changed. -/
theorem mapSet_sim {ρ : Rho} {G : Nat → Prop} {H : VH} {w : World} (h : RelH ρ G H w) {b : Nat} {pl : Pl} {es : List ME} {c v : Nat} (hb : ρ b = some pl) (hm : H.map? b = some (es, c, v)) (es' : List ME) (c' : Nat) (a' : Array MapEntry) (hi : isIt es' = false) (hr : MR ρ es' a'.toList) :
    RelH ρ G (H.setMap b es' c' v) (mapW w pl.rb (.map a' c')) ∧ Post ρ ρ (fun _ => False) w (mapW w pl.rb (.map a' c')) := setMap_sim h hb (map?_get hm) es' c' (.map a' c') (.inl ⟨hi, a', rfl, hr⟩)
theorem isIt_of {e : ME} {es : List ME} (h : e.k ≠ .undef) : isIt (e :: es) = false := by
  obtain ⟨k, v, n⟩ := e
  cases k <;> first | rfl | exact absurd rfl h
theorem isIt_head {e : ME} {es : List ME} (h : isIt (e :: es) = false) : e.k ≠ .undef := by
  obtain ⟨k, v, n⟩ := e
  intro e1
  simp only at e1
  subst e1
  cases h
theorem isIt_snoc {es : List ME} {x : ME} (h : isIt es = false) (hx : x.k ≠ .undef) : isIt (es ++ [x]) = false := by
  cases es with
  | nil => exact isIt_of hx
  | cons e es => exact isIt_of (isIt_head h)
theorem isIt_mset {es : List ME} {x : ME} (h : isIt es = false) (i : Nat) (hx : i = 0 → x.k ≠ .undef) : isIt (mset x es i) = false := by
  cases es with
  | nil => cases i <;> rfl
  | cons e es =>
    cases i with
    | zero => exact isIt_of (hx rfl)
    | succ i => exact isIt_of (isIt_head h)
theorem KindOf.ne {d : TypeDesc} {k : AV} (h : KindOf d k) : k ≠ .undef := by
  rcases h with ⟨_, _, _, _, rfl⟩ | ⟨_, _, rfl⟩ | ⟨_, _, rfl⟩ <;> intro e <;> cases e
theorem mborn_get {n : Int} : ∀ {es : List ME} {i j : Nat} {e : ME}, mborn n es i = some (j, e) → ∃ d, j = i + d ∧ es[d]? = some e
  | [], _, _, _, h => by cases h
  | x :: es, i, j, e, h => by
    unfold mborn at h
    split at h
    · simp only [Option.some.injEq, Prod.mk.injEq] at h
      obtain ⟨rfl, rfl⟩ := h
      exact ⟨0, rfl, rfl⟩
    · obtain ⟨d, h1, h2⟩ := mborn_get h
      exact ⟨d + 1, by omega, h2⟩
theorem keyFit_spec {T : Tb} {t : Nat} {k : AV} (h : keyFit T t k = true) : ∃ d, T.und t = some d ∧ KindOf d k := by
  unfold keyFit at h
  split at h
  · rename_i i j p e
    exact ⟨_, e, .inl ⟨i, j, p, rfl, rfl⟩⟩
  · rename_i s e
    exact ⟨_, e, .inr (.inl ⟨s, rfl, rfl⟩)⟩
  · rename_i b e
    exact ⟨_, e, .inr (.inr ⟨b, rfl, rfl⟩)⟩
  · cases h
theorem sameNow_ok {ρ : Rho} {d : TypeDesc} {k x : AV} {u y : Value} {b : Bool} (hd : KindOf d k) (hk : VR ρ k u) (hx : VR ρ x y) (h : kEq k x = some b) : Instr.sameNow d u y = some b := by
  rcases kEq_ok hk hx h with ⟨p, q, rfl, rfl, rfl, rfl⟩ | ⟨i, p, q, rfl, rfl, rfl, rfl⟩ | ⟨s, p, q, rfl, rfl, rfl, rfl⟩
  · rcases hd with ⟨_, _, _, _, e⟩ | ⟨_, _, e⟩ | ⟨_, rfl, _⟩
    · cases e
    · cases e
    · rfl
  · rcases hd with ⟨_, _, _, rfl, _⟩ | ⟨_, _, e⟩ | ⟨_, _, e⟩
    · simp [Instr.sameNow]
    · cases e
    · cases e
  · rcases hd with ⟨_, _, _, _, e⟩ | ⟨_, rfl, _⟩ | ⟨_, _, e⟩
    · cases e
    · rfl
    · cases e
/-- What is found of a key. -/
theorem mfind_ok {ρ : Rho} {d : TypeDesc} {k : AV} {u : Value} (hd : KindOf d k) (hk : VR ρ k u) : ∀ {es : List ME} {vs : List MapEntry} {i : Nat} {r : Option (Nat × ME)}, MR ρ es vs → mfind k es i = some r →
    (r = none ∧ Instr.findNow d u vs i = some none) ∨ ∃ j e y, r = some (i + j, e) ∧ es[j]? = some e ∧ vs[j]? = some y ∧ VR ρ e.k y.key ∧ VR ρ e.v y.val ∧ y.born = e.born ∧ kEq k e.k = some true ∧ Instr.findNow d u vs i = some (some (i + j, y.val))
  | [], vs, i, r, hm, h => by
    have : vs = [] := hm
    subst this
    exact .inl ⟨(Option.some.inj h).symm, rfl⟩
  | e :: es, vs, i, r, ⟨y, us, ev, h1, h2, h3, h4⟩, h => by
    subst ev
    unfold mfind at h
    split at h
    · rename_i hq
      refine .inr ⟨0, e, y, (Option.some.inj h).symm, rfl, rfl, h1, h2, h3, hq, ?_⟩
      simp only [Instr.findNow, sameNow_ok hd hk h1 hq]
      rfl
    · rename_i hq
      have hs := sameNow_ok hd hk h1 hq
      rcases mfind_ok hd hk h4 h with ⟨g1, g2⟩ | ⟨j, e', y', g1, g2, g3, g4, g5, g6, g7, g8⟩
      · exact .inl ⟨g1, by simp only [Instr.findNow, hs]; exact g2⟩
      · refine .inr ⟨j + 1, e', y', by rw [g1]; congr 2; omega, g2, g3, g4, g5, g6, g7, ?_⟩
        simp only [Instr.findNow, hs]
        rw [g8]
        congr 3
        omega
    · cases h
theorem MR.set {ρ : Rho} {x : ME} {y : MapEntry} (h1 : VR ρ x.k y.key) (h2 : VR ρ x.v y.val) (h3 : y.born = x.born) : ∀ {es : List ME} {vs : List MapEntry} {i : Nat}, MR ρ es vs → MR ρ (mset x es i) (vs.set i y)
  | [], vs, i, h => by
    have : vs = [] := h
    subst this
    rfl
  | e :: es, vs, 0, ⟨u, us, ev, _, _, _, g4⟩ => by subst ev; exact ⟨y, us, rfl, h1, h2, h3, g4⟩
  | e :: es, vs, i + 1, ⟨u, us, ev, g1, g2, g3, g4⟩ => by subst ev; exact ⟨u, us.set i y, rfl, g1, g2, g3, MR.set h1 h2 h3 g4⟩
theorem MR.drop {ρ : Rho} : ∀ {es : List ME} {vs : List MapEntry} {i : Nat}, MR ρ es vs → MR ρ (mdrop es i) (vs.eraseIdx i)
  | [], vs, i, h => by
    have : vs = [] := h
    subst this
    rfl
  | e :: es, vs, 0, ⟨u, us, ev, _, _, _, g4⟩ => by subst ev; exact g4
  | e :: es, vs, i + 1, ⟨u, us, ev, g1, g2, g3, g4⟩ => by subst ev; exact ⟨u, us.eraseIdx i, rfl, g1, g2, g3, MR.drop g4⟩
theorem run_checkKey1 {P : Program} {w : World} {t : Nat} {d : TypeDesc} {k : AV} {u : Value} {ρ : Rho} (e : Bool) (n : Nat) (hu : P.underlying t = some d) (hd : KindOf d k) (hk : VR ρ k u) : (Instr.checkKey e (n + 1) t u).run P w = .ok () w := by
  rcases hd with ⟨i, j, p, rfl, rfl⟩ | ⟨s, rfl, rfl⟩ | ⟨b, rfl, rfl⟩
  · obtain rfl : u = .int j p := hk
    simp [Instr.checkKey, run_underlying hu w]
  · obtain ⟨q, rfl, _⟩ := hk
    simp [Instr.checkKey, run_underlying hu w]
  · obtain rfl : u = .bool b := hk
    simp [Instr.checkKey, run_underlying hu w]
theorem run_checkKey {P : Program} {w : World} {t : Nat} {d : TypeDesc} {k : AV} {u : Value} {ρ : Rho} (e : Bool) (hu : P.underlying t = some d) (hd : KindOf d k) (hk : VR ρ k u) : (Instr.checkKey e 10000 t u).run P w = .ok () w := run_checkKey1 e 9999 hu hd hk
theorem run_findKey {P : Program} {w : World} {t : Nat} {d : TypeDesc} {u : Value} {vs : List MapEntry} {r : Option (Nat × Value)} (hu : P.underlying t = some d) (h : Instr.findNow d u vs 0 = some r) : (Instr.findKey t u vs).run P w = .ok r w := by
  simp [Instr.findKey, run_underlying hu w, h]
end Go.Vm
