/- The abstract machine's appends, copies, conversions against the model's. -/
import Derived.Test.YtieocmaaloaoaaaDoorVmSim4
namespace Go.Vm
set_option linter.unusedSimpArgs false
set_option linter.unusedVariables false
set_option linter.unusedSectionVars false
section
variable {ρ : Rho} {G : Nat → Prop} {n0 : Nat} {lam : Nat → Option Nat} {fr : Fr} {a : Act} {w : World}
variable {T : Tb} {P : Program} (hT : TbOk T P) {H : VH} (hF : RelF ρ G n0 lam fr a.tmps w) (hH : RelH ρ G H w) {o : Oper} {promo : Nat → Bool} {r : RV} {fr' : Fr} {H' : VH}

theorem lenOf_ok {x : AV} {v : Value} {n : Nat} (hv : VR ρ x v) (h : vlenOf x = some n) (w : World) : (Builtin.lenOf v).run P w = .ok n w := by
  unfold vlenOf at h
  split at h
  · obtain rfl := Option.some.inj h
    obtain ⟨b, rfl, rfl⟩ := hv
    rfl
  · rename_i ad m c e
    obtain rfl := Option.some.inj h
    cases ad with
    | none => obtain ⟨rfl, rfl, _⟩ := hv; rfl
    | some ad => obtain ⟨_, _, _, _, rfl, _⟩ := hv; rfl
  · cases h

theorem bytes_rel (l : List UInt8) : ∀ (ρ : Rho), VRs ρ (l.map fun b => AV.int .u8 b.toNat) (l.map fun b => Value.int .u8 b.toNat) := fun ρ => by
  induction l with
  | nil => rfl
  | cons b l ih => exact ⟨_, _, rfl, rfl, ih⟩

include hH in
theorem source_ok {x : AV} {v : Value} {sz n m : Nat} {new : List AV} (hv : VR ρ x v) (hm : vlenOf x = some m) (hnm : n ≤ m) (h : vsource H sz n x = some new) :
    ∃ us : List Value, VRs ρ new us ∧ us.length = n * sz ∧ (∀ u ∈ us, u.oneCell' = true) ∧ ∀ w' : World, w'.heap = w.heap → (Builtin.firstCells sz n v).run P w' = .ok us.toArray w' := by
  unfold vsource at h
  split at h
  · rename_i s
    split at h
    · obtain rfl := Option.some.inj h
      obtain ⟨b, rfl, rfl⟩ := hv
      simp only [vlenOf, Option.some.injEq] at hm
      have hbl : n ≤ b.data.toList.length := by rw [← hm] at hnm; exact hnm
      refine ⟨(b.data.toList.take n).map fun c => Value.int .u8 c.toNat, ?_, by rw [List.length_map, List.length_take]; omega, fun u hu => ?_, fun w' _ => ?_⟩
      · rw [PS.bytes_of, ← List.map_take, List.map_map]
        exact bytes_rel _ ρ
      · obtain ⟨c, _, rfl⟩ := List.mem_map.1 hu
        rfl
      · simp only [Builtin.firstCells, Sem.run_pure]
        congr 1
        apply Array.ext'
        simp [ByteArray.data_extract]
    · cases h
  · obtain rfl := Option.some.inj h
    obtain ⟨rfl, h1, _⟩ := hv
    simp only [vlenOf, Option.some.injEq] at hm
    have : n = 0 := by omega
    subst this
    exact ⟨[], rfl, by simp, by simp, fun w' _ => rfl⟩
  · rename_i b off len cap e
    obtain ⟨pl, ro, rc, h1, rfl, h3, h4, h5, h6⟩ := hv
    simp only [vlenOf, Option.some.injEq] at hm
    by_cases h0 : n = 0
    · subst h0
      rw [Nat.zero_mul] at h
      simp only [VH.cells, Option.some.injEq] at h
      subst h
      exact ⟨[], rfl, by simp, by simp, fun w' _ => by simp [Builtin.firstCells, loadCells, loadCellsFrom]⟩
    · obtain rfl : ro = pl.base + off := h5 (by omega)
      obtain ⟨us, g1, g2, g3, g4⟩ := cells_read hH h1 h
      refine ⟨us, g2, g1, g3, fun w' hw' => ?_⟩
      have := run_loadCells_list (P := P) w' ⟨pl.rb, pl.base + off, none⟩ us fun j u e => by
        rw [addr_add, World.cell?, hw', ← World.cell?]
        exact g4 j u e
      rw [g1] at this
      simpa [Builtin.firstCells] using this
  · cases h
theorem zeroCells_one (z : Array Value) (h : ∀ u ∈ z.toList, u.oneCell' = true) (n : Nat) : (Builtin.zeroCells z n).size = n * z.size := by simp [Builtin.zeroCells]

/-- The model's append, its second argument no number. -/
theorem run_append (st xt ty elem : Nat) (base : Option Addr) (sLen sCap n : Nat) (vx : Value) (i : TypeInfo) (zv : Value) (us : List Value)
    (hst : P.underlying st = some (.slice elem)) (hxt : (∃ e, P.underlying xt = some (.slice e)) ∨ P.underlying xt = some .string) (hi : P.info? elem = some i) (hz : i.zero = some zv)
    (hl : ∀ w : World, (Builtin.lenOf vx).run P w = .ok n w) (hx : ∀ w' : World, w'.heap = w.heap → (Builtin.firstCells i.size n vx).run P w' = .ok us.toArray w') :
    (sLen + n ≤ sCap → ∀ w1, (match base with | some a => storeCells (a.add (sLen * i.size)) us | none => pure ()).run P w = .ok () w1 → (Builtin.append_ #[st, xt] ty #[.slice base sLen sCap, vx]).run P w = .ok (.slice base (sLen + n) sCap) w1) ∧
    (sCap < sLen + n → sLen + n ≤ 9223372036854775807 → (sLen + n) * i.bytes ≤ 140737488355328 → ∀ olds : List Value, (∀ w' : World, w'.heap = w.heap → (Builtin.firstCells i.size sLen (.slice base sLen sCap)).run P w' = .ok olds.toArray w') →
      (Builtin.append_ #[st, xt] ty #[.slice base sLen sCap, vx]).run P w = .ok (.slice (some ⟨w.heap.size, 0, none⟩) (sLen + n) (grownCap w (sLen + n) sCap elem))
        (w.drew.alloc (.cells (olds.toArray ++ us.toArray ++ Builtin.zeroCells zv.cells (grownCap w (sLen + n) sCap elem - (sLen + n))) elem))) := by
  refine ⟨fun hle w1 hst1 => ?_, fun hgt h63 hb olds hold => ?_⟩
  · have hxw := hx w rfl
    have hlw := hl w
    cases base with
    | none =>
      have e1 : w1 = w := by
        simp only [Sem.run_pure, Result.ok.injEq, true_and] at hst1
        exact hst1.symm
      subst e1
      rcases hxt with ⟨e, hd⟩ | hd <;> simp [Builtin.append_, run_underlying hst, run_underlying hd, sizeOf, typeInfo, hi, hlw, hle, hxw]
    | some ad =>
      simp only at hst1
      rcases hxt with ⟨e, hd⟩ | hd <;> simp [Builtin.append_, run_underlying hst, run_underlying hd, sizeOf, typeInfo, hi, hlw, hle, hxw, hst1]
  · have hn : ¬ (sLen + n ≤ sCap) := by omega
    have h63' : ¬ (9223372036854775807 < ((sLen : Int) + (n : Int))) := by omega
    have h48 := growslice_fits (need := sLen + n) (old := sCap) (bytes := i.bytes) (by omega) hb
    have h48' : ¬ (281474976710656 < Builtin.nextslicecap (sLen + n) sCap * i.bytes) := by omega
    have ho := hold w.drew rfl
    have hxd := hx w.drew rfl
    have hlw := hl w
    rcases hxt with ⟨e, hd⟩ | hd <;> simp [Builtin.append_, run_underlying hst, run_underlying hd, sizeOf, typeInfo, zeroValue, hi, hz, hlw, hn, h63', h48', Question.forced, ho, hxd, newRow, grownCap] <;> (congr 2; apply Array.ext'; simp)

theorem first_zero {x : AV} {v : Value} {m sz : Nat} (hv : VR ρ x v) (hm : vlenOf x = some m) (w : World) : (Builtin.firstCells sz 0 v).run P w = .ok #[] w := by
  unfold vlenOf at hm
  split at hm
  · obtain ⟨b, rfl, _⟩ := hv
    simp only [Builtin.firstCells, Sem.run_pure]
    congr 1
    apply Array.ext'
    simp [ByteArray.data_extract]
  · rename_i ad n c e
    cases ad with
    | none => obtain ⟨rfl, _⟩ := hv; rfl
    | some ad => obtain ⟨_, _, _, _, rfl, _⟩ := hv; simp [Builtin.firstCells, loadCells, loadCellsFrom]
  · cases hm
theorem old_cells (hH : RelH ρ G H w) {b off len sz : Nat} {pl : Pl} {olds : List AV} {rc : Nat} (hb : ρ b = some pl) (h : H.cells b off (len * sz) = some olds) :
    ∃ us : List Value, VRs ρ olds us ∧ us.length = len * sz ∧ (∀ u ∈ us, u.oneCell' = true) ∧ (∀ j u, us[j]? = some u → w.cell? ⟨pl.rb, pl.base + off + j, none⟩ = some u) ∧ ∀ w' : World, w'.heap = w.heap → (Builtin.firstCells sz len (.slice (some ⟨pl.rb, pl.base + off, none⟩) len rc)).run P w' = .ok us.toArray w' := by
  obtain ⟨us, g1, g2, g3, g4⟩ := cells_read hH hb h
  refine ⟨us, g2, g1, g3, g4, fun w' hw' => ?_⟩
  have := run_loadCells_list (P := P) w' ⟨pl.rb, pl.base + off, none⟩ us fun j u e => by
    rw [addr_add, World.cell?, hw', ← World.cell?]
    exact g4 j u e
  rw [g1] at this
  simpa [Builtin.firstCells] using this
theorem zeros_one {i : TypeInfo} {zv : Value} {z : AV} (hz : ofValue zv = some z) (n : Nat) : ∀ u ∈ (Builtin.zeroCells zv.cells n).toList, u.oneCell' = true := by
  intro u hu
  obtain ⟨_, h2⟩ := ofValue_cells (ρ := fun _ => none) hz
  simp only [Builtin.zeroCells, Array.toList_map, List.mem_map, Array.toList_range, List.mem_range] at hu
  obtain ⟨k, hk, rfl⟩ := hu
  have hp : 0 < zv.cells.size := by
    rcases Nat.eq_zero_or_pos zv.cells.size with h0 | h0
    · rw [h0, Nat.mul_zero] at hk; omega
    · exact h0
  have hlt : k % zv.cells.size < zv.cells.size := Nat.mod_lt _ hp
  rw [getElem!_pos zv.cells _ hlt]
  exact h2 _ (by simp)
theorem listy_ok {t : Nat} (h : listy T t = true) : (∃ e, T.und t = some (.slice e)) ∨ T.und t = some .string := by
  unfold listy at h
  split at h
  · rename_i e he; exact .inl ⟨e, he⟩
  · rename_i he; exact .inr he
  · cases h

theorem drew_alloc_heap (w : World) (x : Obj) : (w.drew.alloc x).heap = (w.alloc x).heap := rfl
theorem post_of {ρ' : Rho} {B : Nat → Prop} {w' w'' : World} (h : Post ρ ρ' B w w') (e1 : w''.heap = w'.heap) (e2 : w''.os = w'.os) (e3 : w''.tape = w'.tape) (e4 : w''.output = w'.output) : Post ρ ρ' B w w'' where
  le := h.le
  os := e2.trans h.os
  tape := e3.trans h.tape
  output := e4.trans h.output
  size := by rw [e1]; exact h.size
  frame := by rw [e1]; exact h.frame
  fresh := h.fresh

theorem cells_get {b : Nat} {r : Row} (hr : H.row? b = some r) : ∀ {n off : Nat} {cs : List AV}, H.cells b off n = some cs → ∀ j, j < n → cs[j]? = r.t.get (off + j)
  | 0, _, _, _, _, hj => absurd hj (Nat.not_lt_zero _)
  | n + 1, off, cs, h, j, hj => by
    simp only [VH.cells] at h
    split at h
    · rename_i v vs h1 h2
      obtain rfl := Option.some.inj h
      cases j with
      | zero =>
        unfold VH.cell at h1
        rw [hr] at h1
        simp only at h1
        split at h1
        · split at h1
          · rw [Nat.add_zero, h1]; rfl
          · cases h1
        · cases h1
      | succ j =>
        have := cells_get hr h2 j (by omega)
        rw [show off + (j + 1) = off + 1 + j by omega, ← this]
        rfl
    · cases h

include hT hH in
theorem sim_append {st xt : Nat} {p q v : AV} {up uq : Value} {ty : Nat} (hp : VR ρ p up) (hq : VR ρ q uq) (h : vappend T H [st, xt] p q = some (v, H')) :
    ∃ u w' ρ', (Builtin.append_ #[st, xt] ty #[up, uq]).run P w = .ok u w' ∧ Post ρ ρ' (fun _ => False) w w' ∧ RelH ρ' G H' w' ∧ VR ρ' v u ∧ Hs H H' := by
  simp only [vappend] at h
  split at h
  · rename_i elem hu hli
    split at h
    · rename_i i len n hi hlen hn
      have hst := und_ok hT hu
      have hxt : (∃ e, P.underlying xt = some (.slice e)) ∨ P.underlying xt = some .string := by
        rcases listy_ok hli with ⟨e, he⟩ | he
        · exact .inl ⟨e, und_ok hT he⟩
        · exact .inr (und_ok hT he)
      have hinf := hT.ty _ _ hi
      split at h
      · rename_i hn0
        have hn0' : n = 0 := by simpa using hn0
        subst hn0'
        split at h
        · rename_i ad m c e
          simp only [Option.some.injEq, Prod.mk.injEq] at h
          obtain ⟨rfl, rfl⟩ := h
          obtain ⟨zv0, hzv0⟩ : ∃ d : Option Addr, ∃ m' rc, up = .slice d m' rc ∧ m' ≤ rc ∧ (d = none → m' = 0) := by
            cases ad with
            | none => obtain ⟨rfl, _⟩ := hp; exact ⟨none, 0, 0, rfl, Nat.le_refl _, fun _ => rfl⟩
            | some ad => obtain ⟨_, _, rc, _, rfl, hle, _⟩ := hp; exact ⟨_, _, rc, rfl, hle, fun e => by cases e⟩
          obtain ⟨m', rc, rfl, hle, _⟩ := hzv0
          refine ⟨.slice zv0 m' rc, w, ρ, ?_, .refl _ _ _, hH, hp, .refl _⟩
          have hf := fun w' : World => first_zero (P := P) (sz := i.size) hq hn w'
          have hlo := lenOf_ok (P := P) hq hn w
          cases zv0 with
          | none => rcases hxt with ⟨e, hd⟩ | hd <;> simp [Builtin.append_, run_underlying hst, run_underlying hd, sizeOf, typeInfo, hinf, hlo, hle, hf]
          | some ad => rcases hxt with ⟨e, hd⟩ | hd <;> simp [Builtin.append_, run_underlying hst, run_underlying hd, sizeOf, typeInfo, hinf, hlo, hle, hf, storeCells]
        · cases h
      · rename_i hn0
        have hn0' : n ≠ 0 := by simpa using hn0
        split at h
        · rename_i hc
          simp only [Bool.and_eq_true, Nat.blt_eq] at hc
          obtain ⟨⟨⟨c1, c2⟩, c3⟩, c4⟩ := hc
          have c2' := Nat.le_of_ble_eq_true c2
          have c3' := Nat.le_of_ble_eq_true c3
          obtain ⟨z, hz, hzl⟩ : ∃ z, zeroOf T elem = some z ∧ z.cells.length = i.size := by
            unfold zeroFits at c4
            cases hz : zeroOf T elem with
            | none => rw [hz] at c4; cases c4
            | some z => rw [hz] at c4; exact ⟨z, rfl, by simpa using c4⟩
          obtain ⟨zv, hzv⟩ : ∃ zv, i.zero = some zv := by
            unfold zeroOf at hz
            rw [hi] at hz
            simp only at hz
            cases hq : i.zero with
            | none => rw [hq] at hz; cases hz
            | some zv => exact ⟨zv, rfl⟩
          split at h
          · rename_i new hnew
            split at h
            · rename_i hone
              obtain ⟨us, g1, g2, g3, g4⟩ := source_ok (P := P) hH hq hn (Nat.le_refl n) hnew
              have hlo := fun w' => lenOf_ok (P := P) hq hn w'
              have ha := fun base sLen sCap => run_append (P := P) (w := w) (ty := ty) st xt elem base sLen sCap n uq i zv us hst hxt hinf hzv hlo g4
              have hzr : ofValue zv = some z := by
                unfold zeroOf at hz
                rw [hi] at hz
                simp only [hzv, Option.bind_some] at hz
                exact hz
              have hlenv := lenOf_ok (P := P) hp hlen w
              have hzs : zv.cells.size = i.size := by
                have := (ofValue_cells (ρ := ρ) hzr).1.length
                rw [Array.length_toList, hzl] at this
                exact this
              have bound : ∀ (olds : List Value) (sLen sCap : Nat), olds.length = sLen * i.size → (grownCap w (sLen + n) sCap elem) * i.size ≤ (olds.toArray ++ us.toArray ++ Builtin.zeroCells zv.cells (grownCap w (sLen + n) sCap elem - (sLen + n))).size := by
                intro olds sLen sCap ho
                have hge := grownCap_ge w (sLen + n) sCap elem
                simp only [Array.size_append, List.size_toArray, size_zeroCells, ho, g2, hzs]
                rw [← Nat.add_mul, ← Nat.add_mul, Nat.add_sub_cancel' hge]
                exact Nat.le_refl _
              unfold appendTo at h
              split at h
              · rename_i m0 c0 e0
                simp only [Option.some.injEq, Prod.mk.injEq] at h
                obtain ⟨rfl, rfl⟩ := h
                obtain ⟨rfl, rfl, _⟩ := hp
                have hl0 : len = 0 := by simp only [vlenOf, Option.some.injEq] at hlen; exact hlen.symm
                subst hl0
                have hr := (ha none 0 0).2 (by omega) (by omega) c2' [] (fun w' _ => rfl)
                have hm := fresh_sim (hH.of_heap (w' := w.drew) rfl) new (([] : List Value).toArray ++ us.toArray ++ Builtin.zeroCells zv.cells (grownCap w (0 + n) 0 elem - (0 + n))) elem (0, 0) (fun i _ => by simp) us (Builtin.zeroCells zv.cells (grownCap w (0 + n) 0 elem - (0 + n))).toList (by simp) g1 g3
                have hbd := bound [] 0 0 (by simp)
                refine ⟨_, _, _, hr, post_of (post_alloc hH (.cells _ elem) H.next _ (Nat.le_refl _)) rfl rfl rfl rfl, hm, ⟨_, 0, grownCap w (0 + n) 0 elem, Rho.set_same _ _ _, ?_, ?_, ?_, fun _ => rfl, ?_⟩, .fresh _ _⟩
                · rw [Nat.zero_add]
                · have := grownCap_ge w (0 + n) 0 elem; omega
                · intro c' e; cases e
                · rw [Nat.zero_add]; exact hbd
              · rename_i b off len' c e
                have hl0 : len = len' := by simp only [vlenOf, Option.some.injEq] at hlen; exact hlen.symm
                subst hl0
                obtain ⟨pl, ro, rc, k1, rfl, k3, k4, k5, k6⟩ := hp
                have hrc : rc = c := k4 c rfl
                subst hrc
                split at h
                · cases h
                · rename_i hesz
                  have hesz' : e = i.size := by simpa using hesz
                  subst hesz'
                  split at h
                  · rename_i hle
                    have hle' := Nat.le_of_ble_eq_true hle
                    split at h
                    · rename_i H1 hputs
                      simp only [Option.some.injEq, Prod.mk.injEq] at h
                      obtain ⟨rfl, rfl⟩ := h
                      obtain rfl : ro = pl.base + off := k5 (by omega)
                      obtain ⟨m1, m2⟩ := run_puts (P := P) hH k1 g1 hputs
                      have hr := (ha (some ⟨pl.rb, pl.base + off, none⟩) len rc).1 hle' _ (by simpa [addr_add, Nat.add_assoc] using m1)
                      refine ⟨_, _, ρ, hr, post_puts hH k1 g1 hputs, m2, ⟨pl, _, rc, k1, rfl, hle', fun c' e => (Option.some.inj e), fun _ => rfl, k6⟩, .puts hputs⟩
                    · cases h
                  · rename_i hle
                    have hle' : rc < len + n := by
                      rcases Nat.lt_or_ge rc (len + n) with h1 | h1
                      · exact h1
                      · exact absurd (Nat.ble_eq_true_of_le h1) hle
                    split at h
                    · rename_i old hold
                      simp only [Option.some.injEq, Prod.mk.injEq] at h
                      obtain ⟨rfl, rfl⟩ := h
                      obtain ⟨uo, q1, q2, q3, q4⟩ : ∃ uo : List Value, VRs ρ old uo ∧ uo.length = len * i.size ∧ (∀ u ∈ uo, u.oneCell' = true) ∧ ∀ w' : World, w'.heap = w.heap → (Builtin.firstCells i.size len (.slice (some ⟨pl.rb, ro, none⟩) len rc)).run P w' = .ok uo.toArray w' := by
                        by_cases h0 : len = 0
                        · subst h0
                          rw [Nat.zero_mul] at hold
                          simp only [VH.cells, Option.some.injEq] at hold
                          subst hold
                          exact ⟨[], rfl, by simp, by simp, fun w' _ => by simp [Builtin.firstCells, loadCells, loadCellsFrom]⟩
                        · obtain rfl : ro = pl.base + off := k5 (by omega)
                          obtain ⟨uo, q1, q2, q3, q4, q5⟩ := old_cells (P := P) (rc := rc) hH k1 hold
                          exact ⟨uo, q1, q2, q3, q5⟩
                      have hr := (ha (some ⟨pl.rb, ro, none⟩) len rc).2 hle' c3' c2' uo q4
                      have hm := fresh_sim (hH.of_heap (w' := w.drew) rfl) (old ++ new) (uo.toArray ++ us.toArray ++ Builtin.zeroCells zv.cells (grownCap w (len + n) rc elem - (len + n))) elem (0, 0) (fun i _ => by simp) (uo ++ us) (Builtin.zeroCells zv.cells (grownCap w (len + n) rc elem - (len + n))).toList (by simp) (q1.append g1) (fun u hu => (List.mem_append.1 hu).elim (q3 u) (g3 u))
                      have hbd := bound uo len rc q2
                      refine ⟨_, _, _, hr, post_of (post_alloc hH (.cells _ elem) H.next _ (Nat.le_refl _)) rfl rfl rfl rfl, hm, ⟨_, 0, grownCap w (len + n) rc elem, Rho.set_same _ _ _, rfl, grownCap_ge _ _ _ _, fun c' e => (by cases e), fun _ => rfl, ?_⟩, .fresh _ _⟩
                      rw [Nat.zero_add]; exact hbd
                    · cases h
              · rename_i b off len' e
                have hl0 : len = len' := by simp only [vlenOf, Option.some.injEq] at hlen; exact hlen.symm
                subst hl0
                obtain ⟨pl, ro, rc, k1, rfl, k3, k4, k5, k6⟩ := hp
                split at h
                · cases h
                · rename_i hesz
                  have hesz' : e = i.size := by simpa using hesz
                  subst hesz'
                  split at h
                  · rename_i rr hrr
                    split at h
                    · rename_i hcc
                      simp only [Bool.and_eq_true] at hcc
                      have hle' := Nat.le_of_ble_eq_true hcc.2
                      split at h
                      · rename_i t0 ht0
                        simp only [Option.some.injEq, Prod.mk.injEq] at h
                        obtain ⟨rfl, rfl⟩ := h
                        have htt : ∀ j, j < len * i.size → t0.get j = rr.t.get (off + j) := by
                          intro j hj
                          cases off with
                          | zero =>
                            obtain rfl := Option.some.inj ht0
                            rw [Nat.zero_add]
                          | succ off' =>
                            simp only [Option.map_eq_some_iff] at ht0
                            obtain ⟨cs, hcs, rfl⟩ := ht0
                            rw [Tr.get_ofList]
                            exact cells_get hrr hcs j hj
                        by_cases hfit : len + n ≤ rc
                        · obtain rfl : ro = pl.base + off := k5 (by omega)
                          have hsz : pl.base + off + len * i.size + n * i.size ≤ pl.size := by
                            have h1 : (len + n) * i.size ≤ rc * i.size := Nat.mul_le_mul_right _ hfit
                            rw [Nat.add_mul] at h1
                            omega
                          have hpl := place_sim hH k1 hrr hcc.1.1 (Nat.beq (off + len * i.size) rr.n) (len * i.size) (n * i.size) t0 new us g1 g3 g2.symm (fun hb => by simpa using hb) hle' hsz htt hcc.1.2
                          have hst : (storeCells ((⟨pl.rb, pl.base + off, none⟩ : Addr).add (len * i.size)) us).run P w = .ok () (storesW w pl.rb (pl.base + off + len * i.size) us) := by
                            rw [addr_add]
                            obtain ⟨cc, et, fz, w1, w2, w3, w4, w5⟩ := hH.row b pl rr k1 hrr
                            exact run_storeCells pl.rb _ us 0 w (fun j hj => ⟨cc[pl.base + off + len * i.size + 0 + j]'(by omega), by simp [World.cell?, w1]⟩) (fun j hj => by
                              have := (w4 hcc.1.1).1 (pl.base + off + len * i.size + 0 + j) (by omega)
                              simp only [World.frozen?, w1, Bool.and_eq_false_iff, decide_eq_false_iff_not]
                              omega) g3
                          have hr := (ha (some ⟨pl.rb, pl.base + off, none⟩) len rc).1 hfit _ (by simpa using hst)
                          exact ⟨_, _, _, hr, post_place hH k1 (live_quiet hH k1 hrr hcc.1.1) _ _ _, hpl, ⟨_, _, rc, Rho.set_same _ _ _, rfl, hfit, fun c' e => (by cases e), fun _ => rfl, k6⟩, .grow _ _ _ hrr hcc.1.1⟩
                        · have hgt : rc < len + n := by omega
                          obtain ⟨uo, q2, q4, q5⟩ : ∃ uo : List Value, uo.length = len * i.size ∧ (∀ j u, uo[j]? = some u → w.cell? ⟨pl.rb, pl.base + off + j, none⟩ = some u) ∧ ∀ w' : World, w'.heap = w.heap → (Builtin.firstCells i.size len (.slice (some ⟨pl.rb, ro, none⟩) len rc)).run P w' = .ok uo.toArray w' := by
                            by_cases h0 : len = 0
                            · subst h0
                              exact ⟨[], by simp, fun j u e => by simp at e, fun w' _ => by simp [Builtin.firstCells, loadCells, loadCellsFrom]⟩
                            · obtain rfl : ro = pl.base + off := k5 (by omega)
                              obtain ⟨cc, et, fz, w1, w2, w3, w4, w5⟩ := hH.row b pl rr k1 hrr
                              have hcl : (cc.toList.drop (pl.base + off)).length ≥ len * i.size := by rw [List.length_drop, Array.length_toList]; omega
                              have hget : ∀ j u, ((cc.toList.drop (pl.base + off)).take (len * i.size))[j]? = some u → w.cell? ⟨pl.rb, pl.base + off + j, none⟩ = some u := fun j u e => by
                                rw [List.getElem?_take] at e
                                split at e
                                · rw [List.getElem?_drop, Array.getElem?_toList] at e
                                  simpa [World.cell?, w1] using e
                                · cases e
                              have hlen' : ((cc.toList.drop (pl.base + off)).take (len * i.size)).length = len * i.size := by rw [List.length_take]; omega
                              refine ⟨(cc.toList.drop (pl.base + off)).take (len * i.size), hlen', hget, fun w' hw' => ?_⟩
                              have := run_loadCells_list (P := P) w' ⟨pl.rb, pl.base + off, none⟩ _ fun j u e => by
                                rw [addr_add, World.cell?, hw', ← World.cell?]
                                exact hget j u e
                              rw [hlen'] at this
                              simpa [Builtin.firstCells] using this
                          have hr := (ha (some ⟨pl.rb, ro, none⟩) len rc).2 hgt c3' c2' uo q5
                          have hm := copy_sim (hH.of_heap (w' := w.drew) rfl) k1 hrr (Nat.beq (off + len * i.size) rr.n) (len * i.size) (n * i.size) t0 new uo us (Builtin.zeroCells zv.cells (grownCap w (len + n) rc elem - (len + n))).toList q2 g1 g3 g2.symm hle' (fun j u e => q4 j u e) htt hcc.1.2 elem (uo.toArray ++ us.toArray ++ Builtin.zeroCells zv.cells (grownCap w (len + n) rc elem - (len + n))) (by simp)
                          have hbd := bound uo len rc q2
                          refine ⟨_, _, _, hr, post_of (post_alloc hH (.cells _ elem) H.next _ (Nat.le_refl _)) rfl rfl rfl rfl, hm, ⟨_, 0, grownCap w (len + n) rc elem, Rho.set_same _ _ _, rfl, grownCap_ge _ _ _ _, fun c' e => (by cases e), fun _ => rfl, ?_⟩, .grow _ _ _ hrr hcc.1.1⟩
                          rw [Nat.zero_add]; exact hbd
                      · cases h
                    · cases h
                  · cases h
              · cases h
            · cases h
          · cases h
        · cases h
    · cases h
  · cases h

end
end Go.Vm
