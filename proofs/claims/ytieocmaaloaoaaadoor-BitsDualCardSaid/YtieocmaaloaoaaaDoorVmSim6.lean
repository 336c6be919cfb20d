/- The abstract machine's slices, copies, conversions against the model's. -/
import Derived.Test.YtieocmaaloaoaaaDoorVmSim5
import Derived.Laws.MakeOwn
import Derived.Laws.BytesString
import Derived.Laws.Slices
namespace Go.Vm
set_option linter.unusedSimpArgs false
set_option linter.unusedVariables false
set_option linter.unusedSectionVars false
section
variable {ρ : Rho} {G : Nat → Prop} {n0 : Nat} {lam : Nat → Option Nat} {fr : Fr} {a : Act} {w : World}
variable {T : Tb} {P : Program} (hT : TbOk T P) {H : VH} (hF : RelF ρ G n0 lam fr a.tmps w) (hH : RelH ρ G H w) {o : Oper} {promo : Nat → Bool} {r : RV} {fr' : Fr} {H' : VH}

def OptR (ρ : Rho) : Option AV → Option Value → Prop
  | none, none => True
  | some a, some u => VR ρ a u
  | _, _ => False
theorem optEv_rel (hF : RelF ρ G n0 lam fr a.tmps w) {x : Option Operand} {p : Option AV} (h : optEv fr x = some p) : OptR ρ p (x.map a.eval) := by
  unfold optEv at h
  split at h
  · obtain rfl := Option.some.inj h
    exact trivial
  · split at h
    · rename_i v hv
      obtain rfl := Option.some.inj h
      exact eva_rel hF hv
    · cases h
theorem bounds_ok {lo hi : Option AV} {ulo uhi : Option Value} {y len cap hh l : Nat} (hlo : OptR ρ lo ulo) (hhi : OptR ρ hi uhi) (e1 : bound hi y len = some hh) (e2 : bound lo hh 0 = some l) (h1 : y ≤ cap) (h2 : len ≤ cap) (b : Bool) (w : World) :
    (Instr.sliceBounds b len cap ulo uhi none).run P w = .ok (l, hh, cap) w ∧ l ≤ hh ∧ hh ≤ cap := by
  have one : ∀ {v : Option AV} {u : Option Value} {y d n : Nat}, OptR ρ v u → bound v y d = some n → (u = none ∧ n = d) ∨ ∃ k i, u = some (.int k i) ∧ 0 ≤ i ∧ i ≤ (y : Int) ∧ n = i.toNat := by
    intro v u y d n hv h
    unfold bound at h
    split at h
    · obtain rfl := Option.some.inj h
      cases u with
      | none => exact .inl ⟨rfl, rfl⟩
      | some u => exact hv.elim
    · rename_i k i
      split at h
      · rename_i hc
        obtain rfl := Option.some.inj h
        simp only [ile_eq, Bool.and_eq_true, decide_eq_true_eq] at hc
        cases u with
        | none => exact hv.elim
        | some u => obtain rfl : u = _ := hv; exact .inr ⟨k, i, rfl, hc.1, hc.2, rfl⟩
      · cases h
    · cases h
  rcases one hhi e1 with ⟨rfl, rfl⟩ | ⟨k, i, rfl, i0, i1, rfl⟩ <;> rcases one hlo e2 with ⟨rfl, rfl⟩ | ⟨k', j, rfl, j0, j1, rfl⟩
  · exact ⟨by simp [Instr.sliceBounds], Nat.zero_le _, h2⟩
  · exact ⟨by simp [Instr.sliceBounds, run_sliceBound w k' j hh _ j0 j1], by omega, h2⟩
  · exact ⟨by simp [Instr.sliceBounds, run_sliceBound w k i cap _ i0 (by omega)], Nat.zero_le _, by omega⟩
  · exact ⟨by simp [Instr.sliceBounds, run_sliceBound w k i cap _ i0 (by omega), run_sliceBound w k' j i.toNat _ j0 j1], by omega, by omega⟩

include hT hF hH in
theorem sim_slice {t : Nat} {x : Operand} {lo hi : Option Operand} (ho : o.op = .slice t x lo hi none) (h : oSlice T fr H t x lo hi = some (r, fr', H')) : Sim P o ρ G n0 lam fr a w H r fr' H' := by
  unfold oSlice at h
  split at h
  · rename_i rv p q hx hlo hhi
    obtain ⟨v, hv, rfl, rfl, rfl⟩ := outV_spec h
    clear h
    have hl := optEv_rel hF hlo
    have hh := optEv_rel hF hhi
    have hxv := ev_rel hF hx
    have done : ∀ u, VR ρ v u → (Instr.sliceAt t (a.eval x) (lo.map a.eval) (hi.map a.eval) none).run P w = .ok u w → Sim P o ρ G n0 lam fr' a w H' (.v v) fr' H' := fun u h1 h2 =>
      ⟨u, w, ρ, lam, .value (by simp [execOp, ho, h2]), .quietA hF hH h1⟩
    unfold vslice at hv
    split at hv
    · rename_i s hu
      unfold vsliceStr at hv
      obtain ⟨b, e0, rfl⟩ := hxv
      split at hv
      · rename_i h1 e1
        split at hv
        · rename_i l1 e2
          obtain rfl := Option.some.inj hv
          have hbs : b.size = (PS.of b.data.toList).len := rfl
          obtain ⟨r1, r2, r3⟩ := bounds_ok (P := P) hl hh e1 e2 (Nat.le_refl _) (Nat.le_refl _) false w
          refine done (.string (b.extract l1 h1)) ⟨_, rfl, ?_⟩ ?_
          · rw [PS.ext_of _ _ _ (by rw [← hbs] at r3; exact r3)]
            simp [ByteArray.data_extract, List.extract_eq_drop_take']
          · rw [← hbs] at r1
            simp only [Instr.sliceAt, Sem.run_bind, run_und hT hu w, Result.andThen, e0, Instr.slice, Option.isSome_none]
            simp [r1]
        · cases hv
      · cases hv
    · rename_i elem ad len cap esz hu
      split at hv
      · rename_i s hs
        unfold vsliceRow at hv
        split at hv
        · cases hv
        · rename_i hc
          simp only [Bool.and_eq_false_iff, Bool.not_eq_false'] at hc
          split at hv
          · rename_i h1 e1
            split at hv
            · rename_i l1 e2
              obtain rfl := Option.some.inj hv
              cases ad with
              | none =>
                obtain ⟨e0, rfl, rfl⟩ := hxv
                obtain ⟨r1, r2, r3⟩ := bounds_ok (P := P) hl hh e1 e2 (Nat.le_refl _) (Nat.le_refl _) true w
                simp only [Option.getD_some] at r1 r3
                have z1 : h1 = 0 := by omega
                have z2 : l1 = 0 := by omega
                subst z1 z2
                refine done (.slice none 0 0) ⟨rfl, rfl, rfl⟩ ?_
                simp only [Instr.sliceAt, Sem.run_bind, run_und hT hu w, Result.andThen, e0, Instr.slice, r1, Sem.run_pure, run_size hT hs w]
                simp
              | some ad =>
                obtain ⟨b, off⟩ := ad
                obtain ⟨pl, ro, rc, k1, e0, k3, k4, k5, k6⟩ := hxv
                have hes : esz = s := by simpa using hc
                subst hes
                have hy : cap.getD len ≤ rc := by
                  cases cap with
                  | none => exact k3
                  | some c => rw [k4 c rfl]; exact Nat.le_refl _
                obtain ⟨r1, r2, r3⟩ := bounds_ok (P := P) hl hh e1 e2 hy k3 true w
                refine done (.slice (if rc = l1 then some ⟨pl.rb, ro, none⟩ else some ((⟨pl.rb, ro, none⟩ : Addr).add (l1 * esz))) (h1 - l1) (rc - l1)) ?_ ?_
                · by_cases hz : rc = l1
                  · subst hz
                    rw [if_pos rfl]
                    refine ⟨pl, ro, rc - rc, k1, rfl, by omega, fun c' e => ?_, fun e => by omega, by rw [Nat.sub_self, Nat.zero_mul]; omega⟩
                    cases cap with
                    | none => cases e
                    | some c => simp only [Option.map_some, Option.some.injEq] at e; have := k4 c rfl; omega
                  · rw [if_neg hz, addr_add]
                    refine ⟨pl, _, rc - l1, k1, rfl, by omega, fun c' e => ?_, fun e => ?_, ?_⟩
                    · cases cap with
                      | none => cases e
                      | some c => simp only [Option.map_some, Option.some.injEq] at e; have := k4 c rfl; omega
                    · have := k5 (by omega); simp only; simp only at this; omega
                    · have : l1 * esz + (rc - l1) * esz = rc * esz := by rw [← Nat.add_mul]; congr 1; omega
                      omega
                · simp only [Instr.sliceAt, Sem.run_bind, run_und hT hu w, Result.andThen, e0, Instr.slice, r1, Sem.run_pure, run_size hT hs w]
                  simp
            · cases hv
          · cases hv
      · cases hv
    · rename_i n elem b off hu
      split at hv
      · rename_i s hs
        unfold vsliceArr at hv
        obtain ⟨pl, k1, e0⟩ := hxv
        split at hv
        · cases hv
        · rename_i hfit
          split at hv
          · rename_i h1 e1
            split at hv
            · rename_i l1 e2
              obtain rfl := Option.some.inj hv
              obtain ⟨r1, r2, r3⟩ := bounds_ok (P := P) hl hh e1 e2 (Nat.le_refl _) (Nat.le_refl _) false w
              have hsz : pl.base + (off + n * s) ≤ pl.size := by
                unfold fits at hfit
                split at hfit
                · rename_i rr hrr
                  have := Nat.le_of_ble_eq_true hfit
                  obtain ⟨_, _, _, _, _, w3, _⟩ := hH.row b pl rr k1 hrr
                  omega
                · cases hfit
              refine done (.slice (some (if n = l1 then ⟨pl.rb, pl.base + off, none⟩ else (⟨pl.rb, pl.base + off, none⟩ : Addr).add (l1 * s))) (h1 - l1) (n - l1)) ?_ ?_
              · by_cases hz : n = l1
                · subst hz
                  rw [if_pos rfl]
                  exact ⟨pl, _, n - n, k1, rfl, by omega, fun c' e => by simp only [Option.some.injEq] at e; exact e, fun e => by omega, by rw [Nat.sub_self, Nat.zero_mul]; omega⟩
                · rw [if_neg hz, addr_add]
                  refine ⟨pl, _, n - l1, k1, rfl, by omega, fun c' e => by simp only [Option.some.injEq] at e; exact e, fun e => by simp only; omega, ?_⟩
                  have : l1 * s + (n - l1) * s = n * s := by rw [← Nat.add_mul]; congr 1; omega
                  omega
              · simp only [Instr.sliceAt, Sem.run_bind, run_und hT hu w, Result.andThen, e0, Instr.sureAddr, r1, Sem.run_pure, run_size hT hs w]
            · cases hv
          · cases hv
      · cases hv
    · cases hv
  · cases h

theorem madeCells_eq (z : Array Value) (s : Nat) (hs : z.size = s) (h0 : 0 < s) (n : Nat) : (madeCells z (n * s)).toList = List.flatten (List.replicate n z.toList) := zeros_eq z s hs h0 n

include hT hF hH in
theorem sim_makeSlice {t : Nat} {x y : Operand} (ho : o.op = .makeSlice t x y) (h : oMakeSlice T fr H t x y = some (r, fr', H')) : Sim P o ρ G n0 lam fr a w H r fr' H' := by
  unfold oMakeSlice at h
  split at h
  · rename_i p q hp hq
    obtain ⟨v, hv, rfl, rfl⟩ := outH_spec h
    clear h
    unfold vmakeSlice at hv
    split at hv
    · rename_i elem k l k' c hu
      have e1 : a.eval x = .int k l := eva_rel hF hp
      have e2 : a.eval y = .int k' c := eva_rel hF hq
      split at hv
      · rename_i i z hi hz
        split at hv
        · rename_i hc
          simp only [Option.some.injEq, Prod.mk.injEq] at hv
          obtain ⟨rfl, rfl⟩ := hv
          simp only [Bool.and_eq_true, ile_eq, decide_eq_true_eq, Nat.blt_eq] at hc
          obtain ⟨⟨⟨⟨⟨⟨c1, c2⟩, c3⟩, c4⟩, c5⟩, c6⟩, c7⟩ := hc
          have c4' := Nat.le_of_ble_eq_true c4
          obtain ⟨zv, hzv, hzr⟩ : ∃ zv, i.zero = some zv ∧ ofValue zv = some z := by
            unfold zeroOf at hz
            rw [hi] at hz
            simp only at hz
            cases hq : i.zero with
            | none => rw [hq] at hz; cases hz
            | some zv => rw [hq] at hz; exact ⟨zv, rfl, hz⟩
          obtain ⟨hz1, hz2⟩ := ofValue_cells (ρ := ρ) hzr
          have hzs : zv.cells.size = i.size := by
            have := hz1.length
            rw [Array.length_toList] at this
            exact this.trans (Nat.eq_of_beq_eq_true c6)
          have hbytes : (i.bytes : Int) * c ≤ 281474976710656 := by
            have : ((i.bytes * c.toNat : Nat) : Int) ≤ 281474976710656 := by omega
            rwa [Int.natCast_mul, Int.toNat_of_nonneg (by omega)] at this
          have hrun := run_make (P := P) w t elem i zv (und_ok hT hu) (hT.ty _ _ hi) hzv k k' l c c1 c2 hbytes (by omega)
          have hme := madeCells_eq zv.cells i.size hzs c5 c.toNat
          have hm := fresh_sim hH (repl z.cells c.toNat) (madeCells zv.cells (c.toNat * i.size)) elem (0, 0) (fun i _ => by simp) (madeCells zv.cells (c.toNat * i.size)).toList [] (by simp) (by rw [hme]; exact repl_rel hz1 _) (fun u hu => by
            rw [hme] at hu
            obtain ⟨l, hl, hu⟩ := List.mem_flatten.1 hu
            rw [(List.mem_replicate.1 hl).2] at hu
            exact hz2 u hu)
          refine ⟨_, _, _, lam, .value (by simp [execOp, ho, e1, e2, hrun]), .turn hF (post_alloc hH _ _ _ (Nat.le_refl _)) hm ⟨_, 0, c.toNat, Rho.set_same _ _ _, rfl, by omega, fun c' e => Option.some.inj e, fun _ => rfl, ?_⟩ (.fresh _ _)⟩
          simp [size_madeCells]
        · cases hv
      · cases hv
    · cases hv
  · cases h

theorem go_bytes : ∀ {cs : List AV} {us : List Value} {s : PS}, vconvert.go cs = some s → VRs ρ cs us → ∃ ns : List Int, us = ns.map (Value.int .u8) ∧ s = PS.of (ns.map fun n => UInt8.ofNat n.toNat)
  | [], us, s, h, hv => by
    simp only [vconvert.go, Option.some.injEq] at h
    subst h
    exact ⟨[], hv, rfl⟩
  | c :: cs, us, s, h, hv => by
    unfold vconvert.go at h
    split at h
    · rename_i e; cases e
    · rename_i n cs' e
      obtain ⟨rfl, rfl⟩ := List.cons.inj e
      obtain ⟨u, us', rfl, h1, h2⟩ := hv
      split at h
      · rename_i s' hs
        obtain rfl := Option.some.inj h
        obtain ⟨ns, rfl, rfl⟩ := go_bytes hs h2
        obtain rfl : u = _ := h1
        refine ⟨n :: ns, rfl, ?_⟩
        simp [PS.of, PS.valOf]
      · cases h
    · cases h
theorem foldl_push (ns : List Int) : ∀ b : ByteArray, (ns.foldl (fun r n => r.push (UInt8.ofNat n.toNat)) b).data.toList = b.data.toList ++ ns.map fun n => UInt8.ofNat n.toNat := by
  induction ns with
  | nil => intro b; simp
  | cons n ns ih => intro b; rw [List.foldl_cons, ih]; simp [ByteArray.push]

include hT hF hH in
theorem sim_conv {s d : Nat} {x : Operand} (ho : o.op = .convert s d x) (h : oConv T fr H s d x = some (r, fr', H')) : Sim P o ρ G n0 lam fr a w H r fr' H' := by
  unfold oConv at h
  split at h
  · rename_i p hp
    obtain ⟨v, hv, rfl, rfl⟩ := outH_spec h
    clear h
    have hpv := eva_rel hF hp
    have done : ∀ u, H' = H → VR ρ v u → (convert s d (a.eval x)).run P w = .ok u w → Sim P o ρ G n0 lam fr' a w H (.v v) fr' H' := fun u h0 h1 h2 =>
      ⟨u, w, ρ, lam, .value (by simp [execOp, ho, h2]), by rw [h0]; exact .quietA hF hH h1⟩
    unfold vconvert at hv
    split at hv
    · rename_i k0 k k' n h1 h2
      simp only [Option.some.injEq, Prod.mk.injEq] at hv
      obtain ⟨rfl, rfl⟩ := hv
      have e1 : a.eval x = .int k' n := hpv
      exact done _ rfl rfl (by simp [convert, run_und hT h1, run_und hT h2, e1, Conv.intToInt, fwrap_eq])
    · rename_i st h1 h2
      simp only [Option.some.injEq, Prod.mk.injEq] at hv
      obtain ⟨rfl, rfl⟩ := hv
      obtain ⟨b, e1, e2⟩ := hpv
      exact done _ rfl ⟨b, rfl, e2⟩ (by simp [convert, run_und hT h1, run_und hT h2, e1])
    · rename_i e ad len cap esz h1 h2
      have hconv := fun (q : Option Addr) (l c : Nat) (he : P.underlying e = some (.int .u8)) => run_convert_bytes_string (P := P) w s d e q l c (und_ok hT h1) he (und_ok hT h2)
      split at hv
      · rename_i h3
        simp only [Option.some.injEq, Prod.mk.injEq] at hv
        obtain ⟨rfl, rfl⟩ := hv
        obtain ⟨e1, _⟩ := hpv
        exact done (.string .empty) rfl ⟨_, rfl, rfl⟩ (by rw [e1, hconv _ _ _ (und_ok hT h3)]; simp [Conv.bytesToString])
      · rename_i b off h3
        split at hv
        · rename_i cs hcs
          cases hgo : vconvert.go cs with
          | none => rw [hgo] at hv; cases hv
          | some st =>
            rw [hgo] at hv
            simp only [Option.map_some, Option.some.injEq, Prod.mk.injEq] at hv
            obtain ⟨rfl, rfl⟩ := hv
            obtain ⟨pl, ro, rc, k1, e1, k3, k4, k5, k6⟩ := hpv
            have fin : ∀ (ns : List Int), (loadCells ⟨pl.rb, ro, none⟩ len).run P w = .ok (ns.map (Value.int .u8)).toArray w → st = PS.of (ns.map fun n => UInt8.ofNat n.toNat) → Sim P o ρ G n0 lam fr' a w H (.v (.str st)) fr' H := by
              intro ns hl hst
              refine done _ rfl ⟨_, rfl, ?_⟩ (by rw [e1, hconv _ _ _ (und_ok hT h3), run_bytesToString w _ len rc ns hl])
              rw [foldl_push, hst]
              rfl
            by_cases h0 : len = 0
            · subst h0
              simp only [VH.cells, Option.some.injEq] at hcs
              subst hcs
              simp only [vconvert.go, Option.some.injEq] at hgo
              subst hgo
              exact fin [] (by simp [loadCells, loadCellsFrom]) rfl
            · obtain rfl : ro = pl.base + off := k5 (by omega)
              obtain ⟨us, g1, g2, g3, g4⟩ := run_cells (P := P) hH k1 hcs
              obtain ⟨ns, rfl, hst⟩ := go_bytes hgo g2
              exact fin ns (g1 ▸ g4) hst
        · cases hv
      · cases hv
    · cases hv
  · cases h
end
end Go.Vm
