/- More of the abstract machine's operations against the model's: addresses, indices, slices, conversions. -/
import Derived.Test.YtieocmaaloaoaaaDoorVmSim2
namespace Go.Vm
set_option linter.unusedSimpArgs false
set_option linter.unusedVariables false
set_option linter.unusedSectionVars false
section
variable {ρ : Rho} {G : Nat → Prop} {n0 : Nat} {lam : Nat → Option Nat} {fr : Fr} {a : Act} {w : World}
variable {T : Tb} {P : Program} (hT : TbOk T P) {H : VH} (hF : RelF ρ G n0 lam fr a.tmps w) (hH : RelH ρ G H w) {o : Oper} {promo : Nat → Bool} {r : RV} {fr' : Fr} {H' : VH}

theorem repl_rel {z : List AV} {vz : List Value} (h : VRs ρ z vz) : ∀ n, VRs ρ (repl z n) (List.flatten (List.replicate n vz))
  | 0 => rfl
  | n + 1 => by
    rw [repl, List.replicate_succ, List.flatten_cons]
    exact h.append (repl_rel h n)
theorem zeros_eq (vz : Array Value) (s : Nat) (hs : vz.size = s) (h0 : 0 < s) (n : Nat) : ((Array.range (n * s)).map (fun i => vz[i % vz.size]!)).toList = List.flatten (List.replicate n vz.toList) := by
  subst hs
  induction n with
  | zero => simp
  | succ n ih =>
    rw [List.replicate_succ', List.flatten_append, ← ih]
    apply List.ext_getElem?
    intro i
    simp only [Array.toList_map, Array.toList_range, List.getElem?_map, List.flatten_cons, List.flatten_nil, List.append_nil, List.getElem?_append, List.length_map, List.length_range]
    have e : (n + 1) * vz.size = n * vz.size + vz.size := Nat.succ_mul n _
    by_cases h1 : i < n * vz.size
    · rw [if_pos h1, List.getElem?_range (by omega), List.getElem?_range h1]
    · rw [if_neg h1]
      by_cases h2 : i < (n + 1) * vz.size
      · rw [List.getElem?_range h2]
        have h3 : i - n * vz.size < vz.size := by omega
        have h4 : i % vz.size = i - n * vz.size := by
          have : i = (i - n * vz.size) + vz.size * n := by rw [Nat.mul_comm vz.size n]; omega
          rw [this, Nat.add_mul_mod_self_left, Nat.mod_eq_of_lt h3]
          rw [Nat.mul_comm vz.size n]; omega
        simp only [Option.map_some, h4]
        rw [getElem!_pos vz _ h3, Array.getElem?_toList, Array.getElem?_eq_getElem h3]
      · rw [List.getElem?_eq_none (by simp; omega), List.getElem?_eq_none (by rw [Array.length_toList]; omega)]
        rfl

include hT hF hH in
theorem sim_buildSlice {t n : Nat} {ps : Array (Nat × Operand)} (ho : o.op = .buildSlice t n ps) (h : outH fr (vbuildSlice T fr H t n ps.toList) = some (r, fr', H')) : Sim P o ρ G n0 lam fr a w H r fr' H' := by
  obtain ⟨v, hv, rfl, rfl⟩ := outH_spec h
  unfold vbuildSlice at hv
  split at hv
  · rename_i elem hu
    split at hv
    · rename_i s z as hs hz has
      split at hv
      · rename_i hc
        simp only [Bool.and_eq_true, beq_iff_eq, Nat.blt_eq] at hc
        split at hv
        · rename_i cs hf
          simp only [Option.some.injEq, Prod.mk.injEq] at hv
          obtain ⟨rfl, rfl⟩ := hv
          obtain ⟨vz, hzr, _, hz1, hz2⟩ := run_zero hT hz w
          have hpr := parts_rel hF has
          have hps : (ps.map fun (x : Nat × Operand) => (x.1, a.eval x.2)).toList = ps.toList.map fun p => (p.1, a.eval p.2) := by simp
          have hzs : vz.cells.size = s := by have := (hz1 ρ).length; rw [Array.length_toList, hc.1.2] at this; exact this
          have hb : n * s ≤ 2 ^ 24 := by have := Nat.le_of_ble_eq_true hc.1.1.1; omega
          have hze := zeros_eq vz.cells s hzs hc.1.1.2 n
          obtain ⟨vc', g1, g2, g3⟩ := fill_rel (place' := fun i => some (i * s, s)) (vc := (Array.range (n * s)).map (fun i => vz.cells[i % vz.cells.size]!)) (fun i x hx => hx) hpr
            (by rw [hze]; exact repl_rel (hz1 ρ) n) (fun u hu => by
              rw [hze] at hu
              obtain ⟨l, hl, hu⟩ := List.mem_flatten.1 hu
              rw [(List.mem_replicate.1 hl).2] at hu
              exact hz2 u hu) hf
          have hm := fresh_sim hH cs vc' elem (0, 0) (fun i _ => by simp) vc'.toList [] (by simp) g2 g3
          have hsz : n * s ≤ vc'.size := by
            have h1 := g2.length
            rw [Array.length_toList] at h1
            have h2 : ∀ (ps : List (Nat × AV)) (cells cs : List AV) (pl : Nat → Option (Nat × Nat)), vfill pl cells ps = some cs → cs.length = cells.length := by
              intro ps
              induction ps with
              | nil => intro cells cs pl e; simp only [vfill, Option.some.injEq] at e; rw [e]
              | cons p ps ih =>
                obtain ⟨i, x⟩ := p
                intro cells cs pl e
                simp only [vfill] at e
                split at e
                · cases e
                · split at e
                  · rename_i off size _ hcc
                    simp only [Bool.and_eq_true, beq_iff_eq] at hcc
                    have := Nat.le_of_ble_eq_true hcc.1.2
                    rw [ih _ _ _ e]
                    simp only [List.length_append, List.length_take, List.length_drop]
                    omega
                  · cases e
            have h3 := h2 _ _ _ _ hf
            have h4 := (repl_rel (hz1 ρ) n).length
            have h5 : (List.flatten (List.replicate n vz.cells.toList)).length = n * s := by rw [← hze]; simp
            omega
          refine ⟨_, _, _, lam, .value ?_, .turn hF (post_alloc hH (.cells vc' elem) H.next vc'.size (Nat.le_refl _)) hm ⟨_, 0, n, Rho.set_same _ _ _, rfl, Nat.le_refl _, fun c' e => Option.some.inj e, fun _ => rfl, by simpa using hsz⟩ (.fresh _ _)⟩
          have c1 : ¬ (n * s > 2 ^ 24) := by omega
          by_cases hn : n * s = 0
          · have e00 : ∀ f : Nat → Value, (Array.range 0).map f = #[] := fun f => Array.eq_empty_of_size_eq_zero (by simp)
            have g1' : Instr.fill (fun i => some (i * s, s)) #[] (ps.toList.map fun p => (p.1, a.eval p.2)) = some vc' := by
              rw [hn, e00] at g1
              exact g1
            have hn' : n = 0 := by
              rcases Nat.mul_eq_zero.1 hn with h0 | h0
              · exact h0
              · omega
            subst hn'
            have g1'' : Instr.fill (fun i => some (i * s, s)) #[] (ps.map fun (x : Nat × Operand) => (x.1, a.eval x.2)).toList = some vc' := by rw [hps]; exact g1'
            have e0 : ∀ z : Array Value, (Array.range (0 * s)).map (fun i => z[i % z.size]!) = #[] := fun z => by rw [Nat.zero_mul]; exact e00 _
            simp only [execOp, ho, Instr.buildSlice, Sem.run_bind, run_und hT hu w, Result.andThen, run_size hT hs w, c1, if_false, hn, if_true, Sem.run_pure, e0, g1'']
            simp [newRow, e00, g1']
          · simp only [execOp, ho, Instr.buildSlice, Sem.run_bind, run_und hT hu w, Result.andThen, run_size hT hs w, c1, if_false, hn, hzr, Sem.run_pure, hps, g1]
            simp [newRow]
        · cases hv
      · cases hv
    · cases hv
  · cases hv

theorem evc_rel (hF : RelF ρ G n0 lam fr a.tmps w) {x : Operand} {r : RV} (h : evc fr x = some r) :
    RVR ρ lam fr.loc r (a.eval x) ∧ (∀ d ep off, r = .loc d ep off → fr.old d ep ∧ ∃ c rb, fr.loc.get d = some c ∧ c.ep = ep ∧ lam d = some rb ∧ a.eval x = .pointer (some ⟨rb, off, none⟩)) := by
  unfold evc at h
  split at h
  · rename_i d ep off he
    split at h
    · rename_i cs hcs
      obtain rfl := Option.some.inj h
      have hv := ev_rel hF he
      refine ⟨hv, fun d' ep' off' e => ?_⟩
      simp only [RV.loc.injEq] at e
      obtain ⟨rfl, rfl, rfl⟩ := e
      unfold Fr.locCells at hcs
      split at hcs
      · rename_i c hc
        split at hcs
        · rename_i hep
          obtain ⟨rb, e1, e2⟩ := hv c hc (by simpa using hep)
          exact ⟨stale_of_ev hF he _ _ _ rfl, c, rb, hc, by simpa using hep, e1, e2⟩
        · cases hcs
      · cases hcs
    · cases h
  · rename_i hne
    exact ⟨ev_rel hF h, fun d ep off e => (hne d ep off (by rw [h, e])).elim⟩

include hF hH in
theorem sim_nil {x : Operand} (ho : o.op = .nilCheck x) (h : oNil fr H x = some (r, fr', H')) : Sim P o ρ G n0 lam fr a w H r fr' H' := by
  unfold oNil at h
  split at h
  · rename_i ad he
    simp only [Option.some.injEq, Prod.mk.injEq] at h
    obtain ⟨rfl, rfl, rfl⟩ := h
    obtain ⟨pl, hb, e⟩ := (evc_rel hF he).1
    exact ⟨a.eval x, w, ρ, lam, .value (by simp [execOp, ho, e]), .quietA hF hH ⟨pl, hb, e⟩⟩
  · rename_i d ep off he
    simp only [Option.some.injEq, Prod.mk.injEq] at h
    obtain ⟨rfl, rfl, rfl⟩ := h
    obtain ⟨hv, hl⟩ := evc_rel hF he
    obtain ⟨h1, c, rb, h2, h3, h4, h5⟩ := hl _ _ _ rfl
    exact ⟨a.eval x, w, ρ, lam, .value (by simp [execOp, ho, h5]), .quiet hF hH hv (fun _ _ _ e => (hl _ _ _ e).1)⟩
  · rename_i f b c he
    simp only [Option.some.injEq, Prod.mk.injEq] at h
    obtain ⟨rfl, rfl, rfl⟩ := h
    obtain ⟨b', c', e, h1, h2⟩ := (evc_rel hF he).1
    exact ⟨a.eval x, w, ρ, lam, .value (by simp [execOp, ho, e]), .quietA hF hH ⟨b', c', e, h1, h2⟩⟩
  · cases h

/-- A place further on in a box. -/
theorem loc_on (hF : RelF ρ G n0 lam fr a.tmps w) {x : Operand} {d ep off : Nat} (h : evc fr x = some (.loc d ep off)) (k : Nat) :
    ∃ rb, a.eval x = .pointer (some ⟨rb, off, none⟩) ∧ RVR ρ lam fr.loc (.loc d ep (off + k)) (.pointer (some ⟨rb, off + k, none⟩)) ∧ (∀ d' ep' off', RV.loc d ep (off + k) = .loc d' ep' off' → fr.old d' ep') := by
  obtain ⟨hv, hl⟩ := evc_rel hF h
  obtain ⟨h1, c, rb, h2, h3, h4, h5⟩ := hl _ _ _ rfl
  refine ⟨rb, h5, fun c' hc' _ => ⟨rb, h4, rfl⟩, fun d' ep' off' e => ?_⟩
  simp only [RV.loc.injEq] at e
  obtain ⟨rfl, rfl, _⟩ := e
  exact h1

include hT hF hH in
theorem sim_fieldAddr {t f : Nat} {x : Operand} (ho : o.op = .fieldAddr t x f) (h : oFieldAddr T fr H t x f = some (r, fr', H')) : Sim P o ρ G n0 lam fr a w H r fr' H' := by
  unfold oFieldAddr at h
  split at h
  · rename_i rv hrv
    obtain ⟨hx, rfl, rfl⟩ := outR_spec h
    clear h
    unfold vfieldAddr at hx
    split at hx
    · rename_i fields hu
      split at hx
      · rename_i fd hfd
        split at hx
        · rename_i k hs
          have hsz := run_size hT hs w
          have hrun : ∀ b off, a.eval x = .pointer (some ⟨b, off, none⟩) → (execOp a.eval o).run P w = .ok (.value (.pointer (some ⟨b, off + fd.offset, none⟩))) w := fun b off e => by
            simp [execOp, ho, Instr.fieldAt, run_und hT hu w, hfd, Instr.sureAddr, e, fieldPlace, hsz, addr_add]
          split at hx
          · rename_i b off
            obtain rfl := Option.some.inj hx
            obtain ⟨pl, hb, e⟩ := (evc_rel hF hrv).1
            exact ⟨_, w, ρ, lam, .value (hrun _ _ e), .quietA hF hH ⟨pl, hb, by rw [Nat.add_assoc]⟩⟩
          · rename_i d ep off
            obtain rfl := Option.some.inj hx
            obtain ⟨rb, e1, e2, e3⟩ := loc_on hF hrv fd.offset
            exact ⟨_, w, ρ, lam, .value (hrun _ _ e1), .quiet hF hH e2 e3⟩
          · cases hx
        · cases hx
      · cases hx
    · cases hx
  · cases h

include hT hF hH in
theorem sim_field {t f : Nat} {x : Operand} (ho : o.op = .field t x f) (h : oField T fr H t x f = some (r, fr', H')) : Sim P o ρ G n0 lam fr a w H r fr' H' := by
  unfold oField at h
  split at h
  · rename_i av hav
    obtain ⟨v, hx, rfl, rfl, rfl⟩ := outV_spec h
    clear h
    have hv := eva_rel hF hav
    unfold vfield at hx
    split at hx
    · rename_i fields cs hu
      obtain ⟨va, e, h1, h2⟩ := hv
      split at hx
      · rename_i fd hfd
        have hrun : ∀ u, (part fd.type va fd.offset).run P w = .ok u w → (execOp a.eval o).run P w = .ok (.value u) w := fun u e' => by
          simp [execOp, ho, Instr.field, run_und hT hu w, hfd, e, asAgg, e']
        split at hx
        · rename_i n hs
          obtain ⟨s1, s2⟩ := run_shape' hT hs w
          split at hx
          · rename_i hle
            obtain rfl := Option.some.inj hx
            refine ⟨.agg (va.extract fd.offset (fd.offset + n)), w, ρ, lam, .value (hrun _ (by simp [part, s1, s2])), .quietA hF hH ⟨_, rfl, ?_, fun u hu => h2 u ?_⟩⟩
            · rw [Array.toList_extract, List.extract_eq_take_drop, Nat.add_sub_cancel_left]
              exact (h1.drop _).take n
            · rw [Array.toList_extract, List.extract_eq_take_drop] at hu
              exact List.mem_of_mem_drop (List.mem_of_mem_take hu)
          · cases hx
        · rename_i n hs
          obtain ⟨s1, s2⟩ := run_shape' hT hs w
          obtain ⟨u, hu', hv'⟩ := h1.get hx
          rw [Array.getElem?_toList] at hu'
          exact ⟨u, w, ρ, lam, .value (hrun _ (by simp [part, s1, hu'])), .quietA hF hH hv'⟩
        · cases hx
      · cases hx
    · cases hx
  · cases h

theorem toNat_lt_of {i : Int} {n : Nat} (h0 : 0 ≤ i) (h : i < n) : i.toNat < n := by omega

include hT hF hH in
theorem sim_indexAddr {t : Nat} {x y : Operand} (ho : o.op = .indexAddr t x y) (h : oIndexAddr T fr H t x y = some (r, fr', H')) : Sim P o ρ G n0 lam fr a w H r fr' H' := by
  unfold oIndexAddr at h
  split at h
  · rename_i rv k i hrv hi
    obtain ⟨hx, rfl, rfl⟩ := outR_spec h
    clear h
    have hiv : a.eval y = .int k i := eva_rel hF hi
    unfold vindexAddr at hx
    split at hx
    · rename_i len elem hu
      split at hx
      · rename_i s hs
        have hsz := run_size hT hs w
        split at hx
        · rename_i hb
          simp only [Bool.and_eq_true, ile_eq, ilt_eq, decide_eq_true_eq] at hb
          have hrun : ∀ b off, a.eval x = .pointer (some ⟨b, off, none⟩) → (execOp a.eval o).run P w = .ok (.value (.pointer (some ⟨b, off + i.toNat * s, none⟩))) w := fun b off e => by
            simp [execOp, ho, Instr.indexAt, hiv, asIntOf, run_und hT hu w, Instr.sureAddr, e, hb, hsz, addr_add]
          split at hx
          · rename_i b off
            obtain rfl := Option.some.inj hx
            obtain ⟨pl, hb', e⟩ := (evc_rel hF hrv).1
            exact ⟨_, w, ρ, lam, .value (hrun _ _ e), .quietA hF hH ⟨pl, hb', by rw [Nat.add_assoc]⟩⟩
          · rename_i d ep off
            obtain rfl := Option.some.inj hx
            obtain ⟨rb, e1, e2, e3⟩ := loc_on hF hrv (i.toNat * s)
            exact ⟨_, w, ρ, lam, .value (hrun _ _ e1), .quiet hF hH e2 e3⟩
          · cases hx
        · cases hx
      · cases hx
    · rename_i elem hu
      split at hx
      · rename_i b off len cap s' s hs
        have hsz := run_size hT hs w
        split at hx
        · rename_i hb
          simp only [Bool.and_eq_true, ile_eq, ilt_eq, decide_eq_true_eq] at hb
          obtain rfl := Option.some.inj hx
          obtain ⟨pl, ro, rc, h1, h2, h3, h4, h5, h6⟩ := (evc_rel hF hrv).1
          have hro : ro = pl.base + off := h5 (by omega)
          subst hro
          refine ⟨.pointer (some ⟨pl.rb, pl.base + off + i.toNat * s, none⟩), w, ρ, lam, .value ?_, .quietA hF hH ⟨pl, h1, by rw [Nat.add_assoc]⟩⟩
          simp [execOp, ho, Instr.indexAt, hiv, asIntOf, run_und hT hu w, h2, hb, hsz, addr_add]
        · cases hx
      · cases hx
    · cases hx
  · cases h

include hT hF hH in
theorem sim_index {t : Nat} {x y : Operand} (ho : o.op = .index t x y) (h : oIndex T fr H t x y = some (r, fr', H')) : Sim P o ρ G n0 lam fr a w H r fr' H' := by
  unfold oIndex at h
  split at h
  · rename_i av k i hav hi
    obtain ⟨v, hx, rfl, rfl, rfl⟩ := outV_spec h
    clear h
    have hv := eva_rel hF hav
    have hiv : a.eval y = .int k i := eva_rel hF hi
    unfold vindex at hx
    split at hx
    · rename_i s hu
      obtain ⟨b, e, rfl⟩ := hv
      split at hx
      · rename_i hb
        simp only [Bool.and_eq_true, ile_eq, ilt_eq, decide_eq_true_eq] at hb
        obtain rfl := Option.some.inj hx
        have hlt : i.toNat < b.size := by
          have h1 : i < ((PS.of b.data.toList).len : Int) := hb.2
          have h2 : (PS.of b.data.toList).len = b.size := rfl
          omega
        have hl : i.toNat < b.data.toList.length := hlt
        have hg : b[i.toNat]? = some b[i.toNat] := getElem?_pos b i.toNat hlt
        refine ⟨.int .u8 ((b[i.toNat]).toNat : Int), w, ρ, lam, .value ?_, .quietA hF hH ?_⟩
        · simp only [execOp, ho, Instr.index, hiv, asIntOf, Sem.run_bind, Sem.run_pure, Result.andThen, run_und hT hu w, e, hb.1, if_true, hg]
        · show Value.int .u8 _ = .int .u8 _
          rw [PS.byte_of _ _ hl]
          rfl
      · cases hx
    · rename_i len elem cs hu
      obtain ⟨va, e, h1, h2⟩ := hv
      split at hx
      · rename_i hb
        simp only [Bool.and_eq_true, ile_eq, ilt_eq, decide_eq_true_eq] at hb
        split at hx
        · rename_i n hs
          obtain ⟨s1, s2⟩ := run_shape' hT hs w
          split at hx
          · rename_i hle
            obtain rfl := Option.some.inj hx
            refine ⟨.agg (va.extract (i.toNat * n) (i.toNat * n + n)), w, ρ, lam, .value (by simp [execOp, ho, Instr.index, hiv, asIntOf, run_und hT hu w, e, hb, s2, part, s1]), .quietA hF hH ⟨_, rfl, ?_, fun u hu => h2 u ?_⟩⟩
            · rw [Array.toList_extract, List.extract_eq_take_drop, Nat.add_sub_cancel_left]
              exact (h1.drop _).take n
            · rw [Array.toList_extract, List.extract_eq_take_drop] at hu
              exact List.mem_of_mem_drop (List.mem_of_mem_take hu)
          · cases hx
        · rename_i n hs
          obtain ⟨s1, s2⟩ := run_shape' hT hs w
          obtain ⟨u, hu', hv'⟩ := h1.get hx
          rw [Array.getElem?_toList] at hu'
          exact ⟨u, w, ρ, lam, .value (by simp [execOp, ho, Instr.index, hiv, asIntOf, run_und hT hu w, e, hb, s2, part, s1, hu']), .quietA hF hH hv'⟩
        · cases hx
      · cases hx
    · cases hx
  · cases h

include hF hH in
theorem sim_extract {i : Nat} {x : Operand} (ho : o.op = .extract x i) (h : oExtract fr H x i = some (r, fr', H')) : Sim P o ρ G n0 lam fr a w H r fr' H' := by
  unfold oExtract at h
  split at h
  · rename_i vs hvs
    obtain ⟨v, hx, rfl, rfl, rfl⟩ := outV_spec h
    obtain ⟨va, e, h1⟩ := eva_rel hF hvs
    obtain ⟨u, hu, hv⟩ := h1.get hx
    rw [Array.getElem?_toList] at hu
    exact ⟨u, w, ρ, lam, .value (by simp [execOp, ho, Instr.extract, e, hu]), .quietA hF hH hv⟩
  · cases h

include hT hF hH in
theorem sim_iface {t : Nat} {x : Operand} (ho : o.op = .makeInterface t x) (h : oIface T fr H t x = some (r, fr', H')) : Sim P o ρ G n0 lam fr a w H r fr' H' := by
  unfold oIface at h
  split at h
  · cases h
  · rename_i d av hne hu hav
    simp only [Option.some.injEq, Prod.mk.injEq] at h
    obtain ⟨rfl, rfl, rfl⟩ := h
    refine ⟨.iface t (a.eval x), w, ρ, lam, .value ?_, .quietA hF hH ⟨_, rfl, eva_rel hF hav⟩⟩
    simp only [execOp, ho, Instr.makeInterface, Sem.run_bind, run_und hT hu w, Result.andThen]
    cases d <;> first | rfl | exact (hne _ rfl).elim
  · cases h

include hF hH in
theorem sim_func {fn : Fn} {xs ys : Array Operand} (ho : o.op = .makeFunc fn xs ys) (h : oFunc fr H fn xs ys = some (r, fr', H')) : Sim P o ρ G n0 lam fr a w H r fr' H' := by
  unfold oFunc at h
  split at h
  · rename_i f as bs h1 h2
    simp only [Option.some.injEq, Prod.mk.injEq] at h
    obtain ⟨rfl, rfl, rfl⟩ := h
    exact ⟨_, w, ρ, lam, .value (show (execOp a.eval o).run P w = .ok (.value (.func (.func f) (xs.map a.eval) (ys.map a.eval))) w by simp [execOp, ho, Instr.makeFunc]), .quietA hF hH ⟨_, _, rfl, by simpa using evas_rel hF h1, by simpa using evas_rel hF h2⟩⟩
  · cases h
end
end Go.Vm
