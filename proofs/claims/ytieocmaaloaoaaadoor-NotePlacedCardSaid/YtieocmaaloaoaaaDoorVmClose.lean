/- From the abstract machine to a law's statement: a law of one slice of whole numbers. -/
import Derived.Test.YtieocmaaloaoaaaDoorVmExt
import Derived.Test.YtieocmaaloaoaaaDoorSm
import Derived.Test.YtieocmaaloaoaaaDoorRows
import Derived.ProofKit
import Derived.LaidMore
import Derived.OpenShut
namespace Go.Vm.Tryd
set_option linter.unusedSimpArgs false
set_option linter.unusedVariables false
set_option linter.unusedSectionVars false
open Go.Proofs.Tryd
open Go.ChangeShapes Go.WideShapes Go.ChangeAt Go.RowKit
set_option maxRecDepth 100000
set_option linter.unusedVariables false

/-- A slice's cells lie in its block. -/
theorem rowAt_le {p : Program} {fits : TypeId → Bool} : ∀ {d : Nat} {e count off n : Nat}, rowAt p fits d e count off n = true → off ≤ count * p.cellsOf e
  | 0, _, _, _, _, h => by simp [rowAt] at h
  | d + 1, e, count, off, n, h => by
    simp only [rowAt] at h
    split at h
    · cases h
    · rename_i hs
      have hs' : 0 < p.cellsOf e := Nat.pos_of_ne_zero hs
      have hdiv := Nat.div_add_mod off (p.cellsOf e)
      have hmod := Nat.mod_lt off hs'
      simp only [Bool.or_eq_true, Bool.and_eq_true, decide_eq_true_eq, beq_iff_eq] at h
      rcases h with ⟨⟨h1, h2⟩, _⟩ | ⟨h1, _⟩
      · have : off / p.cellsOf e ≤ count := by omega
        have h3 := Nat.mul_le_mul_right (p.cellsOf e) this
        rw [Nat.mul_comm (off / p.cellsOf e)] at h3
        omega
      · have h3 := Nat.mul_le_mul_right (p.cellsOf e) (Nat.succ_le_of_lt h1)
        rw [Nat.succ_mul, Nat.mul_comm (off / p.cellsOf e)] at h3
        omega

/-- As 'post_of_same', where what is frozen is asked of the listed places alone. -/
theorem post_same {H : Type} {enc : TypeId × Value → H} {P : Program} {f : Func} {s : ChangeSpec} {apart fresh handsOn again : Bool} {W W' : World} {args : Array Value} {v : Value} {ds gs : List (DataW H)} {before pa pv : List MemPlace}
    (hW : DataW.Whole enc P f.params.toList s.vars apart W args.toList ds gs before)
    (hres : ∀ (b : Nat) (sp : Nat → Bool) (hd : Bool), DataW.TrodAll enc P W' b sp hd f.resultTypes.toList (v.resultList f.resultTypes.size) (s.fn H (ds ++ gs)).results [])
    (hargs : ∀ sp : Nat → Bool, (∀ p ∈ before, sp p.block = true) → DataW.TrodAll enc P W' 0 sp true f.params.toList args.toList (s.fn H (ds ++ gs)).args pa)
    (hvars : ∀ sp : Nat → Bool, (∀ p ∈ before, sp p.block = true) → DataW.TrodVars enc P W' sp s.vars (s.fn H (ds ++ gs)).vars pv)
    (hps : before = pa ++ pv) (hk : W.keptBut W' (· ∈ before)) (hfz : ∀ b off, .cell b off ∈ before → W'.frozen? ⟨b, off, none⟩ = W.frozen? ⟨b, off, none⟩)
    (hok : ∀ (j : Nat) (t : TypeId) (r : Value), f.resultTypes[j]? = some t → (v.resultList f.resultTypes.size)[j]? = some r → Value.okWide P W' .any 0 t r) :
    s.post enc P f apart fresh handsOn again W args v W' := by
  have hold : ∀ p ∈ before, (fun b => decide (b < W.heap.size)) p.block = true := fun p hp => by simpa using hW.lt p hp
  refine ⟨ds, gs, before, [], pa, pv, hW, hres _ _ _, hargs _ hold, hvars _ hold, World.keptBut_mono (fun p hp => ⟨hp, ?_⟩) hk, fun _ => ?_⟩
  · rw [hps, List.mem_append] at hp
    exact Or.inr hp
  · obtain ⟨_, _, _, _, _, hz, hn⟩ := hW
    refine ⟨hok, _, _, ([] ++ pa) ++ pv, ⟨[] ++ pa, pv, trodAll_append (hargs _ (fun _ _ => rfl)) (hres _ _ _), hvars _ (fun _ _ => rfl), rfl, ?_, ?_⟩, ?_⟩
    · intro b off hp
      have hp' : MemPlace.cell b off ∈ before := by rw [hps]; simpa using hp
      rw [hfz b off hp']
      exact hz b off hp'
    · intro ha
      have := hn ha
      rw [hps] at this
      simpa using this
    · intro p hp _
      rw [hps]
      simpa using hp

theorem calls_vm {f n : Nat} {fn : Func} {c : Code} (hfn : T.fn.get f = some fn) (hb : fn.body = some c) {vals : List AV} {H : VH} {v : AV} {H' : VH} (h : vcall T ext promo n f vals H = some (v, H')) {ρ : Rho} {w : World} {args : Array Value}
    (hg : Globs T ρ) (hH : RelH ρ (fun _ => False) H w) (hv : VRs ρ vals args.toList) :
    Calls prog f args w fun e w' => ∃ u ρ', e = .returned u ∧ Post ρ ρ' (fun _ => False) w w' ∧ VR ρ' v u := by
  have A := calls_ok tab_ok.tb ext_ok tab_ok.draws n f vals H v H' h ρ (fun _ => False) w args hH hv hg
  have hf := tab_ok.tb.fn f fn hfn
  have hnm := tab_ok.tb.named f fn hfn
  have hrun : (callFunc f args).run prog w = .ok (.enter f args) w := by
    simp only [callFunc, Sem.run_bind, run_program, Result.andThen, hf, hnm, hb, Option.isNone_some, Bool.false_eq_true, if_false, Sem.run_pure]
  unfold Answers at A
  rw [hrun] at A
  exact Calls.mono A fun e w2 he => by
    cases e with
    | returned u =>
      obtain ⟨ρ', h1, _, h3, _⟩ := he
      exact ⟨u, ρ', rfl, h1, h3⟩
    | panicked ch => exact he.elim
    | outgrown => exact he.elim

/-- The heap in which a law begins: its argument's cells. -/
noncomputable def inHeap (zs : List Int) (len : Nat) : VH :=
  { next := 1, t := Tr.set .leaf 0 (.row { n := len, t := Tr.ofList (zs.map fun z => AV.int .i64 z), live := false, lin := 0, gen := 0, ver := 0 }), wg := .leaf, low := 1 }
theorem inHeap_get (zs : List Int) (len b : Nat) : (inHeap zs len).get b = if b = 0 then some (.row { n := len, t := Tr.ofList (zs.map fun z => AV.int .i64 z), live := false, lin := 0, gen := 0, ver := 0 }) else none := by
  show (Tr.set .leaf 0 _).get b = _
  rw [Tr.get_set]
  split
  · rfl
  · exact Tr.get_leaf b
theorem inHeap_row (zs : List Int) (len : Nat) {b : Nat} {r : Row} (h : (inHeap zs len).row? b = some r) : b = 0 ∧ r = { n := len, t := Tr.ofList (zs.map fun z => AV.int .i64 z), live := false, lin := 0, gen := 0, ver := 0 } := by
  unfold VH.row? at h
  rw [inHeap_get] at h
  by_cases e : b = 0
  · simp only [if_pos e, Option.some.injEq] at h
    exact ⟨e, h.symm⟩
  · simp only [if_neg e] at h
    cases h
theorem inHeap_ok (zs : List Int) (len : Nat) : (inHeap zs len).Ok := by
  refine ⟨fun b x h => ?_, fun l g h => ?_, fun b r h => ?_⟩
  · rw [inHeap_get] at h
    split at h
    · rename_i e; rw [e]; exact Nat.one_pos
    · cases h
  · have : (Tr.leaf : Tr Nat).get l = some g := h
    rw [Tr.get_leaf] at this
    cases this
  · obtain ⟨_, rfl⟩ := inHeap_row zs len h
    exact Nat.one_pos
theorem inHeap_cell (zs : List Int) (len i : Nat) (hi : i < len) (hz : len ≤ zs.length) : (inHeap zs len).cell 0 (0 + i) = some (.int .i64 (zs.getD i 0)) := by
  unfold VH.cell VH.row?
  rw [inHeap_get]
  have hr : (inHeap zs len).readable { n := len, t := Tr.ofList (zs.map fun z => AV.int .i64 z), live := false, lin := 0, gen := 0, ver := 0 } = true := by
    unfold VH.readable VH.from_
    rw [show (inHeap zs len).wg.get 0 = none from Tr.get_leaf 0]
    rfl
  simp only [if_true, hr, Nat.zero_add, blt_eq, hi, decide_true, Tr.get_ofList]
  have : i < zs.length := by omega
  simp [this]

/-- The argument's slice. -/
theorem ok_slice {P : Program} {W : World} {r : Reach} {b0 : Nat} {t e : TypeId} {v : Value} (ht : P.underlying t = some (.slice e)) (h : Value.okWide P W r b0 t v) :
    v = .slice none 0 0 ∨ ∃ a len cap, v = .slice (some a) len cap ∧ len ≤ cap ∧ W.has P r b0 a e cap := by
  simp only [Value.okWide, ht, Cell.okWide] at h
  unfold Cell.ok at h
  rw [ht] at h
  cases v with
  | slice a len cap =>
    cases a with
    | none =>
      cases len with
      | zero =>
        cases cap with
        | zero => exact .inl rfl
        | succ n => exact h.elim
      | succ n => exact h.elim
    | some a => exact .inr ⟨a, len, cap, rfl, h.1, h.2.2⟩
  | _ => exact h.elim
theorem kept_same {W W' : World} {may : MemPlace → Prop} (h1 : W'.os = W.os) (h2 : W'.output = W.output) (h3 : ∀ k, k < W.heap.size → W'.heap[k]? = W.heap[k]?) : W.keptBut W' may := by
  refine ⟨h1, h2, fun i hi => ?_⟩
  rw [h3 i hi]
  cases W.heap[i]? with
  | none => rfl
  | some o =>
    cases o with
    | cells c t fr => exact ⟨rfl, rfl, rfl, fun _ _ => rfl⟩
    | map es clock => exact .inr ⟨rfl, rfl⟩
    | _ => rfl
theorem cell_same {W W' : World} (h3 : ∀ k, k < W.heap.size → W'.heap[k]? = W.heap[k]?) (a : Addr) (v : Value) (h : W.cell? a = some v) : W'.cell? a = some v := by
  unfold World.cell? at h ⊢
  have hlt : a.block < W.heap.size := by
    rcases Nat.lt_or_ge a.block W.heap.size with h1 | h1
    · exact h1
    · rw [Array.getElem?_eq_none h1] at h
      cases h
  rw [h3 _ hlt]
  exact h

theorem pund22 : prog.underlying 22 = some (.slice 3) := by kernel_rfl
theorem pund3 : prog.underlying 3 = some (.int .i64) := by kernel_rfl
theorem pund4 : prog.underlying 4 = some .bool := by kernel_rfl
theorem pcells3 : prog.cellsOf 3 = 1 := by kernel_rfl
/-- The abstract heap of an argument is one of the world. -/
theorem inHeap_rel {W : World} {a : Addr} {len : Nat} {zs : List Int} {c : Array Value} {et : TypeId} {fz : Nat × Nat} (hs : a.spot = none) (hc : W.heap[a.block]? = some (.cells c et fz)) (hoff : a.off ≤ c.size) (hlen : len ≤ zs.length)
    (hz : ∀ i, i < zs.length → W.cell? (a.add i) = some (.int .i64 (zs.getD i 0))) :
    RelH (fun b => if b = 0 then some ⟨a.block, a.off, c.size, true⟩ else none) (fun _ => False) (inHeap zs len) W := by
  have hlt : a.block < W.heap.size := (Array.getElem?_eq_some_iff.1 hc).1
  have hcell : ∀ i, i < zs.length → c[a.off + i]? = some (.int .i64 (zs.getD i 0)) := by
    intro i hi
    have := hz i hi
    unfold World.cell? Addr.add at this
    by_cases e : i = 0
    · subst e
      simp only [if_true, hc, hs] at this
      simpa using this
    · simp only [if_neg e, hc] at this
      simpa using this
  have hok := inHeap_ok zs len
  refine ⟨fun b pl hb => ?_, fun _ h => h.elim, fun b pl r hb hr => ?_, fun b b' pl pl' r _ _ _ hr hl _ => ?_, hok.lin, hok.wg, hok.get⟩
  · split at hb
    · rename_i e
      obtain rfl := Option.some.inj hb
      exact ⟨fun h => h, hlt, by rw [inHeap_get, if_pos e]; exact ⟨_, rfl⟩⟩
    · cases hb
  · split at hb
    · obtain rfl := Option.some.inj hb
      obtain ⟨_, rfl⟩ := inHeap_row zs len hr
      refine ⟨c, et, fz, hc, rfl, ?_, (fun h => by cases h), fun _ i x hi hx => ?_⟩
      · show a.off + len ≤ c.size
        rcases Nat.eq_zero_or_pos len with h0 | h0
        · omega
        · have := hcell (len - 1) (by omega)
          have := (Array.getElem?_eq_some_iff.1 this).1
          omega
      · have hi' : i < len := hi
        have hx' : (Tr.ofList (zs.map fun z => AV.int .i64 z)).get i = some x := hx
        rw [Tr.get_ofList] at hx'
        have hiz : i < zs.length := by omega
        simp only [List.getElem?_map, List.getElem?_eq_getElem hiz, Option.map_some, Option.some.injEq] at hx'
        subst hx'
        refine ⟨.int .i64 (zs.getD i 0), hcell i hiz, ?_, rfl⟩
        show Value.int .i64 (zs.getD i 0) = .int .i64 zs[i]
        simp [hiz]
    · cases hb
  · obtain ⟨_, rfl⟩ := inHeap_row zs len hr
    cases hl

theorem int_law {f : Nat} {fn : Func} {c : Code} (n : Nat) (hfn : T.fn.get f = some fn) (hb : fn.body = some c) (hp : fn.params = #[22]) (hr : fn.resultTypes = #[4])
    (hvm : ∀ (H : VH), H.Ok → ∀ (a : Option (Nat × Nat)) (l : Nat) (c : Option Nat) (e : Nat), Nums H H.next a l → ∃ H', vcall T ext promo n f [.slice a l c e] H = some (.bool true, H'))
    {HH : Type} {enc : TypeId × Value → HH} {W : World} {base : Nat} {args : Array Value} {ds gs : List (DataW HH)} {before : List MemPlace} {s : ChangeSpec} {apart fresh handsOn again : Bool}
    (hs1 : s.vars = []) (hs2 : ∀ d, s.fn HH [d] = { results := [.lit (.bool true)], args := [d] })
    (hval : ∀ (j : Nat) t v, fn.params[j]? = some t → args[j]? = some v → Value.okWide prog W .any base t v)
    (hW : DataW.Whole enc prog fn.params.toList s.vars apart W args.toList ds gs before) :
    Calls prog f args W fun e W' => ∃ v, e = .returned v ∧ s.post enc prog fn apart fresh handsOn again W args v W' := by
  have hW' := hW
  obtain ⟨p, q, hA, hV, hpq, hfz, hnd⟩ := hW
  rw [hp] at hA hval
  obtain ⟨v0, d0, rfl, rfl, h0⟩ := trodAll_one hA
  rw [hs1] at hV
  obtain ⟨rfl, rfl⟩ := trodVars_none hV
  have hbe : before = p := by rw [hpq]; simp
  obtain ⟨fuel, hf⟩ := h0
  have hglob : ∀ ρ, Globs T ρ := fun ρ g hg => by cases hg
  have fin : ∀ (W' : World) (ρ ρ' : Rho), (∀ b pl, ρ b = some pl → pl.quiet = true) → Post ρ ρ' (fun _ => False) W W' →
      (∀ sp : Nat → Bool, (∀ x ∈ before, sp x.block = true) → DataW.Trod enc prog W' 0 sp true 22 v0 d0 p) →
      s.post enc prog fn apart fresh handsOn again W #[v0] (.bool true) W' := by
    intro W' ρ ρ' hq hpost htrod
    have hsame : ∀ k, k < W.heap.size → W'.heap[k]? = W.heap[k]? := fun k hk => hpost.frame k hk (fun b pl hb _ => hq b pl hb) (fun h => h)
    refine post_same (pa := p) (pv := []) hW' ?_ ?_ ?_ (by rw [hbe]; simp) (kept_same hpost.os hpost.output hsame) ?_ ?_
    · intro b sp hd
      rw [hr, List.append_nil, hs2]
      exact trodAll_mk1 (shut_bool pund4 true)
    · intro sp hsp
      rw [hp, List.append_nil, hs2]
      exact trodAll_mk1 (htrod sp hsp)
    · intro sp _
      rw [hs1, List.append_nil, hs2]
      rfl
    · intro b off hm
      have hlt : b < W.heap.size := hW'.lt _ hm
      unfold World.frozen?
      rw [hsame b hlt]
    · exact ok_one hr rfl (okWide_bool_mk pund4 true)
  rcases ok_slice pund22 (hval 0 22 v0 rfl rfl) with rfl | ⟨a, len, cap, rfl, hlc, hhas⟩
  · obtain ⟨H', hrun⟩ := hvm (inHeap [] 0) (inHeap_ok _ _) none 0 (some 0) 0 ⟨by decide, fun h => absurd h (Nat.lt_irrefl _)⟩
    have hrel : RelH (fun _ => none) (fun _ => False) (inHeap [] 0) W := by
      have hok := inHeap_ok [] 0
      refine ⟨fun _ _ h => (by cases h), fun _ h => h.elim, fun _ _ _ h => (by cases h), fun _ _ _ _ _ h => (by cases h), hok.lin, hok.wg, hok.get⟩
    refine Calls.mono (calls_vm hfn hb hrun (hglob _) hrel (args := #[.slice none 0 0]) ⟨_, [], rfl, ⟨rfl, rfl, rfl⟩, rfl⟩) fun e W' ⟨u, ρ', he, hpost, hu⟩ => ?_
    obtain rfl : u = .bool true := hu
    refine ⟨_, he, fin W' _ ρ' (fun _ _ h => by cases h) hpost fun sp _ => ?_⟩
    rcases open_ints pund22 pund3 pcells3 hf with ⟨_, hx⟩ | ⟨a', len', cap', zs, hcs, _⟩
    · simp only [Prod.mk.injEq] at hx
      obtain ⟨rfl, rfl⟩ := hx
      exact shut_slice_nil pund22
    · exact absurd hcs (by simp [Value.cells])
  · rcases open_ints pund22 pund3 pcells3 hf with ⟨hcs, _⟩ | ⟨a', len', cap', zs, hcs, hba, hl, hm, hzl, hx, hcell, hwf⟩
    · exact absurd hcs (by simp [Value.cells])
    · simp only [Value.cells, List.cons.injEq, Value.slice.injEq, Option.some.injEq, and_true] at hcs
      obtain ⟨rfl, rfl, rfl⟩ := hcs
      simp only [if_true] at hzl
      simp only [Prod.mk.injEq] at hx
      obtain ⟨rfl, rfl⟩ := hx
      obtain ⟨_, hspot, row, cells, hshape, hlies⟩ := hhas
      obtain ⟨cc, et, fz, hcc, hsz⟩ : ∃ cc et fz, W.heap[a.block]? = some (.cells cc et fz) ∧ cc.size = cells := by
        unfold World.shape? at hshape
        split at hshape
        · rename_i c e f hc
          simp only [Option.some.injEq, Prod.mk.injEq] at hshape
          exact ⟨c, e, f, hc, hshape.2⟩
        · cases hshape
      have hoff : a.off ≤ cc.size := by
        have hd : prog.depth = (2 * (prog.types.size + Made.depth) + 1) + 1 := rfl
        rw [hd] at hlies
        simp only [liesAt, pund3, Bool.or_false] at hlies
        have h1 := rowAt_le hlies
        have h2 := Nat.div_mul_le_self cells (prog.cellsOf row)
        omega
      have hmax : (maxLen : Nat) < 9223372036854775808 := by decide
      have hnums : Nums (inHeap zs len) (inHeap zs len).next (some (0, 0)) len := by
        refine ⟨by omega, fun _ => ⟨0, 0, rfl, Nat.zero_ne_one, Nat.one_pos, fun i hi => ?_⟩⟩
        have hiz : i < zs.length := by omega
        refine ⟨zs.getD i 0, inHeap_cell zs len i hi (by omega), ?_⟩
        have hw := hwf zs[i] (List.getElem_mem hiz)
        simp only [Lit.wf, Bool.and_eq_true, decide_eq_true_eq] at hw
        have e : zs.getD i 0 = zs[i] := by simp [hiz]
        rw [e]
        have h1 : IntKind.min .i64 = -9223372036854775808 := by decide
        have h2 : IntKind.max .i64 = 9223372036854775807 := by decide
        rw [h1, h2] at hw
        omega
      obtain ⟨H', hrun⟩ := hvm (inHeap zs len) (inHeap_ok _ _) (some (0, 0)) len none 0 hnums
      have hrel := inHeap_rel (len := len) hspot hcc hoff (by omega) hcell
      have hvr : VRs (fun b => if b = 0 then some ⟨a.block, a.off, cc.size, true⟩ else none) [.slice (some (0, 0)) len none 0] [Value.slice (some a) len cap] := by
        refine ⟨_, [], rfl, ⟨⟨a.block, a.off, cc.size, true⟩, a.off, cap, rfl, ?_, hlc, (fun _ h => by cases h), fun _ => rfl, by simpa using hoff⟩, rfl⟩
        have : a = ⟨a.block, a.off, none⟩ := by rw [← hspot]
        rw [← this]
      refine Calls.mono (calls_vm hfn hb hrun (hglob _) hrel (args := #[.slice (some a) len cap]) hvr) fun e W' ⟨u, ρ', he, hpost, hu⟩ => ?_
      obtain rfl : u = .bool true := hu
      have hquiet : ∀ (b : Nat) (pl : Pl), (if b = 0 then some (⟨a.block, a.off, cc.size, true⟩ : Pl) else none) = some pl → pl.quiet = true := by
        intro b pl h
        split at h
        · obtain rfl := Option.some.inj h; rfl
        · cases h
      have hsame : ∀ k, k < W.heap.size → W'.heap[k]? = W.heap[k]? := fun k hk => hpost.frame k hk (fun b pl hb _ => hquiet b pl hb) (fun h => h)
      refine ⟨_, he, fin W' _ ρ' hquiet hpost fun sp hsp => ?_⟩
      refine ⟨2, ?_⟩
      have hz2 : zs.length = (if sp a.block then cap else len) := by
        rcases Nat.eq_zero_or_pos zs.length with h1 | h1
        · have : cap = 0 := by omega
          have : len = 0 := by omega
          split <;> omega
        · have : sp a.block = true := hsp (.cell a.block (a.off + 0)) (by
            rw [hbe]
            exact List.mem_map.2 ⟨0, List.mem_range.2 h1, rfl⟩)
          rw [this]
          simpa using hzl
      exact shut_ints 0 pund22 pund3 pcells3 (Nat.zero_le _) hlc hm hz2 (fun i hi => cell_same hsame _ _ (hcell i hi)) hwf
end Go.Vm.Tryd
