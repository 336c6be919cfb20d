/- From the abstract machine to a law's statement: a law of one slice of whole numbers. -/
import Derived.Test.YtmlogeklbcgjnaaGreatDoorVmExt
import Derived.Test.YtmlogeklbcgjnaaGreatDoorSm
import Derived.Test.YtmlogeklbcgjnaaGreatDoorRows
import Derived.ProofKit
import Derived.LaidMore
import Derived.Lib.LaidU8
import Derived.OpenShut
namespace Go.Vm.Tryz
set_option linter.unusedSimpArgs false
set_option linter.unusedVariables false
set_option linter.unusedSectionVars false
open Go.Proofs.Tryz
open Go.ChangeShapes Go.WideShapes Go.ChangeAt Go.RowKit
set_option maxRecDepth 100000
set_option linter.unusedVariables false

/-- A slice's cells lie in its block. -/
theorem rowAt_le {p : Program} {fits : TypeId → Bool} : ∀ {d : Nat} {e count off n : Nat}, rowAt p fits d e count off n = true → off ≤ count * p.cellsOf e
  | 0, _, _, _, _, h => by simp [rowAt] at h
  | d + 1, e, count, off, n, h => by
    simp only [rowAt] at h
    split at h
    · cases h
    · rename_i hs
      have hs' : 0 < p.cellsOf e := Nat.pos_of_ne_zero hs
      have hdiv := Nat.div_add_mod off (p.cellsOf e)
      have hmod := Nat.mod_lt off hs'
      simp only [Bool.or_eq_true, Bool.and_eq_true, decide_eq_true_eq, beq_iff_eq] at h
      rcases h with ⟨⟨h1, h2⟩, _⟩ | ⟨h1, _⟩
      · have : off / p.cellsOf e ≤ count := by omega
        have h3 := Nat.mul_le_mul_right (p.cellsOf e) this
        rw [Nat.mul_comm (off / p.cellsOf e)] at h3
        omega
      · have h3 := Nat.mul_le_mul_right (p.cellsOf e) (Nat.succ_le_of_lt h1)
        rw [Nat.succ_mul, Nat.mul_comm (off / p.cellsOf e)] at h3
        omega

/-- As 'post_of_same', where what is frozen is asked of the listed places alone. -/
theorem post_same {H : Type} {enc : TypeId × Value → H} {P : Program} {f : Func} {s : ChangeSpec} {apart fresh handsOn again : Bool} {W W' : World} {args : Array Value} {v : Value} {ds gs : List (DataW H)} {before pa pv : List MemPlace}
    (hW : DataW.Whole enc P f.params.toList s.vars apart W args.toList ds gs before)
    (hres : ∀ (b : Nat) (sp : Nat → Bool) (hd : Bool), DataW.TrodAll enc P W' b sp hd f.resultTypes.toList (v.resultList f.resultTypes.size) (s.fn H (ds ++ gs)).results [])
    (hargs : ∀ sp : Nat → Bool, (∀ p ∈ before, sp p.block = true) → DataW.TrodAll enc P W' 0 sp true f.params.toList args.toList (s.fn H (ds ++ gs)).args pa)
    (hvars : ∀ sp : Nat → Bool, (∀ p ∈ before, sp p.block = true) → DataW.TrodVars enc P W' sp s.vars (s.fn H (ds ++ gs)).vars pv)
    (hps : before = pa ++ pv) (hk : W.keptBut W' (· ∈ before)) (hfz : ∀ b off, .cell b off ∈ before → W'.frozen? ⟨b, off, none⟩ = W.frozen? ⟨b, off, none⟩)
    (hok : ∀ (j : Nat) (t : TypeId) (r : Value), f.resultTypes[j]? = some t → (v.resultList f.resultTypes.size)[j]? = some r → Value.okWide P W' .any 0 t r) :
    s.post enc P f apart fresh handsOn again W args v W' := by
  have hold : ∀ p ∈ before, (fun b => decide (b < W.heap.size)) p.block = true := fun p hp => by simpa using hW.lt p hp
  refine ⟨ds, gs, before, [], pa, pv, hW, hres _ _ _, hargs _ hold, hvars _ hold, World.keptBut_mono (fun p hp => ⟨hp, ?_⟩) hk, fun _ => ?_⟩
  · rw [hps, List.mem_append] at hp
    exact Or.inr hp
  · obtain ⟨_, _, _, _, _, hz, hn⟩ := hW
    refine ⟨hok, _, _, ([] ++ pa) ++ pv, ⟨[] ++ pa, pv, trodAll_append (hargs _ (fun _ _ => rfl)) (hres _ _ _), hvars _ (fun _ _ => rfl), rfl, ?_, ?_⟩, ?_⟩
    · intro b off hp
      have hp' : MemPlace.cell b off ∈ before := by rw [hps]; simpa using hp
      rw [hfz b off hp']
      exact hz b off hp'
    · intro ha
      have := hn ha
      rw [hps] at this
      simpa using this
    · intro p hp _
      rw [hps]
      simpa using hp

theorem calls_vm {f n : Nat} {fn : Func} {c : Code} (hfn : T.fn.get f = some fn) (hb : fn.body = some c) {vals : List AV} {H : VH} {v : AV} {H' : VH} (h : vcall T ext promo n f vals H = some (v, H')) {ρ : Rho} {w : World} {args : Array Value}
    (hg : Globs T ρ) (hH : RelH ρ (fun _ => False) H w) (hv : VRs ρ vals args.toList) :
    Calls prog f args w fun e w' => ∃ u ρ', e = .returned u ∧ Post ρ ρ' (fun _ => False) w w' ∧ VR ρ' v u := by
  have A := calls_ok tab_ok.tb ext_ok tab_ok.draws n f vals H v H' h ρ (fun _ => False) w args hH hv hg
  have hf := tab_ok.tb.fn f fn hfn
  have hnm := tab_ok.tb.named f fn hfn
  have hrun : (callFunc f args).run prog w = .ok (.enter f args) w := by
    simp only [callFunc, Sem.run_bind, run_program, Result.andThen, hf, hnm, hb, Option.isNone_some, Bool.false_eq_true, if_false, Sem.run_pure]
  unfold Answers at A
  rw [hrun] at A
  exact Calls.mono A fun e w2 he => by
    cases e with
    | returned u =>
      obtain ⟨ρ', h1, _, h3, _⟩ := he
      exact ⟨u, ρ', rfl, h1, h3⟩
    | panicked ch => exact he.elim
    | outgrown => exact he.elim

/-! What lies in the variables of the library that a law may read. -/
abbrev Glob := Nat × List AV
noncomputable def globRow (p : Glob) : Row := { n := p.2.length, t := Tr.ofList p.2, live := false, lin := p.1, gen := 0, ver := 0 }
noncomputable def globT : List Glob → Tr Blk
  | [] => .leaf
  | p :: ps => (globT ps).set p.1 (.row (globRow p))
def globAt : List Glob → Nat → Option Glob
  | [], _ => none
  | p :: ps, b => if b = p.1 then some p else globAt ps b
theorem globT_get : ∀ (gs : List Glob) (b : Nat), (globT gs).get b = (globAt gs b).map fun p => .row (globRow p)
  | [], b => Tr.get_leaf b
  | p :: ps, b => by
    unfold globT globAt
    rw [Tr.get_set]
    split
    · rfl
    · exact globT_get ps b
theorem globAt_mem : ∀ {gs : List Glob} {b : Nat} {p : Glob}, globAt gs b = some p → p ∈ gs ∧ p.1 = b
  | [], _, _, h => by cases h
  | q :: qs, b, p, h => by
    unfold globAt at h
    split at h
    · rename_i e
      obtain rfl := Option.some.inj h
      exact ⟨List.mem_cons_self .., e.symm⟩
    · obtain ⟨h1, h2⟩ := globAt_mem h
      exact ⟨List.mem_cons_of_mem _ h1, h2⟩
/-- The variables read as listed. -/
def Glo (gs : List Glob) (H : VH) : Prop := ∀ b p, globAt gs b = some p → b < H.next ∧ ∀ i x, p.2[i]? = some x → H.cell b i = some x
noncomputable def argRow (A : Nat) (zs : List Int) (len : Nat) : Row := { n := len, t := Tr.ofList (zs.map fun z => AV.int .i64 z), live := false, lin := A, gen := 0, ver := 0 }
/-- The heap in which a law begins: the variables and its argument's cells. -/
noncomputable def inHeap (gs : List Glob) (A : Nat) (zs : List Int) (len : Nat) : VH :=
  { next := A + 1, t := (globT gs).set A (.row (argRow A zs len)), wg := .leaf, low := A + 1 }
section
variable (gs : List Glob) (A : Nat) (hA : ∀ p ∈ gs, p.1 < A) (zs : List Int) (len : Nat)
theorem inHeap_get (b : Nat) : (inHeap gs A zs len).get b = if b = A then some (.row (argRow A zs len)) else (globAt gs b).map fun p => .row (globRow p) := by
  show ((globT gs).set A _).get b = _
  rw [Tr.get_set]
  split
  · rfl
  · exact globT_get gs b
theorem inHeap_row {b : Nat} {r : Row} (h : (inHeap gs A zs len).row? b = some r) : (b = A ∧ r = argRow A zs len) ∨ (b ≠ A ∧ ∃ p, globAt gs b = some p ∧ r = globRow p) := by
  unfold VH.row? at h
  rw [inHeap_get] at h
  by_cases e : b = A
  · simp only [if_pos e, Option.some.injEq] at h
    exact .inl ⟨e, h.symm⟩
  · simp only [if_neg e] at h
    cases hg : globAt gs b with
    | none => rw [hg] at h; cases h
    | some p =>
      rw [hg] at h
      simp only [Option.map_some, Option.some.injEq] at h
      exact .inr ⟨e, p, rfl, h.symm⟩
include hA in
theorem inHeap_ok : (inHeap gs A zs len).Ok := by
  refine ⟨fun b x h => ?_, fun l g h => ?_, fun b r h => ?_⟩
  · rw [inHeap_get] at h
    show b < A + 1
    split at h
    · omega
    · cases hg : globAt gs b with
      | none => rw [hg] at h; cases h
      | some p =>
        obtain ⟨h1, h2⟩ := globAt_mem hg
        have := hA p h1
        omega
  · have : (Tr.leaf : Tr Nat).get l = some g := h
    rw [Tr.get_leaf] at this
    cases this
  · show r.lin < A + 1
    rcases inHeap_row gs A zs len h with ⟨_, rfl⟩ | ⟨_, p, hg, rfl⟩
    · exact Nat.lt_succ_self A
    · have := hA p (globAt_mem hg).1
      show p.1 < A + 1
      omega
theorem inHeap_read (r : Row) (hr : r.gen = 0) : (inHeap gs A zs len).readable r = true := by
  unfold VH.readable VH.from_
  rw [show (inHeap gs A zs len).wg.get r.lin = none from Tr.get_leaf _, hr]
  rfl
theorem inHeap_cell (i : Nat) (hi : i < len) (hz : len ≤ zs.length) : (inHeap gs A zs len).cell A (0 + i) = some (.int .i64 (zs.getD i 0)) := by
  simp only [cell_blk]
  unfold VH.cellN VH.row?
  rw [inHeap_get]
  have hr := inHeap_read gs A zs len (argRow A zs len) rfl
  simp only [if_true, hr, Nat.zero_add]
  have hi2 : i < zs.length := by omega
  have hl : Nat.blt i (argRow A zs len).n = true := by
    rw [blt_eq]
    exact decide_eq_true hi
  rw [hl]
  simp only [if_true]
  show (Tr.ofList (zs.map fun z => AV.int .i64 z)).get i = _
  rw [Tr.get_ofList]
  simp [hi2]
include hA in
theorem inHeap_glo : Glo gs (inHeap gs A zs len) := by
  intro b p hg
  have hm := globAt_mem hg
  have hlt := hA p hm.1
  have hb : b ≠ A := by omega
  refine ⟨by show b < A + 1; omega, fun i x hx => ?_⟩
  simp only [cell_blk]
  unfold VH.cellN VH.row?
  rw [inHeap_get, if_neg hb, hg]
  have hr := inHeap_read gs A zs len (globRow p) rfl
  have hi : i < p.2.length := (List.getElem?_eq_some_iff.1 hx).1
  have hl : Nat.blt i (globRow p).n = true := by
    rw [blt_eq]
    exact decide_eq_true hi
  simp only [Option.map_some, hr, if_true, hl]
  show (Tr.ofList p.2).get i = _
  rw [Tr.get_ofList]
  exact hx
end

/-- The argument's slice. -/
theorem ok_slice {P : Program} {W : World} {r : Reach} {b0 : Nat} {t e : TypeId} {v : Value} (ht : P.underlying t = some (.slice e)) (h : Value.okWide P W r b0 t v) :
    v = .slice none 0 0 ∨ ∃ a len cap, v = .slice (some a) len cap ∧ len ≤ cap ∧ W.has P r b0 a e cap := by
  simp only [Value.okWide, ht, Cell.okWide] at h
  unfold Cell.ok at h
  rw [ht] at h
  cases v with
  | slice a len cap =>
    cases a with
    | none =>
      cases len with
      | zero =>
        cases cap with
        | zero => exact .inl rfl
        | succ n => exact h.elim
      | succ n => exact h.elim
    | some a => exact .inr ⟨a, len, cap, rfl, h.1, h.2.2⟩
  | _ => exact h.elim
theorem kept_same {W W' : World} {may : MemPlace → Prop} (h1 : W'.os = W.os) (h2 : W'.output = W.output) (h3 : ∀ k, k < W.heap.size → W'.heap[k]? = W.heap[k]?) : W.keptBut W' may := by
  refine ⟨h1, h2, fun i hi => ?_⟩
  rw [h3 i hi]
  cases W.heap[i]? with
  | none => rfl
  | some o =>
    cases o with
    | cells c t fr => exact ⟨rfl, rfl, rfl, fun _ _ => rfl⟩
    | map es clock => exact .inr ⟨rfl, rfl⟩
    | _ => rfl
theorem cell_same {W W' : World} (h3 : ∀ k, k < W.heap.size → W'.heap[k]? = W.heap[k]?) (a : Addr) (v : Value) (h : W.cell? a = some v) : W'.cell? a = some v := by
  unfold World.cell? at h ⊢
  have hlt : a.block < W.heap.size := by
    rcases Nat.lt_or_ge a.block W.heap.size with h1 | h1
    · exact h1
    · rw [Array.getElem?_eq_none h1] at h
      cases h
  rw [h3 _ hlt]
  exact h

theorem pundInts : prog.underlying 22 = some (.slice 3) := by kernel_rfl
theorem pund3 : prog.underlying 3 = some (.int .i64) := by kernel_rfl
theorem pund4 : prog.underlying 4 = some .bool := by kernel_rfl
theorem pcells3 : prog.cellsOf 3 = 1 := by kernel_rfl
/-- The places of the variables and of the argument. -/
def inMap (gs : List Glob) (A : Nat) (W : World) (arg : Option Pl) : Nat → Option Pl := fun b => if b = A then arg else (globAt gs b).bind fun p => (W.heap[b]?).bind fun o => match o with | .cells c _ _ => some ⟨b, 0, c.size⟩ | _ => none
def inRho (gs : List Glob) (A : Nat) (W : World) (arg : Option Pl) : Rho := ⟨inMap gs A W arg, fun k => ∃ b pl, inMap gs A W arg b = some pl ∧ pl.rb = k, fun _ => none⟩
/-- No place at all. -/
def rho0 : Rho := ⟨fun _ => none, fun _ => False, fun _ => none⟩
/-- What the world says of the variables. -/
def GlobIn (gs : List Glob) (W : World) : Prop := ∀ b p, globAt gs b = some p → ∃ c et fz, W.heap[b]? = some (.cells c et fz) ∧ ∃ us rest, c.toList = us ++ rest ∧ VRs rho0 p.2 us ∧ ∀ u ∈ us, u.oneCell' = true
theorem inRho_glob {gs : List Glob} {A : Nat} {W : World} {arg : Option Pl} {b : Nat} (hb : b ≠ A) {pl : Pl} (h : inRho gs A W arg b = some pl) : ∃ p c et fz, globAt gs b = some p ∧ W.heap[b]? = some (.cells c et fz) ∧ pl = ⟨b, 0, c.size⟩ := by
  change inMap gs A W arg b = some pl at h
  unfold inMap at h
  rw [if_neg hb] at h
  cases hg : globAt gs b with
  | none => rw [hg] at h; cases h
  | some p =>
    rw [hg] at h
    cases ho : W.heap[b]? with
    | none => rw [ho] at h; cases h
    | some o =>
      rw [ho] at h
      cases o with
      | cells c et fz => exact ⟨p, c, et, fz, rfl, rfl, (Option.some.inj h).symm⟩
      | _ => cases h
theorem inRho_quiet {gs : List Glob} {A : Nat} {W : World} {arg : Option Pl} {b : Nat} {pl : Pl} (h : inRho gs A W arg b = some pl) : (inRho gs A W arg).q pl.rb := ⟨b, pl, h, rfl⟩
theorem inRho_arg {gs : List Glob} {A : Nat} {W : World} {arg : Option Pl} : inRho gs A W arg A = arg := by
  show inMap gs A W arg A = arg
  unfold inMap
  rw [if_pos rfl]
theorem inRho_lt {gs : List Glob} {A : Nat} {W : World} {arg : Option Pl} (harg : ∀ pl, arg = some pl → pl.rb < W.heap.size) {b : Nat} {pl : Pl} (h : inRho gs A W arg b = some pl) : pl.rb < W.heap.size := by
  by_cases e : b = A
  · subst e
    rw [inRho_arg] at h
    exact harg pl h
  · obtain ⟨p, c, et, fz, h1, h2, rfl⟩ := inRho_glob e h
    exact (Array.getElem?_eq_some_iff.1 h2).1
/-- The abstract heap of an argument is one of the world. -/
theorem inHeap_rel {W : World} {gs : List Glob} {A : Nat} (hA : ∀ p ∈ gs, p.1 < A) (hG : GlobIn gs W) {arg : Option Pl} {len : Nat} {zs : List Int} (hlen : len ≤ zs.length)
    (harg : ∀ pl, arg = some pl → ∃ (a : Addr) (c : Array Value) (et : TypeId) (fz : Nat × Nat), pl = ⟨a.block, a.off, c.size⟩ ∧ a.spot = none ∧ W.heap[a.block]? = some (.cells c et fz) ∧ a.off ≤ c.size ∧ ∀ i, i < zs.length → W.cell? (a.add i) = some (.int .i64 (zs.getD i 0))) :
    RelH (inRho gs A W arg) (fun _ => False) (inHeap gs A zs len) W := by
  have hok := inHeap_ok gs A hA zs len
  refine ⟨fun b pl hb => ?_, fun _ h => h.elim, fun b pl r hb hr => ?_, fun b b' pl pl' r _ _ _ hr hl _ => ?_, hok.lin, hok.wg, hok.get, fun b pl r e hb hr he => ?_, MapsR.none fun b es c v he => ?_, fun k ⟨b, pl, hb, e⟩ => e ▸ inRho_lt (fun pl h => by obtain ⟨a, c, et, fz, rfl, h1, h2, h3⟩ := harg pl h; exact (Array.getElem?_eq_some_iff.1 h2).1) hb, fun k c e => by cases e⟩
  · by_cases e : b = A
    · subst e
      rw [inRho_arg] at hb
      obtain ⟨a, c, et, fz, rfl, h1, h2, h3⟩ := harg pl hb
      exact ⟨fun h => h, (Array.getElem?_eq_some_iff.1 h2).1, by rw [inHeap_get, if_pos rfl]; exact ⟨_, rfl⟩⟩
    · obtain ⟨p, c, et, fz, h1, h2, rfl⟩ := inRho_glob e hb
      exact ⟨fun h => h, (Array.getElem?_eq_some_iff.1 h2).1, by rw [inHeap_get, if_neg e, h1]; exact ⟨_, rfl⟩⟩
  · rcases inHeap_row gs A zs len hr with ⟨e, rfl⟩ | ⟨e, p, hg, rfl⟩
    · subst e
      rw [inRho_arg] at hb
      obtain ⟨a, c, et, fz, rfl, hs, hc, hoff, hz⟩ := harg pl hb
      have hcell : ∀ i, i < zs.length → c[a.off + i]? = some (.int .i64 (zs.getD i 0)) := by
        intro i hi
        have := hz i hi
        unfold World.cell? Addr.add at this
        by_cases e : i = 0
        · subst e
          simp only [if_true, hc, hs] at this
          simpa using this
        · simp only [if_neg e, hc] at this
          simpa using this
      refine ⟨c, et, fz, hc, rfl, ?_, (fun h => by cases h), fun _ i x hi hx => ?_⟩
      · show a.off + len ≤ c.size
        rcases Nat.eq_zero_or_pos len with h0 | h0
        · omega
        · have := hcell (len - 1) (by omega)
          have := (Array.getElem?_eq_some_iff.1 this).1
          omega
      · have hi' : i < len := hi
        have hx' : (Tr.ofList (zs.map fun z => AV.int .i64 z)).get i = some x := hx
        rw [Tr.get_ofList] at hx'
        have hiz : i < zs.length := by omega
        simp only [List.getElem?_map, List.getElem?_eq_getElem hiz, Option.map_some, Option.some.injEq] at hx'
        subst hx'
        refine ⟨.int .i64 (zs.getD i 0), hcell i hiz, ?_, rfl⟩
        show Value.int .i64 (zs.getD i 0) = .int .i64 zs[i]
        simp [hiz]
    · obtain ⟨p', c, et, fz, h1, h2, rfl⟩ := inRho_glob e hb
      rw [hg] at h1
      obtain rfl := Option.some.inj h1
      obtain ⟨c', et', fz', g1, us, rest, g2, g3, g4⟩ := hG b p hg
      rw [h2] at g1
      simp only [Option.some.injEq, Obj.cells.injEq] at g1
      obtain ⟨rfl, rfl, rfl⟩ := g1
      have hl := g3.length
      have hsz : c.size = us.length + rest.length := by rw [← Array.length_toList, g2, List.length_append]
      refine ⟨c, et, fz, h2, rfl, ?_, (fun h => by cases h), fun _ i x hi hx => ?_⟩
      · show 0 + p.2.length ≤ c.size
        omega
      · have hx' : (Tr.ofList p.2).get i = some x := hx
        rw [Tr.get_ofList] at hx'
        obtain ⟨u, hu1, hu2⟩ := g3.get hx'
        refine ⟨u, ?_, VR.mono (ρ := rho0) ⟨fun _ _ h => (by cases h), fun _ h => h.elim, fun _ _ h => (by cases h)⟩ x u hu2, g4 u (List.mem_of_getElem? hu1)⟩
        show c[0 + i]? = _
        rw [Nat.zero_add, ← Array.getElem?_toList, g2, List.getElem?_append_left (by have := (List.getElem?_eq_some_iff.1 hu1).1; omega)]
        exact hu1
  · rcases inHeap_row gs A zs len hr with ⟨_, rfl⟩ | ⟨_, p, _, rfl⟩ <;> cases hl
  · rcases inHeap_row gs A zs len hr with ⟨_, rfl⟩ | ⟨_, p, _, rfl⟩ <;> cases he
  · rw [inHeap_get] at he
    split at he
    · cases he
    · cases hp : globAt gs b with
      | none => rw [hp] at he; cases he
      | some p => rw [hp] at he; cases he

/-- As 'returnsInHanded_of_change_and', with what is known of the variables' blocks. -/
theorem returnsShaped {H : Type} {enc : TypeId × Value → H} {a : Assume} {C : Checked} {os : Os} {f : FuncId} {fn : Func} {s : ChangeSpec} {conds : List PathCond} {apart fresh handsOn again : Bool} {X : World → Array Value → Prop}
    (hX : ∀ (w w' : World) (args : Array Value), w.heap = w'.heap → X w args → X w' args)
    (own : ownKnob C.prog.godebug = none) (started : os.Started) (noInit : C.prog.inits.idxOf? f = none) (hfn : C.prog.funcs[f]? = some fn)
    (witness : ∃ (w : World) (tape : Tape) (i : Input), w.os = os ∧ (w.forCall tape i).Shaped C.prog ∧ i.vars = [] ∧ Input.okWide C.prog (w.forCall tape i) .any w.heap.size f i ∧
      ((s.pre enc C.prog fn conds apart (w.forCall tape i).memory i.args ∧ X (w.forCall tape i).memory i.args) ∧ sizedMet enc C.prog fn (OpenSpec.ofChange s) apart (w.forCall tape i).memory i.args) ∧ a.holds C.prog (lone (Frame.enter C.prog f i.args .normal) [] (w.forCall tape i)))
    (contract : ∀ (W : World) (base : Nat) (args : Array Value) (ds gs : List (DataW H)) (before : List MemPlace), W.ShapedOpen C.prog →
      (∀ (j : Nat) t v, fn.params[j]? = some t → args[j]? = some v → Value.okWide C.prog W .any base t v) →
      DataW.Whole enc C.prog fn.params.toList s.vars apart W args.toList ds gs before →
      conds.all (PathCond.test C.prog ⟨fn.params.toList, ds, s.plain.varTypes C.prog, gs⟩) = true →
      (DataW.weightsEach C.prog (fn.params.toList ++ s.plain.varTypes C.prog) (ds ++ gs)).all (· ≤ reachBytes) = true → X W args →
      a.holds C.prog (lone (Frame.enter C.prog f args .normal) [] W) →
      Calls C.prog f args W fun e W' => ∃ v, e = .returned v ∧ s.post enc C.prog fn apart fresh handsOn again W args v W') :
    ReturnsInHanded a C os f .any (fun w args => (s.pre enc C.prog fn conds apart w args ∧ X w args) ∧ sizedMet enc C.prog fn (OpenSpec.ofChange s) apart w args) (s.post enc C.prog fn apart fresh handsOn again) := by
  refine returnsInHanded_of_calls own started noInit witness ?_
  intro w tape i _ hsh _ hok hpre hholds
  obtain ⟨_, _, _, fn', hfn', _, _, _, _, hval⟩ := hok
  have e : fn' = fn := Option.some.inj (hfn'.symm.trans hfn)
  subst e
  obtain ⟨⟨⟨ds, gs, before, hw, hc⟩, hx⟩, hz⟩ := hpre
  have hw' := DataW.Whole.of_heap (w' := w.forCall tape i) (by rfl) hw
  refine (contract (w.forCall tape i) w.heap.size i.args ds gs before hsh hval hw' hc (hz.weights hw) (hX _ _ _ (by rfl) hx) hholds).mono fun e W' ⟨v, he, hp⟩ => ?_
  subst he
  exact ChangeSpec.post_blind hp
/-- A variable's block. -/
theorem shaped_block {W : World} (hs : W.ShapedOpen prog) {g : Nat} {zero : Array Value} {t : TypeId} (hg : g < prog.globals.size) (h0 : ((begin prog (fun _ _ => 0) default).world.heap[g]?).bind Obj.row? = some (zero, t)) :
    ∃ cs, W.heap[g]? = some (.cells cs t (0, 0)) ∧ cs.size = zero.size ∧ (prog.buildable t = true → Row.ok prog W .any 0 t cs) := hs.1 g zero t hg h0
/-- What is asked of one variable. -/
def GlobAt (cells : List AV) (b : Nat) (W : World) : Prop := ∃ c et fz, W.heap[b]? = some (.cells c et fz) ∧ ∃ us rest, c.toList = us ++ rest ∧ VRs rho0 cells us ∧ ∀ u ∈ us, u.oneCell' = true
theorem globIn_of {gs : List Glob} {W : World} (h : ∀ p ∈ gs, GlobAt p.2 p.1 W) : GlobIn gs W := fun b p hp => by
  obtain ⟨h1, h2⟩ := globAt_mem hp
  have := h p h1
  rw [h2] at this
  exact this
/-- A variable of which nothing is known but its block. -/
theorem glob_none {W : World} (hs : W.ShapedOpen prog) {g : Nat} {zero : Array Value} {t : TypeId} (hg : g < prog.globals.size) (h0 : ((begin prog (fun _ _ => 0) default).world.heap[g]?).bind Obj.row? = some (zero, t)) : GlobAt [] g W := by
  obtain ⟨cs, h1, _, _⟩ := hs.1 g zero t hg h0
  exact ⟨cs, t, (0, 0), h1, [], cs.toList, rfl, rfl, fun _ h => by cases h⟩
theorem vrs_ints (k : IntKind) : ∀ zs : List Int, VRs rho0 (zs.map fun z => AV.int k z) (zs.map fun z => Value.int k z)
  | [] => rfl
  | z :: zs => ⟨_, _, rfl, rfl, vrs_ints k zs⟩
/-- A table of the library. -/
theorem glob_tab {W : World} {name : String} {k : IntKind} {zs : List Int} {g : Nat} (hg : prog.globalNamed name = some g) (h : Lib.TabIs prog W name k zs) : GlobAt (zs.map fun z => AV.int k z) g W := by
  unfold Lib.TabIs World.var? at h
  rw [hg] at h
  simp only [Option.bind_some] at h
  split at h
  · rename_i cs et fz hc
    obtain rfl := Option.some.inj h
    refine ⟨_, et, fz, hc, zs.map fun z => Value.int k z, [], by simp, vrs_ints k zs, fun u hu => ?_⟩
    obtain ⟨z, _, rfl⟩ := List.mem_map.1 hu
    rfl
  · cases h
/-- From a row's list. -/
theorem tab_of_reads {W : World} {name : String} {k : IntKind} {zs : List Int} {g : Nat} {t e : TypeId} {n : Nat} {l : List (String × DataW Unit)} (h : laidMet prog l W)
    (hm : (name, Lib.tabData k zs) ∈ l) (hg : prog.globalNamed name = some g) (hty : (prog.globals[g]?).map (·.type) = some t) (ht : prog.underlying t = some (.array n e)) (he : prog.underlying e = some (.int k)) (hce : prog.cellsOf e = 1) (hct : prog.cellsOf t = n) : Lib.TabIs prog W name k zs := by
  obtain ⟨g', t', cs, fuel, p, h1, h2, h3, h4⟩ := Lib.laidMet.reads h hm
  obtain rfl := Option.some.inj (hg.symm.trans h1)
  obtain rfl := Option.some.inj (hty.symm.trans h2)
  unfold Lib.TabIs
  rw [h3, ← Lib.cells_of_tab ht he hce hct h4]
/-- A variable of type int of which nothing is known: some number lies in it. -/
theorem glob_int {W : World} (hs : W.ShapedOpen prog) {g : Nat} (hg : g < prog.globals.size) (h0 : ((begin prog (fun _ _ => 0) default).world.heap[g]?).bind Obj.row? = some (#[.int .i64 0], 3)) (hb : prog.buildable 3 = true) (hct : prog.cellTypes prog.depth 3 = some [3]) : ∃ m : Int, GlobAt [.int .i64 m] g W := by
  obtain ⟨cs, h1, h2, h3⟩ := hs.1 g #[.int .i64 0] 3 hg h0
  have h2' : cs.size = 1 := h2
  obtain ⟨ts, q1, _, q2⟩ := h3 hb
  have e := hct.symm.trans q1
  obtain rfl := Option.some.inj e
  have hc : cs[0]? = some cs[0] := Array.getElem?_eq_getElem (by omega)
  obtain ⟨u, q3, q4⟩ := q2 0 _ hc
  have q3' : some 3 = some u := q3
  obtain rfl := Option.some.inj q3'
  unfold Cell.ok at q4
  rw [pund3] at q4
  generalize hv : cs[0] = v at q4 hc
  cases v with
  | int k m =>
    obtain ⟨rfl, _⟩ : k = .i64 ∧ _ := q4
    refine ⟨m, cs, _, _, h1, [.int .i64 m], [], ?_, ⟨_, _, rfl, rfl, rfl⟩, fun u hu => ?_⟩
    · rw [List.append_nil]
      apply List.ext_getElem?
      intro i
      rw [Array.getElem?_toList]
      cases i with
      | zero => rw [hc]; rfl
      | succ i => rw [Array.getElem?_eq_none (by omega)]; rfl
    · obtain rfl := List.mem_singleton.1 hu
      rfl
  | _ => exact q4.elim
/-- The variable MaxLen (number 0) holds a number. -/
theorem maxlen_of {m : Int} {y : List AV} {H : VH} (h : Glo [(0, [.int .i64 m]), (3, y)] H) : 0 < H.next ∧ H.cell (.blk 0) 0 = some (.int .i64 m) := ⟨(h 0 _ rfl).1, (h 0 _ rfl).2 0 _ rfl⟩
theorem gl_two {x y : List AV} : ∀ g, T.gl g = true → ∃ p, globAt [(0, x), (3, y)] g = some p := fun g hg => by
  have hm : g ∈ gls := memB_mem hg
  have he : gls = [0, 3] := rfl
  rw [he] at hm
  rcases List.mem_cons.1 hm with rfl | hm
  · exact ⟨(0, x), rfl⟩
  rcases List.mem_cons.1 hm with rfl | hm
  · exact ⟨(3, y), rfl⟩
  · cases hm
theorem int_law {f : Nat} {fn : Func} {c : Code} (n : Nat) (hfn : T.fn.get f = some fn) (hb : fn.body = some c) (hp : fn.params = #[22]) (hr : fn.resultTypes = #[4])
    {gs0 : List Glob} (hA0 : ∀ p ∈ gs0, p.1 < prog.globals.size) (hgl : ∀ g, T.gl g = true → ∃ p, globAt gs0 g = some p)
    (hvm : ∀ (H : VH), H.Ok → Glo gs0 H → ∀ (a : Option (Bk × Nat)) (l : Nat) (c : Option Nat) (e : Nat), Nums H H.next a l → ∃ H', vcall T ext promo n f [.slice a l c e] H = some (.bool true, H'))
    {HH : Type} {enc : TypeId × Value → HH} {W : World} {base : Nat} {args : Array Value} {ds gs : List (DataW HH)} {before : List MemPlace} {s : ChangeSpec} {apart fresh handsOn again : Bool} (hG : GlobIn gs0 W)
    (hs1 : s.vars = []) (hs2 : ∀ d, s.fn HH [d] = { results := [.lit (.bool true)], args := [d] })
    (hval : ∀ (j : Nat) t v, fn.params[j]? = some t → args[j]? = some v → Value.okWide prog W .any base t v)
    (hW : DataW.Whole enc prog fn.params.toList s.vars apart W args.toList ds gs before) :
    Calls prog f args W fun e W' => ∃ v, e = .returned v ∧ s.post enc prog fn apart fresh handsOn again W args v W' := by
  have hW' := hW
  obtain ⟨p, q, hA, hV, hpq, hfz, hnd⟩ := hW
  rw [hp] at hA hval
  obtain ⟨v0, d0, rfl, rfl, h0⟩ := trodAll_one hA
  rw [hs1] at hV
  obtain ⟨rfl, rfl⟩ := trodVars_none hV
  have hbe : before = p := by rw [hpq]; simp
  obtain ⟨fuel, hf⟩ := h0
  have hglob : ∀ arg, Globs T (inRho gs0 prog.globals.size W arg) := fun arg g hg => by
    obtain ⟨p, hp⟩ := hgl g hg
    obtain ⟨c, et, fz, h1, _⟩ := hG g p hp
    have hlt := hA0 p (globAt_mem hp).1
    have hne : g ≠ prog.globals.size := by have := (globAt_mem hp).2; omega
    exact ⟨c.size, by show inMap _ _ _ _ _ = _; unfold inMap; rw [if_neg hne, hp]; simp only [Option.bind_some, h1]⟩
  have fin : ∀ (W' : World) (ρ ρ' : Rho), (∀ b pl, ρ b = some pl → ρ.q pl.rb) → Post ρ ρ' (fun _ => False) W W' →
      (∀ sp : Nat → Bool, (∀ x ∈ before, sp x.block = true) → DataW.Trod enc prog W' 0 sp true 22 v0 d0 p) →
      s.post enc prog fn apart fresh handsOn again W #[v0] (.bool true) W' := by
    intro W' ρ ρ' hq hpost htrod
    have hsame : ∀ k, k < W.heap.size → W'.heap[k]? = W.heap[k]? := fun k hk => hpost.frame k hk (fun b pl hb e => e ▸ hq b pl hb) (fun h => h)
    refine post_same (pa := p) (pv := []) hW' ?_ ?_ ?_ (by rw [hbe]; simp) (kept_same hpost.os hpost.output hsame) ?_ ?_
    · intro b sp hd
      rw [hr, List.append_nil, hs2]
      exact trodAll_mk1 (shut_bool pund4 true)
    · intro sp hsp
      rw [hp, List.append_nil, hs2]
      exact trodAll_mk1 (htrod sp hsp)
    · intro sp _
      rw [hs1, List.append_nil, hs2]
      rfl
    · intro b off hm
      have hlt : b < W.heap.size := hW'.lt _ hm
      unfold World.frozen?
      rw [hsame b hlt]
    · exact ok_one hr rfl (okWide_bool_mk pund4 true)
  rcases ok_slice pundInts (hval 0 22 v0 rfl rfl) with rfl | ⟨a, len, cap, rfl, hlc, hhas⟩
  · obtain ⟨H', hrun⟩ := hvm (inHeap gs0 prog.globals.size [] 0) (inHeap_ok _ _ hA0 _ _) (inHeap_glo _ _ hA0 _ _) none 0 (some 0) 0 ⟨by decide, fun h => absurd h (Nat.lt_irrefl _)⟩
    have hrel := inHeap_rel (len := 0) (zs := []) hA0 hG (arg := none) (Nat.le_refl _) (fun _ h => by cases h)
    refine Calls.mono (calls_vm hfn hb hrun (hglob _) hrel (args := #[.slice none 0 0]) ⟨_, [], rfl, ⟨rfl, rfl, rfl⟩, rfl⟩) fun e W' ⟨u, ρ', he, hpost, hu⟩ => ?_
    obtain rfl : u = .bool true := hu
    refine ⟨_, he, fin W' _ ρ' (fun _ _ h => inRho_quiet h) hpost fun sp _ => ?_⟩
    rcases open_ints pundInts pund3 pcells3 hf with ⟨_, hx⟩ | ⟨a', len', cap', zs, hcs, _⟩
    · simp only [Prod.mk.injEq] at hx
      obtain ⟨rfl, rfl⟩ := hx
      exact shut_slice_nil pundInts
    · exact absurd hcs (by simp [Value.cells])
  · rcases open_ints pundInts pund3 pcells3 hf with ⟨hcs, _⟩ | ⟨a', len', cap', zs, hcs, hba, hl, hm, hzl, hx, hcell, hwf⟩
    · exact absurd hcs (by simp [Value.cells])
    · simp only [Value.cells, List.cons.injEq, Value.slice.injEq, Option.some.injEq, and_true] at hcs
      obtain ⟨rfl, rfl, rfl⟩ := hcs
      simp only [if_true] at hzl
      simp only [Prod.mk.injEq] at hx
      obtain ⟨rfl, rfl⟩ := hx
      obtain ⟨_, hspot, row, cells, hshape, hlies⟩ := hhas
      obtain ⟨cc, et, fz, hcc, hsz⟩ : ∃ cc et fz, W.heap[a.block]? = some (.cells cc et fz) ∧ cc.size = cells := by
        unfold World.shape? at hshape
        split at hshape
        · rename_i c e f hc
          simp only [Option.some.injEq, Prod.mk.injEq] at hshape
          exact ⟨c, e, f, hc, hshape.2⟩
        · cases hshape
      have hoff : a.off ≤ cc.size := by
        have hd : prog.depth = (2 * (prog.types.size + Made.depth) + 1) + 1 := rfl
        rw [hd] at hlies
        simp only [liesAt, pund3, Bool.or_false] at hlies
        have h1 := rowAt_le hlies
        have h2 := Nat.div_mul_le_self cells (prog.cellsOf row)
        omega
      have hmax : (maxLen : Nat) < 9223372036854775808 := by decide
      have hnums : Nums (inHeap gs0 prog.globals.size zs len) (inHeap gs0 prog.globals.size zs len).next (some (prog.globals.size, 0)) len := by
        refine ⟨by omega, fun _ => ⟨prog.globals.size, 0, rfl, Nat.lt_succ_self _, Nat.lt_succ_self _, fun i hi => ?_⟩⟩
        have hiz : i < zs.length := by omega
        refine ⟨zs.getD i 0, inHeap_cell _ _ zs len i hi (by omega), ?_⟩
        have hw := hwf zs[i] (List.getElem_mem hiz)
        simp only [Lit.wf, Bool.and_eq_true, decide_eq_true_eq] at hw
        have e : zs.getD i 0 = zs[i] := by simp [hiz]
        rw [e]
        have h1 : IntKind.min .i64 = -9223372036854775808 := by decide
        have h2 : IntKind.max .i64 = 9223372036854775807 := by decide
        rw [h1, h2] at hw
        omega
      obtain ⟨H', hrun⟩ := hvm (inHeap gs0 prog.globals.size zs len) (inHeap_ok _ _ hA0 _ _) (inHeap_glo _ _ hA0 _ _) (some (prog.globals.size, 0)) len none 0 hnums
      have hrel := inHeap_rel (len := len) (zs := zs) hA0 hG (arg := some ⟨a.block, a.off, cc.size⟩) (by omega) (fun pl h => by
        obtain rfl := Option.some.inj h
        exact ⟨a, cc, et, fz, rfl, hspot, hcc, hoff, hcell⟩)
      have hvr : VRs (inRho gs0 prog.globals.size W (some ⟨a.block, a.off, cc.size⟩)) [.slice (some (prog.globals.size, 0)) len none 0] [Value.slice (some a) len cap] := by
        refine ⟨_, [], rfl, ⟨⟨a.block, a.off, cc.size⟩, a.off, cap, inRho_arg, ?_, hlc, (fun _ h => by cases h), fun _ => rfl, by simpa using hoff⟩, rfl⟩
        have : a = ⟨a.block, a.off, none⟩ := by rw [← hspot]
        rw [← this]
      refine Calls.mono (calls_vm hfn hb hrun (hglob _) hrel (args := #[.slice (some a) len cap]) hvr) fun e W' ⟨u, ρ', he, hpost, hu⟩ => ?_
      obtain rfl : u = .bool true := hu
      have hquiet : ∀ (b : Nat) (pl : Pl), inRho gs0 prog.globals.size W (some ⟨a.block, a.off, cc.size⟩) b = some pl → (inRho gs0 prog.globals.size W (some ⟨a.block, a.off, cc.size⟩)).q pl.rb := fun b pl h => inRho_quiet h
      have hsame : ∀ k, k < W.heap.size → W'.heap[k]? = W.heap[k]? := fun k hk => hpost.frame k hk (fun b pl hb e => e ▸ hquiet b pl hb) (fun h => h)
      refine ⟨_, he, fin W' _ ρ' hquiet hpost fun sp hsp => ?_⟩
      refine ⟨2, ?_⟩
      have hz2 : zs.length = (if sp a.block then cap else len) := by
        rcases Nat.eq_zero_or_pos zs.length with h1 | h1
        · have : cap = 0 := by omega
          have : len = 0 := by omega
          split <;> omega
        · have : sp a.block = true := hsp (.cell a.block (a.off + 0)) (by
            rw [hbe]
            exact List.mem_map.2 ⟨0, List.mem_range.2 h1, rfl⟩)
          rw [this]
          simpa using hzl
      exact shut_ints 0 pundInts pund3 pcells3 (Nat.zero_le _) hlc hm hz2 (fun i hi => cell_same hsame _ _ (hcell i hi)) hwf
end Go.Vm.Tryz
