/- Runs on a memory of their own: a function that gets and gives no place answers alike, whatever else lies in memory. -/
import Derived.Test.YtmlogeklbcgjnaaGreatDoorVmX
namespace Go.Vm
set_option linter.unusedSimpArgs false
set_option linter.unusedVariables false
set_option linter.unusedSectionVars false
abbrev Lit := Nat × List AV
noncomputable def litRow (p : Lit) : Row := { n := p.2.length, t := Tr.ofList p.2, live := false, lin := p.1, gen := 0, ver := 0 }
/-- A variable's block: without a cell that is known, it cannot be read. -/
noncomputable def litBlk (p : Lit) : Blk :=
  match p.2 with
  | [] => .dark
  | _ :: _ => .row (litRow p)
noncomputable def litT : List Lit → Tr Blk
  | [] => .leaf
  | p :: ps => (litT ps).set p.1 (litBlk p)
def litAt : List Lit → Nat → Option Lit
  | [], _ => none
  | p :: ps, b => if b = p.1 then some p else litAt ps b
theorem litT_get : ∀ (gs : List Lit) (b : Nat), (litT gs).get b = (litAt gs b).map litBlk
  | [], b => Tr.get_leaf b
  | p :: ps, b => by
    unfold litT litAt
    rw [Tr.get_set]
    split
    · rfl
    · exact litT_get ps b
theorem litAt_mem : ∀ {gs : List Lit} {b : Nat} {p : Lit}, litAt gs b = some p → p ∈ gs ∧ p.1 = b
  | [], _, _, h => by cases h
  | q :: qs, b, p, h => by
    unfold litAt at h
    split at h
    · rename_i e
      obtain rfl := Option.some.inj h
      exact ⟨List.mem_cons_self .., e.symm⟩
    · obtain ⟨h1, h2⟩ := litAt_mem h
      exact ⟨List.mem_cons_of_mem _ h1, h2⟩
/-- The memory in which such a run is done: the variables alone. -/
noncomputable def lit (gs : List Lit) (N : Nat) : VH := ⟨N, litT gs, .leaf, N⟩
theorem lit_row {gs : List Lit} {N b : Nat} {r : Row} (h : (lit gs N).row? b = some r) : ∃ p, litAt gs b = some p ∧ p.2 ≠ [] ∧ r = litRow p := by
  have h1 := VH.row?_get h
  change (litT gs).get b = some (.row r) at h1
  rw [litT_get] at h1
  cases hp : litAt gs b with
  | none => rw [hp] at h1; cases h1
  | some p =>
    rw [hp] at h1
    simp only [Option.map_some, Option.some.injEq] at h1
    unfold litBlk at h1
    split at h1
    · cases h1
    · rename_i hc
      exact ⟨p, rfl, by rw [hc]; exact List.cons_ne_nil _ _, by injection h1 with h1; exact h1.symm⟩
/-- What is asked of a heap whose variables read as listed. -/
def Reads (gs : List Lit) (H : VH) : Prop := ∀ p ∈ gs, ∀ i x, p.2[i]? = some x → H.cell p.1 i = some x
theorem Answers.mono {P : Program} {f : FuncId} {args : Array Value} {w : World} {R S : Value → World → Prop} (h : Answers P f args w R) (m : ∀ u w', R u w' → S u w') : Answers P f args w S := by
  unfold Answers at *
  split at h
  · exact Calls.mono h fun e w2 he => by
      cases e with
      | returned u => exact m _ _ he
      | panicked ch => exact he
      | outgrown => exact he
  · exact m _ _ h
  · exact h
mutual
/-- Whether a value holds no place at all. -/
def bare : AV → Bool
  | .bool _ => true
  | .int _ _ => true
  | .str _ => true
  | .ptr none => true
  | .slice none _ _ _ => true
  | .map none => true
  | .nilFunc => true
  | .nilIface => true
  | .agg cs => bares cs
  | .tuple cs => bares cs
  | _ => false
def bares : List AV → Bool
  | [] => true
  | v :: vs => bare v && bares vs
end
mutual
theorem bare_rel {ρ ρ' : Rho} : ∀ (a : AV) (u : Value), bare a = true → VR ρ a u → VR ρ' a u
  | .undef, _, h, _ => by simp [bare] at h
  | .bool _, _, _, e => e
  | .int _ _, _, _, e => e
  | .str _, _, _, e => e
  | .ptr none, _, _, e => e
  | .ptr (some _), _, h, _ => by simp [bare] at h
  | .slice none _ _ _, _, _, e => e
  | .slice (some _) _ _ _, _, h, _ => by simp [bare] at h
  | .map none, _, _, e => e
  | .map (some _), _, h, _ => by simp [bare] at h
  | .func _ _ _, _, h, _ => by simp [bare] at h
  | .nilFunc, _, _, e => e
  | .iface _ _, _, h, _ => by simp [bare] at h
  | .nilIface, _, _, e => e
  | .agg cs, _, h, ⟨a, e, r, s⟩ => ⟨a, e, bares_rel cs _ (by simpa [bare] using h) r, s⟩
  | .tuple cs, _, h, ⟨a, e, r⟩ => ⟨a, e, bares_rel cs _ (by simpa [bare] using h) r⟩
theorem bares_rel {ρ ρ' : Rho} : ∀ (as : List AV) (us : List Value), bares as = true → VRs ρ as us → VRs ρ' as us
  | [], _, _, e => e
  | a :: as, _, h, ⟨u, us, e, r, s⟩ => by
    simp only [bares, Bool.and_eq_true] at h
    exact ⟨u, us, e, bare_rel a u h.1 r, bares_rel as us h.2 s⟩
end
theorem closed_ok {T : Tb} {P : Program} (hT : TbOk T P) {ext : Nat → Option (VH → List AV → Option XR)} (hX : ExtOk T P ext) {promo : Nat → Nat → Bool} (hD : DrawsOk T)
    {gs : List Lit} {N : Nat} (hgl : ∀ g, T.gl g = true → ∃ p, litAt gs g = some p) (hN : ∀ p ∈ gs, p.1 < N) (hfl : ∀ p ∈ gs, flats p.2 = true)
    {f n : Nat} {vals : List AV} {v : AV} {H' : VH} (h : vcall T ext promo n f vals (lit gs N) = some (v, H')) (hf : flats vals = true) (hv : bare v = true)
    {H : VH} (hR : Reads gs H) {ρ : Rho} {G : Nat → Prop} {w : World} {args : Array Value} (hH : RelH ρ G H w) (hg : Globs T ρ) (ha : VRs ρ vals args.toList) :
    Answers P f args w fun u w' => XOk ρ w (.val v) u w' := by
  let ρ0 : Rho := ⟨fun b => if T.gl b = true then ρ b else none, fun k => ρ.q k ∨ ∃ b pl, ρ b = some pl ∧ pl.rb = k, ρ.fz⟩
  have h0 : ∀ {b pl}, ρ0 b = some pl → T.gl b = true ∧ ∃ pl', ρ b = some pl' ∧ pl = pl' := by
    intro b pl hb
    change (if T.gl b = true then ρ b else none) = some pl at hb
    split at hb
    · rename_i hc
      exact ⟨hc, pl, hb, rfl⟩
    · cases hb
  have hrel : RelH ρ0 (fun _ => False) (lit gs N) w := by
    refine ⟨fun b pl hb => ?_, fun _ h => h.elim, fun b pl r hb hr => ?_, fun b b' pl pl' r _ _ _ hr hl _ => ?_, fun b r hr => ?_, fun l g hl => ?_, fun b x hx => ?_, fun b pl r e hb hr he => ?_, MapsR.none fun b es c v he => ?_, fun k hk => ?_, fun k c e => ?_⟩
    · obtain ⟨g1, _, g2, rfl⟩ := h0 hb
      obtain ⟨p, hp⟩ := hgl b g1
      exact ⟨fun h => h, (hH.has b pl g2).2.1, _, by show (litT gs).get b = _; rw [litT_get, hp]; rfl⟩
    · obtain ⟨g1, _, g2, rfl⟩ := h0 hb
      obtain ⟨p, hp, hne, rfl⟩ := lit_row hr
      obtain ⟨hm, rfl⟩ := litAt_mem hp
      obtain ⟨s, hs⟩ := hg p.1 g1
      rw [hs] at g2
      obtain rfl := Option.some.inj g2
      have hc0 : ∀ i x, p.2[i]? = some x → ∃ r, H.row? p.1 = some r ∧ H.readable r = true ∧ i < r.n ∧ r.t.get i = some x := by
        intro i x hx
        have hm := hR p hm i x hx
        change H.cellN p.1 i = some x at hm
        unfold VH.cellN at hm
        split at hm
        · rename_i r hr2
          split at hm
          · rename_i hrd
            split at hm
            · rename_i hlt
              rw [blt_eq] at hlt
              exact ⟨r, hr2, hrd, of_decide_eq_true hlt, hm⟩
            · cases hm
          · cases hm
        · cases hm
      obtain ⟨x0, hx0⟩ : ∃ x, p.2[0]? = some x := by
        cases hp2 : p.2 with
        | nil => exact absurd hp2 hne
        | cons a l => exact ⟨a, rfl⟩
      obtain ⟨r, hr1, hrd, _, _⟩ := hc0 0 x0 hx0
      obtain ⟨c, et, fz, q1, q2, q3, q4, q5⟩ := hH.row p.1 _ r hs hr1
      have hle : p.2.length ≤ r.n := by
        cases hl : p.2.length with
        | zero => omega
        | succ k =>
          obtain ⟨y, hy⟩ : ∃ y, p.2[k]? = some y := ⟨_, List.getElem?_eq_getElem (by omega)⟩
          obtain ⟨r', hr', _, h3, _⟩ := hc0 k y hy
          rw [hr1] at hr'
          obtain rfl := Option.some.inj hr'
          omega
      refine ⟨c, et, fz, q1, q2, ?_, (fun h => by cases h), fun _ i a hi hga => ?_⟩
      · show (0 : Nat) + p.2.length ≤ s
        simp only at q3
        omega
      · change (Tr.ofList p.2).get i = some a at hga
        rw [Tr.get_ofList] at hga
        obtain ⟨r', hr', hrd', h3, h4⟩ := hc0 i a hga
        rw [hr1] at hr'
        obtain rfl := Option.some.inj hr'
        obtain ⟨u, q6, q7⟩ := q5 hrd i a h3 h4
        have hfa : flat a = true := by
          have : ∀ l : List AV, flats l = true → ∀ y ∈ l, flat y = true := by
            intro l
            induction l with
            | nil => intro _ y hy; cases hy
            | cons z l ih =>
              intro hl y hy
              simp only [flats, Bool.and_eq_true] at hl
              rcases List.mem_cons.1 hy with rfl | hy
              · exact hl.1
              · exact ih hl.2 y hy
          exact this _ (hfl p hm) a (List.mem_of_getElem? hga)
        exact ⟨u, q6, flat_rel (ρ := ρ) (ρ' := ρ0) (fun _ _ e => e) a u hfa q7.1, q7.2⟩
    · obtain ⟨p, _, _, rfl⟩ := lit_row hr
      cases hl
    · obtain ⟨p, hp, _, rfl⟩ := lit_row hr
      exact hN p (litAt_mem hp).1
    · rw [show (lit gs N).wg.get l = none from Tr.get_leaf l] at hl
      cases hl
    · change (litT gs).get b = some x at hx
      rw [litT_get] at hx
      cases hp : litAt gs b with
      | none => rw [hp] at hx; cases hx
      | some p =>
        obtain ⟨h1, h2⟩ := litAt_mem hp
        rw [← h2]
        exact hN p h1
    · obtain ⟨p, _, _, rfl⟩ := lit_row hr
      cases he
    · change (litT gs).get b = _ at he
      rw [litT_get] at he
      cases hp : litAt gs b with
      | none => rw [hp] at he; cases he
      | some p =>
        rw [hp] at he
        simp only [Option.map_some, Option.some.injEq, litBlk] at he
        split at he <;> cases he
    · rcases hk with hk | ⟨b, pl, hb, rfl⟩
      · exact hH.qlt k hk
      · exact (hH.has b pl hb).2.1
    · obtain ⟨g1, _, g2⟩ := hH.fz k c e
      exact ⟨.inl g1, fun h => h, g2⟩
  have hg0 : Globs T ρ0 := fun g hg1 => by
    obtain ⟨s, hs⟩ := hg g hg1
    exact ⟨s, by show (if T.gl g = true then ρ g else none) = _; rw [if_pos hg1, hs]⟩
  refine Answers.mono (calls_ok (promo := promo) hT hX hD n f vals _ v H' h ρ0 (fun _ => False) w args hrel (flats_rel (ρ := ρ) (ρ' := ρ0) (fun _ _ e => e) vals _ hf ha) hg0) fun u w' ⟨ρ', hp, _, hvr, _⟩ => ?_
  have hsame : ∀ k, k < w.heap.size → w'.heap[k]? = w.heap[k]? := fun k hk => hp.frame k hk (fun b pl hb ek => by
    obtain ⟨_, _, h1, rfl⟩ := h0 hb
    exact .inr ⟨b, pl, h1, ek⟩) (fun h => h)
  exact ⟨⟨.refl ρ, hp.os, hp.tape, hp.output, hp.size, fun k hk _ _ => hsame k hk, fun b pl h => .inr ⟨b, pl, h, rfl⟩, fun _ e => .inl e⟩, fun b pl _ hlt => hsame _ hlt, bare_rel v u hv hvr⟩

/-! Values without a place: when two are the same. -/
mutual
noncomputable def feq : AV → AV → Bool
  | .bool a, .bool b => a == b
  | .int k a, .int k' b => decide (k = k') && ieq a b
  | .str a, .str b => a.eq b
  | .agg a, .agg b => feqs a b
  | .slice none n c e, .slice none n' c' e' => decide (n = n') && decide (c = c') && decide (e = e')
  | .slice (some (b, o)) n c e, .slice (some (b', o')) n' c' e' => feqB b b' && decide (o = o') && decide (n = n') && decide (c = c') && decide (e = e')
  | .map none, .map none => true
  | _, _ => false
noncomputable def feqs : List AV → List AV → Bool
  | [], [] => true
  | a :: as, b :: bs => feq a b && feqs as bs
  | _, _ => false
noncomputable def feqB : Bk → Bk → Bool
  | .pur a, .pur b => feqs a b
  | _, _ => false
end
mutual
theorem feq_eq : ∀ (a b : AV), feq a b = true → a = b ∧ flat a = true
  | .bool a, y, h => by
    cases y with
    | bool b => simp only [feq, beq_iff_eq] at h; subst h; exact ⟨rfl, rfl⟩
    | _ => simp [feq] at h
  | .int k a, y, h => by
    cases y with
    | int k' b => simp only [feq, Bool.and_eq_true, decide_eq_true_eq, ieq_eq, beq_iff_eq] at h; obtain ⟨rfl, rfl⟩ := h; exact ⟨rfl, rfl⟩
    | _ => simp [feq] at h
  | .str a, y, h => by
    cases y with
    | str b =>
      simp only [feq, PS.eq, Bool.and_eq_true, beq_iff_eq] at h
      obtain ⟨h1, h2⟩ := h
      cases a; cases b
      simp only at h1 h2
      subst h1 h2
      exact ⟨rfl, rfl⟩
    | _ => simp [feq] at h
  | .agg a, y, h => by
    cases y with
    | agg b => simp only [feq] at h; obtain ⟨h1, h2⟩ := feqs_eq a b h; exact ⟨by rw [h1], by simpa [flat] using h2⟩
    | _ => simp [feq] at h
  | .ptr _, _, h => by simp [feq] at h
  | .slice none n c e, y, h => by
    cases y with
    | slice x n' c' e' =>
      cases x with
      | none =>
        simp only [feq, Bool.and_eq_true, decide_eq_true_eq] at h
        obtain ⟨⟨rfl, rfl⟩, rfl⟩ := h
        exact ⟨rfl, rfl⟩
      | some x => simp [feq] at h
    | _ => simp [feq] at h
  | .slice (some (b, o)) n c e, y, h => by
    cases y with
    | slice x n' c' e' =>
      cases x with
      | none => simp [feq] at h
      | some x =>
        obtain ⟨b', o'⟩ := x
        simp only [feq, Bool.and_eq_true, decide_eq_true_eq] at h
        obtain ⟨⟨⟨⟨h1, rfl⟩, rfl⟩, rfl⟩, rfl⟩ := h
        obtain ⟨rfl, h2⟩ := feqB_eq b b' h1
        exact ⟨rfl, by simpa [flat] using h2⟩
    | _ => simp [feq] at h
  | .map none, y, h => by
    cases y with
    | map x =>
      cases x with
      | none => exact ⟨rfl, rfl⟩
      | some x => simp [feq] at h
    | _ => simp [feq] at h
  | .map (some _), _, h => by simp [feq] at h
  | .func _ _ _, _, h => by simp [feq] at h
  | .nilFunc, _, h => by simp [feq] at h
  | .iface _ _, _, h => by simp [feq] at h
  | .nilIface, _, h => by simp [feq] at h
  | .tuple _, _, h => by simp [feq] at h
  | .undef, _, h => by simp [feq] at h
theorem feqs_eq : ∀ (a b : List AV), feqs a b = true → a = b ∧ flats a = true
  | [], [], _ => ⟨rfl, rfl⟩
  | [], _ :: _, h => by simp [feqs] at h
  | _ :: _, [], h => by simp [feqs] at h
  | x :: a, y :: b, h => by
    simp only [feqs, Bool.and_eq_true] at h
    obtain ⟨h1, h2⟩ := feq_eq x y h.1
    obtain ⟨h3, h4⟩ := feqs_eq a b h.2
    exact ⟨by rw [h1, h3], by simp only [flats, Bool.and_eq_true]; exact ⟨h2, h4⟩⟩
theorem feqB_eq : ∀ (a b : Bk), feqB a b = true → a = b ∧ flatB a = true
  | .pur a, .pur b, h => by
    simp only [feqB] at h
    obtain ⟨h1, h2⟩ := feqs_eq a b h
    exact ⟨by rw [h1], by simpa [flatB] using h2⟩
  | .pur _, .blk _, h => by simp [feqB] at h
  | .blk _, _, h => by simp [feqB] at h
end
theorem litAt_none : ∀ (gls : List Nat) (b : Nat), b ∈ gls → ∃ p, litAt (gls.map fun x => (x, [])) b = some p
  | [], _, h => by cases h
  | x :: l, b, h => by
    simp only [List.map_cons, litAt]
    by_cases e : b = x
    · exact ⟨_, by rw [if_pos e]⟩
    · rw [if_neg e]
      rcases List.mem_cons.1 h with h | h
      · exact absurd h e
      · exact litAt_none l b h
theorem res_some {x : Option (AV × VH)} {v : AV} (h : x.map Prod.fst = some v) : ∃ H', x = some (v, H') := by
  cases x with
  | none => cases h
  | some p => exact ⟨p.2, by rw [← Option.some.inj h]⟩
/-- A function that is known at some arguments. -/
noncomputable def xTab : List (List AV × AV) → List AV → Option XR
  | [], _ => none
  | p :: ps, a => match feqs p.1 a with | true => some (.val p.2) | false => xTab ps a
theorem xTab_mem : ∀ {l : List (List AV × AV)} {a : List AV} {x : XR}, xTab l a = some x → ∃ p ∈ l, p.1 = a ∧ x = .val p.2 ∧ flats a = true
  | [], _, _, h => by cases h
  | p :: ps, a, x, h => by
    unfold xTab at h
    split at h
    · rename_i hc
      obtain ⟨h1, h2⟩ := feqs_eq _ _ hc
      exact ⟨p, List.mem_cons_self .., h1, (Option.some.inj h).symm, by rw [← h1]; exact h2⟩
    · obtain ⟨q, h1, h2⟩ := xTab_mem h
      exact ⟨q, List.mem_cons_of_mem _ h1, h2⟩
theorem xTab_ok {T : Tb} {P : Program} (hT : TbOk T P) {ext : Nat → Option (VH → List AV → Option XR)} (hX : ExtOk T P ext) {promo : Nat → Nat → Bool} (hD : DrawsOk T)
    {gs : List Lit} {N : Nat} (hgl : ∀ g, T.gl g = true → ∃ p, litAt gs g = some p) (hN : ∀ p ∈ gs, p.1 < N) (hfl : ∀ p ∈ gs, flats p.2 = true) (hno : ∀ p ∈ gs, p.2 = [])
    {f n : Nat} {tab : List (List AV × AV)} (h : ∀ p ∈ tab, bare p.2 = true ∧ (vcall T ext promo n f p.1 (lit gs N)).map Prod.fst = some p.2) : ExtOne T P f (fun _ => xTab tab) := by
  intro H vals v hv ρ G w args hH hg ha
  obtain ⟨p, hp, rfl, rfl, hfa⟩ := xTab_mem hv
  obtain ⟨h1, h2⟩ := h p hp
  obtain ⟨H', h2⟩ := res_some h2
  exact closed_ok hT hX hD hgl hN hfl h2 hfa h1 (H := H) (fun q hq i x hx => by rw [hno q hq] at hx; cases hx) hH hg ha

/-! Functions with a body whose contract is known. -/
theorem answers_calls {P : Program} {f : FuncId} {fn : Func} {args : Array Value} {w : World} {u : Value} (hf : P.funcs[f]? = some fn) (hname : (fn.name == "runtime.NumGoroutine") = false) (hb : fn.body.isNone = false)
    (C : Calls P f args w fun e w' => e = .returned u ∧ w' = w) : Answers P f args w fun x w' => x = u ∧ w' = w := by
  have hrun : (callFunc f args).run P w = .ok (.enter f args) w := by
    simp only [callFunc, Sem.run_bind, run_program, Result.andThen, hf, hname, hb, Bool.false_eq_true, if_false, Sem.run_pure]
  unfold Answers
  rw [hrun]
  exact Calls.mono C fun e w2 he => by
    obtain ⟨rfl, rfl⟩ := he
    exact ⟨rfl, rfl⟩
/-- strings.Index (g: the variable MaxLen). -/
noncomputable def xIndexS (g : Nat) (H : VH) : List AV → Option XR
  | [.str s, .str p] =>
    match H.cell g 0 with
    | some (.int .i64 _) =>
      match Nat.blt s.len 4294967281 with
      | true => some (.val (.int .i64 (Lib.index (s.bytes.map UInt8.ofNat) (p.bytes.map UInt8.ofNat))))
      | false => none
    | _ => none
  | _ => none
theorem xIndexS_ok {T : Tb} {P : Program} {f : FuncId} {fn : Func} {g : Nat} (hT : T.gl g = true) (hf : P.funcs[f]? = some fn) (hname : (fn.name == "runtime.NumGoroutine") = false) (hb : fn.body.isNone = false)
    (C : ∀ (s sub : ByteArray) (m : Int) (w : World), s.size < 4294967281 → w.cell? ⟨g, 0, none⟩ = some (.int .i64 m) → Calls P f #[.string s, .string sub] w fun e w' => e = .returned (.int .i64 (Lib.index s.data.toList sub.data.toList)) ∧ w' = w) : ExtOne T P f (xIndexS g) := by
  intro H vals v hv ρ G w args hH hg ha
  unfold xIndexS at hv
  split at hv
  · rename_i s p
    split at hv
    · rename_i m hm
      split at hv
      · rename_i hc
        rw [blt_eq] at hc
        have hc := of_decide_eq_true hc
        obtain ⟨u, us, e1, ⟨a, rfl, hs⟩, u2, us2, rfl, ⟨b, rfl, hp⟩, h3⟩ := ha
        obtain rfl : us2 = [] := h3
        obtain rfl : args = #[.string a, .string b] := Array.toList_inj.1 e1
        subst hs hp
        obtain ⟨sz, hr⟩ := hg g hT
        have hcell : w.cell? ⟨g, 0, none⟩ = some (.int .i64 m) := by
          obtain ⟨u, hu, hv, _⟩ := cell_read hH (b := .blk g) (show At ρ (.blk g) _ from hr) hm
          obtain rfl : u = _ := hv
          simpa using hu
        have has : a.size = a.data.toList.length := Lib.size_eq a
        obtain rfl := Option.some.inj hv
        refine Answers.mono (answers_calls hf hname hb (C a b m w (by rw [has]; exact hc) hcell)) fun x w' ⟨h1, h2⟩ => ?_
        subst h1 h2
        refine ⟨.refl _ _ _, fun _ _ _ _ => rfl, ?_⟩
        show _ = _
        rw [bytes_back, bytes_back]
      · cases hv
    · cases hv
  · cases hv

/-- A function that is known at some arguments, where the variable g holds a number. -/
noncomputable def xTabM (g : Nat) (tab : List (List AV × AV)) (H : VH) (a : List AV) : Option XR :=
  match H.cell g 0 with
  | some (.int .i64 _) => xTab tab a
  | _ => none
def gsM (gls : List Nat) (g : Nat) (m : Int) : List Lit := gls.map fun x => if x = g then (x, [.int .i64 m]) else (x, [])
theorem litAt_gsM (g : Nat) (m : Int) : ∀ (gls : List Nat) (b : Nat), b ∈ gls → ∃ p, litAt (gsM gls g m) b = some p
  | [], _, h => by cases h
  | x :: l, b, h => by
    unfold gsM
    simp only [List.map_cons, litAt]
    by_cases e : b = x
    · subst e
      by_cases e2 : b = g
      · exact ⟨_, by rw [if_pos e2, if_pos rfl]⟩
      · exact ⟨_, by rw [if_neg e2, if_pos rfl]⟩
    · have hne : ¬ b = (if x = g then ((x, [AV.int .i64 m]) : Lit) else (x, [])).1 := by split <;> exact e
      rw [if_neg hne]
      rcases List.mem_cons.1 h with h | h
      · exact absurd h e
      · exact litAt_gsM g m l b h
theorem xTabM_ok {T : Tb} {P : Program} (hT : TbOk T P) {ext : Nat → Option (VH → List AV → Option XR)} (hX : ExtOk T P ext) {promo : Nat → Nat → Bool} (hD : DrawsOk T)
    {gls : List Nat} {g N : Nat} (hgl : ∀ x, T.gl x = true → x ∈ gls) (hN : ∀ x ∈ gls, x < N)
    {f n : Nat} {tab : List (List AV × AV)} (hv : ∀ p ∈ tab, bare p.2 = true) (h : ∀ m : Int, ∀ p ∈ tab, (vcall T ext promo n f p.1 (lit (gsM gls g m) N)).map Prod.fst = some p.2) : ExtOne T P f (xTabM g tab) := by
  intro H vals v hv2 ρ G w args hH hg ha
  unfold xTabM at hv2
  split at hv2
  · rename_i m hm
    obtain ⟨p, hp, rfl, rfl, hfa⟩ := xTab_mem hv2
    obtain ⟨H', h2⟩ := res_some (h m p hp)
    have hmem : ∀ p ∈ gsM gls g m, p.1 ∈ gls ∧ (p.2 = [] ∨ p = (g, [.int .i64 m])) := by
      intro p hp
      obtain ⟨x, hx, rfl⟩ := List.mem_map.1 hp
      by_cases e : x = g
      · simp only [if_pos e]
        exact ⟨hx, .inr (by rw [e])⟩
      · simp only [if_neg e]
        exact ⟨hx, .inl trivial⟩
    refine closed_ok hT hX hD (fun x hx => litAt_gsM g m gls x (hgl x hx)) (fun p hp => hN _ (hmem p hp).1) (fun p hp => ?_) h2 hfa (hv p hp) (H := H) (fun q hq i x hx => ?_) hH hg ha
    · rcases (hmem p hp).2 with e | e
      · rw [e]; rfl
      · rw [e]; rfl
    · rcases (hmem q hq).2 with e | e
      · rw [e] at hx; cases hx
      · subst e
        match i with
        | 0 =>
          obtain rfl := Option.some.inj hx
          exact hm
        | i + 1 => cases hx
  · cases hv2
end Go.Vm
