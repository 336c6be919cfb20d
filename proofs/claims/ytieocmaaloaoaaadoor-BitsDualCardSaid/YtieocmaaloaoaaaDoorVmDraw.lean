/- The regions that draw their order: whatever the order, they do what they do in the text's order. -/
import Derived.Test.YtieocmaaloaoaaaDoorVmTrace
namespace Go.Vm
set_option linter.unusedSimpArgs false
set_option linter.unusedVariables false
set_option linter.unusedSectionVars false

/-! ## What an operation waits for -/
theorem bits_fold (md : Region.Mode) (acc : Array Nat) : ∀ (es : List Edge) (s : Nat) (j : Nat), (es.foldl (fun s e => if Region.binds md e then s ||| 2 ^ e.on ||| acc.getD e.on 0 else s) s).testBit j = true →
    s.testBit j = true ∨ ∃ e ∈ es, Region.binds md e = true ∧ (e.on = j ∨ (acc.getD e.on 0).testBit j = true)
  | [], s, j, h => .inl h
  | e :: es, s, j, h => by
    simp only [List.foldl_cons] at h
    rcases bits_fold md acc es _ j h with h | ⟨e', h1, h2⟩
    · split at h
      · rename_i hb
        simp only [Nat.testBit_or, Bool.or_eq_true, Nat.testBit_two_pow, decide_eq_true_eq] at h
        rcases h with (h | h) | h
        · exact .inl h
        · exact .inr ⟨e, by simp, hb, .inl h⟩
        · exact .inr ⟨e, by simp, hb, .inr h⟩
      · exact .inl h
    · exact .inr ⟨e', by simp [h1], h2⟩

theorem foldl_push_spec {α β : Type} (g : Array β → α → β) : ∀ (l : List α) (acc : Array β), (∀ i, i < acc.size → (l.foldl (fun acc o => acc.push (g acc o)) acc)[i]? = acc[i]?) ∧
    ∀ k o, l[k]? = some o → ∃ pre : Array β, (l.foldl (fun acc o => acc.push (g acc o)) acc)[acc.size + k]? = some (g pre o) ∧ pre.size = acc.size + k ∧ ∀ i, i < pre.size → (l.foldl (fun acc o => acc.push (g acc o)) acc)[i]? = pre[i]?
  | [], acc => ⟨fun _ _ => rfl, fun k o h => by simp at h⟩
  | x :: l, acc => by
    obtain ⟨h1, h2⟩ := foldl_push_spec g l (acc.push (g acc x))
    simp only [List.foldl_cons]
    refine ⟨fun i hi => ?_, fun k o hk => ?_⟩
    · rw [h1 i (by simp; omega)]
      simp [Array.getElem?_push, Nat.ne_of_lt hi]
    · cases k with
      | zero =>
        simp only [List.getElem?_cons_zero, Option.some.injEq] at hk
        subst hk
        refine ⟨acc, ?_, by simp, fun i hi => ?_⟩
        · rw [Nat.add_zero, h1 acc.size (by simp)]; simp
        · rw [h1 i (by simp; omega)]
          simp [Array.getElem?_push, Nat.ne_of_lt hi]
      | succ k =>
        obtain ⟨pre, e1, e2, e3⟩ := h2 k o (by simpa using hk)
        simp only [Array.size_push] at e1 e2
        exact ⟨pre, by rw [← e1]; congr 1; omega, by omega, e3⟩

theorem before_spec {ops : Array Oper} {k : Nat} {o : Oper} (ho : ops[k]? = some o) {j : Nat} (h : ((Region.before ops).getD k 0).testBit j = true) :
    ∃ e ∈ o.after.toList, Region.binds .any e = true ∧ (e.on = j ∨ ((Region.before ops).getD e.on 0).testBit j = true) := by
  have hb : Region.before ops = ops.toList.foldl (fun acc o => acc.push (o.after.foldl (fun s e => if Region.binds .any e then s ||| 2 ^ e.on ||| acc.getD e.on 0 else s) 0)) #[] := by
    unfold Region.before
    rw [← Array.foldl_toList]
  obtain ⟨_, h2⟩ := foldl_push_spec (fun (acc : Array Nat) (o : Oper) => o.after.foldl (fun s e => if Region.binds .any e then s ||| 2 ^ e.on ||| acc.getD e.on 0 else s) 0) ops.toList #[]
  obtain ⟨pre, e1, e2, e3⟩ := h2 k o (by simpa using ho)
  rw [← hb] at e1 e3
  simp only [List.size_toArray, List.length_nil, Nat.zero_add] at e1 e2
  rw [Array.getD_eq_getD_getElem?, e1, Option.getD_some, ← Array.foldl_toList] at h
  rcases bits_fold .any pre o.after.toList 0 j h with h | ⟨e, h3, h4, h5⟩
  · simp at h
  · refine ⟨e, h3, h4, h5.imp id fun h5 => ?_⟩
    by_cases hlt : e.on < pre.size
    · rw [Array.getD_eq_getD_getElem?, e3 _ hlt, ← Array.getD_eq_getD_getElem?]
      exact h5
    · rw [Array.getD_eq_getD_getElem?, Array.getElem?_eq_none (by omega)] at h5
      simp at h5

/-- What is asked of a region's text. -/
structure RegOk (ops : Array Oper) : Prop where
  edges : ∀ k o, ops[k]? = some o → ∀ e ∈ o.after.toList, Region.binds .any e = true → e.on < k
  dsts : ∀ i j d, i < ops.size → j < ops.size → dstAt ops i = some d → dstAt ops j = some d → i = j
  looks : ∀ i j d o, i < ops.size → i ≠ j → dstAt ops i = some d → ops[j]? = some o → d ∈ o.looksAt ops → (i < j → ((Region.before ops).getD j 0).testBit i = true) ∧ (j < i → ((Region.before ops).getD i 0).testBit j = true)

theorem RelF.congr {ρ : Rho} {G : Nat → Prop} {n0 : Nat} {lam : Nat → Option Nat} {f g : Fr} {tmps : Array Value} {w : World} (h : RelF ρ G n0 lam f tmps w) (h1 : ∀ t, g.regs.get t = f.regs.get t) (h2 : ∀ d, g.loc.get d = f.loc.get d) (h3 : g.nt = f.nt) (h4 : g.gl = f.gl) : RelF ρ G n0 lam g tmps w := by
  refine ⟨by rw [h3]; exact h.size, fun t ht => ?_, fun t ht => by rw [h1]; exact h.over t (by rw [← h3]; exact ht), fun x hx => h.glob x (by rw [← h4]; exact hx), ⟨fun d c hd => h.loc.box d c (by rw [← h2]; exact hd), fun d d' c c' hd hd' => h.loc.inj d d' c c' (by rw [← h2]; exact hd) (by rw [← h2]; exact hd'), fun t d ep off ht => ?_⟩⟩
  · rw [h1]
    have := h.regs t (by rw [← h3]; exact ht)
    cases hq : (f.regs.get t).getD (.v .undef) with
    | v x => rw [hq] at this; exact this
    | loc d ep off => rw [hq] at this; exact fun c hc => this c (by rw [← h2]; exact hc)
  · obtain ⟨c, hc, hle⟩ := h.loc.stale t d ep off (by rw [← h1]; exact ht)
    exact ⟨c, by rw [h2]; exact hc, hle⟩

/-- Where the operations L are done. -/
structure Done (ops : Array Oper) (F : Nat → Fr) (Hh : Nat → VH) (tg : Nat → Tag) (rs : Nat → RV) (L : Nat → Prop) (f : Fr) (K : VH) : Prop where
  nt : f.nt = (F 0).nt ∧ f.gl = (F 0).gl
  wrote : ∀ i, i < ops.size → L i → ∀ t, dstAt ops i = some t → t < (F 0).nt → f.regs.get t = some (rs i)
  kept : ∀ t, (∀ i, i < ops.size → L i → dstAt ops i = some t → (F 0).nt ≤ t) → f.regs.get t = (F 0).regs.get t
  loc : ∀ d, ∃ m, m ≤ ops.size ∧ (∀ i, i < ops.size → (tg i).touches d → (L i ↔ i < m)) ∧ f.loc.get d = (F m).loc.get d
  heap : ∃ m, m ≤ ops.size ∧ (∀ i, i < ops.size → (tg i).isEff → (L i ↔ i < m)) ∧ K = Hh m
  closed : ∀ i, i < ops.size → L i → ∀ j, ((Region.before ops).getD i 0).testBit j = true → L j

section
variable {T : Tb} {callF : Nat → List AV → VH → Option (AV × VH)} {promo : Nat → Bool} {ops : Array Oper} {F : Nat → Fr} {Hh : Nat → VH} {tg : Nat → Tag} {rs : Nat → RV}
variable (hT : Trace T callF promo ops (Region.before ops) F Hh tg rs) (hR : RegOk ops) (hC : CallsHs callF) (h0 : WfH (Hh 0)) {L : Nat → Prop} {f : Fr} {K : VH} (hD : Done ops F Hh tg rs L f K)

include hT in
theorem Done.start : Done ops F Hh tg rs (fun _ => False) (F 0) (Hh 0) :=
  ⟨⟨rfl, rfl⟩, fun _ _ h => h.elim, fun _ _ => rfl, fun d => ⟨0, Nat.zero_le _, fun i _ _ => ⟨fun h => h.elim, fun h => by omega⟩, rfl⟩, ⟨0, Nat.zero_le _, fun i _ _ => ⟨fun h => h.elim, fun h => by omega⟩, rfl⟩, fun _ _ h => h.elim⟩

include hT hR hD in
theorem Done.finish (hL : ∀ i, i < ops.size → L i) : (∀ t, (F ops.size).regs.get t = f.regs.get t) ∧ (∀ d, (F ops.size).loc.get d = f.loc.get d) ∧ (F ops.size).nt = f.nt ∧ (F ops.size).gl = f.gl ∧ K = Hh ops.size := by
  have hnt := hT.nt ops.size (Nat.le_refl _)
  refine ⟨fun t => ?_, fun d => ?_, by rw [hnt.1, hD.nt.1], by rw [hnt.2, hD.nt.2], ?_⟩
  · by_cases h : ∃ i, i < ops.size ∧ dstAt ops i = some t ∧ t < (F 0).nt
    · obtain ⟨i, h1, h2, h3⟩ := h
      rw [hT.wrote hR.dsts ops.size (Nat.le_refl _) i h1 t h2 h3, hD.wrote i h1 (hL i h1) t h2 h3]
    · have h' : ∀ i, i < ops.size → dstAt ops i = some t → (F 0).nt ≤ t := fun i h1 h2 => Nat.le_of_not_lt fun h3 => h ⟨i, h1, h2, h3⟩
      rw [hT.kept ops.size (Nat.le_refl _) t h', hD.kept t fun i h1 _ h2 => h' i h1 h2]
  · obtain ⟨m, h1, h2, h3⟩ := hD.loc d
    rw [h3, hT.loc m ops.size h1 (Nat.le_refl _) fun i h4 h5 h6 => ?_]
    have := (h2 i h5 h6).1 (hL i h5)
    omega
  · obtain ⟨m, h1, h2, h3⟩ := hD.heap
    rw [h3, hT.heap m ops.size h1 (Nat.le_refl _) fun i h4 h5 h6 => ?_]
    have := (h2 i h5 h6).1 (hL i h5)
    omega

variable {i : Nat} {o : Oper} (hi : i < ops.size) (ho : ops[i]? = some o) (hn : ¬ L i) (hready : ∀ j, ((Region.before ops).getD i 0).testBit j = true → L j)

include hR hT hD hi ho hn hready in
theorem Done.regs : ∀ t ∈ o.looksAt ops, f.regs.get t = (F i).regs.get t := by
  intro t ht
  by_cases h : ∃ k, k < ops.size ∧ dstAt ops k = some t ∧ t < (F 0).nt
  · obtain ⟨k, h1, h2, h3⟩ := h
    have only : ∀ j, j < ops.size → dstAt ops j = some t → j = k := fun j hj e => hR.dsts j k t hj h1 e h2
    have none_ : ¬ L k → f.regs.get t = (F 0).regs.get t := fun hk => hD.kept t fun j hj hLj e => by
      obtain rfl := only j hj e
      exact (hk hLj).elim
    have none' : ¬ k < i → (F i).regs.get t = (F 0).regs.get t := fun hk => hT.kept i (Nat.le_of_lt hi) t fun j hj e => by
      obtain rfl := only j (by omega) e
      exact (hk hj).elim
    by_cases e : k = i
    · subst e
      rw [none_ hn, none' (by omega)]
    · obtain ⟨l1, l2⟩ := hR.looks k i t o h1 e h2 ho ht
      rcases Nat.lt_or_gt_of_ne e with hlt | hgt
      · rw [hD.wrote k h1 (hready k (l1 hlt)) t h2 h3, hT.wrote hR.dsts i (Nat.le_of_lt hi) k hlt t h2 h3]
      · rw [none_ fun hk => hn (hD.closed k h1 hk i (l2 hgt)), none' (by omega)]
  · have h' : ∀ k, k < ops.size → dstAt ops k = some t → (F 0).nt ≤ t := fun k h1 h2 => Nat.le_of_not_lt fun h3 => h ⟨k, h1, h2, h3⟩
    rw [hD.kept t fun k h1 _ h2 => h' k h1 h2, hT.kept i (Nat.le_of_lt hi) t fun k h1 h2 => h' k (by omega) h2]

include hT hready in
theorem Done.ahead {j : Nat} (hj : j < i) (hi : i < ops.size) (hf : (tg j).free (tg i) = false) : L j := by
  rcases hT.free j i hj hi with h | h
  · exact hready j h
  · rw [hf] at h; cases h
include hT hD hn in
theorem Done.behind {j : Nat} (hj : i < j) (hjs : j < ops.size) (hf : (tg i).free (tg j) = false) : ¬ L j := fun h => by
  rcases hT.free i j hj hjs with h1 | h1
  · exact hn (hD.closed j hjs h i h1)
  · rw [hf] at h1; cases h1

theorem eff_eff {s t : Tag} (h1 : s.isEff) (h2 : t.isEff) : s.free t = false := by
  cases s <;> cases t <;> first | rfl | exact h1.elim | exact h2.elim
theorem touch_touch {s t : Tag} {d : Nat} (h1 : s.touches d) (h2 : t.touches d) : s.free t = false := by
  cases s <;> cases t <;> first
    | exact h1.elim
    | exact h2.elim
    | (obtain rfl : _ = d := h1; obtain rfl : _ = _ := h2; simp [Tag.free])
theorem touch_read {s : Tag} {d : Nat} {bs ls : List Nat} (h1 : s.touches d) (h2 : d ∈ ls) : s.free (.read bs ls) = false ∧ (Tag.read bs ls).free s = false := by
  cases s <;> first
    | exact h1.elim
    | (obtain rfl : _ = d := h1; exact ⟨by simp [Tag.free, h2], by simp [Tag.free, h2]⟩)

include hT hD hi hn hready in
theorem Done.locAt {d : Nat} (h : (tg i).touches d ∨ ∃ bs ls, tg i = .read bs ls ∧ d ∈ ls) : f.loc.get d = (F i).loc.get d := by
  obtain ⟨m, h1, h2, h3⟩ := hD.loc d
  have hnf : ∀ s : Tag, s.touches d → s.free (tg i) = false ∧ (tg i).free s = false := fun s hs => by
    rcases h with h | ⟨bs, ls, e, hd⟩
    · exact ⟨touch_touch hs h, touch_touch h hs⟩
    · rw [e]; exact touch_read hs hd
  rw [h3]
  rcases Nat.le_total m i with hm | hm
  · refine (hT.loc m i hm (Nat.le_of_lt hi) fun j h4 h5 h6 => ?_).symm
    have := (h2 j (by omega) h6).1 (Done.ahead hT hready h5 hi (hnf _ h6).1)
    omega
  · refine hT.loc i m hm h1 fun j h4 h5 h6 => ?_
    have hL := (h2 j (by omega) h6).2 h5
    by_cases e : j = i
    · rw [e] at hL; exact hn hL
    · exact Done.behind hT hD hn (by omega) (by omega) (hnf _ h6).2 hL
include hT hD hi hn hready in
theorem Done.heapAt (h : (tg i).isEff) : K = Hh i := by
  obtain ⟨m, h1, h2, h3⟩ := hD.heap
  rw [h3]
  rcases Nat.le_total m i with hm | hm
  · refine (hT.heap m i hm (Nat.le_of_lt hi) fun j h4 h5 h6 => ?_).symm
    have := (h2 j (by omega) h6).1 (Done.ahead hT hready h5 hi (eff_eff h6 h))
    omega
  · refine hT.heap i m hm h1 fun j h4 h5 h6 => ?_
    have hL := (h2 j (by omega) h6).2 h5
    by_cases e : j = i
    · rw [e] at hL; exact hn hL
    · exact Done.behind hT hD hn (by omega) (by omega) (eff_eff h h6) hL
include hT hD hi hn hready hC h0 in
theorem Done.sameAt {bs ls : List Nat} (h : tg i = .read bs ls) {b : Nat} (hb : b ∈ bs) : SameB (Hh i) K b := by
  obtain ⟨m, h1, h2, h3⟩ := hD.heap
  rw [h3]
  rcases Nat.le_total m i with hm | hm
  · refine (hT.same m i hm (Nat.le_of_lt hi) fun j h4 h5 h6 => ?_).symm
    have hnL : ¬ L j := fun hL => by have := (h2 j (by omega) h6).1 hL; omega
    rcases hT.free j i h5 hi with h7 | h7
    · exact (hnL (hready j h7)).elim
    · rw [h] at h7
      exact hT.free_same hC h0 (by omega) h6 (.inl h7) hb
  · refine hT.same i m hm h1 fun j h4 h5 h6 => ?_
    have hL := (h2 j (by omega) h6).2 h5
    by_cases e : j = i
    · rw [e] at hL; exact (hn hL).elim
    · rcases hT.free i j (by omega) (by omega) with h7 | h7
      · exact (hn (hD.closed j (by omega) hL i h7)).elim
      · rw [h] at h7
        exact hT.free_same hC h0 (by omega) h6 (.inr h7) hb

include hT hR hC h0 hD hi ho hn hready in
theorem Done.agree : Agree o (tg i) (F i) f (Hh i) K := by
  have hregs := Done.regs hT hR hD hi ho hn hready
  have hnt := hT.nt i (Nat.le_of_lt hi)
  refine ⟨fun x hx => ?_, Done.heapAt hT hD hi hn hready, fun bs ls e => ⟨fun b hb => Done.sameAt hT hC h0 hD hi hn hready e hb, fun d hd => Done.locAt hT hD hi hn hready (.inr ⟨bs, ls, e, hd⟩)⟩, fun d hd => Done.locAt hT hD hi hn hready (.inl hd)⟩
  cases x with
  | tmp t =>
    have : t ∈ o.looksAt ops := List.mem_append_left _ (List.mem_filterMap.2 ⟨.tmp t, by simpa using hx, rfl⟩)
    simp only [Fr.ev, hregs t this]
  | const v => rfl
  | global g => simp only [Fr.ev, hD.nt.2, hnt.2]
  | func g => rfl

/-- One more operation is done. -/
theorem Done.step (hT : Trace T callF promo ops (Region.before ops) F Hh tg rs) (hR : RegOk ops) (hD : Done ops F Hh tg rs L f K) (hi : i < ops.size) (hn : ¬ L i) (hready : ∀ j, ((Region.before ops).getD i 0).testBit j = true → L j)
    {fr0 f' : Fr} {K' : VH} (hm : Moved (tg i) (F i) fr0 f f' (Hh i) (Hh (i + 1)) K K') (hF : F (i + 1) = fr0.put (dstAt ops i) (rs i)) : Done ops F Hh tg rs (fun j => L j ∨ j = i) (f'.put (dstAt ops i) (rs i)) K' := by
  obtain ⟨p1, p2, p3⟩ := put_loc f' (dstAt ops i) (rs i)
  have hnt : f'.nt = (F 0).nt := by rw [hm.regs'.2.1]; exact hD.nt.1
  refine ⟨⟨by rw [p2]; exact hnt, by rw [p3, hm.regs'.2.2]; exact hD.nt.2⟩, fun j hj hL t ht hlt => ?_, fun t ht => ?_, fun d => ?_, ?_, fun j hj hL k hk => ?_⟩
  · rw [put_get]
    by_cases e : j = i
    · subst e
      rw [if_pos ⟨ht, by rw [hnt]; exact hlt⟩]
    · rw [if_neg fun h => e (hR.dsts j i t hj hi ht h.1), hm.regs'.1]
      exact hD.wrote j hj (hL.resolve_right e) t ht hlt
  · rw [put_get, if_neg, hm.regs'.1]
    · exact hD.kept t fun j hj hL e => ht j hj (.inl hL) e
    · rintro ⟨e, hlt⟩
      have := ht i hi (.inr rfl) e
      omega
  · rw [p1]
    by_cases htd : (tg i).touches d
    · refine ⟨i + 1, hi, fun j hj hjd => ?_, ?_⟩
      · constructor
        · rintro (hL | rfl)
          · rcases Nat.lt_or_ge i j with hlt | hge
            · exact (Done.behind hT hD hn hlt hj (touch_touch htd hjd) hL).elim
            · omega
          · omega
        · intro hlt
          by_cases e : j = i
          · exact .inr e
          · exact .inl (Done.ahead hT hready (by omega) hi (touch_touch hjd htd))
      · rw [hm.own d htd, hF, (put_loc _ _ _).1]
    · obtain ⟨m, h1, h2, h3⟩ := hD.loc d
      refine ⟨m, h1, fun j hj hjd => ?_, by rw [(hm.loc d htd).2]; exact h3⟩
      have : j ≠ i := fun e => htd (e ▸ hjd)
      rw [← h2 j hj hjd]
      exact ⟨fun h => h.resolve_right this, .inl⟩
  · by_cases hte : (tg i).isEff
    · refine ⟨i + 1, hi, fun j hj hjd => ?_, hm.eff hte⟩
      constructor
      · rintro (hL | rfl)
        · rcases Nat.lt_or_ge i j with hlt | hge
          · exact (Done.behind hT hD hn hlt hj (eff_eff hte hjd) hL).elim
          · omega
        · omega
      · intro hlt
        by_cases e : j = i
        · exact .inr e
        · exact .inl (Done.ahead hT hready (by omega) hi (eff_eff hjd hte))
    · obtain ⟨m, h1, h2, h3⟩ := hD.heap
      refine ⟨m, h1, fun j hj hjd => ?_, by rw [(hm.heap hte).2]; exact h3⟩
      have : j ≠ i := fun e => hte (e ▸ hjd)
      rw [← h2 j hj hjd]
      exact ⟨fun h => h.resolve_right this, .inl⟩
  · rcases hL with hL | rfl
    · exact .inl (hD.closed j hj hL k hk)
    · exact .inl (hready k hk)
end
end Go.Vm
