/- Copying, searching, making compact; the sort of messages. -/
import Derived.Test.YtieocmaaloaoaaaDoorS6
namespace Go.Vm.Tryd
set_option linter.unusedSectionVars false
set_option linter.unusedSimpArgs false
set_option linter.unusedVariables false
set_option maxRecDepth 10000
/-! Copying, making compact, the sort of messages. -/
section
open Go.Sort
theorem undNs : T.und 64 = some (.slice 66) := by kernel_rfl
theorem listyNs : listy T 64 = true := by kernel_rfl
theorem infoN : (T.info 66).map (fun i => (i.size, i.bytes)) = some (5, 56) := by kernel_rfl
theorem zeroFitsN : zeroFits T 66 5 = true := by kernel_rfl
theorem zeroN : (zeroOf T 66) = some (.agg (N.cells ⟨[], 0, 0, 0, []⟩)) := by kernel_rfl
theorem sizeN : sizeOfT T 66 = some 5 := by kernel_rfl
theorem vb_clear (T : Tb) (H : VH) (ts : List Nat) (x : AV) : vbuiltin T H .clear ts [x] = vclear T H ts x := rfl
/-- What an append of messages is. -/
theorem app_notes {H : VH} {v x : AV} {len n : Nat} {new : List AV} (hv : vlenOf v = some len) (hx : vlenOf x = some n) (hn : n ≠ 0) (hl : len + n < 1000000) (hs : vsource H 5 n x = some new) (ho : allOne new = true) :
    vbuiltin T H .append [64, 64] [v, x] = appendTo H 66 5 v n new := by
  rw [vb_append]
  have hi := infoN
  cases hq : T.info 66 with
  | none => rw [hq] at hi; cases hi
  | some i =>
    rw [hq] at hi
    have h1 : i.size = 5 := (Prod.mk.inj (Option.some.inj hi)).1
    have h2 : i.bytes = 56 := (Prod.mk.inj (Option.some.inj hi)).2
    have e1 : Nat.beq n 0 = false := by
      cases e : Nat.beq n 0 with
      | false => rfl
      | true => exact absurd (Nat.eq_of_beq_eq_true e) hn
    have e2 : (Nat.blt 0 i.size && Nat.ble ((len + n) * i.bytes) 140737488355328 && Nat.ble (len + n) 9223372036854775807 && zeroFits T 66 i.size) = true := by
      rw [h1, h2, zeroFitsN]
      simp
      omega
    unfold vappend
    rw [h1] at e2
    simp only [undNs, listyNs, hq, hv, hx, e1, Bool.false_eq_true, if_false, h1, e2, if_true, hs, ho]
theorem app_none {H : VH} {v x : AV} {len : Nat} (a : Option (Nat × Nat)) (k : Nat) (c : Option Nat) (e : Nat) (he : v = .slice a k c e) (hx : vlenOf x = some 0) :
    vbuiltin T H .append [64, 64] [v, x] = some (v, H) := by
  rw [vb_append]
  have hi := infoN
  cases hq : T.info 66 with
  | none => rw [hq] at hi; cases hi
  | some i =>
    unfold vappend
    subst he
    simp only [undNs, listyNs, hq, hx, show vlenOf (.slice a k c e) = some k from rfl]
    rfl
theorem allOne_flat : ∀ l : List N, allOne (flat l) = true
  | [] => rfl
  | x :: l => by
    rw [flat_cons]
    show (true && (true && (true && (true && (true && allOne (flat l)))))) = true
    rw [allOne_flat l]
    rfl
/-- A list of messages that a slice shows. -/
structure Src (H : VH) (a : Option (Nat × Nat)) (k : Nat) (l : List N) : Prop where
  len : k = l.length
  at_ : l = [] ∨ ∃ b, a = some (b, 0) ∧ b < H.next ∧ ∀ i, i < l.length * 5 → H.cell b i = (flat l)[i]?
  nil : l = [] → a = none
theorem Src.cells {H : VH} {b k : Nat} {l : List N} (h : Src H (some (b, 0)) k l) : H.cells b 0 (l.length * 5) = some (flat l) := by
  refine cells_eq (fun i hi => ?_) (flat_len l).symm
  rw [Nat.zero_add]
  rcases h.at_ with e | ⟨b', e, _, h1⟩
  · subst e; simp at hi
  · cases e; exact h1 i hi
theorem Src.keep {S : Nat → Prop} {H H' : VH} {a : Option (Nat × Nat)} {k : Nat} {l : List N} (h : Src H a k l) (hH : H.Ok) (q : Keep S H H') (hs : ∀ b, a = some (b, 0) → ¬ S b) : Src H' a k l := by
  refine ⟨h.len, ?_, h.nil⟩
  rcases h.at_ with e | ⟨b, e, h1, h2⟩
  · exact .inl e
  · exact .inr ⟨b, e, Nat.lt_of_lt_of_le h1 q.next, fun i hi => by rw [keep_cell q hH h1 (hs b e)]; exact h2 i hi⟩
theorem Src.rd {α : Type} {H : VH} {b k : Nat} {l : List N} (h : Src H (some (b, 0)) k l) (i : Nat) (hi : i < k) (K : List AV → Option α) :
    (if (0 : Int) ≤ (i : Int) ∧ (i : Int) < (k : Int) then bindL (H.cells b (0 + i * 5) 5) K else none) = K (l[i]!).cells := by
  have hk := h.len
  have hc : H.cells b (0 + i * 5) 5 = some (l[i]!).cells := by
    refine cells_eq (fun j hj => ?_) rfl
    rcases h.at_ with e | ⟨b', e, _, h1⟩
    · subst e; simp at hk; omega
    · cases e
      rw [Nat.zero_add, h1 _ (by omega), flat_get _ _ _ hj, List.getElem?_eq_getElem (by omega)]
      simp [show i < l.length by omega]
  rw [if_pos (by omega), hc]
  rfl
theorem clone_ok (n : Nat) (hn : 5 ≤ n) {H : VH} (hH : H.Ok) {b k : Nat} {l : List N} (hs : Src H (some (b, 0)) k l) (hl : l.length < 1000) (c : Option Nat) :
    ∃ (q : Nat) (H' : VH), vcall T ext promo n 107 [.slice (some (b, 0)) k c 5] H = some (.slice (some (q, 0)) k none 5, H') ∧ H.next ≤ q ∧ q < H'.next ∧ Arr H' q l.toArray ∧ Eff (fun _ => False) H H' := by
  obtain ⟨n, rfl⟩ : ∃ m, n = m + 1 := ⟨n - 1, by omega⟩
  have hne : l ≠ [] := fun e => by have := hs.nil e; cases this
  have hpos := List.length_pos_iff.2 hne
  have hk := hs.len
  have o1 := lo_ok hH
  have o2 := fresh_ok o1 []
  have hs2 : Src (H.lo.fresh []) (some (b, 0)) k l := (hs.keep hH (Keep.lo (fun _ => False) H) fun _ _ h => h).keep o1 (Keep.fresh (fun _ => False) H.lo []) fun _ _ h => h
  have happ : appendTo (H.lo.fresh []) 66 5 (.slice (some (H.next, 0)) 0 (some 0) 5) k (flat l) = some (.slice (some (H.next + 1, 0)) (0 + k) none 5, (H.lo.fresh []).freshT (flat l) 66) := by
    unfold appendTo
    have : Nat.ble (0 + k) 0 = false := by
      cases e : Nat.ble (0 + k) 0 with
      | false => rfl
      | true => exact absurd (Nat.le_of_ble_eq_true e) (by omega)
    simp only [this]
    rfl
  have hbuilt := app_notes (H := H.lo.fresh []) (v := .slice (some (H.next, 0)) 0 (some 0) 5) (x := .slice (some (b, 0)) k c 5) (len := 0) (n := k) (new := flat l) rfl rfl (by omega) (by omega) (by rw [hk]; exact hs2.cells) (allOne_flat l)
  rw [happ, Nat.zero_add] at hbuilt
  have hE : Eff (fun _ => False) H.lo ((H.lo.fresh []).freshT (flat l) 66) := (Eff.fresh _ o1 []).trans (Eff.freshT (fun _ => False) o2 _ _) fun x hx => hx.elim
  refine ⟨H.next + 1, _, ok107 _ _ _ _ _ _ (r := (_, leave H ((H.lo.fresh []).freshT (flat l) 66) (.slice (some (H.next + 1, 0)) k none 5))) ?_, by omega, ?_, ?_, hE.leave hH _⟩
  · unfold F107
    have hnil : vbinOp T .eql 64 (.slice (some (b, 0)) k c 5) (.slice none 0 (some 0) 0) = some (.bool false) := by kernel_rfl
    simp only [letH_mk, bindC_mk, bindV_mk, bindH_mk, bindJ_mk, asB_mk, asI_mk, asS_mk, asP_mk, asSl_mk, asA_mk, asTu_mk, asSome_mk, unc_mk, endL_mk, selC_eq, condT_eq, letN_mk, letB_mk, case_nn, case_nr, case_ne, case_rn, case_rr, case_re, case_en, case_er, case_ee, decide_eq_true_eq, Bool.not_true, Bool.not_false, Bool.false_eq_true, if_false, if_true, Bool.not_eq_true', decide_eq_false_iff_not, ilt_eq, ile_eq, reduceCtorEq, not_false_eq_true, not_true_eq_false, hnil, lo_next, hbuilt]
  · rw [leave_rest rfl]
    show H.next + 1 < H.next + 1 + 1
    omega
  · rw [leave_rest rfl]
    refine ⟨ok_low (freshT_ok o2 _ _) _, ?_⟩
    have := freshT_plain o2 (flat l) 66
    simp only [fresh_next, lo_next] at this
    exact plain_low this _
theorem noteVeq (x y : N) : veq T 60 66 (.agg [.str (PS.of x.f), .int .i64 x.ln, .int .i64 x.co, .int .i64 x.cd, .str (PS.of x.t)]) (.agg [.str (PS.of y.f), .int .i64 y.ln, .int .i64 y.co, .int .i64 y.cd, .str (PS.of y.t)]) = some (decide (x = y)) := by
  have key : ∀ (a e a' e' : PS) (b c d b' c' d' : Int), veq T 60 66 (.agg [.str a, .int .i64 b, .int .i64 c, .int .i64 d, .str e]) (.agg [.str a', .int .i64 b', .int .i64 c', .int .i64 d', .str e']) =
      (match (some (a.eq a') : Option Bool) with
        | some true => (match (if kindEq .i64 .i64 then some (ieq b b') else none : Option Bool) with
          | some true => (match (if kindEq .i64 .i64 then some (ieq c c') else none : Option Bool) with
            | some true => (match (if kindEq .i64 .i64 then some (ieq d d') else none : Option Bool) with
              | some true => (match (some (e.eq e') : Option Bool) with
                | some true => some true
                | r => r)
              | r => r)
            | r => r)
          | r => r)
        | r => r) := by
    intro a e a' e' b c d b' c' d'
    kernel_rfl
  rw [key]
  obtain ⟨f, ln, co, cd, t⟩ := x
  obtain ⟨f', ln', co', cd', t'⟩ := y
  simp only [str_eq, show kindEq .i64 .i64 = true from rfl, if_true, ieq_dec, N.mk.injEq]
  by_cases h1 : f = f' <;> by_cases h2 : ln = ln' <;> by_cases h3 : co = co' <;> by_cases h4 : cd = cd' <;> by_cases h5 : t = t' <;> simp [h1, h2, h3, h4, h5]
theorem noteEql (x y : N) : vbinOp T .eql 66 (.agg [.str (PS.of x.f), .int .i64 x.ln, .int .i64 x.co, .int .i64 x.cd, .str (PS.of x.t)]) (.agg [.str (PS.of y.f), .int .i64 y.ln, .int .i64 y.co, .int .i64 y.cd, .str (PS.of y.t)]) = some (.bool (decide (x = y))) := by
  show (veq T 60 _ _ _).map _ = _
  rw [noteVeq]
  rfl
theorem noteNeq (x y : N) : vbinOp T .neq 66 (.agg [.str (PS.of x.f), .int .i64 x.ln, .int .i64 x.co, .int .i64 x.cd, .str (PS.of x.t)]) (.agg [.str (PS.of y.f), .int .i64 y.ln, .int .i64 y.co, .int .i64 y.cd, .str (PS.of y.t)]) = some (.bool (!decide (x = y))) := by
  show (veq T 60 _ _ _).map _ = _
  rw [noteVeq]
  rfl
theorem index_loop (n : Nat) {H : VH} {a : Option (Nat × Nat)} {k : Nat} {l : List N} (hs : Src H a k l) (hl : l.length < 1000) (y : N) :
    ∀ m i, i ≤ k → k - i < m → (y ∈ l.drop i → ∃ j : Nat, loopN (L114_0 (vcall T ext promo n) n a k (PS.of y.f) y.ln y.co y.cd (PS.of y.t)) m [.int .i64 (i : Int)] H = some (.ret, [.int .i64 (j : Int)], H)) ∧ (¬ y ∈ l.drop i → loopN (L114_0 (vcall T ext promo n) n a k (PS.of y.f) y.ln y.co y.cd (PS.of y.t)) m [.int .i64 (i : Int)] H = some (.exit 0, [], H)) := by
  intro m
  induction m with
  | zero => intro i _ h; omega
  | succ m ih =>
    intro i hi hm
    rw [loopN_succ]
    generalize loopN (L114_0 (vcall T ext promo n) n a k (PS.of y.f) y.ln y.co y.cd (PS.of y.t)) m = lp at ih ⊢
    unfold L114_0
    have hk := hs.len
    by_cases h : i < k
    · have h' : (i : Int) < (k : Int) := by omega
      obtain ⟨b, rfl⟩ : ∃ b, a = some (b, 0) := by
        rcases hs.at_ with e | ⟨b, e, _⟩
        · subst e; simp at hk; omega
        · exact ⟨b, e⟩
      have hd : l.drop i = l[i]! :: l.drop (i + 1) := by
        rw [List.drop_eq_getElem_cons (by omega)]
        simp [show i < l.length by omega]
      have ih := ih (i + 1) (by omega) (by omega)
      simp only [letH_mk, bindC_mk, bindV_mk, bindH_mk, bindJ_mk, asB_mk, asI_mk, asS_mk, asP_mk, asSl_mk, asA_mk, asTu_mk, asSome_mk, unc_mk, endL_mk, selC_eq, condT_eq, letN_mk, letB_mk, case_nn, case_nr, case_ne, case_rn, case_rr, case_re, case_en, case_er, case_ee, decide_eq_true_eq, Bool.not_true, Bool.not_false, Bool.false_eq_true, if_false, if_true, Bool.not_eq_true', decide_eq_false_iff_not, ilt_eq, ile_eq, reduceCtorEq, not_false_eq_true, not_true_eq_false, Int.toNat_natCast, Bool.and_eq_true, hs.rd i h, N.cells, noteEql, fw_add1 i (by omega)]
      rw [hd, if_pos h']
      by_cases e : y = l[i]!
      · simp only [e, letH_mk, bindC_mk, bindV_mk, bindH_mk, bindJ_mk, asB_mk, asI_mk, asS_mk, asP_mk, asSl_mk, asA_mk, asTu_mk, asSome_mk, unc_mk, endL_mk, selC_eq, condT_eq, letN_mk, letB_mk, case_nn, case_nr, case_ne, case_rn, case_rr, case_re, case_en, case_er, case_ee, decide_eq_true_eq, Bool.not_true, Bool.not_false, Bool.false_eq_true, if_false, if_true, Bool.not_eq_true', decide_eq_false_iff_not, ilt_eq, ile_eq, reduceCtorEq, not_false_eq_true, not_true_eq_false, decide_true]
        exact ⟨fun _ => ⟨i, rfl⟩, fun h => absurd List.mem_cons_self h⟩
      · simp only [e, letH_mk, bindC_mk, bindV_mk, bindH_mk, bindJ_mk, asB_mk, asI_mk, asS_mk, asP_mk, asSl_mk, asA_mk, asTu_mk, asSome_mk, unc_mk, endL_mk, selC_eq, condT_eq, letN_mk, letB_mk, case_nn, case_nr, case_ne, case_rn, case_rr, case_re, case_en, case_er, case_ee, decide_eq_true_eq, Bool.not_true, Bool.not_false, Bool.false_eq_true, if_false, if_true, Bool.not_eq_true', decide_eq_false_iff_not, ilt_eq, ile_eq, reduceCtorEq, not_false_eq_true, not_true_eq_false, decide_false, List.mem_cons, false_or]
        exact ih
    · have h' : ¬ (i : Int) < (k : Int) := by omega
      simp only [letH_mk, bindC_mk, bindV_mk, bindH_mk, bindJ_mk, asB_mk, asI_mk, asS_mk, asP_mk, asSl_mk, asA_mk, asTu_mk, asSome_mk, unc_mk, endL_mk, selC_eq, condT_eq, letN_mk, letB_mk, case_nn, case_nr, case_ne, case_rn, case_rr, case_re, case_en, case_er, case_ee, decide_eq_true_eq, Bool.not_true, Bool.not_false, Bool.false_eq_true, if_false, if_true, Bool.not_eq_true', decide_eq_false_iff_not, ilt_eq, ile_eq, reduceCtorEq, not_false_eq_true, not_true_eq_false, h']
      rw [List.drop_eq_nil_of_le (by omega)]
      exact ⟨fun h => by (simp at h), fun _ => by trivial⟩
theorem contains_ok (n : Nat) (hn : 1100 ≤ n) {H : VH} {a : Option (Nat × Nat)} {k : Nat} {l : List N} (hs : Src H a k l) (hl : l.length < 1000) (c : Option Nat) (e : Nat) (y : N) :
    vcall T ext promo n 61 [.slice a k c e, .agg [.str (PS.of y.f), .int .i64 y.ln, .int .i64 y.co, .int .i64 y.cd, .str (PS.of y.t)]] H = some (.bool (decide (y ∈ l)), H) := by
  obtain ⟨n, rfl⟩ : ∃ m, n = m + 2 := ⟨n - 2, by omega⟩
  have hs2 : ∀ H : VH, Src H a k l → Src H.lo a k l := fun H h => ⟨h.len, h.at_, h.nil⟩
  have key : ∀ H : VH, Src H a k l → ∃ z : Int, vcall T ext promo (n + 1) 114 [.slice a k c e, .agg [.str (PS.of y.f), .int .i64 y.ln, .int .i64 y.co, .int .i64 y.cd, .str (PS.of y.t)]] H = some (.int .i64 z, H) ∧ (0 ≤ z ↔ y ∈ l) := by
    intro H hs
    have hk := hs.len
    obtain ⟨h1, h2⟩ := index_loop n (hs2 H hs) hl y n 0 (by omega) (by omega)
    rw [List.drop_zero] at h1 h2
    have e0 : (.int .i64 0 : AV) = .int .i64 ((0 : Nat) : Int) := rfl
    by_cases h : y ∈ l
    · obtain ⟨j, hj⟩ := h1 h
      refine ⟨(j : Int), ok114 _ _ _ _ _ _ _ _ _ _ _ (r := (.int .i64 (j : Int), H)) ?_, by simp [h]⟩
      unfold F114
      simp only [letH_mk, bindC_mk, bindV_mk, bindH_mk, bindJ_mk, asB_mk, asI_mk, asS_mk, asP_mk, asSl_mk, asA_mk, asTu_mk, asSome_mk, unc_mk, endL_mk, selC_eq, condT_eq, letN_mk, letB_mk, case_nn, case_nr, case_ne, case_rn, case_rr, case_re, case_en, case_er, case_ee, decide_eq_true_eq, Bool.not_true, Bool.not_false, Bool.false_eq_true, if_false, if_true, Bool.not_eq_true', decide_eq_false_iff_not, ilt_eq, ile_eq, reduceCtorEq, not_false_eq_true, not_true_eq_false, e0, hj]
      rw [leave_flat rfl rfl]
    · refine ⟨-1, ok114 _ _ _ _ _ _ _ _ _ _ _ (r := (.int .i64 (-1), H)) ?_, by simp [h]⟩
      unfold F114
      simp only [letH_mk, bindC_mk, bindV_mk, bindH_mk, bindJ_mk, asB_mk, asI_mk, asS_mk, asP_mk, asSl_mk, asA_mk, asTu_mk, asSome_mk, unc_mk, endL_mk, selC_eq, condT_eq, letN_mk, letB_mk, case_nn, case_nr, case_ne, case_rn, case_rr, case_re, case_en, case_er, case_ee, decide_eq_true_eq, Bool.not_true, Bool.not_false, Bool.false_eq_true, if_false, if_true, Bool.not_eq_true', decide_eq_false_iff_not, ilt_eq, ile_eq, reduceCtorEq, not_false_eq_true, not_true_eq_false, e0, h2 h]
      rw [leave_flat rfl rfl]
  obtain ⟨z, e1, e2⟩ := key H.lo (hs2 H hs)
  apply ok61
  unfold F61
  have e3 : decide (0 ≤ z) = decide (y ∈ l) := by simp only [e2]
  simp only [letH_mk, bindC_mk, bindV_mk, bindH_mk, bindJ_mk, asB_mk, asI_mk, asS_mk, asP_mk, asSl_mk, asA_mk, asTu_mk, asSome_mk, unc_mk, endL_mk, selC_eq, condT_eq, letN_mk, letB_mk, case_nn, case_nr, case_ne, case_rn, case_rr, case_re, case_en, case_er, case_ee, decide_eq_true_eq, Bool.not_true, Bool.not_false, Bool.false_eq_true, if_false, if_true, Bool.not_eq_true', decide_eq_false_iff_not, ilt_eq, ile_eq, reduceCtorEq, not_false_eq_true, not_true_eq_false, e1, e3]
  rw [leave_flat rfl rfl]
theorem equal_loop (n : Nat) {H : VH} {a a' : Option (Nat × Nat)} {k : Nat} {l : List N} (hs : Src H a k l) (hs' : Src H a' k l) (hl : l.length < 1000) :
    ∀ m i, i ≤ k → k - i < m → loopN (L62_0 (vcall T ext promo n) n a k a' k) m [.int .i64 (i : Int)] H = some (.exit 0, [], H) := by
  intro m
  induction m with
  | zero => intro i _ h; omega
  | succ m ih =>
    intro i hi hm
    rw [loopN_succ]
    generalize loopN (L62_0 (vcall T ext promo n) n a k a' k) m = lp at ih ⊢
    unfold L62_0
    have hk := hs.len
    by_cases h : i < k
    · have h' : (i : Int) < (k : Int) := by omega
      obtain ⟨b, rfl⟩ : ∃ b, a = some (b, 0) := by
        rcases hs.at_ with e | ⟨b, e, _⟩
        · subst e; simp at hk; omega
        · exact ⟨b, e⟩
      obtain ⟨b', rfl⟩ : ∃ b, a' = some (b, 0) := by
        rcases hs'.at_ with e | ⟨b, e, _⟩
        · subst e; simp at hk; omega
        · exact ⟨b, e⟩
      simp only [letH_mk, bindC_mk, bindV_mk, bindH_mk, bindJ_mk, asB_mk, asI_mk, asS_mk, asP_mk, asSl_mk, asA_mk, asTu_mk, asSome_mk, unc_mk, endL_mk, selC_eq, condT_eq, letN_mk, letB_mk, case_nn, case_nr, case_ne, case_rn, case_rr, case_re, case_en, case_er, case_ee, decide_eq_true_eq, Bool.not_true, Bool.not_false, Bool.false_eq_true, if_false, if_true, Bool.not_eq_true', decide_eq_false_iff_not, ilt_eq, ile_eq, reduceCtorEq, not_false_eq_true, not_true_eq_false, Int.toNat_natCast, Bool.and_eq_true, hs.rd i h, hs'.rd i h, N.cells, noteNeq, fw_add1 i (by omega), decide_true]
      rw [if_pos h']
      exact ih (i + 1) (by omega) (by omega)
    · have h' : ¬ (i : Int) < (k : Int) := by omega
      simp only [letH_mk, bindC_mk, bindV_mk, bindH_mk, bindJ_mk, asB_mk, asI_mk, asS_mk, asP_mk, asSl_mk, asA_mk, asTu_mk, asSome_mk, unc_mk, endL_mk, selC_eq, condT_eq, letN_mk, letB_mk, case_nn, case_nr, case_ne, case_rn, case_rr, case_re, case_en, case_er, case_ee, decide_eq_true_eq, Bool.not_true, Bool.not_false, Bool.false_eq_true, if_false, if_true, Bool.not_eq_true', decide_eq_false_iff_not, ilt_eq, ile_eq, reduceCtorEq, not_false_eq_true, not_true_eq_false, h']
theorem equalNotes_ok (n : Nat) (hn : 1100 ≤ n) {H : VH} {a a' : Option (Nat × Nat)} {k : Nat} {l : List N} (hs : Src H a k l) (hs' : Src H a' k l) (hl : l.length < 1000) (c c' : Option Nat) (e e' : Nat) :
    vcall T ext promo n 62 [.slice a k c e, .slice a' k c' e'] H = some (.bool true, H) := by
  obtain ⟨n, rfl⟩ : ∃ m, n = m + 1 := ⟨n - 1, by omega⟩
  have hs2 : ∀ (a : Option (Nat × Nat)) (H : VH), Src H a k l → Src H.lo a k l := fun a H h => ⟨h.len, h.at_, h.nil⟩
  have hk := hs.len
  have e0 : (.int .i64 0 : AV) = .int .i64 ((0 : Nat) : Int) := rfl
  apply ok62
  unfold F62
  simp only [letH_mk, bindC_mk, bindV_mk, bindH_mk, bindJ_mk, asB_mk, asI_mk, asS_mk, asP_mk, asSl_mk, asA_mk, asTu_mk, asSome_mk, unc_mk, endL_mk, selC_eq, condT_eq, letN_mk, letB_mk, case_nn, case_nr, case_ne, case_rn, case_rr, case_re, case_en, case_er, case_ee, decide_eq_true_eq, Bool.not_true, Bool.not_false, Bool.false_eq_true, if_false, if_true, Bool.not_eq_true', decide_eq_false_iff_not, ilt_eq, ile_eq, reduceCtorEq, not_false_eq_true, not_true_eq_false, ieq_dec, decide_true, e0, equal_loop n (hs2 a H hs) (hs2 a' H hs') hl n 0 (by omega) (by omega)]
  rw [leave_flat rfl rfl]
end
/-! Making a sorted array compact; the sort of messages. -/
section
open Go.Sort
theorem ble_t {a b : Nat} (h : a ≤ b) : Nat.ble a b = true := Nat.ble_eq_true_of_le h
theorem sl_lo (H : VH) (b L k z : Nat) (hz : z = 5) (hk : k ≤ L) : vslice T H 64 (.v (.slice (some (b, 0)) L none z)) (some (.int .i64 (k : Int))) none = some (.slice (some (b, 0 + k * 5)) (L - k) none 5) := by
  subst hz
  have hc : (ile 0 (k : Int) && ile (k : Int) (L : Int)) = true := by simp [ile_eq]; omega
  unfold vslice
  simp only [undNs, sizeN, vsliceRow, bound, Option.isSome_some, Bool.true_and, Option.getD_none, hc, if_true, Int.toNat_natCast, Option.map_some, Option.map_none]
  rfl
theorem sl_hi (H : VH) (b L k z : Nat) (hz : z = 5) (hk : k ≤ L) : vslice T H 64 (.v (.slice (some (b, 0)) L none z)) none (some (.int .i64 (k : Int))) = some (.slice (some (b, 0)) k none 5) := by
  subst hz
  have hc : (ile 0 (k : Int) && ile (k : Int) (L : Int)) = true := by simp [ile_eq]; omega
  unfold vslice
  simp only [undNs, sizeN, vsliceRow, bound, Option.isSome_some, Bool.true_and, Option.getD_none, hc, if_true, Int.toNat_natCast, Option.map_some, Option.map_none, Nat.sub_zero, Nat.zero_mul, Nat.add_zero]
  rfl
theorem sl_nil (H : VH) (e : Nat) : vslice T H 64 (.v (.slice none 0 (some 0) e)) none (some (.int .i64 0)) = some (.slice none 0 (some 0) 5) := by kernel_rfl
theorem Arr.put1 {H : VH} {b : Nat} {d : Array N} (h : Arr H b d) (i L : Nat) (hi : i < d.size) (hL : d.size = L) (y : N) :
    ∃ H', (∀ {α : Type} (K : VH → Option α), (if (0 : Int) ≤ (i : Int) ∧ (i : Int) < (L : Int) then bindH (H.puts b (0 + i * 5) y.cells) K else none) = K H') ∧ Arr H' b (d.setIfInBounds i y) ∧ Did b H H' := by
  obtain ⟨H1, e1, a1, k1⟩ := h.put i hi y
  refine ⟨H1, fun K => ?_, a1, k1⟩
  rw [if_pos (by omega), e1]
  rfl
theorem Arr.rdO {α : Type} {H : VH} {b : Nat} {d : Array N} (h : Arr H b d) (k j L : Nat) (hi : k + j < d.size) (hL : d.size = L) (K : List AV → Option α) :
    (if (0 : Int) ≤ (j : Int) ∧ (j : Int) < ((L - k : Nat) : Int) then bindL (H.cells b (0 + k * 5 + j * 5) 5) K else none) = K d[k + j]!.cells := by
  rw [if_pos (by omega), show 0 + k * 5 + j * 5 = 0 + (k + j) * 5 by omega, h.cells _ hi]
  rfl
theorem toList_get (d : Array N) (i : Nat) (h : i < d.size) : d.toList[i]? = some d[i]! := by
  rw [Array.getElem?_toList, Array.getElem?_eq_getElem h]
  simp [h]
theorem take_succ (d : Array N) (i : Nat) (h : i < d.size) : d.toList.take (i + 1) = d.toList.take i ++ [d[i]!] := by
  rw [List.take_add_one, toList_get d i h]
  rfl
theorem take_last (d : Array N) (i : Nat) (h : i < d.size) : (d.toList.take (i + 1)).getLast? = some d[i]! := by
  rw [take_succ d i h]
  simp
theorem comp_take (d : Array N) (i : Nat) (h1 : 1 ≤ i) (h : i < d.size) : compF (d.toList.take (i + 1)) = if d[i]! = d[i - 1]! then compF (d.toList.take i) else compF (d.toList.take i) ++ [d[i]!] := by
  rw [take_succ d i h, compF_app]
  unfold compS
  have e := take_last d (i - 1) (by omega)
  rw [Nat.sub_add_cancel h1] at e
  rw [compF_last, e]
  by_cases c : d[i]! = d[i - 1]!
  · rw [if_pos (by rw [c]), if_pos c]
  · rw [if_neg (fun h => c (Option.some.inj h).symm), if_neg c]
theorem replA_len (z : List AV) : ∀ n, (repl z n).length = n * z.length
  | 0 => by simp [repl]
  | n + 1 => by simp [repl, replA_len z n, Nat.succ_mul]; omega
theorem allOne_app : ∀ a b : List AV, allOne (a ++ b) = (allOne a && allOne b)
  | [], b => rfl
  | x :: a, b => by
    show (x.one && allOne (a ++ b)) = ((x.one && allOne a) && allOne b)
    rw [allOne_app a b, Bool.and_assoc]
theorem repl_one (z : List AV) (h : allOne z = true) : ∀ n, allOne (repl z n) = true
  | 0 => rfl
  | n + 1 => by rw [repl, allOne_app, h, repl_one z h n]; rfl
theorem clear_ok {H : VH} {b L k : Nat} {d : Array N} (hA : Arr H b d) (hd : d.size = L) (hk : k ≤ L) :
    ∃ H', vbuiltin T H .clear [64] [.slice (some (b, 0 + k * 5)) (L - k) none 5] = some (.tuple [], H') ∧ (∃ cs, Plain H' b cs ∧ ∀ i, i < k * 5 → cs[i]? = (flat d.toList)[i]?) ∧ H'.Ok ∧ Did b H H' := by
  rw [vb_clear]
  unfold vclear
  simp only [undNs]
  cases hz : Nat.beq (L - k) 0 with
  | true => exact ⟨H, rfl, ⟨_, hA.plain, fun _ _ => rfl⟩, hA.ok, .refl hA.ok⟩
  | false =>
    have hlt : ¬ L - k = 0 := fun e => by rw [e] at hz; cases hz
    obtain ⟨H', e, p, q, _⟩ := plain_puts (repl (N.cells ⟨[], 0, 0, 0, []⟩) (L - k)) (0 + k * 5) hA.plain hA.ok (by
      rw [replA_len, flat_len, N.cells_len, Array.length_toList, hd]
      omega) (repl_one _ rfl _)
    refine ⟨H', ?_, ⟨_, p, fun i hi => ?_⟩, q.eff.ok, q⟩
    · simp only [zeroN, show (AV.agg (N.cells ⟨[], 0, 0, 0, []⟩)).cells = N.cells ⟨[], 0, 0, 0, []⟩ from rfl, show allOne (N.cells ⟨[], 0, 0, 0, []⟩) = true from rfl, show Nat.blt 0 (N.cells ⟨[], 0, 0, 0, []⟩).length = true from rfl, Bool.and_self, e]
    · rw [setAll_get _ _ _ _ (by rw [replA_len, flat_len, N.cells_len, Array.length_toList, hd]; omega), if_neg (by omega)]
section
variable (n : Nat) (hn : 1100 ≤ n) (b L : Nat) (hL : L < 1000)
include hn hL
theorem cp_inner (k0 : Nat) (hk0 : 1 ≤ k0) (hkL : k0 < L) (d0 : Array N) (hd0 : d0.size = L) :
    ∀ (m k2 k : Nat) (d : Array N) (H : VH), 1 ≤ k2 → k0 + k2 ≤ L → L - (k0 + k2) < m → d.size = L → Arr H b d → 1 ≤ k → k ≤ k0 + k2 - 1 → (∀ i, k0 + k2 - 1 ≤ i → i < L → d[i]! = d0[i]!) → d.toList.take k = compF (d0.toList.take (k0 + k2)) →
      ∃ (k' : Nat) (d' : Array N) (H' : VH), loopN (L109_1 (vcall T ext promo n) n (some (b, 0)) L (some (b, 0 + k0 * 5)) (L - k0)) m [.int .i64 (k : Int), .int .i64 (k2 : Int)] H = some (.exit 2, [.int .i64 (k' : Int)], H') ∧ Arr H' b d' ∧ d'.size = L ∧ k' ≤ L ∧ d'.toList.take k' = compF d0.toList ∧ Did b H H' := by
  intro m
  induction m with
  | zero => intro k2 k d H _ _ h; omega
  | succ m ih =>
    intro k2 k d H h1 h2 hm hd hA hk1 hk2 hsame htake
    rw [loopN_succ]
    generalize loopN (L109_1 (vcall T ext promo n) n (some (b, 0)) L (some (b, 0 + k0 * 5)) (L - k0)) m = lp at ih ⊢
    unfold L109_1
    by_cases h : k2 < L - k0
    · have h' : (k2 : Int) < ((L - k0 : Nat) : Int) := by omega
      have f1 := fw_sub1 k2 h1 (by omega)
      have f2 := fw_add1 k2 (by omega)
      have f3 := fw_add1 k (by omega)
      have g1 : d[k0 + k2]! = d0[k0 + k2]! := hsame _ (by omega) (by omega)
      have g2 : d[k0 + (k2 - 1)]! = d0[k0 + k2 - 1]! := by rw [show k0 + (k2 - 1) = k0 + k2 - 1 by omega]; exact hsame _ (by omega) (by omega)
      have hct := comp_take d0 (k0 + k2) (by omega) (by omega)
      simp only [letH_mk, bindC_mk, bindV_mk, bindH_mk, bindJ_mk, asB_mk, asI_mk, asS_mk, asP_mk, asSl_mk, asA_mk, asTu_mk, asSome_mk, unc_mk, endL_mk, selC_eq, condT_eq, letN_mk, letB_mk, case_nn, case_nr, case_ne, case_rn, case_rr, case_re, case_en, case_er, case_ee, decide_eq_true_eq, Bool.not_true, Bool.not_false, Bool.false_eq_true, if_false, if_true, Bool.not_eq_true', decide_eq_false_iff_not, ilt_eq, ile_eq, reduceCtorEq, not_false_eq_true, not_true_eq_false, f1, Int.toNat_natCast, Bool.and_eq_true, hA.rdO k0 k2 L (by omega) hd, hA.rdO k0 (k2 - 1) L (by omega) hd, N.cells, noteNeq, f2]
      rw [if_pos h']
      by_cases c : d[k0 + k2]! = d[k0 + (k2 - 1)]!
      · simp only [c, decide_true, letH_mk, bindC_mk, bindV_mk, bindH_mk, bindJ_mk, asB_mk, asI_mk, asS_mk, asP_mk, asSl_mk, asA_mk, asTu_mk, asSome_mk, unc_mk, endL_mk, selC_eq, condT_eq, letN_mk, letB_mk, case_nn, case_nr, case_ne, case_rn, case_rr, case_re, case_en, case_er, case_ee, decide_eq_true_eq, Bool.not_true, Bool.not_false, Bool.false_eq_true, if_false, if_true, Bool.not_eq_true', decide_eq_false_iff_not, ilt_eq, ile_eq, reduceCtorEq, not_false_eq_true, not_true_eq_false]
        refine ih (k2 + 1) k d H (by omega) (by omega) (by omega) hd hA hk1 (by omega) (fun i hi hi2 => hsame i (by omega) hi2) ?_
        rw [show k0 + (k2 + 1) = k0 + k2 + 1 by omega, hct, if_pos (by rw [← g1, ← g2]; exact c)]
        exact htake
      · obtain ⟨H1, e1, a1, k1⟩ := hA.put1 k L (by omega) hd d[k0 + k2]!
        simp only [N.cells] at e1
        simp only [c, decide_false, letH_mk, bindC_mk, bindV_mk, bindH_mk, bindJ_mk, asB_mk, asI_mk, asS_mk, asP_mk, asSl_mk, asA_mk, asTu_mk, asSome_mk, unc_mk, endL_mk, selC_eq, condT_eq, letN_mk, letB_mk, case_nn, case_nr, case_ne, case_rn, case_rr, case_re, case_en, case_er, case_ee, decide_eq_true_eq, Bool.not_true, Bool.not_false, Bool.false_eq_true, if_false, if_true, Bool.not_eq_true', decide_eq_false_iff_not, ilt_eq, ile_eq, reduceCtorEq, not_false_eq_true, not_true_eq_false, e1, f3]
        obtain ⟨k', d', H2, e2, r1, r2, r3, r4, r5⟩ := ih (k2 + 1) (k + 1) (d.setIfInBounds k d[k0 + k2]!) H1 (by omega) (by omega) (by omega) (by simpa using hd) a1 (by omega) (by omega) (fun i hi hi2 => by
          rw [← hsame i (by omega) hi2]
          rw [getElem!_pos _ i (by simp; omega), getElem!_pos d i (by omega), Array.getElem_setIfInBounds]
          rw [if_neg (by omega)]) (by
          rw [take_succ _ k (by simp; omega), show k0 + (k2 + 1) = k0 + k2 + 1 by omega, hct, if_neg (by rw [← g1, ← g2]; exact c), ← htake]
          congr 1
          · rw [Array.toList_setIfInBounds, List.take_set_of_le (Nat.le_refl _)]
          · rw [getElem!_pos _ k (by simp; omega), Array.getElem_setIfInBounds, if_pos rfl, g1]
            omega)
        exact ⟨k', d', H2, e2, r1, r2, r3, r4, k1.trans r5⟩
    · have h' : ¬ (k2 : Int) < ((L - k0 : Nat) : Int) := by omega
      simp only [letH_mk, bindC_mk, bindV_mk, bindH_mk, bindJ_mk, asB_mk, asI_mk, asS_mk, asP_mk, asSl_mk, asA_mk, asTu_mk, asSome_mk, unc_mk, endL_mk, selC_eq, condT_eq, letN_mk, letB_mk, case_nn, case_nr, case_ne, case_rn, case_rr, case_re, case_en, case_er, case_ee, decide_eq_true_eq, Bool.not_true, Bool.not_false, Bool.false_eq_true, if_false, if_true, Bool.not_eq_true', decide_eq_false_iff_not, ilt_eq, ile_eq, reduceCtorEq, not_false_eq_true, not_true_eq_false, h']
      refine ⟨k, d, H, rfl, hA, hd, by omega, ?_, .refl hA.ok⟩
      rw [htake, show k0 + k2 = L by omega, List.take_of_length_le (by simp; omega)]
theorem cp_outer (d : Array N) (hd : d.size = L) (H : VH) (hA : Arr H b d) : ∀ (m k : Nat), 1 ≤ k → k ≤ L → L - k < m → compF (d.toList.take k) = d.toList.take k →
    (compF d.toList = d.toList ∧ loopN (L109_0 (vcall T ext promo n) n (some (b, 0)) none 5 L) m [.int .i64 (k : Int)] H = some (.exit 0, [], H)) ∨
    (∃ (k' : Nat) (H' : VH), loopN (L109_0 (vcall T ext promo n) n (some (b, 0)) none 5 L) m [.int .i64 (k : Int)] H = some (.ret, [.slice (some (b, 0)) k' none 5], H') ∧ k' = (compF d.toList).length ∧ (∃ cs, Plain H' b cs ∧ ∀ i, i < k' * 5 → cs[i]? = (flat (compF d.toList))[i]?) ∧ H'.Ok ∧ Did b H H') := by
  intro m
  induction m with
  | zero => intro k _ _ h; omega
  | succ m ih =>
    intro k hk1 hkL hm hc
    rw [loopN_succ]
    generalize loopN (L109_0 (vcall T ext promo n) n (some (b, 0)) none 5 L) m = lp at ih ⊢
    unfold L109_0
    by_cases h : k < L
    · have h' : (k : Int) < (L : Int) := by omega
      have f1 := fw_sub1 k hk1 (by omega)
      have f2 := fw_add1 k (by omega)
      have hct := comp_take d k hk1 (by omega)
      simp only [letH_mk, bindC_mk, bindV_mk, bindH_mk, bindJ_mk, asB_mk, asI_mk, asS_mk, asP_mk, asSl_mk, asA_mk, asTu_mk, asSome_mk, unc_mk, endL_mk, selC_eq, condT_eq, letN_mk, letB_mk, case_nn, case_nr, case_ne, case_rn, case_rr, case_re, case_en, case_er, case_ee, decide_eq_true_eq, Bool.not_true, Bool.not_false, Bool.false_eq_true, if_false, if_true, Bool.not_eq_true', decide_eq_false_iff_not, ilt_eq, ile_eq, reduceCtorEq, not_false_eq_true, not_true_eq_false, f1, Int.toNat_natCast, Bool.and_eq_true, hA.rd k L (by omega) hd, hA.rd (k - 1) L (by omega) hd, N.cells, noteEql, f2]
      rw [if_pos h']
      by_cases c : d[k]! = d[k - 1]!
      · rw [if_pos c] at hct
        obtain ⟨k', d', H1, e1, r1, r2, r3, r4, r5⟩ := cp_inner n hn b L hL k hk1 h d hd n 1 k d H (by omega) (by omega) (by omega) hd hA hk1 (by omega) (fun i _ _ => rfl) (by rw [hct]; exact hc.symm)
        obtain ⟨H2, e2, ⟨cs, p2, p3⟩, o2, k2⟩ := clear_ok r1 r2 r3
        refine .inr ⟨k', H2, ?_, ?_, ⟨cs, p2, fun i hi => ?_⟩, o2, r5.trans k2⟩
        · have e0 : (.int .i64 1 : AV) = .int .i64 ((1 : Nat) : Int) := rfl
          simp only [c, decide_true, letH_mk, bindC_mk, bindV_mk, bindH_mk, bindJ_mk, asB_mk, asI_mk, asS_mk, asP_mk, asSl_mk, asA_mk, asTu_mk, asSome_mk, unc_mk, endL_mk, selC_eq, condT_eq, letN_mk, letB_mk, case_nn, case_nr, case_ne, case_rn, case_rr, case_re, case_en, case_er, case_ee, decide_eq_true_eq, Bool.not_true, Bool.not_false, Bool.false_eq_true, if_false, if_true, Bool.not_eq_true', decide_eq_false_iff_not, ilt_eq, ile_eq, reduceCtorEq, not_false_eq_true, not_true_eq_false]
          rw [sl_lo H b L k 5 rfl (by omega)]
          simp only [letH_mk, bindC_mk, bindV_mk, bindH_mk, bindJ_mk, asB_mk, asI_mk, asS_mk, asP_mk, asSl_mk, asA_mk, asTu_mk, asSome_mk, unc_mk, endL_mk, selC_eq, condT_eq, letN_mk, letB_mk, case_nn, case_nr, case_ne, case_rn, case_rr, case_re, case_en, case_er, case_ee, decide_eq_true_eq, Bool.not_true, Bool.not_false, Bool.false_eq_true, if_false, if_true, Bool.not_eq_true', decide_eq_false_iff_not, ilt_eq, ile_eq, reduceCtorEq, not_false_eq_true, not_true_eq_false]
          rw [e0, e1]
          simp only [letH_mk, bindC_mk, bindV_mk, bindH_mk, bindJ_mk, asB_mk, asI_mk, asS_mk, asP_mk, asSl_mk, asA_mk, asTu_mk, asSome_mk, unc_mk, endL_mk, selC_eq, condT_eq, letN_mk, letB_mk, case_nn, case_nr, case_ne, case_rn, case_rr, case_re, case_en, case_er, case_ee, decide_eq_true_eq, Bool.not_true, Bool.not_false, Bool.false_eq_true, if_false, if_true, Bool.not_eq_true', decide_eq_false_iff_not, ilt_eq, ile_eq, reduceCtorEq, not_false_eq_true, not_true_eq_false]
          rw [sl_lo H1 b L k' 5 rfl r3]
          simp only [letH_mk, bindC_mk, bindV_mk, bindH_mk, bindJ_mk, asB_mk, asI_mk, asS_mk, asP_mk, asSl_mk, asA_mk, asTu_mk, asSome_mk, unc_mk, endL_mk, selC_eq, condT_eq, letN_mk, letB_mk, case_nn, case_nr, case_ne, case_rn, case_rr, case_re, case_en, case_er, case_ee, decide_eq_true_eq, Bool.not_true, Bool.not_false, Bool.false_eq_true, if_false, if_true, Bool.not_eq_true', decide_eq_false_iff_not, ilt_eq, ile_eq, reduceCtorEq, not_false_eq_true, not_true_eq_false, e2]
          rw [sl_hi H2 b L k' 5 rfl r3]
          simp only [letH_mk, bindC_mk, bindV_mk, bindH_mk, bindJ_mk, asB_mk, asI_mk, asS_mk, asP_mk, asSl_mk, asA_mk, asTu_mk, asSome_mk, unc_mk, endL_mk, selC_eq, condT_eq, letN_mk, letB_mk, case_nn, case_nr, case_ne, case_rn, case_rr, case_re, case_en, case_er, case_ee, decide_eq_true_eq, Bool.not_true, Bool.not_false, Bool.false_eq_true, if_false, if_true, Bool.not_eq_true', decide_eq_false_iff_not, ilt_eq, ile_eq, reduceCtorEq, not_false_eq_true, not_true_eq_false]
        · rw [← r4, List.length_take]
          simp
          omega
        · rw [p3 i hi, ← r4]
          have hfl : flat d'.toList = flat (d'.toList.take k') ++ flat (d'.toList.drop k') := by rw [← flat_app, List.take_append_drop]
          rw [hfl, List.getElem?_append_left]
          rw [flat_len, List.length_take, Array.length_toList, r2]
          omega
      · rw [if_neg c] at hct
        simp only [c, decide_false, letH_mk, bindC_mk, bindV_mk, bindH_mk, bindJ_mk, asB_mk, asI_mk, asS_mk, asP_mk, asSl_mk, asA_mk, asTu_mk, asSome_mk, unc_mk, endL_mk, selC_eq, condT_eq, letN_mk, letB_mk, case_nn, case_nr, case_ne, case_rn, case_rr, case_re, case_en, case_er, case_ee, decide_eq_true_eq, Bool.not_true, Bool.not_false, Bool.false_eq_true, if_false, if_true, Bool.not_eq_true', decide_eq_false_iff_not, ilt_eq, ile_eq, reduceCtorEq, not_false_eq_true, not_true_eq_false]
        exact ih (k + 1) (by omega) (by omega) (by omega) (by rw [hct, hc, take_succ d k (by omega)])
    · have h' : ¬ (k : Int) < (L : Int) := by omega
      simp only [letH_mk, bindC_mk, bindV_mk, bindH_mk, bindJ_mk, asB_mk, asI_mk, asS_mk, asP_mk, asSl_mk, asA_mk, asTu_mk, asSome_mk, unc_mk, endL_mk, selC_eq, condT_eq, letN_mk, letB_mk, case_nn, case_nr, case_ne, case_rn, case_rr, case_re, case_en, case_er, case_ee, decide_eq_true_eq, Bool.not_true, Bool.not_false, Bool.false_eq_true, if_false, if_true, Bool.not_eq_true', decide_eq_false_iff_not, ilt_eq, ile_eq, reduceCtorEq, not_false_eq_true, not_true_eq_false, h']
      rw [List.take_of_length_le (by simp; omega)] at hc
      exact .inl ⟨hc, by trivial⟩
end
theorem compact_ok (n : Nat) (hn : 1101 ≤ n) {H : VH} {b : Nat} {d : Array N} (hA : Arr H b d) (L : Nat) (hd : d.size = L) (hL : L < 1000) (hL0 : 1 ≤ L) :
    ∃ (k' : Nat) (H' : VH), vcall T ext promo n 109 [.slice (some (b, 0)) L none 5] H = some (.slice (some (b, 0)) k' none 5, H') ∧ k' = (compF d.toList).length ∧ (∃ cs, Plain H' b cs ∧ ∀ i, i < k' * 5 → cs[i]? = (flat (compF d.toList))[i]?) ∧ H'.Ok ∧ Did b H H' := by
  obtain ⟨n, rfl⟩ : ∃ m, n = m + 1 := ⟨n - 1, by omega⟩
  have hb := hA.lt
  have hl2 : (d.toList.take 1).length ≤ 1 := by simp; omega
  have h1 : compF (d.toList.take 1) = d.toList.take 1 := by
    rw [take_succ d 0 (by omega)]
    simp [compF, compS]
  by_cases h2 : L < 2
  · have h2' : (L : Int) < 2 := by omega
    have e1 : compF d.toList = d.toList := by
      rw [List.take_of_length_le (by simp; omega)] at h1
      exact h1
    refine ⟨L, _, ok109 _ _ _ _ _ _ (r := (_, leave H H.lo (.slice (some (b, 0)) L none 5))) ?_, by rw [e1]; simp [hd], ⟨flat d.toList, plain_leave (q := b) hA.ok hb hA.lo.plain (.refl hA.lo.ok) _, fun i _ => by rw [e1]⟩, ?_, (Did.refl hA.lo.ok).leave hA.ok hb _⟩
    · unfold F109
      simp only [letH_mk, bindC_mk, bindV_mk, bindH_mk, bindJ_mk, asB_mk, asI_mk, asS_mk, asP_mk, asSl_mk, asA_mk, asTu_mk, asSome_mk, unc_mk, endL_mk, selC_eq, condT_eq, letN_mk, letB_mk, case_nn, case_nr, case_ne, case_rn, case_rr, case_re, case_en, case_er, case_ee, decide_eq_true_eq, Bool.not_true, Bool.not_false, Bool.false_eq_true, if_false, if_true, Bool.not_eq_true', decide_eq_false_iff_not, ilt_eq, ile_eq, reduceCtorEq, not_false_eq_true, not_true_eq_false, h2']
    · rw [leave_rest rfl]
      exact ok_low hA.lo.ok _
  · have h2' : ¬ (L : Int) < 2 := by omega
    have e0 : (.int .i64 1 : AV) = .int .i64 ((1 : Nat) : Int) := rfl
    rcases cp_outer n (by omega) b L hL d hd H.lo hA.lo n 1 (Nat.le_refl _) hL0 (by omega) h1 with ⟨e1, e2⟩ | ⟨k', H1, e1, hk, ⟨cs, p1, p2⟩, o1, k1⟩
    · refine ⟨L, _, ok109 _ _ _ _ _ _ (r := (_, leave H H.lo (.slice (some (b, 0)) L none 5))) ?_, by rw [e1]; simp [hd], ⟨flat d.toList, plain_leave (q := b) hA.ok hb hA.lo.plain (.refl hA.lo.ok) _, fun i _ => by rw [e1]⟩, ?_, (Did.refl hA.lo.ok).leave hA.ok hb _⟩
      · unfold F109
        simp only [letH_mk, bindC_mk, bindV_mk, bindH_mk, bindJ_mk, asB_mk, asI_mk, asS_mk, asP_mk, asSl_mk, asA_mk, asTu_mk, asSome_mk, unc_mk, endL_mk, selC_eq, condT_eq, letN_mk, letB_mk, case_nn, case_nr, case_ne, case_rn, case_rr, case_re, case_en, case_er, case_ee, decide_eq_true_eq, Bool.not_true, Bool.not_false, Bool.false_eq_true, if_false, if_true, Bool.not_eq_true', decide_eq_false_iff_not, ilt_eq, ile_eq, reduceCtorEq, not_false_eq_true, not_true_eq_false, h2', e0, e2]
      · rw [leave_rest rfl]
        exact ok_low hA.lo.ok _
    · refine ⟨k', _, ok109 _ _ _ _ _ _ (r := (_, leave H H1 (.slice (some (b, 0)) k' none 5))) ?_, hk, ⟨cs, plain_leave hA.ok hb p1 k1 _, p2⟩, ?_, k1.leave hA.ok hb _⟩
      · unfold F109
        simp only [letH_mk, bindC_mk, bindV_mk, bindH_mk, bindJ_mk, asB_mk, asI_mk, asS_mk, asP_mk, asSl_mk, asA_mk, asTu_mk, asSome_mk, unc_mk, endL_mk, selC_eq, condT_eq, letN_mk, letB_mk, case_nn, case_nr, case_ne, case_rn, case_rr, case_re, case_en, case_er, case_ee, decide_eq_true_eq, Bool.not_true, Bool.not_false, Bool.false_eq_true, if_false, if_true, Bool.not_eq_true', decide_eq_false_iff_not, ilt_eq, ile_eq, reduceCtorEq, not_false_eq_true, not_true_eq_false, h2', e0, e1]
      · rw [leave_rest rfl]
        exact ok_low o1 _
/-- The sort of messages. -/
theorem sortN_ok (n : Nat) (hn : 3001 ≤ n) {H : VH} (hH : H.Ok) {b k : Nat} {l : List N} (hs : Src H (some (b, 0)) k l) (hl : l.length < 200) (c : Option Nat) :
    ∃ (q : Nat) (H' : VH), vcall T ext promo n 59 [.slice (some (b, 0)) k c 5] H = some (.slice (some (q, 0)) (outN l).length none 5, H') ∧ Src H' (some (q, 0)) (outN l).length (outN l) ∧ Eff (fun _ => False) H H' := by
  obtain ⟨n, rfl⟩ : ∃ m, n = m + 1 := ⟨n - 1, by omega⟩
  have hne : l ≠ [] := fun e => by have := hs.nil e; cases this
  have hpos := List.length_pos_iff.2 hne
  have hk := hs.len
  obtain ⟨q, H1, e1, q1, q2, a1, k1⟩ := clone_ok n (by omega) (lo_ok hH) (hs.keep hH (Keep.lo (fun _ => False) H) fun _ _ h => h) (by omega) c
  obtain ⟨d', H2, e2, p2, s2, a2, k2⟩ := sortFunc_ok n (by omega) a1 k (by simp; omega) (by omega) none 5
  have hd' : d'.size = k := p2.1.trans (by simp; omega)
  have hsrt : d'.toList = srtN l := by
    have := srt_of l.toArray d' (by simpa [hk] using p2) (by simpa [hk] using s2)
    simpa using this
  obtain ⟨k', H3, e3, hk', ⟨cs, p3, p4⟩, o3, k3⟩ := compact_ok n (by omega) a2 k hd' (by omega) (by omega)
  rw [hsrt] at hk' p4
  have hE : Eff (fun _ => False) H.lo H3 := (k1.trans ((k2.trans k3).eff) fun x hx => by subst hx; exact .inr q1)
  have hlen : (outN l).length = min k' 20 := by unfold outN; rw [List.length_take, ← hk']; omega
  have himin : imin (k' : Int) 20 = ((outN l).length : Int) := by rw [hlen]; unfold imin; rw [ilt_eq]; split <;> simp_all <;> omega
  refine ⟨q, _, ok59 _ _ _ _ _ _ (r := (_, leave H H3 (.slice (some (q, 0)) (outN l).length none 5))) ?_, ?_, hE.leave hH _⟩
  · unfold F59
    simp only [letH_mk, bindC_mk, bindV_mk, bindH_mk, bindJ_mk, asB_mk, asI_mk, asS_mk, asP_mk, asSl_mk, asA_mk, asTu_mk, asSome_mk, unc_mk, endL_mk, selC_eq, condT_eq, letN_mk, letB_mk, case_nn, case_nr, case_ne, case_rn, case_rr, case_re, case_en, case_er, case_ee, decide_eq_true_eq, Bool.not_true, Bool.not_false, Bool.false_eq_true, if_false, if_true, Bool.not_eq_true', decide_eq_false_iff_not, ilt_eq, ile_eq, reduceCtorEq, not_false_eq_true, not_true_eq_false, e1, e2, e3, himin]
    rw [sl_hi H3 q k' _ 5 rfl (by omega)]
    simp only [letH_mk, bindC_mk, bindV_mk, bindH_mk, bindJ_mk, asB_mk, asI_mk, asS_mk, asP_mk, asSl_mk, asA_mk, asTu_mk, asSome_mk, unc_mk, endL_mk, selC_eq, condT_eq, letN_mk, letB_mk, case_nn, case_nr, case_ne, case_rn, case_rr, case_re, case_en, case_er, case_ee, decide_eq_true_eq, Bool.not_true, Bool.not_false, Bool.false_eq_true, if_false, if_true, Bool.not_eq_true', decide_eq_false_iff_not, ilt_eq, ile_eq, reduceCtorEq, not_false_eq_true, not_true_eq_false]
  · rw [leave_rest rfl]
    refine ⟨rfl, .inr ⟨q, rfl, ?_, fun i hi => ?_⟩, fun e => absurd e (outN_nil l hne)⟩
    · exact p3.lt o3
    · show H3.cell q i = _
      rw [p3.cell, p4 i (by omega)]
      unfold outN
      have hfl : flat (compF (srtN l)) = flat ((compF (srtN l)).take 20) ++ flat ((compF (srtN l)).drop 20) := by rw [← flat_app, List.take_append_drop]
      rw [hfl, List.getElem?_append_left]
      rw [flat_len]
      exact hi
end
end Go.Vm.Tryd
