/- The preprocessor: maps that are made and changed; Run at one file. -/
import Derived.Test.YtdpaokgemjfhlaaGreatDoorPj
namespace Go.Vm.Tryz
set_option linter.unusedSectionVars false
set_option linter.unusedSimpArgs false
set_option linter.unusedVariables false
set_option maxRecDepth 10000
theorem newMap_get (H : VH) (es : List ME) (c b : Nat) : (H.newMap es c).get b = if b = H.next then some (.map es c 0) else H.get b := Tr.get_set _ _ _ _
theorem newMap_ok {H : VH} (h : H.Ok) (es : List ME) (c : Nat) : (H.newMap es c).Ok := by
  refine ⟨fun b x hb => ?_, fun l g hl => Nat.lt_succ_of_lt (h.wg l g hl), fun b r hr => ?_⟩
  · rw [newMap_get] at hb
    split at hb
    · rename_i e
      rw [e]
      exact Nat.lt_succ_self _
    · exact Nat.lt_succ_of_lt (h.get b x hb)
  · unfold VH.row? at hr
    rw [newMap_get] at hr
    by_cases e : b = H.next
    · simp only [if_pos e] at hr
      cases hr
    · simp only [if_neg e] at hr
      exact Nat.lt_succ_of_lt (h.lin b r hr)
theorem newMap_keep {H : VH} (h : H.Ok) (S : Nat → Prop) (es : List ME) (c : Nat) : Keep S H (H.newMap es c) :=
  ⟨Nat.le_succ _, fun b hb _ => by rw [newMap_get, if_neg (Nat.ne_of_lt hb)], fun _ _ => rfl⟩
theorem newMap_eff (S : Nat → Prop) {H : VH} (h : H.Ok) (es : List ME) (c : Nat) : Eff S H (H.newMap es c) :=
  ⟨newMap_keep h S es c, newMap_ok h es c, Nat.le_refl _, fun _ h _ _ => h⟩
theorem setMap_get (H : VH) (b : Nat) (es : List ME) (c v k : Nat) : (H.setMap b es c v).get k = if k = b then some (.map es c (v + 1)) else H.get k := get_vset _ _ _ _
theorem setMap_ok {H : VH} (h : H.Ok) {b : Nat} (hb : b < H.next) (es : List ME) (c v : Nat) : (H.setMap b es c v).Ok := by
  refine ⟨fun k x hk => ?_, h.wg, fun k r hr => ?_⟩
  · rw [setMap_get] at hk
    split at hk
    · rename_i e
      rw [e]
      exact hb
    · exact h.get k x hk
  · unfold VH.row? at hr
    rw [setMap_get] at hr
    by_cases e : k = b
    · simp only [if_pos e] at hr
      cases hr
    · simp only [if_neg e] at hr
      exact h.lin k r hr
theorem setMap_eff {H : VH} (h : H.Ok) {b : Nat} (hb : b < H.next) (es : List ME) (c v : Nat) : Eff (· = b) H (H.setMap b es c v) :=
  .of_low ⟨Nat.le_refl _, fun k _ hk => by rw [setMap_get, if_neg hk], fun _ _ => rfl⟩ (setMap_ok h hb es c v) rfl hb
theorem map?_get {H : VH} {b : Nat} {es : List ME} {c v : Nat} (h : H.get b = some (.map es c v)) (hi : isIt es = false) : H.map? b = some (es, c, v) := by
  unfold VH.map?
  rw [h]
  simp only [hi]
/-- A map of one entry. -/
def Map1 (H : VH) (m : Nat) (k : List UInt8) (v : AV) : Prop := ∃ ver, H.map? m = some ([⟨.str (PS.of k), v, 0⟩], 1, ver)
theorem Map1.lt {H : VH} {m : Nat} {k : List UInt8} {v : AV} (h : Map1 H m k v) (hH : H.Ok) : m < H.next := by
  obtain ⟨ver, h⟩ := h
  unfold VH.map? at h
  cases e : H.get m with
  | none => rw [e] at h; cases h
  | some x => exact hH.get m x e
theorem Map1.keep {S : Nat → Prop} {H H' : VH} {m : Nat} {k : List UInt8} {v : AV} (h : Map1 H m k v) (hH : H.Ok) (kp : Keep S H H') (hs : ¬ S m) : Map1 H' m k v := by
  obtain ⟨ver, h1⟩ := h
  exact ⟨ver, map?_keep h1 (Map1.lt ⟨ver, h1⟩ hH) kp hs⟩
theorem Map1.lo {H : VH} {m : Nat} {k : List UInt8} {v : AV} (h : Map1 H m k v) : Map1 H.lo m k v := h
theorem Map1.look {H : VH} {m : Nat} {k : List UInt8} {v : AV} (h : Map1 H m k v) (ok : Bool) : vlookup T H 34 (.map (some m)) (.str (PS.of k)) ok = some (match ok with | true => .tuple [v, .bool true] | false => v) := by
  obtain ⟨ver, h1⟩ := h
  exact look1 h1 ok
/-- An entry that is put into an empty map. -/
theorem put1 {H : VH} {m t e : Nat} {c ver : Nat} (h : H.map? m = some ([], c, ver)) (k : List UInt8) (v : AV) (hu : T.und t = some (.map 9 e)) : vmapUpdate T H t (.map (some m)) (.str (PS.of k)) v = some (H.setMap m [⟨.str (PS.of k), v, c⟩] (c + 1) ver) := by
  unfold vmapUpdate
  rw [hu]
  simp only [fitStr, h, mfind, List.nil_append]
theorem mk1 (H : VH) (t e : Nat) (hu : T.und t = some (.map 9 e)) : vmakeMap T H t none = some (.map (some H.next), H.newMap) := by
  unfold vmakeMap
  rw [hu]
theorem undMacros : T.und 57 = some (.map 9 62) := by kernel_rfl
theorem file0_ok (n : Nat) (hn : 4000 ≤ n) {H : VH} {R mf : Nat} {c1 c5 c6 : AV} (hH : H.Ok) (hM : Mx H)
    (hp : Plain H R [.map (some mf), c1, .str (PS.of []), .slice none 0 (some 0) 0, .int .i64 0, c5, c6, .slice none 0 (some 0) 0, .bool false])
    (hm : Map1 H mf [102] (.str (PS.of []))) (hmR : mf < R) (hR : R ≠ 0) :
    ∃ q H', vcall T ext promo n 28 [.ptr (some (R, 0)), .str (PS.of [102])] H = some (.tuple [], H') ∧
      Plain H' R [.map (some mf), c1, .str (PS.of []), .slice none 0 (some 0) 0, .int .i64 0, c5, c6, q, .bool false] ∧ Eff (fun y => R ≤ y) H H' := by
  obtain ⟨n, rfl⟩ : ∃ m, n = m + 1 := ⟨n - 1, by omega⟩
  have hRn := hp.lt hH
  have o2 := fresh_ok (lo_ok hH) [.str (PS.of [102])]
  have p2 := hp.lo.keep (lo_ok hH) (Keep.fresh (fun _ => False) H.lo [.str (PS.of [102])]) (fun h => h)
  obtain ⟨v1, H3, a1, a2, a3, a4, a5⟩ := Grow.app sltS (Grow.nil (H.lo.fresh [.str (PS.of [102])]) R 9 1) o2 (p2.lt o2) (by omega) (p := H.lo.next) (c := some 1) (es := 1) (new := [.str (PS.of [102])]) (fresh_cells (lo_ok hH) _ 0 1 (by simp)) rfl rfl
  obtain ⟨q1, hq1, _, _⟩ : ∃ q, v1 = .slice (some (q, 0)) 1 none 1 ∧ True ∧ True := by
    rcases a2 with ⟨_, h | ⟨q, h, _⟩⟩
    · omega
    · exact ⟨q, h, trivial, trivial⟩
  subst hq1
  have p3 := p2.keep o2 a4.keep (Nat.lt_irrefl _)
  obtain ⟨H4, e4, p4, k4, o4, l4, n4⟩ := p3.puts1 a3 7 (by simp) (.slice (some (q1, 0)) 1 none 1) rfl
  simp only [List.set_cons_succ, List.set_cons_zero] at p4
  have o5 := fresh_ok o4 [.slice none 0 (some 0) 0]
  have c5' := fresh_plain o4 [.slice none 0 (some 0) 0]
  have p5 := p4.keep o4 (Keep.fresh (fun _ => False) H4 [.slice none 0 (some 0) 0]) (fun h => h)
  have m2 := hm.lo.keep (lo_ok hH) (Keep.fresh (fun _ => False) H.lo [.str (PS.of [102])]) (fun h => h)
  have m3 := m2.keep o2 a4.keep (by omega)
  have m4 := m3.keep a3 k4 (by omega)
  have m5 := m4.keep o4 (Keep.fresh (fun _ => False) H4 [.slice none 0 (some 0) 0]) (fun h => h)
  obtain ⟨H8, e8, p8, k8, o8, l8, n8⟩ := p5.puts1 o5 7 (by simp) (.slice (some (q1, 0)) 0 none 1) rfl
  simp only [List.set_cons_succ, List.set_cons_zero] at p8
  have hR5 := p5.lt o5
  have eff : Eff (fun y => R ≤ y) H.lo H8 := by
    have E1 : Eff (fun y => R ≤ y) H.lo H3 := (Eff.fresh (fun y => R ≤ y) (lo_ok hH) [.str (PS.of [102])]).trans (a4.mono (S' := fun y => R ≤ y) fun y _ e => Nat.le_of_lt e) fun x hx => .inl hx
    have E2 : Eff (fun y => R ≤ y) H3 (H4.fresh [.slice none 0 (some 0) 0]) := ((Eff.of_low k4 o4 l4 (p3.lt a3)).mono (S' := fun y => R ≤ y) fun y _ e => Nat.le_of_eq e.symm).trans (Eff.fresh (fun y => R ≤ y) o4 [.slice none 0 (some 0) 0]) fun x hx => .inl hx
    exact (E1.trans E2 fun x hx => .inl hx).trans ((Eff.of_low k8 o8 l8 hR5).mono (S' := fun y => R ≤ y) fun y _ e => Nat.le_of_eq e.symm) fun x hx => .inl hx
  have hlow : H8.low < H.next := by
    have : H8.low ≤ R := by rw [l8]; exact Nat.min_le_right _ _
    omega
  refine ⟨.slice (some (q1, 0)) 0 none 1, leave H H8 (.tuple []), ok28 _ _ _ _ ?_, ?_, eff.leave hH _⟩
  rotate_left
  · rw [leave_eff hlow]
    exact plain_low p8 _
  · unfold F28
    have r7 : H.lo.cell R (0 + 7) = some (.slice none 0 (some 0) 0) := hp.lo.cell 7
    have e4' : H3.puts R (0 + 7) [.slice (some (q1, 0)) 1 none 1] = some H4 := e4
    have r0 : (H4.fresh [.slice none 0 (some 0) 0]).cell R 0 = some (.map (some mf)) := p5.cell 0
    have lk := m5.look false
    have rc : (H4.fresh [.slice none 0 (some 0) 0]).cell H4.next 0 = some (.slice none 0 (some 0) 0) := c5'.cell 0
    have r7' : (H4.fresh [.slice none 0 (some 0) 0]).cell R (0 + 7) = some (.slice (some (q1, 0)) 1 none 1) := p5.cell 7
    have e8' : (H4.fresh [.slice none 0 (some 0) 0]).puts R (0 + 7) [.slice (some (q1, 0)) 0 none 1] = some H8 := e8
    simp only [KA, KB, KD, reduceCtorEq, if_false, if_true, r7]
    rw [a1]
    simp only [KA, KB, KD, reduceCtorEq, if_false, if_true, e4', r0]
    rw [lk]
    simp only [KA, KB, KD, reduceCtorEq, if_false, if_true]
    rw [lines0_ok n (by omega)]
    simp only [KA, KB, KD, reduceCtorEq, if_false, if_true]
    obtain ⟨n, rfl⟩ : ∃ m, n = m + 1 := ⟨n - 1, by omega⟩
    rw [loopN_succ]
    unfold L28_0
    simp only [KA, KB, KD, reduceCtorEq, if_false, if_true]
    rw [if_neg (by omega)]
    simp only [KA, KB, KD, reduceCtorEq, if_false, if_true, rc]
    rw [loopN_succ]
    unfold L28_1
    simp only [KA, KB, KD, reduceCtorEq, if_false, if_true]
    rw [if_neg (by omega)]
    simp only [KA, KB, KD, reduceCtorEq, if_false, if_true, r7']
    rw [show fwrap .i64 (((1 : Nat) : Int) - 1) = 0 from rfl, cutNone]
    simp only [KA, KB, KD, reduceCtorEq, if_false, if_true, e8']
/-- What is put out. -/
def outOf (txt : List UInt8) : List UInt8 := if txt = [] then [] else chomp txt ++ [10]
def rowsOf (txt : List UInt8) : Nat := if txt = [] then 0 else (chomp txt).count 10 + 1
theorem fileA_ok (n : Nat) (hn : 4000 ≤ n) {H : VH} {R mf : Nat} {c1 c5 c6 : AV} {txt : List UInt8} (hH : H.Ok) (hM : Mx H) (hl : txt.length < 900) (hno : ∀ x ∈ txt, x ≠ 96)
    (hp : Plain H R [.map (some mf), c1, .str (PS.of []), .slice none 0 (some 0) 0, .int .i64 0, c5, c6, .slice none 0 (some 0) 0, .bool false])
    (hm : Map1 H mf [102] (.str (PS.of txt))) (hmR : mf < R) (hR : R ≠ 0) :
    ∃ v' q g z H', vcall T ext promo n 28 [.ptr (some (R, 0)), .str (PS.of [102])] H = some (.tuple [], H') ∧
      Plain H' R [.map (some mf), c1, .str (PS.of (outOf txt)), v', .int .i64 z, c5, c6, q, .bool false] ∧ Grow H' g tyO 3 v' (rowsOf txt) (oc [102] (rowsOf txt)) ∧ Eff (fun y => R ≤ y) H H' := by
  by_cases h0 : txt = []
  · subst h0
    obtain ⟨q, H', e, p, k⟩ := file0_ok n hn hH hM hp hm hmR hR
    exact ⟨_, q, 0, _, H', e, p, Grow.nil _ _ _ _, k⟩
  · obtain ⟨ver, hm⟩ := hm
    obtain ⟨v', q, g, H', e, p, gr, k⟩ := file_ok n hn hH hM h0 hl hno hp hm hmR hR
    refine ⟨v', q, g, ((chomp txt ++ [10]).length : Int), H', e, ?_, ?_, k⟩
    · unfold outOf
      rw [if_neg h0]
      exact p
    · unfold rowsOf
      rw [if_neg h0]
      exact gr
end Go.Vm.Tryz
