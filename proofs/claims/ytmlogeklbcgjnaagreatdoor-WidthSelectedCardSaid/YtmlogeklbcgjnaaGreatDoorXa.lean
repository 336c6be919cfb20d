/- Merged texts: XprA XprB XprC XprD XprE XprF XprG XprH XprI XprJ. -/
import Derived.Test.YtmlogeklbcgjnaaGreatDoorBw
import Derived.Test.YtmlogeklbcgjnaaGreatDoorW6
import Derived.Test.YtmlogeklbcgjnaaGreatDoorFz
import Derived.Test.YtmlogeklbcgjnaaGreatDoorW3
import Derived.Test.YtmlogeklbcgjnaaGreatDoorWa
namespace Go.Vm.Tryz
/- Expressions of designs as trees: their cells; sizes, weights, forms (the machine with pure lists; reusable for all laws over designs). -/
section
set_option linter.unusedSectionVars false
set_option linter.unusedSimpArgs false
set_option linter.unusedVariables false
set_option maxRecDepth 10000
/-- An expression: kc is the capacity of its list of kids, as far as it is known. -/
inductive X where
  | mk (op w : Int) (s : Bool) (nw nv nx sg : Int) (l : Bool) (a : Int) (kc : Option Nat) (kids : List X)
def kA (cs : List AV) : Nat → Option (Bk × Nat)
  | 0 => none
  | _ + 1 => some (.pur cs, 0)
def kC (c : Option Nat) : Nat → Option Nat
  | 0 => some 0
  | _ + 1 => c
def kE : Nat → Nat
  | 0 => 0
  | _ + 1 => 10
theorem kA_pos (cs : List AV) {n : Nat} (h : 0 < n) : kA cs n = some (.pur cs, 0) := by
  cases n with
  | zero => omega
  | succ n => rfl
mutual
/-- Its cells. -/
def X.enc : X → List AV
  | .mk op w s nw nv nx sg l a kc kids => [.int .i64 op, .int .i64 w, .bool s, .int .i64 nw, .int .u64 nv, .int .u64 nx, .int .i64 sg, .bool l, .int .i64 a, .slice (kA (X.encs kids) kids.length) kids.length (kC kc kids.length) (kE kids.length)]
def X.encs : List X → List AV
  | [] => []
  | e :: es => X.enc e ++ X.encs es
end
mutual
/-- The number of its nodes. -/
def X.size : X → Nat
  | .mk _ _ _ _ _ _ _ _ _ _ kids => 1 + X.sizes kids
def X.sizes : List X → Nat
  | [] => 0
  | e :: es => X.size e + X.sizes es
end
mutual
/-- Its depth. -/
def X.deep : X → Nat
  | .mk _ _ _ _ _ _ _ _ _ _ kids => 1 + X.deeps kids
def X.deeps : List X → Nat
  | [] => 0
  | e :: es => max (X.deep e) (X.deeps es)
end
def X.op : X → Int | .mk op _ _ _ _ _ _ _ _ _ _ => op
def X.w : X → Int | .mk _ w _ _ _ _ _ _ _ _ _ => w
def X.sgn : X → Bool | .mk _ _ s _ _ _ _ _ _ _ _ => s
def X.kids : X → List X | .mk _ _ _ _ _ _ _ _ _ _ k => k
theorem X.enc_len (e : X) : e.enc.length = 10 := by cases e; simp [X.enc]
theorem X.encs_len : ∀ ks : List X, (X.encs ks).length = ks.length * 10
  | [] => rfl
  | e :: es => by
    rw [X.encs, List.length_append, X.enc_len, X.encs_len es]
    simp
    omega
theorem X.encs_get : ∀ (ks : List X) (i o : Nat) (h : i < ks.length), o < 10 → (X.encs ks)[i * 10 + o]? = ks[i].enc[o]?
  | [], i, o, h, _ => by simp at h
  | e :: es, 0, o, h, ho => by
    rw [X.encs, List.getElem?_append_left (by rw [X.enc_len]; omega)]
    simp
  | e :: es, i + 1, o, h, ho => by
    rw [X.encs, List.getElem?_append_right (by rw [X.enc_len]; omega), X.enc_len, show (i + 1) * 10 + o - 10 = i * 10 + o by omega, X.encs_get es i o (by simpa using h) ho]
    rfl
theorem cells_pur {H : VH} {qs : List AV} {cs : List AV} : ∀ {n o : Nat}, (∀ i, i < n → H.cell (.pur qs) (o + i) = cs[i]?) → n = cs.length → H.cells (.pur qs) o n = some cs
  | 0, o, h, hn => by
    have : cs = [] := List.length_eq_zero_iff.1 hn.symm
    subst this
    rfl
  | n + 1, o, h, hn => by
    cases cs with
    | nil => cases hn
    | cons c cs =>
      have h0 := h 0 (Nat.succ_pos _)
      simp only [Nat.add_zero, List.getElem?_cons_zero] at h0
      have ih := cells_pur (H := H) (qs := qs) (cs := cs) (n := n) (o := o + 1) (fun i hi => by
        have := h (i + 1) (Nat.succ_lt_succ hi)
        rw [List.getElem?_cons_succ] at this
        rw [← this]
        congr 1
        omega) (by simpa using hn)
      simp only [VH.cells, h0, ih]
/-- A kid's cells. -/
theorem X.kid_cells (ks : List X) (i : Nat) (h : i < ks.length) (H : VH) : H.cells (.pur (X.encs ks)) (0 + ((i : Nat) : Int).toNat * 10) 10 = some ks[i].enc := by
  refine cells_pur (fun j hj => ?_) (X.enc_len _).symm
  rw [cell_pur, Int.toNat_natCast, Nat.zero_add, X.encs_get ks i j h hj]
theorem X.kid_cell (ks : List X) (i o : Nat) (h : i < ks.length) (ho : o < 10) (H : VH) : H.cell (.pur (X.encs ks)) (0 + ((i : Nat) : Int).toNat * 10 + o) = ks[i].enc[o]? := by
  rw [cell_pur, Int.toNat_natCast, Nat.zero_add, X.encs_get ks i o h ho]
theorem X.sizes_drop : ∀ (ks : List X) (i : Nat) (h : i < ks.length), X.sizes (ks.drop i) = ks[i].size + X.sizes (ks.drop (i + 1)) := fun ks i h => by
  rw [List.drop_eq_getElem_cons h, X.sizes]
theorem X.deeps_drop : ∀ (ks : List X) (i : Nat) (h : i < ks.length), X.deeps (ks.drop i) = max ks[i].deep (X.deeps (ks.drop (i + 1))) := fun ks i h => by
  rw [List.drop_eq_getElem_cons h, X.deeps]
theorem X.size_pos (e : X) : 1 ≤ e.size := by cases e; rw [X.size]; omega
theorem X.sizes_le : ∀ (ks : List X) (i : Nat), X.sizes (ks.drop i) ≤ X.sizes ks
  | [], i => by simp
  | e :: es, 0 => by simp
  | e :: es, i + 1 => by
    rw [List.drop_succ_cons, X.sizes]
    have := X.sizes_le es i
    omega
theorem X.len_sizes : ∀ ks : List X, ks.length ≤ X.sizes ks
  | [] => by simp
  | e :: es => by
    rw [X.sizes, List.length_cons]
    have := X.len_sizes es
    have := e.size_pos
    omega
mutual
theorem X.deep_le : ∀ e : X, e.deep ≤ e.size
  | .mk _ _ _ _ _ _ _ _ _ _ kids => by
    rw [X.deep, X.size]
    have := X.deeps_le kids
    omega
theorem X.deeps_le : ∀ es : List X, X.deeps es ≤ X.sizes es
  | [] => by simp [X.deeps]
  | e :: es => by
    rw [X.deeps, X.sizes]
    have := X.deep_le e
    have := X.deeps_le es
    omega
end
theorem imaxn (a b : Nat) : imax (a : Int) (b : Int) = ((max a b : Nat) : Int) := by
  unfold imax
  simp only [ilt_eq, decide_eq_true_eq]
  split <;> omega
theorem X.enc_mk (op w : Int) (s : Bool) (nw nv nx sg : Int) (l : Bool) (a : Int) (kc : Option Nat) (kids : List X) :
    (X.mk op w s nw nv nx sg l a kc kids).enc = [.int .i64 op, .int .i64 w, .bool s, .int .i64 nw, .int .u64 nv, .int .u64 nx, .int .i64 sg, .bool l, .int .i64 a, .slice (kA (X.encs kids) kids.length) kids.length (kC kc kids.length) (kE kids.length)] := by rw [X.enc]
theorem size_loop (n : Nat) (ks : List X) (hks : X.sizes ks < 1000000) (ih : ∀ e ∈ ks, ∀ H : VH, vcall T ext promo n 64 [.agg e.enc] H = some (.tuple [.int .i64 (e.size : Int), .int .i64 (e.deep : Int)], H)) (H : VH) :
    ∀ (m i a b : Nat), i ≤ ks.length → ks.length - i < m → a + X.sizes (ks.drop i) < 2000000 → b < 2000000 →
      loopN (L103_0 (vcall T ext promo n) n (kA (X.encs ks) ks.length) ks.length (.func 64 [] [])) m [.int .i64 (a : Int), .int .i64 (b : Int), .int .i64 (i : Int)] H =
        some (.exit 0, [.int .i64 ((a + X.sizes (ks.drop i) : Nat) : Int), .int .i64 ((max b (if i < ks.length then 1 + X.deeps (ks.drop i) else 0) : Nat) : Int)], H) := by
  intro m
  induction m with
  | zero => intro i a b _ h; omega
  | succ m ihm =>
    intro i a b hi hm ha hb
    rw [loopN_succ]
    generalize hlp : loopN (L103_0 (vcall T ext promo n) n (kA (X.encs ks) ks.length) ks.length (.func 64 [] [])) m = lp at ihm ⊢
    unfold L103_0
    simp only [KA, KB, KD, KE,  reduceCtorEq, if_false, if_true, Bool.and_eq_true]
    by_cases h : i < ks.length
    · have e1 := ih ks[i] (List.getElem_mem h) H
      have hd := X.sizes_drop ks i h
      have hdd := X.deeps_drop ks i h
      have hkd := ks[i].deep_le
      have hsz : ks[i].size ≤ X.sizes ks := by have := X.sizes_le ks i; omega
      rw [if_pos (by omega), kA_pos _ (by omega)]
      simp only [KA, KB, KD, KE,  reduceCtorEq, if_false, if_true]
      rw [if_pos (by omega), X.kid_cells ks i h]
      have := ihm (i + 1) (a + ks[i].size) (max b (ks[i].deep + 1)) (by omega) (by omega) (by omega) (by omega)
      generalize hk : ks[i] = k at *
      obtain ⟨op, w, s, nw, nv, nx, sg, l, at', kc, kids⟩ := k
      rw [X.enc_mk] at e1 ⊢
      simp only [KA, KB, KD, KE,  reduceCtorEq, if_false, if_true, asFn_mk, List.nil_append, List.append_nil]
      rw [e1]
      simp only [KA, KB, KD, KE,  reduceCtorEq, if_false, if_true]
      generalize (X.mk op w s nw nv nx sg l at' kc kids).size = ss at *
      generalize (X.mk op w s nw nv nx sg l at' kc kids).deep = dd at *
      have f1 : fwrap .i64 ((a : Int) + (ss : Int)) = ((a + ss : Nat) : Int) := by rw [fw_i64 (by omega) (by omega)]; omega
      have f2 : fwrap .i64 ((dd : Int) + 1) = ((dd + 1 : Nat) : Int) := by rw [fw_i64 (by omega) (by omega)]; omega
      have hll := X.len_sizes ks
      have f3 : fwrap .i64 ((i : Int) + 1) = ((i + 1 : Nat) : Int) := by rw [fw_i64 (by omega) (by omega)]; omega
      rw [f1, f2, f3, imaxn, this]
      refine congrArg some (Prod.ext rfl (Prod.ext ?_ rfl))
      simp only [hd, hdd]
      congr 2
      · omega
      · congr 2
        by_cases h2 : i + 1 < ks.length
        · rw [if_pos h2, if_pos h]
          omega
        · rw [if_neg h2, if_pos h, List.drop_of_length_le (by omega), X.deeps]
          omega
    · rw [if_neg (by omega), if_neg h, List.drop_of_length_le (by omega), X.sizes]
      simp
theorem X.mem_size : ∀ {ks : List X} {e : X}, e ∈ ks → e.size ≤ X.sizes ks
  | k :: ks, e, h => by
    rw [X.sizes]
    rcases List.mem_cons.1 h with rfl | h
    · omega
    · have := X.mem_size h
      omega
/-- exprSize. -/
theorem xsize_ok : ∀ (k : Nat) (e : X), e.size ≤ k → e.size < 1000000 → ∀ (n : Nat), 3 * k + 5 ≤ n → ∀ H : VH, vcall T ext promo n 64 [.agg e.enc] H = some (.tuple [.int .i64 (e.size : Int), .int .i64 (e.deep : Int)], H) := by
  intro k
  induction k with
  | zero => intro e h; have := e.size_pos; omega
  | succ k ih =>
    intro e he hs n hn H
    obtain ⟨n, rfl⟩ : ∃ m, n = m + 2 := ⟨n - 2, by omega⟩
    obtain ⟨op, w, s, nw, nv, nx, sg, l, at', kc, kids⟩ := e
    rw [X.size] at he hs
    have hl := X.len_sizes kids
    have h0 := size_loop n kids (by omega) (fun e hm H => ih e (by have := X.mem_size hm; omega) (by have := X.mem_size hm; omega) n (by omega) H) H.lo.lo n 0 1 1 (by omega) (by omega) (by rw [List.drop_zero]; omega) (by omega)
    rw [List.drop_zero] at h0
    have h1 : vcall T ext promo (n + 1) 103 [.int .i64 1, .int .i64 1, .slice (kA (X.encs kids) kids.length) kids.length (kC kc kids.length) (kE kids.length), .func 64 [] []] H.lo = some (.tuple [.int .i64 ((1 + X.sizes kids : Nat) : Int), .int .i64 ((max 1 (if 0 < kids.length then 1 + X.deeps kids else 0) : Nat) : Int)], H.lo) := by
      apply ok103
      unfold F103
      simp only [letH_mk]
      rw [show ((1 : Nat) : Int) = 1 from rfl, show ((0 : Nat) : Int) = 0 from rfl] at h0
      rw [h0]
      simp only [KA, KB, KD, KE,  reduceCtorEq, if_false, if_true]
      rw [leave_flat rfl rfl]
    rw [X.enc_mk]
    apply ok64
    unfold F64
    simp only [letH_mk]
    rw [h1]
    simp only [KA, KB, KD, KE,  reduceCtorEq, if_false, if_true]
    rw [leave_flat rfl rfl, X.size, X.deep]
    refine congrArg some (Prod.ext ?_ rfl)
    simp only
    congr 4
    cases kids with
    | nil => simp [X.deeps]
    | cons e es =>
      rw [if_pos (by simp)]
      omega
theorem sum_ok' (n : Nat) (hn : 1 ≤ n) (a b : Nat) (h : a + b < 1000000000) (H : VH) : vcall T ext promo n 108 [.int .i64 (a : Int), .int .i64 (b : Int)] H = some (.int .i64 ((a + b : Nat) : Int), H) := by
  obtain ⟨n, rfl⟩ : ∃ m, n = m + 1 := ⟨n - 1, by omega⟩
  apply ok108
  unfold F108
  simp only [KA, KB, KD, KE,  reduceCtorEq, if_false, if_true]
  rw [fw_i64 (n := 9223372036854775807 - (b : Int)) (by omega) (by omega), if_neg (by omega), fw_i64 (by omega) (by omega)]
  exact congrArg some (by rw [leave_flat rfl rfl]; rfl)
/-- The weights of functions, as a list. -/
abbrev fwV (fs : Option (Bk × Nat)) (fn : Nat) (fc : Option Nat) (fe : Nat) : AV := .slice fs fn fc fe
mutual
/-- An expression without calls. -/
def X.noCall : X → Bool
  | .mk op _ _ _ _ _ _ _ _ _ kids => !(ieq op 34) && X.noCalls kids
def X.noCalls : List X → Bool
  | [] => true
  | e :: es => X.noCall e && X.noCalls es
end
theorem X.mem_noCall : ∀ {ks : List X} {e : X}, e ∈ ks → X.noCalls ks = true → e.noCall = true
  | k :: ks, e, h, hc => by
    rw [X.noCalls, Bool.and_eq_true] at hc
    rcases List.mem_cons.1 h with rfl | h
    · exact hc.1
    · exact X.mem_noCall h hc.2
theorem weight_loop (n : Nat) (hn : 1 ≤ n) (fs : Option (Bk × Nat)) (fn : Nat) (fc : Option Nat) (fe : Nat) (ks : List X) (hks : X.sizes ks < 1000000) (ih : ∀ e ∈ ks, ∀ H : VH, vcall T ext promo n 66 [.slice fs fn fc fe, .agg e.enc] H = some (.int .i64 (e.size : Int), H)) (H : VH) :
    ∀ (m i a : Nat), i ≤ ks.length → ks.length - i < m → a + X.sizes (ks.drop i) < 2000000 →
      loopN (L66_0 (vcall T ext promo n) n fs fc fe fn (kA (X.encs ks) ks.length) ks.length) m [.int .i64 (a : Int), .int .i64 (i : Int)] H = some (.exit 0, [.int .i64 ((a + X.sizes (ks.drop i) : Nat) : Int)], H) := by
  intro m
  induction m with
  | zero => intro i a _ h; omega
  | succ m ihm =>
    intro i a hi hm ha
    rw [loopN_succ]
    generalize hlp : loopN (L66_0 (vcall T ext promo n) n fs fc fe fn (kA (X.encs ks) ks.length) ks.length) m = lp at ihm ⊢
    unfold L66_0
    simp only [KA, KB, KD, KE,  reduceCtorEq, if_false, if_true, Bool.and_eq_true]
    by_cases h : i < ks.length
    · have e1 := ih ks[i] (List.getElem_mem h) H
      have hd := X.sizes_drop ks i h
      have hsz : ks[i].size ≤ X.sizes ks := by have := X.sizes_le ks i; omega
      rw [if_pos (by omega), kA_pos _ (by omega)]
      simp only [KA, KB, KD, KE,  reduceCtorEq, if_false, if_true]
      rw [if_pos (by omega), X.kid_cells ks i h]
      have := ihm (i + 1) (a + ks[i].size) (by omega) (by omega) (by omega)
      generalize hk : ks[i] = k at *
      obtain ⟨op, w, s, nw, nv, nx, sg, l, at', kc, kids⟩ := k
      rw [X.enc_mk] at e1 ⊢
      simp only [KA, KB, KD, KE,  reduceCtorEq, if_false, if_true]
      rw [e1]
      simp only [KA, KB, KD, KE,  reduceCtorEq, if_false, if_true]
      generalize (X.mk op w s nw nv nx sg l at' kc kids).size = ss at *
      have hll := X.len_sizes ks
      have f3 : fwrap .i64 ((i : Int) + 1) = ((i + 1 : Nat) : Int) := by rw [fw_i64 (by omega) (by omega)]; omega
      rw [sum_ok' n hn a ss (by omega)]
      simp only [KA, KB, KD, KE,  reduceCtorEq, if_false, if_true]
      rw [f3, this, hd]
      refine congrArg some (Prod.ext rfl (Prod.ext ?_ rfl))
      simp only
      congr 3
      omega
    · rw [if_neg (by omega), List.drop_of_length_le (by omega), X.sizes]
      simp
/-- exprWeight, without calls. -/
theorem xweight_ok (fs : Option (Bk × Nat)) (fn : Nat) (fc : Option Nat) (fe : Nat) : ∀ (k : Nat) (e : X), e.size ≤ k → e.size < 1000000 → e.noCall = true → ∀ (n : Nat), 3 * k + 5 ≤ n → ∀ H : VH, vcall T ext promo n 66 [.slice fs fn fc fe, .agg e.enc] H = some (.int .i64 (e.size : Int), H) := by
  intro k
  induction k with
  | zero => intro e h; have := e.size_pos; omega
  | succ k ih =>
    intro e he hs hc n hn H
    obtain ⟨n, rfl⟩ : ∃ m, n = m + 1 := ⟨n - 1, by omega⟩
    obtain ⟨op, w, s, nw, nv, nx, sg, l, at', kc, kids⟩ := e
    rw [X.size] at he hs
    rw [X.noCall, Bool.and_eq_true] at hc
    have hl := X.len_sizes kids
    have h0 := weight_loop n (by omega) fs fn fc fe kids (by omega) (fun e hm H => ih e (by have := X.mem_size hm; omega) (by have := X.mem_size hm; omega) (X.mem_noCall hm hc.2) n (by omega) H) H.lo n 0 1 (by omega) (by omega) (by rw [List.drop_zero]; omega)
    rw [List.drop_zero, show ((1 : Nat) : Int) = 1 from rfl, show ((0 : Nat) : Int) = 0 from rfl] at h0
    have hne : ieq op 34 = false := by simpa using hc.1
    rw [X.enc_mk]
    apply ok66
    unfold F66
    rw [hne]
    simp only [letH_mk, selC_eq, bindJ_mk, Bool.false_eq_true, if_false]
    simp only [KA, KB, KD, KE,  reduceCtorEq, if_false, if_true]
    rw [h0]
    simp only [KA, KB, KD, KE,  reduceCtorEq, if_false, if_true]
    rw [leave_flat rfl rfl, X.size]
end
/- Expressions of designs as trees: which are valid; their forms, and whether widths fit. -/
section
set_option linter.unusedSectionVars false
set_option linter.unusedSimpArgs false
set_option linter.unusedVariables false
set_option maxRecDepth 10000
/-- The numbers of kids. -/
def arityX (op : Int) : Int :=
  if op = 0 then 0 else if op = 1 then 0 else if op = 35 then 0
  else if op = 2 then 1 else if op = 3 then 1 else if op = 5 then 1 else if op = 6 then 1 else if op = 7 then 1 else if op = 8 then 1 else if op = 9 then 1 else if op = 10 then 1 else if op = 32 then 1 else if op = 33 then 1
  else if op = 30 then 3 else if op = 31 then -1 else if op = 34 then -2 else 2
/-- Operations with one bit that is never signed. -/
def singX (op : Int) : Bool := decide (7 ≤ op) && decide (op ≤ 12) || decide (24 ≤ op) && decide (op ≤ 27)
theorem op_cases {op : Int} (h : 0 ≤ op ∧ op ≤ 35) : op = 0 ∨ op = 1 ∨ op = 2 ∨ op = 3 ∨ op = 4 ∨ op = 5 ∨ op = 6 ∨ op = 7 ∨ op = 8 ∨ op = 9 ∨ op = 10 ∨ op = 11 ∨ op = 12 ∨ op = 13 ∨ op = 14 ∨ op = 15 ∨ op = 16 ∨ op = 17 ∨ op = 18 ∨ op = 19 ∨ op = 20 ∨ op = 21 ∨ op = 22 ∨ op = 23 ∨ op = 24 ∨ op = 25 ∨ op = 26 ∨ op = 27 ∨ op = 28 ∨ op = 29 ∨ op = 30 ∨ op = 31 ∨ op = 32 ∨ op = 33 ∨ op = 34 ∨ op = 35 := by omega
theorem arity_ok' (n : Nat) (hn : 1 ≤ n) {op : Int} (h : 0 ≤ op ∧ op ≤ 35) (H : VH) : vcall T ext promo n 156 [.int .i64 op] H = some (.int .i64 (arityX op), H) := by
  obtain ⟨n, rfl⟩ : ∃ m, n = m + 1 := ⟨n - 1, by omega⟩
  rcases op_cases h with rfl | rfl | rfl | rfl | rfl | rfl | rfl | rfl | rfl | rfl | rfl | rfl | rfl | rfl | rfl | rfl | rfl | rfl | rfl | rfl | rfl | rfl | rfl | rfl | rfl | rfl | rfl | rfl | rfl | rfl | rfl | rfl | rfl | rfl | rfl | rfl
  all_goals
    apply ok156
    unfold F156
    simp only [KA, KB, KD, KE,  reduceCtorEq, if_false, if_true, ieq_dec, Int.reduceEq, decide_false, decide_true]
    exact congrArg some (by rw [leave_flat rfl rfl]; rfl)
theorem single_ok' (n : Nat) (hn : 1 ≤ n) (op : Int) (H : VH) : vcall T ext promo n 157 [.int .i64 op] H = some (.bool (singX op), H) := by
  obtain ⟨n, rfl⟩ : ∃ m, n = m + 1 := ⟨n - 1, by omega⟩
  apply ok157
  unfold F157
  simp only [letH_mk, selC_eq, ile_eq, decide_eq_true_eq]
  unfold singX
  by_cases h1 : 7 ≤ op <;> by_cases h2 : op ≤ 12 <;> by_cases h3 : 24 ≤ op
  all_goals
    simp only [h1, h2, h3, if_true, if_false, decide_true, decide_false, Bool.true_and, Bool.false_and, Bool.true_or, Bool.false_or, Bool.and_true]
    rw [leave_flat rfl rfl]
/-- Widths of kids that fit: operation, width, number, the kids' widths. -/
inductive Fit : Int → Int → Int → List Int → Prop where
  | slice {w a x : Int} : 0 ≤ a → w ≤ x → a ≤ x - w → Fit 3 w a [x]
  | part {w x y : Int} : Fit 4 w 0 [x, y]
  | resize {w x : Int} : Fit 33 w 0 [x]
  | un {op w : Int} : op = 5 ∨ op = 6 → Fit op w 0 [w]
  | red {op x : Int} : op = 7 ∨ op = 8 ∨ op = 9 ∨ op = 10 → Fit op 1 0 [x]
  | both {op x y : Int} : op = 11 ∨ op = 12 → Fit op 1 0 [x, y]
  | bin {op w : Int} : op = 13 ∨ op = 14 ∨ op = 15 ∨ op = 16 ∨ op = 17 ∨ op = 18 ∨ op = 19 ∨ op = 20 → Fit op w 0 [w, w]
  | shift {op w y : Int} : op = 21 ∨ op = 22 ∨ op = 23 → Fit op w 0 [w, y]
  | cmp {op x : Int} : op = 24 ∨ op = 25 ∨ op = 26 ∨ op = 27 ∨ op = 28 ∨ op = 29 → Fit op 1 0 [x, x]
  | cond {w x : Int} : Fit 30 w 0 [x, w, w]
  | rep {w a x : Int} : 1 ≤ a → a ≤ 64 → a * x = w → Fit 32 w a [x]
theorem eqz : vbinOp T .eql 30 (.agg [.int .i64 0, .int .u64 0, .int .u64 0]) (.agg [.int .i64 0, .int .u64 0, .int .u64 0]) = some (.bool true) := by kernel_rfl
theorem form_ok (n : Nat) (hn : 5 ≤ n) {op w a : Int} {ws : List Int} {ks : List X} (hf : Fit op w a ws) (hws : ks.length = ws.length) (s : Bool) (hs : singX op = true → s = false) (kc : Option Nat) (H : VH) :
    vcall T ext promo n 104 [.agg (X.mk op w s 0 0 0 0 false a kc ks).enc] H = some (.bool true, H) := by
  obtain ⟨n, rfl⟩ : ∃ m, n = m + 1 := ⟨n - 1, by omega⟩
  rw [X.enc_mk]
  generalize kA (X.encs ks) ks.length = ka
  generalize kC kc ks.length = kc'
  generalize kE ks.length = ke
  cases hf with
  | slice h1 h2 h3 =>
    apply ok104
    unfold F104
    simp only [letH_mk]
    rw [arity_ok' n (by omega) (by omega)]
    simp only [List.length_cons, List.length_nil] at hws
    simp (config := { decide := true }) only [KA, KB, KD, KE,  reduceCtorEq, if_false, if_true, hws, ieq_dec, Int.reduceEq, eqz, arityX, if_true, if_false]
    rw [single_ok' n (by omega)]
    simp (config := { decide := true }) only [KA, KB, KD, KE,  reduceCtorEq, if_false, if_true, singX]
    rw [leave_flat rfl rfl]
  | part =>
    apply ok104
    unfold F104
    simp only [letH_mk]
    rw [arity_ok' n (by omega) (by omega)]
    simp only [List.length_cons, List.length_nil] at hws
    simp (config := { decide := true }) only [KA, KB, KD, KE,  reduceCtorEq, if_false, if_true, hws, ieq_dec, Int.reduceEq, eqz, arityX, if_true, if_false]
    rw [single_ok' n (by omega)]
    simp (config := { decide := true }) only [KA, KB, KD, KE,  reduceCtorEq, if_false, if_true, singX]
    rw [leave_flat rfl rfl]
  | resize =>
    apply ok104
    unfold F104
    simp only [letH_mk]
    rw [arity_ok' n (by omega) (by omega)]
    simp only [List.length_cons, List.length_nil] at hws
    simp (config := { decide := true }) only [KA, KB, KD, KE,  reduceCtorEq, if_false, if_true, hws, ieq_dec, Int.reduceEq, eqz, arityX, if_true, if_false]
    rw [single_ok' n (by omega)]
    simp (config := { decide := true }) only [KA, KB, KD, KE,  reduceCtorEq, if_false, if_true, singX]
    rw [leave_flat rfl rfl]
  | un h =>
    rcases h with rfl | rfl
    all_goals
      apply ok104
      unfold F104
      simp only [letH_mk]
      rw [arity_ok' n (by omega) (by omega)]
      simp only [List.length_cons, List.length_nil] at hws
      simp (config := { decide := true }) only [KA, KB, KD, KE,  reduceCtorEq, if_false, if_true, hws, ieq_dec, Int.reduceEq, eqz, arityX, if_true, if_false]
      rw [single_ok' n (by omega)]
      simp (config := { decide := true }) only [KA, KB, KD, KE,  reduceCtorEq, if_false, if_true, singX]
      rw [leave_flat rfl rfl]
  | red h =>
    rcases h with rfl | rfl | rfl | rfl
    all_goals
      apply ok104
      unfold F104
      simp only [letH_mk]
      rw [arity_ok' n (by omega) (by omega)]
      simp only [List.length_cons, List.length_nil] at hws
      simp (config := { decide := true }) only [KA, KB, KD, KE,  reduceCtorEq, if_false, if_true, hws, ieq_dec, Int.reduceEq, eqz, arityX, if_true, if_false]
      rw [single_ok' n (by omega)]
      have hs' := hs (by decide)
      subst hs'
      simp (config := { decide := true }) only [KA, KB, KD, KE,  reduceCtorEq, if_false, if_true, singX]
      rw [leave_flat rfl rfl]
  | both h =>
    rcases h with rfl | rfl
    all_goals
      apply ok104
      unfold F104
      simp only [letH_mk]
      rw [arity_ok' n (by omega) (by omega)]
      simp only [List.length_cons, List.length_nil] at hws
      simp (config := { decide := true }) only [KA, KB, KD, KE,  reduceCtorEq, if_false, if_true, hws, ieq_dec, Int.reduceEq, eqz, arityX, if_true, if_false]
      rw [single_ok' n (by omega)]
      have hs' := hs (by decide)
      subst hs'
      simp (config := { decide := true }) only [KA, KB, KD, KE,  reduceCtorEq, if_false, if_true, singX]
      rw [leave_flat rfl rfl]
  | bin h =>
    rcases h with rfl | rfl | rfl | rfl | rfl | rfl | rfl | rfl
    all_goals
      apply ok104
      unfold F104
      simp only [letH_mk]
      rw [arity_ok' n (by omega) (by omega)]
      simp only [List.length_cons, List.length_nil] at hws
      simp (config := { decide := true }) only [KA, KB, KD, KE,  reduceCtorEq, if_false, if_true, hws, ieq_dec, Int.reduceEq, eqz, arityX, if_true, if_false]
      rw [single_ok' n (by omega)]
      simp (config := { decide := true }) only [KA, KB, KD, KE,  reduceCtorEq, if_false, if_true, singX]
      rw [leave_flat rfl rfl]
  | shift h =>
    rcases h with rfl | rfl | rfl
    all_goals
      apply ok104
      unfold F104
      simp only [letH_mk]
      rw [arity_ok' n (by omega) (by omega)]
      simp only [List.length_cons, List.length_nil] at hws
      simp (config := { decide := true }) only [KA, KB, KD, KE,  reduceCtorEq, if_false, if_true, hws, ieq_dec, Int.reduceEq, eqz, arityX, if_true, if_false]
      rw [single_ok' n (by omega)]
      simp (config := { decide := true }) only [KA, KB, KD, KE,  reduceCtorEq, if_false, if_true, singX]
      rw [leave_flat rfl rfl]
  | cmp h =>
    rcases h with rfl | rfl | rfl | rfl | rfl | rfl
    all_goals
      apply ok104
      unfold F104
      simp only [letH_mk]
      rw [arity_ok' n (by omega) (by omega)]
      simp only [List.length_cons, List.length_nil] at hws
      simp (config := { decide := true }) only [KA, KB, KD, KE,  reduceCtorEq, if_false, if_true, hws, ieq_dec, Int.reduceEq, eqz, arityX, if_true, if_false]
      rw [single_ok' n (by omega)]
      first
        | (have hs' := hs (by decide)
           subst hs'
           simp (config := { decide := true }) only [KA, KB, KD, KE,  reduceCtorEq, if_false, if_true, singX]
           rw [leave_flat rfl rfl])
        | (simp (config := { decide := true }) only [KA, KB, KD, KE,  reduceCtorEq, if_false, if_true, singX]
           rw [leave_flat rfl rfl])
  | cond =>
    apply ok104
    unfold F104
    simp only [letH_mk]
    rw [arity_ok' n (by omega) (by omega)]
    simp only [List.length_cons, List.length_nil] at hws
    simp (config := { decide := true }) only [KA, KB, KD, KE,  reduceCtorEq, if_false, if_true, hws, ieq_dec, Int.reduceEq, eqz, arityX, if_true, if_false]
    rw [single_ok' n (by omega)]
    simp (config := { decide := true }) only [KA, KB, KD, KE,  reduceCtorEq, if_false, if_true, singX]
    rw [leave_flat rfl rfl]
  | rep h1 h2 h3 =>
    apply ok104
    unfold F104
    simp only [letH_mk]
    rw [arity_ok' n (by omega) (by omega)]
    simp only [List.length_cons, List.length_nil] at hws
    simp (config := { decide := true }) only [KA, KB, KD, KE,  reduceCtorEq, if_false, if_true, hws, ieq_dec, Int.reduceEq, eqz, arityX, if_true, if_false]
    rw [single_ok' n (by omega)]
    simp (config := { decide := true }) only [KA, KB, KD, KE,  reduceCtorEq, if_false, if_true, singX]
    rw [leave_flat rfl rfl]
theorem kidW_ok' (n : Nat) (hn : 1 ≤ n) {b : Nat} {op w : Int} {s : Bool} {nw nv nx sg : Int} {l : Bool} {a : Int} {kc : Option Nat} {ks : List X} {H : VH} (h : Plain H b [.int .i64 op, .int .i64 w, .bool s, .int .i64 nw, .int .u64 nv, .int .u64 nx, .int .i64 sg, .bool l, .int .i64 a, .slice (kA (X.encs ks) ks.length) ks.length (kC kc ks.length) (kE ks.length)]) (i : Nat) (hi : i < ks.length) :
    vcall T ext promo n 159 [.int .i64 (i : Int), .ptr (some (b, 0))] H = some (.int .i64 (ks[i]).w, H) := by
  obtain ⟨n, rfl⟩ : ∃ m, n = m + 1 := ⟨n - 1, by omega⟩
  have c9 : H.lo.cell b (0 + 9) = some (.slice (kA (X.encs ks) ks.length) ks.length (kC kc ks.length) (kE ks.length)) := h.cell 9
  have k0 : H.lo.cell (.pur (X.encs ks)) ((0 + (i : Int).toNat * 10) + 1) = some (.int .i64 (ks[i]).w) := by
    rw [X.kid_cell ks i 1 hi (by omega)]
    generalize ks[i] = k
    cases k
    rw [X.enc_mk]
    rfl
  apply ok159
  unfold F159
  simp only [KA, KB, KD, KE,  reduceCtorEq, if_false, if_true, c9, Bool.and_eq_true]
  rw [kA_pos _ (by omega)]
  simp only [KA, KB, KD, KE,  reduceCtorEq, if_false, if_true, Bool.and_eq_true]
  rw [if_pos (by omega), k0]
  simp only [KA, KB, KD, KE,  reduceCtorEq, if_false, if_true]
  exact congrArg some (by rw [leave_flat rfl rfl])
theorem mapw1 {ks : List X} {x : Int} (h : ks.map X.w = [x]) : ∃ k, ks = [k] ∧ k.w = x := by
  match ks, h with
  | [k], h => exact ⟨k, rfl, by simpa using h⟩
  | [], h => simp at h
  | _ :: _ :: _, h => simp at h
theorem mapw2 {ks : List X} {x y : Int} (h : ks.map X.w = [x, y]) : ∃ k l, ks = [k, l] ∧ k.w = x ∧ l.w = y := by
  match ks, h with
  | [k, l], h => exact ⟨k, l, rfl, by simpa using h⟩
  | [], h => simp at h
  | [_], h => simp at h
  | _ :: _ :: _ :: _, h => simp at h
theorem mapw3 {ks : List X} {x y z : Int} (h : ks.map X.w = [x, y, z]) : ∃ k l m, ks = [k, l, m] ∧ k.w = x ∧ l.w = y ∧ m.w = z := by
  match ks, h with
  | [k, l, m], h => exact ⟨k, l, m, rfl, by simpa using h⟩
  | [], h => simp at h
  | [_], h => simp at h
  | [_, _], h => simp at h
  | _ :: _ :: _ :: _ :: _, h => simp at h
theorem fits_ok (n : Nat) (hn : 5 ≤ n) {op w a : Int} {ws : List Int} {ks : List X} (hf : Fit op w a ws) (hws : ks.map X.w = ws) (hb : 1 ≤ w ∧ w ≤ 64 ∧ ∀ x ∈ ws, 1 ≤ x ∧ x ≤ 64) (s : Bool) (kc : Option Nat) {H : VH} (hH : H.Ok) :
    vcall T ext promo n 107 [.agg (X.mk op w s 0 0 0 0 false a kc ks).enc] H = some (.bool true, H) := by
  obtain ⟨n, rfl⟩ : ∃ m, n = m + 1 := ⟨n - 1, by omega⟩
  have hx0 : ∀ x : Int, (ws[0]? = some x) → 1 ≤ x ∧ x ≤ 64 := fun x h => hb.2.2 x (List.mem_of_getElem? h)
  rw [X.enc_mk]
  apply ok107
  generalize hcs : ([.int .i64 op, .int .i64 w, .bool s, .int .i64 0, .int .u64 0, .int .u64 0, .int .i64 0, .bool false, .int .i64 a, .slice (kA (X.encs ks) ks.length) ks.length (kC kc ks.length) (kE ks.length)] : List AV) = cs
  have o1 := fresh_ok (lo_ok hH) cs
  have p1 := fresh_plain (lo_ok hH) cs
  have p1' : Plain (H.lo.fresh cs) H.lo.next [.int .i64 op, .int .i64 w, .bool s, .int .i64 0, .int .u64 0, .int .u64 0, .int .i64 0, .bool false, .int .i64 a, .slice (kA (X.encs ks) ks.length) ks.length (kC kc ks.length) (kE ks.length)] := by rw [hcs]; exact p1
  have c0 : (H.lo.fresh cs).cell (H.lo.next : Nat) 0 = some (.int .i64 op) := p1'.cell 0
  have c1 : (H.lo.fresh cs).cell (H.lo.next : Nat) 1 = some (.int .i64 w) := p1'.cell 1
  have c8 : (H.lo.fresh cs).cell (H.lo.next : Nat) 8 = some (.int .i64 a) := p1'.cell 8
  have c9 : (H.lo.fresh cs).cell (H.lo.next : Nat) 9 = some (.slice (kA (X.encs ks) ks.length) ks.length (kC kc ks.length) (kE ks.length)) := p1'.cell 9
  have hs := same_keep p1 o1 (Keep.refl (fun _ => False) _) (fun h => h)
  have l2 : (H.lo.fresh cs).low = H.next := rfl
  cases hf with
  | @slice w a x h1 h2 h3 =>
    have hx := hx0 _ rfl
    obtain ⟨k0, rfl, w0⟩ := mapw1 hws
    have q0 : vcall T ext promo n 159 [.int .i64 0, .ptr (some ((H.lo.next : Nat), 0))] (H.lo.fresh cs) = some (.int .i64 k0.w, H.lo.fresh cs) := kidW_ok' n (by omega) p1' 0 (by simp)
    rw [w0] at q0
    unfold F107
    simp only [letH_mk, hcs]
    generalize H.lo.fresh cs = H2 at *
    generalize H.lo.next = b at *
    have hs' : H2.same H2 b = true := by simpa [allSame] using hs
    simp (config := { decide := true }) only [KA, KB, KD, KE,  reduceCtorEq, if_false, if_true, c0, c1, c8, c9, ieq_dec, Int.reduceEq, q0, bkl, freeOf, Tag.free, allSame, hs', Bool.and_true, Bool.true_and, Bool.or_true, Bool.true_or, Bool.and_self, Bool.or_self, Nat.reduceSub, ile_eq, if_true, if_false, decide_true, decide_false, h1, h2, h3, fw_i64 (n := x - w) (by omega) (by omega)]
    exact congrArg some (by rw [leave_flat l2 rfl])
  | part =>
    obtain ⟨k0, k1, rfl, w0, w1⟩ := mapw2 hws
    have q0 : vcall T ext promo n 159 [.int .i64 0, .ptr (some ((H.lo.next : Nat), 0))] (H.lo.fresh cs) = some (.int .i64 k0.w, H.lo.fresh cs) := kidW_ok' n (by omega) p1' 0 (by simp)
    rw [w0] at q0
    have q1 : vcall T ext promo n 159 [.int .i64 1, .ptr (some ((H.lo.next : Nat), 0))] (H.lo.fresh cs) = some (.int .i64 k1.w, H.lo.fresh cs) := kidW_ok' n (by omega) p1' 1 (by simp)
    rw [w1] at q1
    unfold F107
    simp only [letH_mk, hcs]
    generalize H.lo.fresh cs = H2 at *
    generalize H.lo.next = b at *
    have hs' : H2.same H2 b = true := by simpa [allSame] using hs
    simp (config := { decide := true }) only [KA, KB, KD, KE,  reduceCtorEq, if_false, if_true, c0, c1, c8, c9, ieq_dec, Int.reduceEq, q0, q1, bkl, freeOf, Tag.free, allSame, hs', Bool.and_true, Bool.true_and, Bool.or_true, Bool.true_or, Bool.and_self, Bool.or_self, Nat.reduceSub, ile_eq, if_true, if_false, decide_true, decide_false]
    exact congrArg some (by rw [leave_flat l2 rfl])
  | resize =>
    obtain ⟨k0, rfl, w0⟩ := mapw1 hws
    have q0 : vcall T ext promo n 159 [.int .i64 0, .ptr (some ((H.lo.next : Nat), 0))] (H.lo.fresh cs) = some (.int .i64 k0.w, H.lo.fresh cs) := kidW_ok' n (by omega) p1' 0 (by simp)
    rw [w0] at q0
    unfold F107
    simp only [letH_mk, hcs]
    generalize H.lo.fresh cs = H2 at *
    generalize H.lo.next = b at *
    have hs' : H2.same H2 b = true := by simpa [allSame] using hs
    simp (config := { decide := true }) only [KA, KB, KD, KE,  reduceCtorEq, if_false, if_true, c0, c1, c8, c9, ieq_dec, Int.reduceEq, q0, bkl, freeOf, Tag.free, allSame, hs', Bool.and_true, Bool.true_and, Bool.or_true, Bool.true_or, Bool.and_self, Bool.or_self, Nat.reduceSub, ile_eq, if_true, if_false, decide_true, decide_false]
    exact congrArg some (by rw [leave_flat l2 rfl])
  | un h =>
    rcases h with rfl | rfl
    all_goals
      obtain ⟨k0, rfl, w0⟩ := mapw1 hws
      have q0 : vcall T ext promo n 159 [.int .i64 0, .ptr (some ((H.lo.next : Nat), 0))] (H.lo.fresh cs) = some (.int .i64 k0.w, H.lo.fresh cs) := kidW_ok' n (by omega) p1' 0 (by simp)
      rw [w0] at q0
      unfold F107
      simp only [letH_mk, hcs]
      generalize H.lo.fresh cs = H2 at *
      generalize H.lo.next = b at *
      have hs' : H2.same H2 b = true := by simpa [allSame] using hs
      simp (config := { decide := true }) only [KA, KB, KD, KE,  reduceCtorEq, if_false, if_true, c0, c1, c8, c9, ieq_dec, Int.reduceEq, q0, bkl, freeOf, Tag.free, allSame, hs', Bool.and_true, Bool.true_and, Bool.or_true, Bool.true_or, Bool.and_self, Bool.or_self, Nat.reduceSub, ile_eq, if_true, if_false, decide_true, decide_false]
      exact congrArg some (by rw [leave_flat l2 rfl])
  | red h =>
    rcases h with rfl | rfl | rfl | rfl
    all_goals
      obtain ⟨k0, rfl, w0⟩ := mapw1 hws
      have q0 : vcall T ext promo n 159 [.int .i64 0, .ptr (some ((H.lo.next : Nat), 0))] (H.lo.fresh cs) = some (.int .i64 k0.w, H.lo.fresh cs) := kidW_ok' n (by omega) p1' 0 (by simp)
      rw [w0] at q0
      unfold F107
      simp only [letH_mk, hcs]
      generalize H.lo.fresh cs = H2 at *
      generalize H.lo.next = b at *
      have hs' : H2.same H2 b = true := by simpa [allSame] using hs
      simp (config := { decide := true }) only [KA, KB, KD, KE,  reduceCtorEq, if_false, if_true, c0, c1, c8, c9, ieq_dec, Int.reduceEq, q0, bkl, freeOf, Tag.free, allSame, hs', Bool.and_true, Bool.true_and, Bool.or_true, Bool.true_or, Bool.and_self, Bool.or_self, Nat.reduceSub, ile_eq, if_true, if_false, decide_true, decide_false]
      exact congrArg some (by rw [leave_flat l2 rfl])
  | both h =>
    rcases h with rfl | rfl
    all_goals
      obtain ⟨k0, k1, rfl, w0, w1⟩ := mapw2 hws
      have q0 : vcall T ext promo n 159 [.int .i64 0, .ptr (some ((H.lo.next : Nat), 0))] (H.lo.fresh cs) = some (.int .i64 k0.w, H.lo.fresh cs) := kidW_ok' n (by omega) p1' 0 (by simp)
      rw [w0] at q0
      have q1 : vcall T ext promo n 159 [.int .i64 1, .ptr (some ((H.lo.next : Nat), 0))] (H.lo.fresh cs) = some (.int .i64 k1.w, H.lo.fresh cs) := kidW_ok' n (by omega) p1' 1 (by simp)
      rw [w1] at q1
      unfold F107
      simp only [letH_mk, hcs]
      generalize H.lo.fresh cs = H2 at *
      generalize H.lo.next = b at *
      have hs' : H2.same H2 b = true := by simpa [allSame] using hs
      simp (config := { decide := true }) only [KA, KB, KD, KE,  reduceCtorEq, if_false, if_true, c0, c1, c8, c9, ieq_dec, Int.reduceEq, q0, q1, bkl, freeOf, Tag.free, allSame, hs', Bool.and_true, Bool.true_and, Bool.or_true, Bool.true_or, Bool.and_self, Bool.or_self, Nat.reduceSub, ile_eq, if_true, if_false, decide_true, decide_false]
      exact congrArg some (by rw [leave_flat l2 rfl])
  | bin h =>
    rcases h with rfl | rfl | rfl | rfl | rfl | rfl | rfl | rfl
    all_goals
      obtain ⟨k0, k1, rfl, w0, w1⟩ := mapw2 hws
      have q0 : vcall T ext promo n 159 [.int .i64 0, .ptr (some ((H.lo.next : Nat), 0))] (H.lo.fresh cs) = some (.int .i64 k0.w, H.lo.fresh cs) := kidW_ok' n (by omega) p1' 0 (by simp)
      rw [w0] at q0
      have q1 : vcall T ext promo n 159 [.int .i64 1, .ptr (some ((H.lo.next : Nat), 0))] (H.lo.fresh cs) = some (.int .i64 k1.w, H.lo.fresh cs) := kidW_ok' n (by omega) p1' 1 (by simp)
      rw [w1] at q1
      unfold F107
      simp only [letH_mk, hcs]
      generalize H.lo.fresh cs = H2 at *
      generalize H.lo.next = b at *
      have hs' : H2.same H2 b = true := by simpa [allSame] using hs
      simp (config := { decide := true }) only [KA, KB, KD, KE,  reduceCtorEq, if_false, if_true, c0, c1, c8, c9, ieq_dec, Int.reduceEq, q0, q1, bkl, freeOf, Tag.free, allSame, hs', Bool.and_true, Bool.true_and, Bool.or_true, Bool.true_or, Bool.and_self, Bool.or_self, Nat.reduceSub, ile_eq, if_true, if_false, decide_true, decide_false]
      exact congrArg some (by rw [leave_flat l2 rfl])
  | shift h =>
    rcases h with rfl | rfl | rfl
    all_goals
      obtain ⟨k0, k1, rfl, w0, w1⟩ := mapw2 hws
      have q0 : vcall T ext promo n 159 [.int .i64 0, .ptr (some ((H.lo.next : Nat), 0))] (H.lo.fresh cs) = some (.int .i64 k0.w, H.lo.fresh cs) := kidW_ok' n (by omega) p1' 0 (by simp)
      rw [w0] at q0
      have q1 : vcall T ext promo n 159 [.int .i64 1, .ptr (some ((H.lo.next : Nat), 0))] (H.lo.fresh cs) = some (.int .i64 k1.w, H.lo.fresh cs) := kidW_ok' n (by omega) p1' 1 (by simp)
      rw [w1] at q1
      unfold F107
      simp only [letH_mk, hcs]
      generalize H.lo.fresh cs = H2 at *
      generalize H.lo.next = b at *
      have hs' : H2.same H2 b = true := by simpa [allSame] using hs
      simp (config := { decide := true }) only [KA, KB, KD, KE,  reduceCtorEq, if_false, if_true, c0, c1, c8, c9, ieq_dec, Int.reduceEq, q0, q1, bkl, freeOf, Tag.free, allSame, hs', Bool.and_true, Bool.true_and, Bool.or_true, Bool.true_or, Bool.and_self, Bool.or_self, Nat.reduceSub, ile_eq, if_true, if_false, decide_true, decide_false]
      exact congrArg some (by rw [leave_flat l2 rfl])
  | cmp h =>
    rcases h with rfl | rfl | rfl | rfl | rfl | rfl
    all_goals
      obtain ⟨k0, k1, rfl, w0, w1⟩ := mapw2 hws
      have q0 : vcall T ext promo n 159 [.int .i64 0, .ptr (some ((H.lo.next : Nat), 0))] (H.lo.fresh cs) = some (.int .i64 k0.w, H.lo.fresh cs) := kidW_ok' n (by omega) p1' 0 (by simp)
      rw [w0] at q0
      have q1 : vcall T ext promo n 159 [.int .i64 1, .ptr (some ((H.lo.next : Nat), 0))] (H.lo.fresh cs) = some (.int .i64 k1.w, H.lo.fresh cs) := kidW_ok' n (by omega) p1' 1 (by simp)
      rw [w1] at q1
      unfold F107
      simp only [letH_mk, hcs]
      generalize H.lo.fresh cs = H2 at *
      generalize H.lo.next = b at *
      have hs' : H2.same H2 b = true := by simpa [allSame] using hs
      simp (config := { decide := true }) only [KA, KB, KD, KE,  reduceCtorEq, if_false, if_true, c0, c1, c8, c9, ieq_dec, Int.reduceEq, q0, q1, bkl, freeOf, Tag.free, allSame, hs', Bool.and_true, Bool.true_and, Bool.or_true, Bool.true_or, Bool.and_self, Bool.or_self, Nat.reduceSub, ile_eq, if_true, if_false, decide_true, decide_false]
      exact congrArg some (by rw [leave_flat l2 rfl])
  | cond =>
    obtain ⟨k0, k1, k2, rfl, w0, w1, w2⟩ := mapw3 hws
    have q0 : vcall T ext promo n 159 [.int .i64 0, .ptr (some ((H.lo.next : Nat), 0))] (H.lo.fresh cs) = some (.int .i64 k0.w, H.lo.fresh cs) := kidW_ok' n (by omega) p1' 0 (by simp)
    rw [w0] at q0
    have q1 : vcall T ext promo n 159 [.int .i64 1, .ptr (some ((H.lo.next : Nat), 0))] (H.lo.fresh cs) = some (.int .i64 k1.w, H.lo.fresh cs) := kidW_ok' n (by omega) p1' 1 (by simp)
    rw [w1] at q1
    have q2 : vcall T ext promo n 159 [.int .i64 2, .ptr (some ((H.lo.next : Nat), 0))] (H.lo.fresh cs) = some (.int .i64 k2.w, H.lo.fresh cs) := kidW_ok' n (by omega) p1' 2 (by simp)
    rw [w2] at q2
    unfold F107
    simp only [letH_mk, hcs]
    generalize H.lo.fresh cs = H2 at *
    generalize H.lo.next = b at *
    have hs' : H2.same H2 b = true := by simpa [allSame] using hs
    simp (config := { decide := true }) only [KA, KB, KD, KE,  reduceCtorEq, if_false, if_true, c0, c1, c8, c9, ieq_dec, Int.reduceEq, q0, q1, q2, bkl, freeOf, Tag.free, allSame, hs', Bool.and_true, Bool.true_and, Bool.or_true, Bool.true_or, Bool.and_self, Bool.or_self, Nat.reduceSub, ile_eq, if_true, if_false, decide_true, decide_false]
    exact congrArg some (by rw [leave_flat l2 rfl])
  | @rep w a x h1 h2 h3 =>
    have hx := hx0 _ rfl
    obtain ⟨k0, rfl, w0⟩ := mapw1 hws
    have q0 : vcall T ext promo n 159 [.int .i64 0, .ptr (some ((H.lo.next : Nat), 0))] (H.lo.fresh cs) = some (.int .i64 k0.w, H.lo.fresh cs) := kidW_ok' n (by omega) p1' 0 (by simp)
    rw [w0] at q0
    unfold F107
    simp only [letH_mk, hcs]
    generalize H.lo.fresh cs = H2 at *
    generalize H.lo.next = b at *
    have hs' : H2.same H2 b = true := by simpa [allSame] using hs
    simp (config := { decide := true }) only [KA, KB, KD, KE,  reduceCtorEq, if_false, if_true, c0, c1, c8, c9, ieq_dec, Int.reduceEq, q0, bkl, freeOf, Tag.free, allSame, hs', Bool.and_true, Bool.true_and, Bool.or_true, Bool.true_or, Bool.and_self, Bool.or_self, Nat.reduceSub, ile_eq, if_true, if_false, decide_true, decide_false, h1, h2, h3, fw_i64 (n := w) (by omega) (by omega)]
    exact congrArg some (by rw [leave_flat l2 rfl])
end
/- Expressions of designs as trees: valid ones are accepted by the checker (outside of functions, without calls). -/
section
set_option linter.unusedSectionVars false
set_option linter.unusedSimpArgs false
set_option linter.unusedVariables false
set_option maxRecDepth 10000
/-- A signal. -/
structure Sg where
  nm : PS
  port : Int
  kind : Int
  w : Int
  sgn : Bool
  elems : Int
  ia : Option (Bk × Nat)
  il : Nat
  ic : Option Nat
  ie : Nat
def Sg.enc (g : Sg) : List AV := [.str g.nm, .int .i64 g.port, .int .i64 g.kind, .int .i64 g.w, .bool g.sgn, .int .i64 g.elems, .slice g.ia g.il g.ic g.ie]
def encS : List Sg → List AV
  | [] => []
  | g :: gs => g.enc ++ encS gs
theorem Sg.enc_len (g : Sg) : g.enc.length = 7 := rfl
theorem encS_get : ∀ (gs : List Sg) (i o : Nat) (h : i < gs.length), o < 7 → (encS gs)[i * 7 + o]? = gs[i].enc[o]?
  | [], i, o, h, _ => by simp at h
  | g :: gs, 0, o, h, ho => by
    rw [encS, List.getElem?_append_left (by rw [Sg.enc_len]; omega)]
    simp
  | g :: gs, i + 1, o, h, ho => by
    rw [encS, List.getElem?_append_right (by rw [Sg.enc_len]; omega), Sg.enc_len, show (i + 1) * 7 + o - 7 = i * 7 + o by omega, encS_get gs i o (by simpa using h) ho]
    rfl
theorem sig_cell (gs : List Sg) (i o : Nat) (h : i < gs.length) (ho : o < 7) (H : VH) : H.cell (.pur (encS gs)) ((0 + ((i : Nat) : Int).toNat * 7) + o) = gs[i].enc[o]? := by
  rw [cell_pur, Int.toNat_natCast, Nat.zero_add, encS_get gs i o h ho]
def kE7 : Nat → Nat
  | 0 => 0
  | _ + 1 => 7
abbrev sigsV (gs : List Sg) (c : Option Nat) : AV := .slice (kA (encS gs) gs.length) gs.length (kC c gs.length) (kE7 gs.length)
/-- Signals that can be frozen: their lists of first values are never written. -/
structure Cx (gs : List Sg) (c : Option Nat) : Prop where
  frz : FrzId 5 (.tuple [sigsV gs c, .bool true])
  flt : flat (.tuple [sigsV gs c, .bool true]) = true
theorem vars_ok (n : Nat) (hn : 1 ≤ n) {gs : List Sg} {c : Option Nat} (hx : Cx gs c) (nm : PS) (a2 : Option (Bk × Nat)) (k2 : Nat) (c2 : Option Nat) (e2 : Nat) (a3 : Option (Bk × Nat)) (k3 : Nat) (c3 : Option Nat) (e3 : Nat) (a4 : Option (Bk × Nat)) (k4 : Nat) (c4 : Option Nat) (e4 : Nat) (b6 b7 : Bool) (H : VH) :
    vcall T ext promo n 158 [.agg [.str nm, sigsV gs c, .slice a2 k2 c2 e2, .slice a3 k3 c3 e3, .slice a4 k4 c4 e4, .int .i64 (-1), .bool b6, .bool b7], .bool false] H = some (.tuple [sigsV gs c, .bool true], H) := by
  obtain ⟨n, rfl⟩ : ∃ m, n = m + 1 := ⟨n - 1, by omega⟩
  apply ok158
  unfold F158
  simp (config := { decide := true }) only [KA, KB, KD, KE,  reduceCtorEq, if_false, if_true, BEq.rfl, Bool.not_true]
  exact congrArg some (back_pure hx.frz hx.flt)
theorem when_ok' (n : Nat) (hn : 1 ≤ n) (b : Bool) (x : Int) (H : VH) : vcall T ext promo n 56 [.bool b, .int .i64 x] H = some (.int .i64 (if b then x else 0), H) := by
  obtain ⟨n, rfl⟩ : ∃ m, n = m + 1 := ⟨n - 1, by omega⟩
  apply ok56
  unfold F56
  cases b
  all_goals
    simp only [KA, KB, KD, KE,  reduceCtorEq, if_false, if_true]
    exact congrArg some (by rw [leave_flat rfl rfl])
theorem named_ok (n : Nat) (hn : 3 ≤ n) {gs : List Sg} {c : Option Nat} (hx : Cx gs c) (nm : PS) (a2 : Option (Bk × Nat)) (k2 : Nat) (c2 : Option Nat) (e2 : Nat) (a3 : Option (Bk × Nat)) (k3 : Nat) (c3 : Option Nat) (e3 : Nat) (a4 : Option (Bk × Nat)) (k4 : Nat) (c4 : Option Nat) (e4 : Nat) (b6 b7 : Bool)
    {op w : Int} (hop : op = 1 ∨ op = 2) (s : Bool) (nw nv nx : Int) (i : Nat) {g : Sg} (hi : gs[i]? = some g) (hw : g.w = w) (he : op = 1 → g.elems = 1) (a : Int) (a9 : Option (Bk × Nat)) (k9 : Nat) (c9 : Option Nat) (e9 : Nat) (H : VH) :
    vcall T ext promo n 105 [.agg [.str nm, sigsV gs c, .slice a2 k2 c2 e2, .slice a3 k3 c3 e3, .slice a4 k4 c4 e4, .int .i64 (-1), .bool b6, .bool b7], .agg [.int .i64 op, .int .i64 w, .bool s, .int .i64 nw, .int .u64 nv, .int .u64 nx, .int .i64 (i : Int), .bool false, .int .i64 a, .slice a9 k9 c9 e9]] H = some (.int .i64 0, H) := by
  obtain ⟨n, rfl⟩ : ∃ m, n = m + 1 := ⟨n - 1, by omega⟩
  obtain ⟨hlt, hg⟩ := List.getElem?_eq_some_iff.1 hi
  have q5 : ∀ H : VH, H.cell (.pur (encS gs)) ((0 + ((i : Nat) : Int).toNat * 7) + 5) = some (.int .i64 g.elems) := fun H => by rw [sig_cell gs i 5 hlt (by omega), hg]; rfl
  have q3 : ∀ H : VH, H.cell (.pur (encS gs)) ((0 + ((i : Nat) : Int).toNat * 7) + 3) = some (.int .i64 g.w) := fun H => by rw [sig_cell gs i 3 hlt (by omega), hg]; rfl
  apply ok105
  unfold F105
  simp only [letH_mk]
  rw [vars_ok n (by omega) hx]
  simp only [KA, KB, KD, KE,  reduceCtorEq, if_false, if_true]
  rw [if_neg (by omega)]
  simp only [decide_eq_false (show ¬ ((gs.length : Int) ≤ (i : Int)) by omega)]
  rw [kA_pos _ (by omega)]
  rcases hop with rfl | rfl
  · simp only [KA, KB, KD, KE,  reduceCtorEq, if_false, if_true, ieq_dec, decide_true, Bool.and_eq_true]
    rw [if_pos (by omega), q5]
    simp only [KA, KB, KD, KE,  reduceCtorEq, if_false, if_true, he rfl, ieq_dec, decide_true]
    rw [if_pos (by omega), q3]
    simp only [KA, KB, KD, KE,  reduceCtorEq, if_false, if_true, hw, ieq_dec, decide_true]
    rw [when_ok' n (by omega)]
    simp only [KA, KB, KD, KE,  reduceCtorEq, if_false, if_true]
    exact congrArg some (by rw [leave_flat rfl rfl])
  · simp only [KA, KB, KD, KE,  reduceCtorEq, if_false, if_true, ieq_dec, Int.reduceEq, decide_false, Bool.and_eq_true]
    rw [if_pos (by omega), q3]
    simp only [KA, KB, KD, KE,  reduceCtorEq, if_false, if_true, hw, ieq_dec, decide_true]
    rw [when_ok' n (by omega)]
    simp only [KA, KB, KD, KE,  reduceCtorEq, if_false, if_true]
    exact congrArg some (by rw [leave_flat rfl rfl])
/-- The valid expressions over some signals (outside of functions, without calls). -/
inductive XV (gs : List Sg) : X → Prop where
  | const {w : Nat} {s : Bool} {v x : BitVec 64} {kc : Option Nat} : Vec w v x → XV gs (.mk 0 w s w (u64 v) (u64 x) 0 false 0 kc [])
  | ref {w : Int} {s : Bool} {i : Nat} {g : Sg} {kc : Option Nat} : gs[i]? = some g → g.w = w → g.elems = 1 → 1 ≤ w → w ≤ 64 → XV gs (.mk 1 w s 0 0 0 i false 0 kc [])
  | elem {w : Int} {s : Bool} {i : Nat} {g : Sg} {kc : Option Nat} {k : X} : gs[i]? = some g → g.w = w → 1 ≤ w → w ≤ 64 → XV gs k → XV gs (.mk 2 w s 0 0 0 i false 0 kc [k])
  | oper {op w a : Int} {s : Bool} {kc : Option Nat} {ks : List X} : Fit op w a (ks.map X.w) → 1 ≤ w → w ≤ 64 → (singX op = true → s = false) → (∀ k ∈ ks, XV gs k) → XV gs (.mk op w s 0 0 0 0 false a kc ks)
theorem XV.w_ok {gs : List Sg} {e : X} (h : XV gs e) : 1 ≤ e.w ∧ e.w ≤ 64 := by
  cases h with
  | const h =>
    have := h.pos
    have := h.le
    show 1 ≤ ((_ : Nat) : Int) ∧ ((_ : Nat) : Int) ≤ 64
    omega
  | ref _ _ _ h1 h2 => exact ⟨h1, h2⟩
  | elem _ _ h1 h2 _ => exact ⟨h1, h2⟩
  | oper _ h1 h2 _ _ => exact ⟨h1, h2⟩
theorem Fit.op_ok {op w a : Int} {ws : List Int} (h : Fit op w a ws) : 3 ≤ op ∧ op ≤ 33 := by
  cases h <;> omega
theorem XV.kids_ok {gs : List Sg} {e : X} (h : XV gs e) : ∀ k ∈ e.kids, XV gs k := by
  cases h with
  | const _ => intro k hk; cases hk
  | ref _ _ _ _ _ => intro k hk; cases hk
  | elem _ _ _ _ hk =>
    intro k hm
    obtain rfl : k = _ := by simpa [X.kids] using hm
    exact hk
  | oper _ _ _ _ hk => exact hk
theorem form_const (n : Nat) (hn : 5 ≤ n) (w : Int) (s : Bool) (nw nv nx : Int) (kc : Option Nat) (H : VH) : vcall T ext promo n 104 [.agg (X.mk 0 w s nw nv nx 0 false 0 kc []).enc] H = some (.bool true, H) := by
  obtain ⟨n, rfl⟩ : ∃ m, n = m + 1 := ⟨n - 1, by omega⟩
  rw [X.enc_mk]
  apply ok104
  unfold F104
  simp only [letH_mk]
  rw [arity_ok' n (by omega) (by omega)]
  simp (config := { decide := true }) only [KA, KB, KD, KE,  reduceCtorEq, if_false, if_true, List.length_nil, ieq_dec, Int.reduceEq, arityX, if_true, if_false]
  rw [single_ok' n (by omega)]
  simp (config := { decide := true }) only [KA, KB, KD, KE,  reduceCtorEq, if_false, if_true, singX]
  rw [leave_flat rfl rfl]
theorem form_ref (n : Nat) (hn : 5 ≤ n) (w : Int) (s : Bool) (i : Int) (l : Bool) (kc : Option Nat) (H : VH) : vcall T ext promo n 104 [.agg (X.mk 1 w s 0 0 0 i l 0 kc []).enc] H = some (.bool true, H) := by
  obtain ⟨n, rfl⟩ : ∃ m, n = m + 1 := ⟨n - 1, by omega⟩
  rw [X.enc_mk]
  apply ok104
  unfold F104
  simp only [letH_mk]
  rw [arity_ok' n (by omega) (by omega)]
  simp (config := { decide := true }) only [KA, KB, KD, KE,  reduceCtorEq, if_false, if_true, List.length_nil, ieq_dec, Int.reduceEq, eqz, arityX, if_true, if_false]
  rw [single_ok' n (by omega)]
  simp (config := { decide := true }) only [KA, KB, KD, KE,  reduceCtorEq, if_false, if_true, singX]
  rw [leave_flat rfl rfl]
theorem form_elem (n : Nat) (hn : 5 ≤ n) (w : Int) (s : Bool) (i : Int) (l : Bool) (kc : Option Nat) (k : X) (H : VH) : vcall T ext promo n 104 [.agg (X.mk 2 w s 0 0 0 i l 0 kc [k]).enc] H = some (.bool true, H) := by
  obtain ⟨n, rfl⟩ : ∃ m, n = m + 1 := ⟨n - 1, by omega⟩
  rw [X.enc_mk]
  generalize kA (X.encs [k]) [k].length = ka
  generalize kC kc [k].length = kc'
  generalize kE [k].length = ke
  apply ok104
  unfold F104
  simp only [letH_mk]
  rw [arity_ok' n (by omega) (by omega)]
  simp (config := { decide := true }) only [KA, KB, KD, KE,  reduceCtorEq, if_false, if_true, List.length_cons, List.length_nil, ieq_dec, Int.reduceEq, eqz, arityX, if_true, if_false]
  rw [single_ok' n (by omega)]
  simp (config := { decide := true }) only [KA, KB, KD, KE,  reduceCtorEq, if_false, if_true, singX]
  rw [leave_flat rfl rfl]
end
/- Expressions of designs as trees: the checker accepts the valid ones. -/
section
set_option linter.unusedSectionVars false
set_option linter.unusedSimpArgs false
set_option linter.unusedVariables false
set_option maxRecDepth 10000
/-- A checker outside of functions. -/
abbrev ckV (nm : PS) (gs : List Sg) (c : Option Nat) (a2 : Option (Bk × Nat)) (k2 : Nat) (c2 : Option Nat) (e2 : Nat) (a3 : Option (Bk × Nat)) (k3 : Nat) (c3 : Option Nat) (e3 : Nat) (a4 : Option (Bk × Nat)) (k4 : Nat) (c4 : Option Nat) (e4 : Nat) (b6 b7 : Bool) : AV :=
  .agg [.str nm, sigsV gs c, .slice a2 k2 c2 e2, .slice a3 k3 c3 e3, .slice a4 k4 c4 e4, .int .i64 (-1), .bool b6, .bool b7]
theorem check_loop (n : Nat) {gs : List Sg} {c : Option Nat} (nm : PS) (a2 : Option (Bk × Nat)) (k2 : Nat) (c2 : Option Nat) (e2 : Nat) (a3 : Option (Bk × Nat)) (k3 : Nat) (c3 : Option Nat) (e3 : Nat) (a4 : Option (Bk × Nat)) (k4 : Nat) (c4 : Option Nat) (e4 : Nat) (b6 b7 : Bool) (ks : List X) (hks : ks.length < 1000000) (H : VH)
    (ih : ∀ e ∈ ks, vcall T ext promo n 65 [ckV nm gs c a2 k2 c2 e2 a3 k3 c3 e3 a4 k4 c4 e4 b6 b7, .agg e.enc] H = some (.int .i64 0, H)) :
    ∀ (m i : Nat), i ≤ ks.length → ks.length - i < m →
      loopN (L65_0 (vcall T ext promo n) n nm (kA (encS gs) gs.length) (kC c gs.length) (kE7 gs.length) gs.length a2 c2 e2 k2 a3 c3 e3 k3 a4 c4 e4 k4 (-1) b6 b7 (kA (X.encs ks) ks.length) ks.length) m [.int .i64 (i : Int)] H = some (.exit 0, [], H) := by
  intro m
  induction m with
  | zero => intro i _ h; omega
  | succ m ihm =>
    intro i hi hm
    rw [loopN_succ]
    generalize hlp : loopN (L65_0 (vcall T ext promo n) n nm (kA (encS gs) gs.length) (kC c gs.length) (kE7 gs.length) gs.length a2 c2 e2 k2 a3 c3 e3 k3 a4 c4 e4 k4 (-1) b6 b7 (kA (X.encs ks) ks.length) ks.length) m = lp at ihm ⊢
    unfold L65_0
    simp only [KA, KB, KD, KE,  reduceCtorEq, if_false, if_true, Bool.and_eq_true]
    by_cases h : i < ks.length
    · have e1 := ih ks[i] (List.getElem_mem h)
      rw [if_pos (by omega), kA_pos (X.encs ks) (by omega)]
      simp only [KA, KB, KD, KE,  reduceCtorEq, if_false, if_true]
      rw [if_pos (by omega), X.kid_cells ks i h]
      have := ihm (i + 1) (by omega) (by omega)
      generalize hk : ks[i] = k at *
      obtain ⟨op, w, s, nw, nv, nx, sg, l, at', kc, kids⟩ := k
      rw [X.enc_mk] at e1 ⊢
      simp only [KA, KB, KD, KE,  reduceCtorEq, if_false, if_true]
      rw [e1]
      simp only [KA, KB, KD, KE,  reduceCtorEq, if_false, if_true, ieq_dec, decide_true]
      rw [fw_i64 (by omega) (by omega), show (i : Int) + 1 = ((i + 1 : Nat) : Int) by omega]
      exact this
    · rw [if_neg (by omega)]
theorem xcheck_ok {gs : List Sg} {c : Option Nat} (hx : Cx gs c) (nm : PS) (a2 : Option (Bk × Nat)) (k2 : Nat) (c2 : Option Nat) (e2 : Nat) (a3 : Option (Bk × Nat)) (k3 : Nat) (c3 : Option Nat) (e3 : Nat) (a4 : Option (Bk × Nat)) (k4 : Nat) (c4 : Option Nat) (e4 : Nat) (b6 b7 : Bool) :
    ∀ (k : Nat) (e : X), e.size ≤ k → e.size < 1000000 → XV gs e → ∀ n, 3 * k + 30 ≤ n → ∀ {H : VH}, H.Ok → vcall T ext promo n 65 [ckV nm gs c a2 k2 c2 e2 a3 k3 c3 e3 a4 k4 c4 e4 b6 b7, .agg e.enc] H = some (.int .i64 0, H) := by
  intro k
  induction k with
  | zero => intro e h; have := e.size_pos; omega
  | succ k ih =>
    intro e he hs hv n hn H hH
    obtain ⟨n, rfl⟩ : ∃ m, n = m + 1 := ⟨n - 1, by omega⟩
    have hw := hv.w_ok
    have hkids := hv.kids_ok
    have hsz : X.sizes e.kids + 1 = e.size := by cases e; rw [X.size]; exact Nat.add_comm _ _
    have hll := X.len_sizes e.kids
    have h0 := check_loop n (gs := gs) (c := c) nm a2 k2 c2 e2 a3 k3 c3 e3 a4 k4 c4 e4 b6 b7 e.kids (by omega) H.lo (fun x hm => ih x (by have := X.mem_size hm; omega) (by have := X.mem_size hm; omega) (hkids x hm) n (by omega) (lo_ok hH)) n 0 (by omega) (by omega)
    rw [show ((0 : Nat) : Int) = 0 from rfl] at h0
    cases hv with
    | @const w s v x kc h =>
      have hf := form_const n (by omega) (w : Int) s (w : Int) (u64 v) (u64 x) kc H.lo
      simp only [X.kids] at h0
      rw [X.enc_mk] at hf ⊢
      have h1 := h.pos
      have h2 := h.le
      apply ok65
      unfold F65
      simp only [letH_mk]
      rw [h0]
      simp only [KA, KB, KD, KE,  reduceCtorEq, if_false, if_true]
      rw [if_neg (by decide), if_neg (by decide), if_neg (by omega)]
      simp only [KA, KB, KD, KE,  reduceCtorEq, if_false, if_true, decide_eq_false (show ¬ ((64 : Int) < (w : Int)) by omega)]
      rw [hf]
      simp only [KA, KB, KD, KE,  reduceCtorEq, if_false, if_true, ieq_dec, decide_true]
      rw [check_ok _ (by omega) h]
      simp only [KA, KB, KD, KE,  reduceCtorEq, if_false, if_true, ieq_dec, decide_true]
      rw [when_ok' _ (by omega)]
      simp only [KA, KB, KD, KE,  reduceCtorEq, if_false, if_true]
      exact congrArg some (by rw [leave_flat rfl rfl])
    | @ref w s i g kc hi hg hel h1 h2 =>
      have hf := form_ref n (by omega) w s (i : Int) false kc H.lo
      have hn1 := named_ok n (by omega) hx nm a2 k2 c2 e2 a3 k3 c3 e3 a4 k4 c4 e4 b6 b7 (op := 1) (w := w) (.inl rfl) s 0 0 0 i hi hg (fun _ => hel) 0 (kA (X.encs []) ([] : List X).length) ([] : List X).length (kC kc ([] : List X).length) (kE ([] : List X).length) H.lo
      simp only [X.kids] at h0
      rw [X.enc_mk] at hf ⊢
      apply ok65
      unfold F65
      simp only [letH_mk]
      rw [h0]
      simp only [KA, KB, KD, KE,  reduceCtorEq, if_false, if_true]
      rw [if_neg (by decide), if_neg (by decide), if_neg (by omega)]
      simp only [KA, KB, KD, KE,  reduceCtorEq, if_false, if_true, decide_eq_false (show ¬ ((64 : Int) < w) by omega)]
      rw [hf]
      simp only [KA, KB, KD, KE,  reduceCtorEq, if_false, if_true, ieq_dec, Int.reduceEq, decide_true, decide_false]
      rw [hn1]
      simp only [KA, KB, KD, KE,  reduceCtorEq, if_false, if_true]
      exact congrArg some (by rw [leave_flat rfl rfl])
    | @elem w s i g kc k hi hg h1 h2 hk =>
      have hf := form_elem n (by omega) w s (i : Int) false kc k H.lo
      have hn1 := named_ok n (by omega) hx nm a2 k2 c2 e2 a3 k3 c3 e3 a4 k4 c4 e4 b6 b7 (op := 2) (w := w) (.inr rfl) s 0 0 0 i hi hg (fun h => by cases h) 0 (kA (X.encs [k]) [k].length) [k].length (kC kc [k].length) (kE [k].length) H.lo
      simp only [X.kids] at h0
      rw [X.enc_mk] at hf ⊢
      apply ok65
      unfold F65
      simp only [letH_mk]
      rw [h0]
      simp only [KA, KB, KD, KE,  reduceCtorEq, if_false, if_true]
      rw [if_neg (by decide), if_neg (by decide), if_neg (by omega)]
      simp only [KA, KB, KD, KE,  reduceCtorEq, if_false, if_true, decide_eq_false (show ¬ ((64 : Int) < w) by omega)]
      rw [hf]
      simp only [KA, KB, KD, KE,  reduceCtorEq, if_false, if_true, ieq_dec, Int.reduceEq, decide_true, decide_false]
      rw [hn1]
      simp only [KA, KB, KD, KE,  reduceCtorEq, if_false, if_true]
      exact congrArg some (by rw [leave_flat rfl rfl])
    | @oper op w a s kc ks hft h1 h2 hsg hks =>
      have hop := hft.op_ok
      have hf := form_ok n (by omega) (ks := ks) hft (List.length_map ..).symm s hsg kc H.lo
      have hfi := fits_ok n (by omega) hft rfl ⟨h1, h2, fun x hx => by obtain ⟨k', hk', rfl⟩ := List.mem_map.1 hx; exact (hks k' hk').w_ok⟩ s kc (lo_ok hH)
      simp only [X.kids] at h0
      rw [X.enc_mk] at hf hfi ⊢
      apply ok65
      unfold F65
      simp only [letH_mk]
      rw [h0]
      simp only [KA, KB, KD, KE,  reduceCtorEq, if_false, if_true]
      rw [if_neg (by omega), if_neg (by omega), if_neg (by omega)]
      simp only [KA, KB, KD, KE,  reduceCtorEq, if_false, if_true, decide_eq_false (show ¬ ((64 : Int) < w) by omega)]
      rw [hf]
      simp only [KA, KB, KD, KE,  reduceCtorEq, if_false, if_true, ieq_dec, decide_eq_false (show ¬ op = 0 by omega), decide_eq_false (show ¬ op = 1 by omega), decide_eq_false (show ¬ op = 2 by omega), decide_eq_false (show ¬ op = 34 by omega), decide_eq_false (show ¬ op = 35 by omega), show (op = 0) = False from eq_false (by omega), show (op = 1) = False from eq_false (by omega), show (op = 34) = False from eq_false (by omega), show (op = 35) = False from eq_false (by omega)]
      rw [hfi]
      simp only [KA, KB, KD, KE,  reduceCtorEq, if_false, if_true]
      rw [when_ok' _ (by omega)]
      simp only [KA, KB, KD, KE,  reduceCtorEq, if_false, if_true]
      exact congrArg some (by rw [leave_flat rfl rfl])
end
/- Expressions of designs as trees: their values (a state of pure lists). -/
section
set_option linter.unusedSectionVars false
set_option linter.unusedSimpArgs false
set_option linter.unusedVariables false
set_option maxRecDepth 10000
theorem Grow.appP {st e sz : Nat} (ht : SlT st e sz) {H : VH} {b : Nat} {v : AV} {len : Nat} {cs : List AV} (h : Grow H b e sz v len cs) (hH : H.Ok) (hb : b < H.next) (hl : len < 1000000) {c : Option Nat} {es : Nat} {new : List AV} (hc : H.cells (.pur new) 0 (1 * sz) = some new) (hn : new.length = sz) (ho : allOne new = true) :
    ∃ v' H', vbuiltin T H .append [st, st] [v, .slice (some (.pur new, 0)) 1 c es] = some (v', H') ∧ Grow H' b e sz v' (len + 1) (cs ++ new) ∧ H'.Ok ∧ Eff (fun y => b < y) H H' ∧ H'.next = H.next + 1 := by
  obtain ⟨hcs, h⟩ := h
  have hlen : (cs ++ new).length = (len + 1) * sz := by rw [List.length_append, hcs, hn, Nat.succ_mul]
  rcases h with ⟨rfl, rfl⟩ | ⟨q, rfl, h1, h2, h3⟩
  · have : cs = [] := List.length_eq_zero_iff.1 (by rw [hcs]; simp)
    subst this
    refine ⟨_, _, app_slt ht (H := H) (v := .slice none 0 (some 0) 0) (x := .slice (some (.pur new, 0)) 1 c es) (len := 0) (n := 1) (new := new) rfl rfl (by omega) (by omega) hc ho, ⟨hlen, .inr ⟨H.next, rfl, hb, ?_, by omega⟩⟩, freshT_ok hH _ _, Eff.freshT _ hH _ _, rfl⟩
    rw [List.nil_append]
    exact freshT_tip hH new _
  · obtain ⟨H', a1, a2, a3, a4, a5, a6⟩ := h2.append hH sz len 1 new hcs.symm (by rw [hn, Nat.one_mul])
    refine ⟨_, H', (app_slt ht (H := H) (v := .slice (some (q, 0)) len none sz) (x := .slice (some (.pur new, 0)) 1 c es) (len := len) (n := 1) (new := new) rfl rfl (by omega) (by omega) hc ho).trans a1, ⟨hlen, .inr ⟨H.next, rfl, hb, a2, by omega⟩⟩, a4, (Eff.of_low a3 a4 a5 (h2.lt hH)).mono fun y _ e => by rw [e]; exact h1, a6⟩
theorem sltBits : SlT 33 30 3 := ⟨by kernel_rfl, ⟨Go.Proofs.Tryz.t30, by kernel_rfl, by kernel_rfl, by decide +kernel⟩, by kernel_rfl, by decide⟩
/-- The run's block: where the signals' values lie. -/
structure RunS (H : VH) (b : Nat) (rs : List AV) : Prop where
  lt : b < H.next
  cell : ∃ c, H.cell (.blk b) 6 = some (.slice (some (.pur rs, 0)) rs.length c 1)
theorem RunS.keep {S : Nat → Prop} {H H' : VH} {b : Nat} {rs : List AV} (h : RunS H b rs) (hH : H.Ok) (k : Keep S H H') (hs : ¬ S b) : RunS H' b rs := by
  obtain ⟨h1, c, h2⟩ := h
  exact ⟨Nat.lt_of_lt_of_le h1 k.next, c, by rw [keep_cell k hH h1 hs]; exact h2⟩
theorem RunS.lo {H : VH} {b : Nat} {rs : List AV} (h : RunS H b rs) : RunS H.lo b rs := ⟨h.1, h.2⟩
abbrev b3 (w v x : Int) : List AV := [.int .i64 w, .int .u64 v, .int .u64 x]
/-- What an expression is worth in a state. -/
def EvOk (b : Nat) (rs : List AV) (N : Nat) (e : X) (val : List AV) : Prop :=
  (∃ w v x, val = b3 w v x) ∧ ∀ n, N ≤ n → ∀ H : VH, H.Ok → RunS H b rs → vcall T ext promo n 35 [.ptr (some (b, 0)), .agg e.enc] H = some (.agg val, H)
theorem EvOk.up {b : Nat} {rs : List AV} {N N' : Nat} {e : X} {val : List AV} (h : EvOk b rs N e val) (hN : N ≤ N') : EvOk b rs N' e val := ⟨h.1, fun n hn H hH hr => h.2 n (by omega) H hH hr⟩
theorem eval_loop (n N : Nat) (hN : N ≤ n) (b : Nat) (rs : List AV) (ks : List X) (hks : ks.length < 1000000) (vals : List (List AV)) (hl : vals.length = ks.length) (hv : ∀ i (h : i < ks.length), EvOk b rs N ks[i] (vals[i]'(by omega))) (g : Nat) (hg : b ≤ g) :
    ∀ (m i : Nat) (v : AV) (H : VH), i ≤ ks.length → ks.length - i < m → H.Ok → RunS H b rs → g < H.next → Grow H g 30 3 v i (vals.take i).flatten →
      ∃ v' H', loopN (L35_0 (vcall T ext promo n) n (some (b, 0)) (kA (X.encs ks) ks.length) ks.length) m [v, .int .i64 (i : Int)] H = some (.exit 1, [v'], H') ∧ Grow H' g 30 3 v' ks.length vals.flatten ∧ RunS H' b rs ∧ Eff (fun y => g < y) H H' := by
  intro m
  induction m with
  | zero => intro i v H _ h; omega
  | succ m ihm =>
    intro i v H hi hm hH hr hgn hG
    rw [loopN_succ]
    generalize hlp : loopN (L35_0 (vcall T ext promo n) n (some (b, 0)) (kA (X.encs ks) ks.length) ks.length) m = lp at ihm ⊢
    unfold L35_0
    have hsl : ∃ a k c e, v = .slice a k c e := by
      obtain ⟨_, ⟨rfl, _⟩ | ⟨q, rfl, _⟩⟩ := hG
      · exact ⟨_, _, _, _, rfl⟩
      · exact ⟨_, _, _, _, rfl⟩
    obtain ⟨a, k0, c, e, rfl⟩ := hsl
    simp only [KA, KB, KD, KE,  reduceCtorEq, if_false, if_true, Bool.and_eq_true]
    by_cases h : i < ks.length
    · obtain ⟨⟨w1, v1, x1, hval⟩, e1⟩ := hv i h
      have e1 := e1 n hN H hH hr
      rw [if_pos (by omega), kA_pos (X.encs ks) (by omega)]
      simp only [KA, KB, KD, KE,  reduceCtorEq, if_false, if_true]
      rw [if_pos (by omega), X.kid_cells ks i h]
      obtain ⟨v2, H2, a1, a2, a3, a4, a5⟩ := Grow.appP sltBits hG hH hgn (by omega) (c := some 1) (es := 3) (new := b3 w1 v1 x1) rfl rfl rfl
      have ht : (vals.take (i + 1)).flatten = (vals.take i).flatten ++ b3 w1 v1 x1 := by
        rw [List.take_add_one, List.getElem?_eq_getElem (by omega), hval]
        simp
      have hr2 := hr.keep hH a4.keep (by omega)
      rw [← ht] at a2
      obtain ⟨v', H', r1, r2, r3, r4⟩ := ihm (i + 1) v2 H2 (by omega) (by omega) a3 hr2 (by omega) a2
      have hsl2 : ∃ a k c e, v2 = .slice a k c e := by
        obtain ⟨_, ⟨rfl, _⟩ | ⟨q, rfl, _⟩⟩ := a2
        · exact ⟨_, _, _, _, rfl⟩
        · exact ⟨_, _, _, _, rfl⟩
      obtain ⟨a', k', c', e', rfl⟩ := hsl2
      refine ⟨v', H', ?_, r2, r3, a4.trans r4 (fun x hx => .inl hx)⟩
      rw [hval] at e1
      generalize hk : ks[i] = k at *
      obtain ⟨op, w, s, nw, nv, nx, sg, l, at', kc, kids⟩ := k
      rw [X.enc_mk] at e1 ⊢
      simp only [KA, KB, KD, KE,  reduceCtorEq, if_false, if_true]
      rw [e1]
      simp only [KA, KB, KD, KE,  reduceCtorEq, if_false, if_true]
      rw [a1]
      simp only [KA, KB, KD, KE,  reduceCtorEq, if_false, if_true]
      rw [fw_i64 (by omega) (by omega), show (i : Int) + 1 = ((i + 1 : Nat) : Int) by omega]
      exact r1
    · rw [if_neg (by omega)]
      obtain rfl : i = ks.length := by omega
      rw [List.take_of_length_le (by omega)] at hG
      exact ⟨_, H, rfl, hG, hr, .refl hH⟩
/-- An operation's value, by that of apply. -/
theorem eval_oper (N : Nat) {b : Nat} {rs : List AV} {op w a : Int} {s : Bool} {kc : Option Nat} {ks : List X} (hks : ks.length < N) (hN : N < 1000000) (hpos : 0 < ks.length) (hop : 3 ≤ op ∧ op ≤ 33) (vals : List (List AV)) (hl : vals.length = ks.length) (hv : ∀ i (h : i < ks.length), EvOk b rs N ks[i] (vals[i]'(by omega))) {w' v' x' : Int}
    (ha : ∀ n, N ≤ n → ∀ (H : VH) (q : Nat), H.Ok → (∀ o, H.cell (.blk q) o = vals.flatten[o]?) → vcall T ext promo n 71 [.agg (X.mk op w s 0 0 0 0 false a kc ks).enc, .slice (some (q, 0)) ks.length none 3] H = some (.agg (b3 w' v' x'), H)) :
    EvOk b rs (N + 1) (.mk op w s 0 0 0 0 false a kc ks) (b3 w' v' x') := by
  refine ⟨⟨_, _, _, rfl⟩, fun n hn H hH hr => ?_⟩
  obtain ⟨n, rfl⟩ : ∃ m, n = m + 1 := ⟨n - 1, by omega⟩
  have hbn := hr.lt
  obtain ⟨v2, H2, r1, r2, r3, r4⟩ := eval_loop n N (by omega) b rs ks (by omega) vals hl hv (H.next - 1) (by omega) n 0 (.slice none 0 (some 0) 0) H.lo (by omega) (by omega) (lo_ok hH) hr.lo (show H.next - 1 < H.next by omega) (by simpa using Grow.nil H.lo (H.next - 1) 30 3)
  obtain ⟨q, rfl, h1, h2⟩ := r2.cells hpos
  have hlow := r4.flat (fun x hx => by omega)
  have e1 := ha n (by omega) H2 q r4.ok h2
  rw [X.enc_mk] at e1 ⊢
  rw [show ((0 : Nat) : Int) = 0 from rfl] at r1
  apply ok35
  unfold F35
  simp only [KA, KB, KD, KE,  reduceCtorEq, if_false, if_true, ieq_dec, show (op = 0) = False from eq_false (by omega), show (op = 1) = False from eq_false (by omega), show (op = 2) = False from eq_false (by omega), show (op = 34) = False from eq_false (by omega), show (op = 35) = False from eq_false (by omega), decide_false]
  rw [r1]
  simp only [KA, KB, KD, KE,  reduceCtorEq, if_false, if_true]
  rw [e1]
  simp only [KA, KB, KD, KE,  reduceCtorEq, if_false, if_true]
  exact congrArg some (by rw [leave_flat hlow rfl])
theorem eval_const {b : Nat} {rs : List AV} (w : Int) (s : Bool) (nw nv nx : Int) (kc : Option Nat) : EvOk b rs 1 (.mk 0 w s nw nv nx 0 false 0 kc []) (b3 nw nv nx) := by
  refine ⟨⟨_, _, _, rfl⟩, fun n hn H hH hr => ?_⟩
  obtain ⟨n, rfl⟩ : ∃ m, n = m + 1 := ⟨n - 1, by omega⟩
  rw [X.enc_mk]
  apply ok35
  unfold F35
  simp only [KA, KB, KD, KE,  reduceCtorEq, if_false, if_true, ieq_dec, decide_true]
  exact congrArg some (by rw [leave_flat rfl rfl])
/-- A signal of one element. -/
theorem eval_ref {b : Nat} {rs : List AV} (w : Int) (s : Bool) (i : Nat) (kc : Option Nat) {w' v' x' : Int} {c : Option Nat} {e : Nat} (hi : rs[i]? = some (.slice (some (.pur (b3 w' v' x'), 0)) 1 c e)) : EvOk b rs 3 (.mk 1 w s 0 0 0 i false 0 kc []) (b3 w' v' x') := by
  refine ⟨⟨_, _, _, rfl⟩, fun n hn H hH hr => ?_⟩
  obtain ⟨n, rfl⟩ : ∃ m, n = m + 2 := ⟨n - 2, by omega⟩
  obtain ⟨hb, c0, hc⟩ := hr
  obtain ⟨hlt, _⟩ := List.getElem?_eq_some_iff.1 hi
  have e1 : vcall T ext promo (n + 1) 68 [.ptr (some (b, 0)), .agg (X.mk 1 w s 0 0 0 i false 0 kc []).enc] H.lo = some (.slice (some (.pur (b3 w' v' x'), 0)) 1 c e, H.lo) := by
    have hc' : H.lo.lo.cell (.blk b) (0 + 6) = some (.slice (some (.pur rs, 0)) rs.length c0 1) := hc
    have hq : H.lo.lo.cell (.pur rs) (0 + ((i : Nat) : Int).toNat * 1) = some (.slice (some (.pur (b3 w' v' x'), 0)) 1 c e) := by
      rw [cell_pur, Int.toNat_natCast, Nat.zero_add, Nat.mul_one]
      exact hi
    rw [X.enc_mk]
    apply ok68
    unfold F68
    simp only [KA, KB, KD, KE,  reduceCtorEq, if_false, if_true, hc', Bool.and_eq_true]
    rw [if_pos (by omega), hq]
    simp only [KA, KB, KD, KE,  reduceCtorEq, if_false, if_true]
    exact congrArg some (back_pure (fun _ => rfl) rfl)
  have hz : H.lo.cells (.pur (b3 w' v' x')) 0 3 = some (b3 w' v' x') := rfl
  rw [X.enc_mk] at e1 ⊢
  apply ok35
  unfold F35
  simp only [KA, KB, KD, KE,  reduceCtorEq, if_false, if_true, ieq_dec, Int.reduceEq, decide_true, decide_false]
  rw [e1]
  simp only [KA, KB, KD, KE,  reduceCtorEq, if_false, if_true, Bool.and_eq_true]
  rw [if_pos (by decide), hz]
  simp only [KA, KB, KD, KE,  reduceCtorEq, if_false, if_true]
  exact congrArg some (by rw [leave_flat rfl rfl])
end
/- eval.Expr at a valid expression, over a design without functions and a state of pure lists. -/
section
set_option linter.unusedSectionVars false
set_option linter.unusedSimpArgs false
set_option linter.unusedVariables false
set_option maxRecDepth 10000
abbrev nilV : AV := .slice none 0 (some 0) 0
theorem funcs0_ok (n : Nat) (hn : 2 ≤ n) (nm : PS) (a1 : Option (Bk × Nat)) (k1 : Nat) (c1 : Option Nat) (e1 : Nat) (a3 : Option (Bk × Nat)) (k3 : Nat) (c3 : Option Nat) (e3 : Nat) (a4 : Option (Bk × Nat)) (k4 : Nat) (c4 : Option Nat) (e4 : Nat) (H : VH) :
    vcall T ext promo n 67 [.agg [.str nm, .slice a1 k1 c1 e1, nilV, .slice a3 k3 c3 e3, .slice a4 k4 c4 e4]] H = some (nilV, H) := by
  obtain ⟨n, rfl⟩ : ∃ m, n = m + 2 := ⟨n - 2, by omega⟩
  apply ok67
  unfold F67
  simp only [letH_mk]
  rw [loopN_succ]
  unfold L67_0
  simp only [KA, KB, KD, KE,  reduceCtorEq, if_false, if_true]
  rw [if_neg (by decide)]
  simp only [KA, KB, KD, KE,  reduceCtorEq, if_false, if_true]
  exact congrArg some (back_pure (fun _ => rfl) rfl)
mutual
theorem XV.noCall {gs : List Sg} : ∀ {e : X}, XV gs e → e.noCall = true
  | _, .const _ => by rw [X.noCall, X.noCalls]; rfl
  | _, .ref _ _ _ _ _ => by rw [X.noCall, X.noCalls]; rfl
  | _, .elem _ _ _ _ hk => by
    rw [X.noCall, X.noCalls, X.noCalls, XV.noCall hk]
    rfl
  | _, .oper hf _ _ _ hk => by
    have := hf.op_ok
    rw [X.noCall, XV.noCalls _ hk, Bool.and_true]
    have h34 : ∀ op : Int, op ≤ 33 → ieq op 34 = false := fun op h => by rw [ieq_dec]; exact decide_eq_false (by omega)
    rw [h34 _ this.2]
    rfl
theorem XV.noCalls {gs : List Sg} : ∀ (ks : List X), (∀ k ∈ ks, XV gs k) → X.noCalls ks = true
  | [], _ => by rw [X.noCalls]
  | k :: ks, h => by
    rw [X.noCalls, XV.noCall (h k List.mem_cons_self), XV.noCalls ks (fun x hx => h x (List.mem_cons_of_mem _ hx))]
    rfl
end
theorem checkExprG_ok {gs : List Sg} {c : Option Nat} (hx : Cx gs c) (nm : PS) (a3 : Option (Bk × Nat)) (k3 : Nat) (c3 : Option Nat) (e3 : Nat) (a4 : Option (Bk × Nat)) (k4 : Nat) (c4 : Option Nat) (e4 : Nat) {e : X} (hv : XV gs e) (h1 : e.size ≤ 4000) (h2 : e.deep ≤ 40) (n : Nat) (hn : 3 * e.size + 40 ≤ n) {H : VH} (hH : H.Ok) :
    vcall T ext promo n 34 [.agg [.str nm, sigsV gs c, nilV, .slice a3 k3 c3 e3, .slice a4 k4 c4 e4], .agg e.enc] H = some (.int .i64 0, H) := by
  obtain ⟨n, rfl⟩ : ∃ m, n = m + 1 := ⟨n - 1, by omega⟩
  have e1 := xsize_ok e.size e (Nat.le_refl _) (by omega) n (by omega) H.lo
  have e2 := xcheck_ok hx nm none 0 (some 0) 0 a3 k3 c3 e3 a4 k4 c4 e4 false false e.size e (Nat.le_refl _) (by omega) hv n (by omega) (lo_ok hH)
  have e3' := xweight_ok none 0 (some 0) 0 e.size e (Nat.le_refl _) (by omega) hv.noCall n (by omega) H.lo
  generalize e.size = sz at *
  generalize e.deep = dp at *
  obtain ⟨op, w, s, nw, nv, nx, sg, l, at', kc, kids⟩ := e
  rw [X.enc_mk] at e1 e2 e3' ⊢
  apply ok34
  unfold F34
  simp only [letH_mk]
  rw [e1]
  simp only [KA, KB, KD, KE,  reduceCtorEq, if_false, if_true]
  rw [if_neg (by omega)]
  simp only [KA, KB, KD, KE,  reduceCtorEq, if_false, if_true, decide_eq_false (show ¬ ((40 : Int) < (dp : Int)) by omega)]
  rw [e2]
  simp only [KA, KB, KD, KE,  reduceCtorEq, if_false, if_true, ieq_dec, decide_true]
  rw [funcs0_ok n (by omega)]
  simp only [KA, KB, KD, KE,  reduceCtorEq, if_false, if_true]
  rw [e3']
  simp only [KA, KB, KD, KE,  reduceCtorEq, if_false, if_true, decide_eq_false (show ¬ ((20000 : Int) < (sz : Int)) by omega)]
  rw [when_ok' n (by omega)]
  simp only [KA, KB, KD, KE,  reduceCtorEq, if_false, if_true]
  exact congrArg some (by rw [leave_flat rfl rfl])
/-- Machine.Value. -/
theorem mValueG_ok {gs : List Sg} {c : Option Nat} (hx : Cx gs c) (nm : PS) (a3 : Option (Bk × Nat)) (k3 : Nat) (c3 : Option Nat) (e3 : Nat) (a4 : Option (Bk × Nat)) (k4 : Nat) (c4 : Option Nat) (e4 : Nat) {e : X} (hv : XV gs e) (h1 : e.size ≤ 4000) (h2 : e.deep ≤ 40) {rs : List AV} {rc : Option Nat} (now : Int) {N : Nat} {val : List AV} (hev : ∀ b, EvOk b rs N e val)
    (n : Nat) (hn : 3 * e.size + 50 ≤ n) (hN : N < n) {H : VH} (hH : H.Ok) (hc : vcall T ext promo (n - 1) 33 [.agg [.str nm, sigsV gs c, nilV, .slice a3 k3 c3 e3, .slice a4 k4 c4 e4, .bool true], .agg [.slice (some (.pur rs, 0)) rs.length rc 1, .int .u64 now]] H.lo = some (.int .i64 0, H.lo)) :
    vcall T ext promo n 21 [.agg [.str nm, sigsV gs c, nilV, .slice a3 k3 c3 e3, .slice a4 k4 c4 e4, .bool true], .agg [.slice (some (.pur rs, 0)) rs.length rc 1, .int .u64 now], .agg e.enc] H = some (.tuple [.agg val, .int .i64 0], H) := by
  obtain ⟨n, rfl⟩ : ∃ m, n = m + 1 := ⟨n - 1, by omega⟩
  rw [Nat.add_sub_cancel] at hc
  have e1 := checkExprG_ok hx nm a3 k3 c3 e3 a4 k4 c4 e4 hv h1 h2 n (by omega) (lo_ok hH)
  generalize hcs : ([.str nm, sigsV gs c, nilV, .slice a3 k3 c3 e3, .slice a4 k4 c4 e4, .bool true, .slice (some (.pur rs, 0)) rs.length rc 1, .int .u64 now, nilV, nilV, .int .i64 0, .int .i64 0] : List AV) = cs
  have o2 := fresh_ok (lo_ok hH) cs
  have p2 := fresh_plain (lo_ok hH) cs
  have c6 : (H.lo.fresh cs).cell (H.lo.next : Nat) 6 = some (.slice (some (.pur rs, 0)) rs.length rc 1) := by rw [p2.cell 6, ← hcs]; rfl
  have c11 : (H.lo.fresh cs).cell (H.lo.next : Nat) 11 = some (.int .i64 0) := by rw [p2.cell 11, ← hcs]; rfl
  have e2 := (hev H.lo.next).2 n (by omega) (H.lo.fresh cs) o2 ⟨Nat.lt_succ_self _, rc, c6⟩
  obtain ⟨⟨w', v', x', rfl⟩, _⟩ := hev 0
  have hl : (H.lo.fresh cs).low = H.next := rfl
  obtain ⟨op, w, s, nw, nv, nx, sg, l, at', kc, kids⟩ := e
  rw [X.enc_mk] at e1 e2 ⊢
  apply ok21
  unfold F21
  simp only [letH_mk]
  rw [hc]
  simp only [KA, KB, KD, KE,  reduceCtorEq, if_false, if_true, ieq_dec, decide_true]
  rw [e1]
  simp only [KA, KB, KD, KE,  reduceCtorEq, if_false, if_true, ieq_dec, decide_true, hcs]
  rw [e2]
  simp only [KA, KB, KD, KE,  reduceCtorEq, if_false, if_true]
  rw [c11]
  simp only [KA, KB, KD, KE,  reduceCtorEq, if_false, if_true, ieq_dec, decide_true]
  exact congrArg some (by rw [leave_flat hl rfl])
/-- eval.Expr. -/
theorem evalExprG_ok {gs : List Sg} {c : Option Nat} (hx : Cx gs c) (nm : PS) (a3 : Option (Bk × Nat)) (k3 : Nat) (c3 : Option Nat) (e3 : Nat) (a4 : Option (Bk × Nat)) (k4 : Nat) (c4 : Option Nat) (e4 : Nat)
    (hz : FrzId 5 (.tuple [.agg [.str nm, sigsV gs c, nilV, .slice a3 k3 c3 e3, .slice a4 k4 c4 e4, .bool true], .int .i64 0])) (hzf : flat (.tuple [.agg [.str nm, sigsV gs c, nilV, .slice a3 k3 c3 e3, .slice a4 k4 c4 e4, .bool true], .int .i64 0]) = true)
    {e : X} (hv : XV gs e) (h1 : e.size ≤ 4000) (h2 : e.deep ≤ 40) {rs : List AV} {rc : Option Nat} (now : Int) {N : Nat} {val : List AV} (hev : ∀ b, EvOk b rs N e val)
    (n : Nat) (hn : 3 * e.size + 60 ≤ n) (hN : N + 1 < n) {H : VH} (hH : H.Ok) (hd : ∀ m, 50 ≤ m → ∀ H' : VH, H' = H.lo.lo → vcall T ext promo m 32 [.agg [.str nm, sigsV gs c, nilV, .slice a3 k3 c3 e3, .slice a4 k4 c4 e4]] H' = some (.int .i64 0, H'))
    (hc : ∀ m, 50 ≤ m → ∀ H' : VH, H'.Ok → vcall T ext promo m 33 [.agg [.str nm, sigsV gs c, nilV, .slice a3 k3 c3 e3, .slice a4 k4 c4 e4, .bool true], .agg [.slice (some (.pur rs, 0)) rs.length rc 1, .int .u64 now]] H' = some (.int .i64 0, H')) :
    vcall T ext promo n 10 [.agg [.str nm, sigsV gs c, nilV, .slice a3 k3 c3 e3, .slice a4 k4 c4 e4], .agg [.slice (some (.pur rs, 0)) rs.length rc 1, .int .u64 now], .agg e.enc] H = some (.tuple [.agg val, .int .i64 0], H) := by
  obtain ⟨n, rfl⟩ : ∃ m, n = m + 2 := ⟨n - 2, by omega⟩
  have e0 := hd n (by omega) H.lo.lo rfl
  have e1 : vcall T ext promo (n + 1) 20 [.agg [.str nm, sigsV gs c, nilV, .slice a3 k3 c3 e3, .slice a4 k4 c4 e4]] H.lo = some (.tuple [.agg [.str nm, sigsV gs c, nilV, .slice a3 k3 c3 e3, .slice a4 k4 c4 e4, .bool true], .int .i64 0], H.lo) := by
    apply ok20
    unfold F20
    simp only [letH_mk]
    rw [e0]
    simp only [KA, KB, KD, KE,  reduceCtorEq, if_false, if_true, ieq_dec, decide_true]
    exact congrArg some (back_pure hz hzf)
  have e2 := mValueG_ok hx nm a3 k3 c3 e3 a4 k4 c4 e4 hv h1 h2 (rs := rs) (rc := rc) now hev (n + 1) (by omega) (by omega) (lo_ok hH) (hc n (by omega) _ (lo_ok (lo_ok hH)))
  obtain ⟨⟨w', v', x', rfl⟩, _⟩ := hev 0
  obtain ⟨op, w, s, nw, nv, nx, sg, l, at', kc, kids⟩ := e
  rw [X.enc_mk] at e2 ⊢
  apply ok10
  unfold F10
  simp only [letH_mk]
  rw [e1]
  simp only [KA, KB, KD, KE,  reduceCtorEq, if_false, if_true, ieq_dec, decide_true]
  rw [e2]
  simp only [KA, KB, KD, KE,  reduceCtorEq, if_false, if_true]
  exact congrArg some (by rw [leave_flat rfl rfl])
end
/- Parts of vectors; values of operations (slices, parts of one bit, other widths, sums of known numbers). -/
section
set_option linter.unusedSectionVars false
set_option linter.unusedSimpArgs false
set_option linter.unusedVariables false
set_option maxRecDepth 10000
theorem shr_nat (x : BitVec 64) (k : Nat) (h : k ≤ 64) : varith .shr .u64 (u64 x) .i64 (k : Int) = some (.int .u64 (u64 (x >>> k))) := by
  simp only [varith, ilt_eq, decide_eq_true_eq]
  rw [if_neg (by omega)]
  simp only [IntKind.bits, Int.toNat_natCast]
  rw [Nat.min_eq_left (by omega), ishr_eq]
  congr 2
  simp only [u64, BitVec.toNat_ushiftRight, Nat.shiftRight_eq_div_pow]
  rw [Int.fdiv_eq_ediv_of_nonneg _ (by exact Int.le_of_lt (Int.pow_pos (by decide)))]
  norm_cast
theorem vec_mask {w : Nat} {v x : BitVec 64} (h : Vec w v x) : v &&& bmask w = v ∧ x &&& bmask w = x := by
  have key : ∀ y : BitVec 64, (∀ i, w ≤ i → y.getLsbD i = false) → y &&& bmask w = y := fun y hy => by
    apply BitVec.eq_of_getLsbD_eq
    intro i hi
    rw [BitVec.getLsbD_and, bmask_bit]
    by_cases hw : i < w
    · simp [hi, hw]
    · simp [hw, hy i (by omega)]
  obtain ⟨_, _, h3, h4⟩ := h
  exact ⟨key v h3, key x h4⟩
theorem mask_vec {w : Nat} (hw : 1 ≤ w ∧ w ≤ 64) (v x : BitVec 64) : Vec w (v &&& bmask w) (x &&& bmask w) := ⟨hw.1, hw.2, mask_out w v, mask_out w x⟩
theorem sliceB_ok (n : Nat) (hn : 30 ≤ n) {w : Nat} {v x : BitVec 64} (h : Vec w v x) {a m : Nat} (hm : 1 ≤ m) (ha : a + m ≤ w) (H : VH) :
    vcall T ext promo n 13 [bv w v x, .int .i64 (a : Int), .int .i64 (m : Int)] H = some (bv m ((v >>> a) &&& bmask m) ((x >>> a) &&& bmask m), H) := by
  obtain ⟨n, rfl⟩ : ∃ m, n = m + 1 := ⟨n - 1, by omega⟩
  have h1 := h.pos
  have h2 := h.le
  apply ok13
  unfold F13
  simp only [letH_mk]
  rw [valid1_ok n (by omega) h]
  simp only [KA, KB, KD, KE, KU, iandn_u64, inot_u64, sel_eq, reduceCtorEq, if_false, if_true]
  rw [if_neg (by omega), if_neg (by omega), if_neg (by omega)]
  rw [fw_i64 (by omega) (by omega)]
  simp only [KA, KB, KD, KE, KU, iandn_u64, inot_u64, sel_eq, reduceCtorEq, if_false, if_true, decide_eq_false (show ¬ ((w : Int) - (m : Int) < (a : Int)) by omega)]
  rw [shr_nat v a (by omega)]
  simp only [KA, KB, KD, KE, KU, iandn_u64, inot_u64, sel_eq, reduceCtorEq, if_false, if_true]
  rw [mask_ok n (by omega)]
  simp only [KA, KB, KD, KE, KU, iandn_u64, inot_u64, sel_eq, reduceCtorEq, if_false, if_true]
  rw [shr_nat x a (by omega)]
  simp only [KA, KB, KD, KE, KU, iandn_u64, inot_u64, sel_eq, reduceCtorEq, if_false, if_true]
  rw [mask_ok n (by omega)]
  simp only [KA, KB, KD, KE, KU, iandn_u64, inot_u64, sel_eq, reduceCtorEq, if_false, if_true]
  rw [leave_flat rfl rfl]
theorem allx_ok (n : Nat) (hn : 5 ≤ n) {w : Nat} (hw : 1 ≤ w ∧ w ≤ 64) (H : VH) : vcall T ext promo n 12 [.int .i64 (w : Int), .int .u8 120] H = some (bv w (bmask w) (bmask w), H) := by
  obtain ⟨n, rfl⟩ : ∃ m, n = m + 1 := ⟨n - 1, by omega⟩
  apply ok12
  unfold F12
  simp only [KA, KB, KD, KE, KU, iandn_u64, inot_u64, sel_eq, reduceCtorEq, if_false, if_true]
  rw [if_neg (by omega)]
  simp only [KA, KB, KD, KE, KU, iandn_u64, inot_u64, sel_eq, reduceCtorEq, if_false, if_true, decide_eq_false (show ¬ ((64 : Int) < (w : Int)) by omega)]
  rw [mask_ok n (by omega)]
  simp only [KA, KB, KD, KE, KU, iandn_u64, inot_u64, sel_eq, reduceCtorEq, if_false, if_true, ieq_dec, Int.reduceEq, decide_false, decide_true]
  rw [leave_flat rfl rfl]
theorem allx_vec {w : Nat} (hw : 1 ≤ w ∧ w ≤ 64) : Vec w (bmask w) (bmask w) := by
  have := mask_vec hw (bmask w) (bmask w)
  rwa [BitVec.and_self] at this
theorem put11_ok (n : Nat) (hn : 30 ≤ n) {v x : BitVec 64} (h : Vec 1 v x) (H : VH) : vcall T ext promo n 214 [bv 1 (bmask 1) (bmask 1), .int .i64 0, bv 1 v x] H = some (bv 1 v x, H) := by
  obtain ⟨n, rfl⟩ : ∃ m, n = m + 1 := ⟨n - 1, by omega⟩
  have hv := valid2_ok n (by omega) (allx_vec (w := 1) (by omega)) h H.lo
  have s0 : ∀ y : BitVec 64, varith .shl .u64 (u64 y) .i64 0 = some (.int .u64 (u64 y)) := fun y => by
    have := shl_var' y 0
    rw [show min 0 64 = 0 from rfl, BitVec.shiftLeft_zero] at this
    exact this
  obtain ⟨m1, m2⟩ := vec_mask h
  have hm := mask_ok n (by omega) 1 H.lo
  rw [show ((1 : Nat) : Int) = 1 from rfl] at hv hm
  apply ok214
  unfold F214
  simp only [letH_mk]
  rw [show ((1 : Nat) : Int) = 1 from rfl, hv]
  simp (config := { decide := true }) only [KA, KB, KD, KE, KU, iandn_u64, inot_u64, sel_eq, reduceCtorEq, if_false, if_true, show fwrap .i64 (0 - 1) = -1 from rfl, if_false, if_true]
  rw [hm]
  simp only [KA, KB, KD, KE, KU, iandn_u64, inot_u64, sel_eq, reduceCtorEq, if_false, if_true, s0]
  rw [hm]
  simp only [KA, KB, KD, KE, KU, iandn_u64, inot_u64, sel_eq, reduceCtorEq, if_false, if_true]
  rw [leave_flat rfl rfl]
  have e1 : bmask 1 &&& ~~~(bmask 1 &&& bmask 1) = 0#64 := by decide
  rw [e1, BitVec.and_self, m1, m2]
  simp
theorem imin_nat (a b : Nat) : imin (a : Int) (b : Int) = ((min a b : Nat) : Int) := by
  unfold imin
  simp only [ilt_eq, decide_eq_true_eq]
  split <;> omega
/-- One bit at a place, or x. -/
def bitAt (w : Nat) (v x : BitVec 64) (i : Nat) : AV := if i < w then bv 1 ((v >>> i) &&& bmask 1) ((x >>> i) &&& bmask 1) else bv 1 (bmask 1) (bmask 1)
theorem window1_ok (n : Nat) (hn : 50 ≤ n) {w : Nat} {v x : BitVec 64} (h : Vec w v x) (i : Nat) (hi : i ≤ 64) (H : VH) : vcall T ext promo n 165 [bv w v x, .int .i64 (i : Int), .int .i64 1] H = some (bitAt w v x i, H) := by
  obtain ⟨n, rfl⟩ : ∃ m, n = m + 3 := ⟨n - 3, by omega⟩
  have h2 := h.le
  have ea := allx_ok (n + 2) (by omega) (w := 1) (by omega) H.lo
  rw [show ((1 : Nat) : Int) = 1 from rfl] at ea
  apply ok165
  unfold F165
  simp only [letH_mk]
  rw [ea]
  simp only [KA, KB, KD, KE,  reduceCtorEq, if_false, if_true]
  rw [loopN_succ]
  generalize hlp : loopN (L165_0 (vcall T ext promo (n + 2)) (n + 2) _ _ _ _ _) (n + 1) = lp
  unfold L165_0
  simp only [KA, KB, KD, KE,  reduceCtorEq, if_false, if_true]
  rw [if_pos (by decide), Int.add_zero, fw_i64 (by omega) (by omega), if_pos (by omega)]
  unfold bitAt
  by_cases hw : i < w
  · have e1 := sliceB_ok (n + 2) (by omega) h (a := i) (m := 1) (by omega) (by omega) H.lo
    rw [show ((1 : Nat) : Int) = 1 from rfl] at e1
    have e2 := put11_ok (n + 2) (by omega) (mask_vec (w := 1) (by omega) (v >>> i) (x >>> i)) H.lo
    simp only [KA, KB, KD, KE,  reduceCtorEq, if_false, if_true, decide_eq_true (show (i : Int) < (w : Int) by omega)]
    rw [e1]
    simp only [KA, KB, KD, KE,  reduceCtorEq, if_false, if_true]
    rw [e2]
    simp only [KA, KB, KD, KE,  reduceCtorEq, if_false, if_true, show fwrap .i64 (0 + 1) = 1 from rfl]
    rw [← hlp, loopN_succ]
    unfold L165_0
    simp only [KA, KB, KD, KE,  reduceCtorEq, if_false, if_true]
    rw [if_neg (by decide), if_pos hw]
    simp only [KA, KB, KD, KE,  reduceCtorEq, if_false, if_true]
    rw [leave_flat rfl rfl]
  · simp only [KA, KB, KD, KE,  reduceCtorEq, if_false, if_true, decide_eq_false (show ¬ (i : Int) < (w : Int) by omega), show fwrap .i64 (0 + 1) = 1 from rfl]
    rw [← hlp, loopN_succ]
    unfold L165_0
    simp only [KA, KB, KD, KE,  reduceCtorEq, if_false, if_true]
    rw [if_neg (by decide), if_neg hw]
    simp only [KA, KB, KD, KE,  reduceCtorEq, if_false, if_true]
    rw [leave_flat rfl rfl]
theorem part1_ok (n : Nat) (hn : 60 ≤ n) {w w2 : Nat} {v x i : BitVec 64} (h : Vec w v x) (h2 : Vec w2 i 0#64) (H : VH) : vcall T ext promo n 112 [bv w v x, bv w2 i 0#64, .bool false, .int .i64 1] H = some (bitAt w v x (min i.toNat 64), H) := by
  obtain ⟨n, rfl⟩ : ∃ m, n = m + 1 := ⟨n - 1, by omega⟩
  have hmin : fwrap .i64 (imin (u64 i) 64) = ((min i.toNat 64 : Nat) : Int) := by
    have : imin (u64 i) 64 = ((min i.toNat 64 : Nat) : Int) := imin_nat i.toNat 64
    rw [this, fw_i64 (by omega) (by omega)]
  have ew := window1_ok n (by omega) h (min i.toNat 64) (by omega) H.lo
  apply ok112
  unfold F112
  simp only [letH_mk]
  rw [valid2_ok n (by omega) h h2]
  simp (config := { decide := true }) only [KA, KB, KD, KE,  reduceCtorEq, if_false, if_true, if_false, if_true]
  rw [int_ok n (by omega) h2]
  simp only [KA, KB, KD, KE,  reduceCtorEq, if_false, if_true]
  rw [hmin, ew]
  unfold bitAt
  split
  · simp only [KA, KB, KD, KE,  reduceCtorEq, if_false, if_true]
    rw [leave_flat rfl rfl]
  · simp only [KA, KB, KD, KE,  reduceCtorEq, if_false, if_true]
    rw [leave_flat rfl rfl]
end
/- Values of operations in a state: slices, parts of one bit, other widths, differences of known numbers. -/
section
set_option linter.unusedSectionVars false
set_option linter.unusedSimpArgs false
set_option linter.unusedVariables false
set_option maxRecDepth 10000
abbrev vb (w : Nat) (v x : BitVec 64) : List AV := b3 (w : Int) (u64 v) (u64 x)
theorem row_cells {H : VH} {q : Nat} {cs out : List AV} (h : ∀ o, H.cell (.blk q) o = cs[o]?) (o n : Nat) (hn : n = out.length) (he : ∀ i, i < n → cs[o + i]? = out[i]?) : H.cells (.blk q) o n = some out :=
  cells_eq (fun i hi => by rw [h, he i hi]) hn
theorem ev_slice {b : Nat} {rs : List AV} {N : Nat} (hN : 80 ≤ N ∧ N < 900000) {k : X} {w : Nat} {v x : BitVec 64} (hk : EvOk b rs N k (vb w v x)) (h : Vec w v x) {m a : Nat} (hm : 1 ≤ m) (ha : a + m ≤ w) (s : Bool) (kc : Option Nat) :
    EvOk b rs (N + 1) (.mk 3 m s 0 0 0 0 false a kc [k]) (vb m ((v >>> a) &&& bmask m) ((x >>> a) &&& bmask m)) := by
  refine eval_oper N (ks := [k]) (by simp; omega) (by omega) (by simp) (by omega) [vb w v x] rfl (fun i hi => ?_) (fun n hn H q hH hc => ?_)
  · obtain rfl : i = 0 := by simpa using hi
    exact hk
  · obtain ⟨n, rfl⟩ : ∃ m, n = m + 1 := ⟨n - 1, by omega⟩
    have q0 : H.lo.cells (.blk q) 0 3 = some (vb w v x) := row_cells hc 0 3 rfl (fun i _ => by simp)
    have e1 := sliceB_ok n (by omega) h hm ha H.lo
    rw [X.enc_mk]
    apply ok71
    unfold F71
    simp only [KA, KB, KD, KE,  reduceCtorEq, if_false, if_true, ieq_dec, Int.reduceEq, decide_true, List.length_cons, List.length_nil]
    rw [if_pos (by decide), q0]
    simp only [KA, KB, KD, KE,  reduceCtorEq, if_false, if_true]
    rw [e1]
    simp only [KA, KB, KD, KE,  reduceCtorEq, if_false, if_true]
    exact congrArg some (by rw [leave_flat rfl rfl])
theorem ev_resize {b : Nat} {rs : List AV} {N : Nat} (hN : 80 ≤ N ∧ N < 900000) {k : X} {w : Nat} {v x : BitVec 64} (hk : EvOk b rs N k (vb w v x)) (h : Vec w v x) {m : Nat} (hm : 1 ≤ m ∧ m ≤ 64) (s : Bool) (kc : Option Nat) :
    EvOk b rs (N + 1) (.mk 33 m s 0 0 0 0 false 0 kc [k]) (vb m (wide w v s &&& bmask m) (wide w x s &&& bmask m)) := by
  refine eval_oper N (ks := [k]) (by simp; omega) (by omega) (by simp) (by omega) [vb w v x] rfl (fun i hi => ?_) (fun n hn H q hH hc => ?_)
  · obtain rfl : i = 0 := by simpa using hi
    exact hk
  · obtain ⟨n, rfl⟩ : ∃ m, n = m + 1 := ⟨n - 1, by omega⟩
    have q0 : H.lo.cells (.blk q) 0 3 = some (vb w v x) := row_cells hc 0 3 rfl (fun i _ => by simp)
    have e1 := resize_ok n (by omega) h hm s (H := H.lo)
    rw [X.enc_mk]
    apply ok71
    unfold F71
    simp only [KA, KB, KD, KE,  reduceCtorEq, if_false, if_true, ieq_dec, Int.reduceEq, decide_true, decide_false, List.length_cons, List.length_nil]
    rw [if_pos (by decide), q0]
    simp only [KA, KB, KD, KE,  reduceCtorEq, if_false, if_true]
    rw [e1]
    simp only [KA, KB, KD, KE,  reduceCtorEq, if_false, if_true]
    exact congrArg some (by rw [leave_flat rfl rfl])
theorem ev_bin {b : Nat} {rs : List AV} {N : Nat} (hN : 80 ≤ N ∧ N < 900000) {op : Int} (hop : op = 16 ∨ op = 17 ∨ op = 18) {k l : X} {w : Nat} {v u : BitVec 64} (hk : EvOk b rs N k (vb w v 0#64)) (hl : EvOk b rs N l (vb w u 0#64)) (h : Vec w v 0#64) (h' : Vec w u 0#64) (s : Bool) (kc : Option Nat) :
    EvOk b rs (N + 1) (.mk op w s 0 0 0 0 false 0 kc [k, l]) (vb w (opv op v u &&& bmask w) 0#64) := by
  refine eval_oper N (ks := [k, l]) (by simp; omega) (by omega) (by simp) (by omega) [vb w v 0#64, vb w u 0#64] rfl (fun i hi => ?_) (fun n hn H q hH hc => ?_)
  · have : i = 0 ∨ i = 1 := by simp at hi; omega
    rcases this with rfl | rfl
    · exact hk
    · exact hl
  · have q0 : H.cells (.blk q) 0 3 = some [.int .i64 (w : Int), .int .u64 (u64 v), .int .u64 (u64 0#64)] := row_cells hc 0 3 rfl (fun i hi => by have : i = 0 ∨ i = 1 ∨ i = 2 := (by omega); rcases this with rfl | rfl | rfl <;> rfl)
    have q3 : H.cells (.blk q) (0 + 3) 3 = some [.int .i64 (w : Int), .int .u64 (u64 u), .int .u64 (u64 0#64)] := row_cells hc (0 + 3) 3 rfl (fun i hi => by have : i = 0 ∨ i = 1 ∨ i = 2 := (by omega); rcases this with rfl | rfl | rfl <;> rfl)
    rw [X.enc_mk]
    exact apply_ok n (by omega) hop (w := w) (w' := w) (v := v) (v' := u) s h h' (kd := nilV) q0 q3
theorem ev_part1 {b : Nat} {rs : List AV} {N : Nat} (hN : 80 ≤ N ∧ N < 900000) {k l : X} {w w2 : Nat} {v x i : BitVec 64} (hk : EvOk b rs N k (vb w v x)) (hl : EvOk b rs N l (vb w2 i 0#64)) (h : Vec w v x) (h' : Vec w2 i 0#64) (hs : l.sgn = false) (kc : Option Nat) {w' v' x' : Int} (hb : bitAt w v x (min i.toNat 64) = .agg (b3 w' v' x')) :
    EvOk b rs (N + 1) (.mk 4 1 false 0 0 0 0 false 0 kc [k, l]) (b3 w' v' x') := by
  refine eval_oper N (ks := [k, l]) (by simp; omega) (by omega) (by simp) (by omega) [vb w v x, vb w2 i 0#64] rfl (fun i hi => ?_) (fun n hn H q hH hc => ?_)
  · have : i = 0 ∨ i = 1 := by simp at hi; omega
    rcases this with rfl | rfl
    · exact hk
    · exact hl
  · obtain ⟨n, rfl⟩ : ∃ m, n = m + 1 := ⟨n - 1, by omega⟩
    have q0 : H.lo.cells (.blk q) 0 3 = some (vb w v x) := row_cells hc 0 3 rfl (fun i hi => by have : i = 0 ∨ i = 1 ∨ i = 2 := (by omega); rcases this with rfl | rfl | rfl <;> rfl)
    have q3 : H.lo.cells (.blk q) (0 + 3) 3 = some (vb w2 i 0#64) := row_cells hc (0 + 3) 3 rfl (fun i hi => by have : i = 0 ∨ i = 1 ∨ i = 2 := (by omega); rcases this with rfl | rfl | rfl <;> rfl)
    have e1 := part1_ok n (by omega) h h' H.lo
    rw [hb] at e1
    have hq : H.lo.cell (.pur (X.encs [k, l])) ((0 + 10) + 2) = some (.bool l.sgn) := by
      have := X.kid_cell [k, l] 1 2 (by simp) (by omega) H.lo
      rw [show (0 + ((1 : Nat) : Int).toNat * 10 + 2) = (0 + 10) + 2 from rfl] at this
      rw [this]
      cases l
      rfl
    rw [X.enc_mk]
    apply ok71
    unfold F71
    simp only [KA, KB, KD, KE,  reduceCtorEq, if_false, if_true, ieq_dec, Int.reduceEq, decide_true, decide_false, List.length_cons, List.length_nil]
    rw [if_pos (by decide), q0]
    simp only [KA, KB, KD, KE,  reduceCtorEq, if_false, if_true]
    rw [if_pos (by decide), q3]
    simp only [KA, KB, KD, KE,  reduceCtorEq, if_false, if_true]
    rw [kA_pos _ (by omega)]
    simp only [KA, KB, KD, KE,  reduceCtorEq, if_false, if_true]
    rw [if_pos (by decide), hq, hs]
    simp only [KA, KB, KD, KE,  reduceCtorEq, if_false, if_true]
    rw [e1]
    simp only [KA, KB, KD, KE,  reduceCtorEq, if_false, if_true]
    exact congrArg some (by rw [leave_flat rfl rfl])
end
/- Machine.Check: a state of pure lists that fits the signals. -/
section
set_option linter.unusedSectionVars false
set_option linter.unusedSimpArgs false
set_option linter.unusedVariables false
set_option maxRecDepth 10000
/-- Vectors of one width, as cells. -/
def encV (w : Nat) : List (BitVec 64 × BitVec 64) → List AV
  | [] => []
  | p :: ps => vb w p.1 p.2 ++ encV w ps
theorem encV_get (w : Nat) : ∀ (ps : List (BitVec 64 × BitVec 64)) (i o : Nat) (h : i < ps.length), o < 3 → (encV w ps)[i * 3 + o]? = (vb w ps[i].1 ps[i].2)[o]?
  | [], i, o, h, _ => by simp at h
  | p :: ps, 0, o, h, ho => by
    rw [encV, List.getElem?_append_left (by simpa using ho)]
    simp
  | p :: ps, i + 1, o, h, ho => by
    rw [encV, List.getElem?_append_right (by simp; omega), show (i + 1) * 3 + o - (vb w p.1 p.2).length = i * 3 + o by simp; omega, encV_get w ps i o (by simpa using h) ho]
    rfl
theorem encV_cells (w : Nat) (ps : List (BitVec 64 × BitVec 64)) (i : Nat) (h : i < ps.length) (H : VH) : H.cells (.pur (encV w ps)) (0 + ((i : Nat) : Int).toNat * 3) 3 = some (vb w ps[i].1 ps[i].2) := by
  refine cells_pur (fun j hj => ?_) rfl
  rw [cell_pur, Int.toNat_natCast, Nat.zero_add, encV_get w ps i j h hj]
/-- A signal's values: its row in a state. -/
def Row1 (g : Sg) (row : AV) : Prop :=
  ∃ (w : Nat) (ps : List (BitVec 64 × BitVec 64)) (c : Option Nat) (e : Nat), g.w = (w : Int) ∧ g.elems = (ps.length : Int) ∧ 0 < ps.length ∧ ps.length < 100000 ∧ (∀ p ∈ ps, Vec w p.1 p.2) ∧ row = .slice (some (.pur (encV w ps), 0)) ps.length c e
theorem sig_cells (gs : List Sg) (i : Nat) (h : i < gs.length) (H : VH) : H.cells (.pur (encS gs)) (0 + ((i : Nat) : Int).toNat * 7) 7 = some gs[i].enc := by
  refine cells_pur (fun j hj => ?_) rfl
  rw [cell_pur, Int.toNat_natCast, Nat.zero_add, encS_get gs i j h hj]
theorem row_loop (n : Nat) (hn : 5 ≤ n) (w : Nat) (ps : List (BitVec 64 × BitVec 64)) (hp : ps.length < 100000) (hv : ∀ p ∈ ps, Vec w p.1 p.2) (H : VH) : ∀ (m i : Nat), i ≤ ps.length → ps.length - i < m →
    loopN (L33_1 (vcall T ext promo n) n (some (.pur (encV w ps), 0)) ps.length (w : Int)) m [.int .i64 (i : Int)] H = some (.exit 2, [], H) := by
  intro m
  induction m with
  | zero => intro i _ h; omega
  | succ m ihm =>
    intro i hi hm
    rw [loopN_succ]
    generalize hlp : loopN (L33_1 (vcall T ext promo n) n (some (.pur (encV w ps), 0)) ps.length (w : Int)) m = lp at ihm ⊢
    unfold L33_1
    simp only [KA, KB, KD, KE,  reduceCtorEq, if_false, if_true, Bool.and_eq_true]
    by_cases h : i < ps.length
    · have := ihm (i + 1) (by omega) (by omega)
      rw [if_pos (by omega), if_pos (by omega), encV_cells w ps i h]
      simp only [KA, KB, KD, KE,  reduceCtorEq, if_false, if_true, ieq_dec, decide_true]
      rw [check_ok n (by omega) (hv _ (List.getElem_mem h))]
      simp only [KA, KB, KD, KE,  reduceCtorEq, if_false, if_true, ieq_dec, decide_true]
      rw [fw_i64 (by omega) (by omega), show (i : Int) + 1 = ((i + 1 : Nat) : Int) by omega]
      exact this
    · rw [if_neg (by omega)]
theorem rows_loop (n : Nat) (gs : List Sg) (rs : List AV) (hl : rs.length = gs.length) (hg : gs.length < 100000) (hn : 100010 ≤ n ∨ ∀ i (h : i < gs.length), gs[i].elems + 10 ≤ (n : Int)) (hn2 : 10 ≤ n) (hr : ∀ i (h : i < gs.length), Row1 gs[i] (rs[i]'(by omega))) (H : VH) : ∀ (m i : Nat), i ≤ gs.length → gs.length - i < m →
    loopN (L33_0 (vcall T ext promo n) n (kA (encS gs) gs.length) gs.length (some (.pur rs, 0)) rs.length) m [.int .i64 (i : Int)] H = some (.exit 0, [], H) := by
  intro m
  induction m with
  | zero => intro i _ h; omega
  | succ m ihm =>
    intro i hi hm
    rw [loopN_succ]
    generalize hlp : loopN (L33_0 (vcall T ext promo n) n (kA (encS gs) gs.length) gs.length (some (.pur rs, 0)) rs.length) m = lp at ihm ⊢
    unfold L33_0
    simp only [KA, KB, KD, KE,  reduceCtorEq, if_false, if_true, Bool.and_eq_true]
    by_cases h : i < gs.length
    · have := ihm (i + 1) (by omega) (by omega)
      obtain ⟨w, ps, c, e, h1, h2, h3, h4, h5, h6⟩ := hr i h
      have hm : ps.length + 10 ≤ n := by
        rcases hn with hn | hn
        · omega
        · have := hn i h
          omega
      have hc : H.cell (.pur rs) (0 + ((i : Nat) : Int).toNat * 1) = some (.slice (some (.pur (encV w ps), 0)) ps.length c e) := by
        rw [cell_pur, Int.toNat_natCast, Nat.zero_add, Nat.mul_one, List.getElem?_eq_getElem (by omega), h6]
      have hrow := row_loop n (by omega) w ps h4 h5 H n 0 (by omega) (by omega)
      rw [show ((0 : Nat) : Int) = 0 from rfl] at hrow
      rw [if_pos (by omega), if_pos (by omega), hc]
      simp only [KA, KB, KD, KE,  reduceCtorEq, if_false, if_true]
      rw [kA_pos _ (by omega)]
      simp only [KA, KB, KD, KE,  reduceCtorEq, if_false, if_true, Bool.and_eq_true]
      rw [if_pos (by omega), sig_cells gs i h]
      generalize hgi : gs[i] = g at *
      obtain ⟨nm, port, kind, gw, sgn, el, ia, il, ic, ie⟩ := g
      simp only at h1 h2
      subst h1 h2
      unfold Sg.enc
      simp only [KA, KB, KD, KE,  reduceCtorEq, if_false, if_true, ieq_dec, decide_true]
      rw [hrow]
      simp only [KA, KB, KD, KE,  reduceCtorEq, if_false, if_true]
      rw [fw_i64 (by omega) (by omega), show (i : Int) + 1 = ((i + 1 : Nat) : Int) by omega]
      exact this
    · rw [if_neg (by omega)]
theorem mCheckG_ok (n : Nat) (gs : List Sg) (c : Option Nat) (rs : List AV) (hl : rs.length = gs.length) (hg : gs.length < 100000) (hn : ∀ i (h : i < gs.length), gs[i].elems + 20 ≤ (n : Int)) (hn2 : gs.length + 20 ≤ n) (hr : ∀ i (h : i < gs.length), Row1 gs[i] (rs[i]'(by omega)))
    (nm : PS) (a2 : Option (Bk × Nat)) (k2 : Nat) (c2 : Option Nat) (e2 : Nat) (a3 : Option (Bk × Nat)) (k3 : Nat) (c3 : Option Nat) (e3 : Nat) (a4 : Option (Bk × Nat)) (k4 : Nat) (c4 : Option Nat) (e4 : Nat) (rc : Option Nat) (now : Int) (H : VH) :
    vcall T ext promo n 33 [.agg [.str nm, sigsV gs c, .slice a2 k2 c2 e2, .slice a3 k3 c3 e3, .slice a4 k4 c4 e4, .bool true], .agg [.slice (some (.pur rs, 0)) rs.length rc 1, .int .u64 now]] H = some (.int .i64 0, H) := by
  obtain ⟨n, rfl⟩ : ∃ m, n = m + 1 := ⟨n - 1, by omega⟩
  have h0 := rows_loop n gs rs hl hg (.inr fun i h => by have := hn i h; omega) (by omega) hr H.lo n 0 (by omega) (by omega)
  rw [show ((0 : Nat) : Int) = 0 from rfl] at h0
  apply ok33
  unfold F33
  simp only [KA, KB, KD, KE,  reduceCtorEq, if_false, if_true, hl, ieq_dec, decide_true]
  rw [hl] at h0
  rw [h0]
  simp only [KA, KB, KD, KE,  reduceCtorEq, if_false, if_true]
  exact congrArg some (by rw [leave_flat rfl rfl])
end
/- Expressions of designs as trees: freezing changes nothing. -/
section
set_option linter.unusedSectionVars false
set_option linter.unusedSimpArgs false
set_option linter.unusedVariables false
set_option maxRecDepth 10000
theorem frz_int (n : Nat) (k : IntKind) (z : Int) : FrzId n (.int k z) := fun H => by cases n <;> rfl
theorem frz_bool (n : Nat) (b : Bool) : FrzId n (.bool b) := fun H => by cases n <;> rfl
theorem frz_str (n : Nat) (s : PS) : FrzId n (.str s) := fun H => by cases n <;> rfl
theorem frz_nil (n : Nat) (l : Nat) (c : Option Nat) (e : Nat) : FrzId n (.slice none l c e) := fun H => by cases n <;> rfl
theorem frz_zero (v : AV) : FrzId 0 v := fun H => by cases v <;> rfl
theorem frzs_all {n : Nat} : ∀ {vs : List AV}, (∀ v ∈ vs, FrzId n v) → FrzIds n vs
  | [], _ => .nil n
  | v :: vs, h => .cons (h v List.mem_cons_self) (frzs_all fun x hx => h x (List.mem_cons_of_mem _ hx))
theorem X.mem_encs : ∀ {ks : List X} {v : AV}, v ∈ X.encs ks → ∃ k ∈ ks, v ∈ k.enc
  | [], v, h => by rw [X.encs] at h; cases h
  | k :: ks, v, h => by
    rw [X.encs, List.mem_append] at h
    rcases h with h | h
    · exact ⟨k, List.mem_cons_self, h⟩
    · obtain ⟨k', h1, h2⟩ := X.mem_encs h
      exact ⟨k', List.mem_cons_of_mem _ h1, h2⟩
/-- Freezing an expression changes nothing. -/
theorem X.frz : ∀ (n : Nat) (e : X), ∀ v ∈ e.enc, FrzId n v
  | 0, _, v, _ => frz_zero v
  | n + 1, .mk op w s nw nv nx sg l a kc ks, v, h => by
    rw [X.enc_mk] at h
    simp only [List.mem_cons, List.not_mem_nil, or_false] at h
    rcases h with rfl | rfl | rfl | rfl | rfl | rfl | rfl | rfl | rfl | rfl
    · exact frz_int _ _ _
    · exact frz_int _ _ _
    · exact frz_bool _ _
    · exact frz_int _ _ _
    · exact frz_int _ _ _
    · exact frz_int _ _ _
    · exact frz_int _ _ _
    · exact frz_bool _ _
    · exact frz_int _ _ _
    · cases hk : ks.length with
      | zero => exact frz_nil _ _ _ _
      | succ m =>
        exact FrzId.pur (frzs_all fun x hx => by
          obtain ⟨k, _, h2⟩ := X.mem_encs hx
          exact X.frz n k x h2)
theorem X.frzs (n : Nat) (e : X) : FrzIds n e.enc := frzs_all (X.frz n e)
mutual
theorem X.flats_enc : ∀ e : X, flats e.enc = true
  | .mk op w s nw nv nx sg l a kc ks => by
    rw [X.enc_mk]
    have : flat (.slice (kA (X.encs ks) ks.length) ks.length (kC kc ks.length) (kE ks.length)) = true := by
      cases hk : ks.length with
      | zero => rfl
      | succ m => exact X.flats_encs ks
    show (true && (true && (true && (true && (true && (true && (true && (true && (true && (flat (.slice (kA (X.encs ks) ks.length) ks.length (kC kc ks.length) (kE ks.length)) && true)))))))))) = true
    rw [this]
    rfl
theorem X.flats_encs : ∀ ks : List X, flats (X.encs ks) = true
  | [] => by rw [X.encs]; rfl
  | k :: ks => by rw [X.encs, flats_append, X.flats_enc k, X.flats_encs ks]; rfl
end
end
end Go.Vm.Tryz
