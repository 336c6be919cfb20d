/- Small laws: tries, strings as numbers. -/
import Derived.Test.YtmlogeklbcgjnaaGreatDoorVmOps
namespace Go.Vm
set_option linter.unusedSimpArgs false
set_option linter.unusedVariables false
set_option linter.unusedSectionVars false

namespace Tr
variable {α : Type}
theorem get_leaf (k : Nat) : (leaf : Tr α).get k = none := rfl
theorem get_node_zero (l : Tr α) (v : Option α) (r : Tr α) : (node l v r).get 0 = v := rfl
theorem get_node_succ (l : Tr α) (v : Option α) (r : Tr α) (k : Nat) : (node l v r).get (k + 1) = if k % 2 = 0 then l.get (k / 2) else r.get (k / 2) := by
  have h : k % 2 = 0 ∨ k % 2 = 1 := by omega
  show (Nat.rec (l.get (k / 2)) (fun _ _ => r.get (k / 2)) (k % 2) : Option α) = _
  rcases h with h | h <;> rw [h] <;> rfl
theorem get_zero (t : Tr α) : t.get 0 = t.val := by cases t <;> rfl
theorem get_succ (t : Tr α) (k : Nat) : t.get (k + 1) = if k % 2 = 0 then t.left.get (k / 2) else t.right.get (k / 2) := by
  cases t with
  | leaf => simp [get_leaf, left, right]
  | node l v r => exact get_node_succ l v r k
theorem setF_zero (f : Nat) (t : Tr α) (x : α) : setF (f + 1) t 0 x = .node t.left (some x) t.right := rfl
theorem setF_succ (f : Nat) (t : Tr α) (k : Nat) (x : α) : setF (f + 1) t (k + 1) x = if k % 2 = 0 then .node (setF f t.left (k / 2) x) t.val t.right else .node t.left t.val (setF f t.right (k / 2) x) := by
  have h : k % 2 = 0 ∨ k % 2 = 1 := by omega
  show (Nat.rec (Tr.node (setF f t.left (k / 2) x) t.val t.right) (fun _ _ => .node t.left t.val (setF f t.right (k / 2) x)) (k % 2) : Tr α) = _
  rcases h with h | h <;> rw [h] <;> rfl
theorem same {β : Type} {j k m : Nat} {x y : β} (h1 : k % 2 = m) (h2 : j % 2 = m) : (if j / 2 = k / 2 then x else y) = if j = k then x else y := by
  by_cases e : j = k
  · subst e; simp
  · rw [if_neg e, if_neg (by omega)]
theorem get_setF : ∀ (f : Nat) (t : Tr α) (k : Nat) (x : α) (j : Nat), k < f → (setF f t k x).get j = if j = k then some x else t.get j
  | 0, _, _, _, _, h => absurd h (Nat.not_lt_zero _)
  | f + 1, t, 0, x, 0, _ => by rw [setF_zero, get_node_zero, if_pos rfl]
  | f + 1, t, 0, x, j + 1, _ => by rw [setF_zero, get_node_succ, get_succ t j, if_neg (Nat.succ_ne_zero j)]
  | f + 1, t, k + 1, x, 0, _ => by
    rw [setF_succ, if_neg (Nat.succ_ne_zero k).symm, get_zero t]
    split <;> exact get_zero _
  | f + 1, t, k + 1, x, j + 1, h => by
    have ih := fun (t : Tr α) (j : Nat) => get_setF f t (k / 2) x j (by omega)
    rw [setF_succ, get_succ t]
    by_cases hk : k % 2 = 0 <;> by_cases hj : j % 2 = 0
    · rw [if_pos hk, if_pos hj, get_node_succ, if_pos hj, ih, same hk hj]
      simp only [Nat.add_right_cancel_iff]
    · rw [if_pos hk, if_neg hj, get_node_succ, if_neg hj, if_neg (by omega)]
    · rw [if_neg hk, if_pos hj, get_node_succ, if_pos hj, if_neg (by omega)]
    · rw [if_neg hk, if_neg hj, get_node_succ, if_neg hj, ih, same (m := 1) (by omega) (by omega)]
      simp only [Nat.add_right_cancel_iff]
theorem get_set (t : Tr α) (k : Nat) (x : α) (j : Nat) : (t.set k x).get j = if j = k then some x else t.get j := get_setF _ t k x j (Nat.lt_succ_self k)
theorem get_set_same (t : Tr α) (k : Nat) (x : α) : (t.set k x).get k = some x := by simp [get_set]
theorem get_set_ne (t : Tr α) {k j : Nat} (x : α) (h : j ≠ k) : (t.set k x).get j = t.get j := by simp [get_set, h]
theorem get_ofListFrom : ∀ (xs : List α) (t : Tr α) (k j : Nat), (ofListFrom t k xs).get j = if k ≤ j ∧ j < k + xs.length then xs[j - k]? else t.get j
  | [], t, k, j => by simp only [ofListFrom, List.length_nil, Nat.add_zero]; rw [if_neg (by omega)]
  | x :: xs, t, k, j => by
    simp only [ofListFrom, get_ofListFrom xs, List.length_cons, get_set]
    by_cases h : k ≤ j ∧ j < k + (xs.length + 1)
    · rw [if_pos h]
      by_cases e : j = k
      · subst e
        rw [if_neg (by omega), if_pos rfl]; simp
      · rw [if_pos (by omega), show j - k = (j - (k + 1)) + 1 by omega]; simp
    · rw [if_neg h, if_neg (by omega), if_neg (by omega)]
theorem get_roomF : ∀ (f n k : Nat), (roomF f n : Tr α).get k = none
  | 0, _, _ => rfl
  | f + 1, 0, _ => rfl
  | f + 1, m + 1, 0 => rfl
  | f + 1, m + 1, k + 1 => by
    show (Tr.node (roomF f ((m + 1) / 2)) none (roomF f (m / 2))).get (k + 1) = none
    rw [get_node_succ, get_roomF f, get_roomF f]
    split <;> rfl
theorem get_room (n k : Nat) : (room n : Tr α).get k = none := get_roomF _ _ _
theorem get_ofList (xs : List α) (j : Nat) : (ofList xs).get j = xs[j]? := by
  unfold ofList
  rw [get_ofListFrom, get_leaf]
  by_cases h : j < xs.length
  · rw [if_pos (by omega)]; simp
  · rw [if_neg (by omega), List.getElem?_eq_none (by omega)]
theorem get_setList (xs : List AV) (t : Tr AV) (k j : Nat) : (Tr.setList t k xs).get j = if k ≤ j ∧ j < k + xs.length then xs[j - k]? else t.get j := by
  have h : ∀ (xs : List AV) (t : Tr AV) (k : Nat), Tr.setList t k xs = ofListFrom t k xs := by
    intro xs
    induction xs with
    | nil => intros; rfl
    | cons x xs ih => intro t k; simp only [Vm.Tr.setList, ofListFrom, ih]
  rw [h, get_ofListFrom]
end Tr

namespace PS
theorem valOf_lt : ∀ (l : List UInt8), valOf l < 256 ^ l.length
  | [] => by simp [valOf]
  | b :: l => by
    have h1 := valOf_lt l
    have h2 : b.toNat < 256 := b.toNat_lt
    simp only [valOf, List.length_cons, Nat.pow_succ]
    omega
theorem valOf_div : ∀ (l : List UInt8) (i : Nat), valOf l / 256 ^ i = valOf (l.drop i)
  | l, 0 => by simp
  | [], i + 1 => by simp [valOf]
  | b :: l, i + 1 => by
    have h2 : b.toNat < 256 := b.toNat_lt
    rw [List.drop_succ_cons, ← valOf_div l i, valOf, Nat.pow_succ, Nat.mul_comm (256 ^ i) 256, ← Nat.div_div_eq_div_mul]
    congr 1
    omega
theorem valOf_mod : ∀ (l : List UInt8) (i : Nat), valOf l % 256 ^ i = valOf (l.take i)
  | l, 0 => by simp [valOf, Nat.mod_one]
  | [], i + 1 => by simp [valOf]
  | b :: l, i + 1 => by
    have h2 : b.toNat < 256 := b.toNat_lt
    rw [List.take_succ_cons, valOf, valOf, ← valOf_mod l i, Nat.pow_succ, Nat.mul_comm (256 ^ i) 256, Nat.mod_mul]
    have e1 : (b.toNat + 256 * valOf l) % 256 = b.toNat := by omega
    have e2 : (b.toNat + 256 * valOf l) / 256 = valOf l := by omega
    rw [e1, e2]
theorem valOf_append (a b : List UInt8) : valOf (a ++ b) = valOf a + valOf b * 256 ^ a.length := by
  induction a with
  | nil => simp [valOf]
  | cons x a ih =>
    simp only [List.cons_append, valOf, ih, List.length_cons, Nat.pow_succ]
    rw [Nat.mul_add, Nat.add_assoc]
    congr 2
    rw [Nat.mul_left_comm, Nat.mul_comm 256]
theorem byte_of (l : List UInt8) (i : Nat) (h : i < l.length) : (of l).byte i = l[i].toNat := by
  have h2 : l[i].toNat < 256 := (l[i]).toNat_lt
  rw [byte, of, valOf_div, List.drop_eq_getElem_cons h, valOf]
  omega
theorem cat_of (a b : List UInt8) : (of a).cat (of b) = of (a ++ b) := by
  simp [cat, of, valOf_append]
theorem ext_of (s : List UInt8) (l h : Nat) (hh : h ≤ s.length) : (of s).ext l h = of ((s.drop l).take (h - l)) := by
  simp only [ext, of, valOf_div, valOf_mod, mk.injEq, List.length_take, List.length_drop, and_true]
  omega
theorem valOf_inj : ∀ (a b : List UInt8), a.length = b.length → valOf a = valOf b → a = b
  | [], [], _, _ => rfl
  | x :: a, y :: b, hl, hv => by
    have h1 : x.toNat < 256 := x.toNat_lt
    have h2 : y.toNat < 256 := y.toNat_lt
    simp only [valOf] at hv
    have h3 : x.toNat = y.toNat := by omega
    have h4 : valOf a = valOf b := by omega
    rw [valOf_inj a b (by simpa using hl) h4, UInt8.toNat_inj.1 h3]
  | [], _ :: _, hl, _ => by simp at hl
  | _ :: _, [], hl, _ => by simp at hl
theorem of_inj {a b : List UInt8} (h : of a = of b) : a = b := by
  simp only [of, mk.injEq] at h
  exact valOf_inj a b h.1 h.2
theorem eq_of (a b : List UInt8) : (of a).eq (of b) = (a == b) := by
  rw [Bool.eq_iff_iff]
  simp only [eq, Bool.and_eq_true, beq_iff_eq]
  exact ⟨fun h => valOf_inj a b h.1 h.2, fun h => by subst h; exact ⟨rfl, rfl⟩⟩
theorem bytesFrom_of (l : List UInt8) : ∀ (n i : Nat), i + n ≤ l.length → (of l).bytesFrom n i = ((l.drop i).take n).map (·.toNat)
  | 0, i, _ => by simp [bytesFrom]
  | n + 1, i, h => by
    have hi : i < l.length := by omega
    rw [bytesFrom, bytesFrom_of l n (i + 1) (by omega), byte_of l i hi, List.drop_eq_getElem_cons hi]
    simp only [List.take_succ_cons, List.map_cons]
theorem bytes_of (l : List UInt8) : (of l).bytes = l.map (·.toNat) := by
  unfold bytes
  rw [show (of l).len = l.length from rfl, bytesFrom_of l l.length 0 (by omega)]
  simp
theorem lessL_map : ∀ (a b : List UInt8), lessL (a.map (·.toNat)) (b.map (·.toNat)) = Op.bytesLess a b
  | [], [] => rfl
  | [], _ :: _ => rfl
  | _ :: _, [] => rfl
  | x :: a, y :: b => by
    simp only [List.map_cons, lessL, Op.bytesLess, lessL_map a b]
    have e1 : Nat.blt x.toNat y.toNat = decide (x < y) := by
      rw [Bool.eq_iff_iff]; simp [UInt8.lt_iff_toNat_lt, Nat.blt_eq]
    have e2 : (x.toNat == y.toNat) = (x == y) := by
      rw [Bool.eq_iff_iff]; simp [UInt8.toNat_inj]
    rw [e1, e2]
theorem less_of (a b : List UInt8) : (of a).less (of b) = Op.bytesLess a b := by
  rw [less, bytes_of, bytes_of, lessL_map]
end PS
/-! Whole numbers. -/
theorem nmod_eq (n : Int) (M : Nat) (h : 0 < M) : ((nmod n M : Nat) : Int) = n % (M : Int) := by
  cases n with
  | ofNat a => simp only [nmod]; rfl
  | negSucc a =>
    simp only [nmod]
    have h1 := Nat.mod_lt a h
    rw [Int.negSucc_emod _ (by omega)]
    omega
theorem modOf_eq (k : IntKind) : ((modOf k : Nat) : Int) = 2 ^ k.bits := by cases k <;> rfl
theorem modOf_nat (k : IntKind) : modOf k = 2 ^ k.bits := by cases k <;> rfl
theorem modOf_pos (k : IntKind) : 0 < modOf k := by cases k <;> decide
theorem nmod_lt (n : Int) (k : IntKind) : nmod n (modOf k) < modOf k := by
  have h := nmod_eq n (modOf k) (modOf_pos k)
  have h2 := Int.emod_lt_of_pos n (show (0 : Int) < (modOf k : Int) by have := modOf_pos k; omega)
  omega
theorem blt_eq (x y : Nat) : Nat.blt x y = decide (x < y) := by
  rw [Bool.eq_iff_iff, Nat.blt_eq, decide_eq_true_iff]
theorem fwrap_eq (k : IntKind) (n : Int) : fwrap k n = k.wrap n := by
  have h := nmod_eq n (modOf k) (modOf_pos k)
  have hlt := nmod_lt n k
  unfold fwrap IntKind.wrap
  rw [← modOf_eq k, ← h, blt_eq]
  generalize nmod n (modOf k) = m at *
  have key : ∀ (M half : Nat) (s : Bool) (two : Int), m < M → (s = true → two = (half : Int)) → (s = false → half = M) →
      (match decide (m < half) with | true => Int.ofNat m | false => Int.negSucc (M - 1 - m)) = if (s && decide ((m : Int) ≥ two)) = true then (m : Int) - (M : Int) else (m : Int) := by
    intro M half s two h1 h2 h3
    cases s with
    | true =>
      rw [h2 rfl]
      by_cases c : m < half
      · rw [decide_eq_true c, if_neg (by simp; omega)]; rfl
      · rw [decide_eq_false c, if_pos (by simp; omega)]
        show Int.negSucc (M - 1 - m) = _
        omega
    | false =>
      rw [h3 rfl, decide_eq_true h1]; rfl
  cases k <;> exact key _ _ _ _ hlt (fun h => by first | rfl | cases h) (fun h => by first | rfl | cases h)
theorem ilt_eq (a b : Int) : ilt a b = decide (a < b) := by
  cases a <;> cases b <;> simp only [ilt, blt_eq] <;> rw [Bool.eq_iff_iff] <;> simp only [decide_eq_true_iff, Int.ofNat_eq_natCast] <;> first | omega | (simp; done) | (simp; omega)
theorem ile_eq (a b : Int) : ile a b = decide (a ≤ b) := by
  rw [ile, ilt_eq, Bool.eq_iff_iff]
  simp
theorem ieq_eq (a b : Int) : ieq a b = (a == b) := by
  rw [Bool.eq_iff_iff]
  cases a <;> cases b <;> simp [ieq] <;> omega
theorem ishl_eq (a : Int) (n : Nat) : ishl a n = a * 2 ^ n := by
  unfold ishl
  congr 1
theorem ishr_eq (a : Int) (n : Nat) : ishr a n = a.fdiv (2 ^ n) := by
  have e : ((2 : Int) ^ n) = ((2 ^ n : Nat) : Int) := by simp
  have hp : 0 < 2 ^ n := Nat.two_pow_pos n
  rw [e, Int.fdiv_eq_ediv_of_nonneg _ (by omega)]
  cases a with
  | ofNat a => simp only [ishr]; rfl
  | negSucc a =>
    simp only [ishr]
    rw [Int.negSucc_ediv _ (by omega)]
    rfl
theorem kindEq_eq (k k' : IntKind) : kindEq k k' = decide (k = k') := by cases k <;> cases k' <;> rfl

end Go.Vm
