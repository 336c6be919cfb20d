/- A list that grows by appends, whatever its elements are. -/
import Derived.Test.YtmlogeklbcgjnaaGreatDoorDi
namespace Go.Vm.Tryz
set_option linter.unusedSectionVars false
set_option linter.unusedSimpArgs false
set_option linter.unusedVariables false
set_option maxRecDepth 10000
/-- A slice's type st, its elements' type e of sz cells. -/
structure SlT (st e sz : Nat) : Prop where
  und : T.und st = some (.slice e)
  info : ∃ i, T.info e = some i ∧ i.size = sz ∧ i.bytes ≤ 1000
  zero : zeroFits T e sz = true
  pos : 0 < sz
theorem SlT.listy {st e sz : Nat} (h : SlT st e sz) : listy T st = true := by
  unfold Go.Vm.listy
  rw [h.und]
theorem app_slt {st e sz : Nat} (ht : SlT st e sz) {H : VH} {v x : AV} {len n : Nat} {new : List AV} (hv : vlenOf v = some len) (hx : vlenOf x = some n) (hn : n ≠ 0) (hl : len + n < 1000000000) (hs : vsource H sz n x = some new) (ho : allOne new = true) :
    vbuiltin T H .append [st, st] [v, x] = appendTo H e sz v n new := by
  rw [vb_append]
  obtain ⟨i, hq, h1, h2⟩ := ht.info
  have e1 : Nat.beq n 0 = false := by
    cases e : Nat.beq n 0 with
    | false => rfl
    | true => exact absurd (Nat.eq_of_beq_eq_true e) hn
  have hp := ht.pos
  have hb : (len + n) * i.bytes ≤ 1000000000 * 1000 := Nat.mul_le_mul (by omega) h2
  have e2 : (Nat.blt 0 i.size && Nat.ble ((len + n) * i.bytes) 140737488355328 && Nat.ble (len + n) 9223372036854775807 && zeroFits T e i.size) = true := by
    rw [h1, ht.zero]
    simp
    omega
  unfold vappend
  rw [h1] at e2
  simp only [ht.und, ht.listy, hq, hv, hx, e1, Bool.false_eq_true, if_false, h1, e2, if_true, hs, ho]
/-- A list of len elements with the cells cs; its block lies behind b. -/
def Grow (H : VH) (b e sz : Nat) (v : AV) (len : Nat) (cs : List AV) : Prop :=
  cs.length = len * sz ∧ (v = .slice none 0 (some 0) 0 ∧ len = 0 ∨ ∃ (q : Nat), v = .slice (some (q, 0)) len none sz ∧ b < q ∧ Tip H q cs e ∧ 0 < len)
theorem Grow.nil (H : VH) (b e sz : Nat) : Grow H b e sz (.slice none 0 (some 0) 0) 0 [] := ⟨by simp, .inl ⟨rfl, rfl⟩⟩
theorem Grow.keep {S : Nat → Prop} {H H' : VH} {b e sz : Nat} {v : AV} {len : Nat} {cs : List AV} (h : Grow H b e sz v len cs) (hH : H.Ok) (k : Keep S H H') (hs : ∀ x, S x → x ≤ b ∨ H.next ≤ x) : Grow H' b e sz v len cs := by
  obtain ⟨hc, h | ⟨q, e1, h1, h2, h3⟩⟩ := h
  · exact ⟨hc, .inl h⟩
  · exact ⟨hc, .inr ⟨q, e1, h1, h2.keep hH k (fun g => by have := h2.lt hH; rcases hs q g with g | g <;> omega), h3⟩⟩
theorem Grow.lo {H : VH} {b e sz : Nat} {v : AV} {len : Nat} {cs : List AV} (h : Grow H b e sz v len cs) : Grow H.lo b e sz v len cs := by
  obtain ⟨hc, h | ⟨q, e1, h1, h2, h3⟩⟩ := h
  · exact ⟨hc, .inl h⟩
  · exact ⟨hc, .inr ⟨q, e1, h1, h2.lo, h3⟩⟩
theorem Grow.low {H : VH} {b e sz : Nat} {v : AV} {len : Nat} {cs : List AV} (h : Grow H b e sz v len cs) (m : Nat) : Grow { H with low := m } b e sz v len cs := by
  obtain ⟨hc, h | ⟨q, e1, h1, h2, h3⟩⟩ := h
  · exact ⟨hc, .inl h⟩
  · exact ⟨hc, .inr ⟨q, e1, h1, h2.low m, h3⟩⟩
theorem Grow.down {H : VH} {b b' e sz : Nat} {v : AV} {len : Nat} {cs : List AV} (h : Grow H b e sz v len cs) (hb : b' ≤ b) : Grow H b' e sz v len cs := by
  obtain ⟨hc, h | ⟨q, e1, h1, h2, h3⟩⟩ := h
  · exact ⟨hc, .inl h⟩
  · exact ⟨hc, .inr ⟨q, e1, Nat.lt_of_le_of_lt hb h1, h2, h3⟩⟩
/-- The cells of one element that is appended, as they lie in a block of their own. -/
theorem Grow.app {st e sz : Nat} (ht : SlT st e sz) {H : VH} {b : Nat} {v : AV} {len : Nat} {cs : List AV} (h : Grow H b e sz v len cs) (hH : H.Ok) (hb : b < H.next) (hl : len < 1000000) {p : Nat} {c : Option Nat} {es : Nat} {new : List AV} (hc : H.cells p 0 (1 * sz) = some new) (hn : new.length = sz) (ho : allOne new = true) :
    ∃ v' H', vbuiltin T H .append [st, st] [v, .slice (some (p, 0)) 1 c es] = some (v', H') ∧ Grow H' b e sz v' (len + 1) (cs ++ new) ∧ H'.Ok ∧ Eff (fun y => b < y) H H' ∧ H'.next = H.next + 1 := by
  obtain ⟨hcs, h⟩ := h
  have hlen : (cs ++ new).length = (len + 1) * sz := by rw [List.length_append, hcs, hn, Nat.succ_mul]
  rcases h with ⟨rfl, rfl⟩ | ⟨q, rfl, h1, h2, h3⟩
  · have : cs = [] := List.length_eq_zero_iff.1 (by rw [hcs]; simp)
    subst this
    refine ⟨_, _, app_slt ht (H := H) (v := .slice none 0 (some 0) 0) (x := .slice (some (p, 0)) 1 c es) (len := 0) (n := 1) (new := new) rfl rfl (by omega) (by omega) hc ho, ⟨hlen, .inr ⟨H.next, rfl, hb, ?_, by omega⟩⟩, freshT_ok hH _ _, Eff.freshT _ hH _ _, rfl⟩
    rw [List.nil_append]
    exact freshT_tip hH new _
  · obtain ⟨H', a1, a2, a3, a4, a5, a6⟩ := h2.append hH sz len 1 new hcs.symm (by rw [hn, Nat.one_mul])
    refine ⟨_, H', (app_slt ht (H := H) (v := .slice (some (q, 0)) len none sz) (x := .slice (some (p, 0)) 1 c es) (len := len) (n := 1) (new := new) rfl rfl (by omega) (by omega) hc ho).trans a1, ⟨hlen, .inr ⟨H.next, rfl, hb, a2, by omega⟩⟩, a4, (Eff.of_low a3 a4 a5 (h2.lt hH)).mono fun y _ e => by rw [e]; exact h1, a6⟩
theorem Grow.cells {H : VH} {b e sz : Nat} {v : AV} {len : Nat} {cs : List AV} (h : Grow H b e sz v len cs) (hl : 0 < len) : ∃ (q : Nat), v = .slice (some (q, 0)) len none sz ∧ b < q ∧ (∀ o, H.cell q o = cs[o]?) := by
  obtain ⟨hc, h | ⟨q, e1, h1, h2, h3⟩⟩ := h
  · omega
  · exact ⟨q, e1, h1, h2.cell⟩
theorem plain_puts0 : ∀ (vs : List AV) {H : VH} {b : Nat} {cs : List AV} (o : Nat), Plain H b cs → H.Ok → o + vs.length ≤ cs.length → allOne vs = true →
    ∃ H', H.puts b o vs = some H' ∧ Plain H' b (cs.take o ++ vs ++ cs.drop (o + vs.length)) ∧ Did b H H'
  | [], H, b, cs, o, h, hH, _, _ => ⟨H, rfl, by simpa using h, .refl hH⟩
  | v :: vs, H, b, cs, o, h, hH, hl, ho => by
    simp only [List.length_cons] at hl
    have ho2 : v.one = true ∧ allOne vs = true := by
      change (v.one && allOne vs) = true at ho
      simpa using ho
    obtain ⟨H1, e1, p1, k1, o1, l1, n1⟩ := h.puts1 hH o (by omega) v ho2.1
    obtain ⟨H2, e2, p2, d2⟩ := plain_puts0 vs (o + 1) p1 o1 (by simp; omega) ho2.2
    have hb := h.lt hH
    refine ⟨H2, ?_, ?_, Did.trans ⟨.of_low k1 o1 l1 hb, fun hx => absurd hx (by omega)⟩ d2⟩
    · simp only [VH.puts] at e1 ⊢
      cases e : H.put b o v with
      | none => rw [e] at e1; cases e1
      | some H' =>
        rw [e] at e1
        simp only [Option.some.injEq] at e1
        subst e1
        exact e2
    · have e : cs.take o ++ v :: vs ++ cs.drop (o + (vs.length + 1)) = (cs.set o v).take (o + 1) ++ vs ++ (cs.set o v).drop (o + 1 + vs.length) := by
        rw [List.drop_set_of_lt (by omega), show o + (vs.length + 1) = o + 1 + vs.length by omega]
        congr 1
        rw [List.take_add_one, List.take_set_of_le (Nat.le_refl _), List.getElem?_set_self (by omega)]
        simp
      rw [List.length_cons, e]
      exact p2
end Go.Vm.Tryz
