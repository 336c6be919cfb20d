/- The preprocessor: a line without comments; lists that grow, more precisely; a line put out, or too large a text. -/
import Derived.Test.YtdpaokgemjfhlaaGreatDoorPn
namespace Go.Vm.Tryz
set_option linter.unusedSectionVars false
set_option linter.unusedSimpArgs false
set_option linter.unusedVariables false
set_option maxRecDepth 10000
theorem text_loop2 (n : Nat) (l : List UInt8) (hn : l.length + 100 ≤ n) (hl : l.length < 100000) (hno : ∀ x ∈ l, x ≠ 96 ∧ x ≠ 47) (p0 : Option (Nat × Nat)) (file : PS) (line : Int) (H0 : VH) (h0 : 0 < H0.next) :
    ∀ (m i : Nat) (H : VH) (cs : List AV) (c : AV), i ≤ l.length → l.length - i < m → TextI H0 H cs c (l.take i) →
      ∃ H' cs' c', loopN (L59_0 (vcall T ext promo n) n p0 H0 (PS.of l) file line) m [.bool false, .int .i64 (i : Int)] H = some (.exit 0, [.bool false], H') ∧ TextI H0 H' cs' c' l := by
  intro m
  induction m with
  | zero => intro i H cs c _ h; omega
  | succ m ih =>
    intro i H cs c hi hm hT
    rw [loopN_succ]
    generalize hlp : loopN (L59_0 (vcall T ext promo n) n p0 H0 (PS.of l) file line) m = lp at ih ⊢
    unfold L59_0
    simp only [KA, KB, KD, reduceCtorEq, if_false, if_true, of_len, Bool.and_eq_true, ieq_dec]
    by_cases h : i < l.length
    · rw [if_pos (by omega)]
      have go : ∀ (e : Nat), i < e → e ≤ l.length → l.take i ++ (l.drop i).take (e - i) = l.take e ∧ (l.drop i).take (e - i) ≠ [] := fun e h1 h2 => by
        constructor
        · rw [show e = i + (e - i) by omega, List.take_add]
          congr 2
          omega
        · intro e2
          have := congrArg List.length e2
          rw [List.length_take, List.length_drop] at this
          simp only [List.length_nil] at this
          omega
      rw [slStrF _ _ _ (by omega)]
      simp only [KA, KB, KD, reduceCtorEq, if_false, if_true]
      rw [prefix_ok n (by omega) _ _ (by rw [List.length_drop]; omega)]
      simp only [KA, KB, KD, reduceCtorEq, if_false, if_true, List.length_cons, List.length_nil]
      by_cases hp : (l.drop i).take 2 = [47, 42]
      · exfalso
        have : (47 : UInt8) ∈ l := List.mem_of_mem_drop (List.mem_of_mem_take (by rw [hp]; exact List.mem_cons_self))
        exact (hno 47 this).2 rfl
      · rw [if_neg hp, if_pos (by omega), byte_int l i h]
        have h96 : ¬ (l[i].toNat : Int) = 96 := fun e => (hno l[i] (List.getElem_mem h)).1 (UInt8.toNat_inj.1 (by
          show l[i].toNat = 96
          omega))
        rw [if_neg h96]
        obtain ⟨e, p1, p2, p3⟩ := piece_ok n l (by omega) hl i h H
        rw [p3]
        simp only [KA, KB, KD, reduceCtorEq, if_false, if_true]
        rw [slStr _ _ _ _ (by omega) p2]
        simp only [KA, KB, KD, reduceCtorEq, if_false, if_true]
        obtain ⟨g1, g2⟩ := go e p1 p2
        obtain ⟨cs1, c1, H1, e1, t1⟩ := hT.write h0 n (by omega) ((l.drop i).take (e - i)) g2 (by rw [List.length_take, List.length_take, List.length_drop]; omega)
        rw [e1]
        simp only [KA, KB, KD, reduceCtorEq, if_false, if_true]
        rw [g1] at t1
        exact ih e H1 cs1 c1 p2 (by omega) t1
    · rw [if_neg (by omega)]
      refine ⟨H, cs, c, rfl, ?_⟩
      rwa [List.take_of_length_le (by omega)] at hT
theorem text2_ok (n : Nat) (l : List UInt8) (hn : l.length + 200 ≤ n) (hl : l.length < 100000) (hno : ∀ x ∈ l, x ≠ 96 ∧ x ≠ 47) (p0 : Option (Nat × Nat)) (file : PS) (line : Int) {H : VH} (hH : H.Ok) (hM : Mx H) :
    vcall T ext promo n 59 [.ptr p0, .agg [.str file, .int .i64 line], .str (PS.of l), .bool false] H = some (.tuple [.str (PS.of l), .bool false], H) := by
  obtain ⟨n, rfl⟩ : ∃ m, n = m + 1 := ⟨n - 1, by omega⟩
  have hpt := freshT_plainT (lo_ok hH) [.ptr none, .slice none 0 (some 0) 0] 79
  have hok := freshT_ok (lo_ok hH) [.ptr none, .slice none 0 (some 0) 0] 79
  have heff : Eff (fun _ => False) H.lo (H.lo.freshT [.ptr none, .slice none 0 (some 0) 0] 79) := .freshT _ (lo_ok hH) _ _
  have t0 : TextI H.lo (H.lo.freshT [.ptr none, .slice none 0 (some 0) 0] 79) [.ptr none, .slice none 0 (some 0) 0] (.slice none 0 (some 0) 0) (l.take 0) := by
    refine ⟨hok, hM.lo.keep (lo_ok hH) heff.keep (fun e => e), ⟨hpt, ⟨by kernel_rfl, 2, by kernel_rfl, by omega, by simp⟩, .inl rfl, rfl, .inl ⟨rfl, rfl⟩, (fun ⟨_, _, _, _, e⟩ => by cases e)⟩, heff, (fun x ⟨_, _, _, _, e⟩ => by cases e), .inr (fun ⟨x, _, _, _, _, e⟩ => by cases e)⟩
  have hd : ∀ {H' : VH} {v : AV}, Eff (fun _ => False) H.lo H' → flat v = true → leave H H' v = H := fun e hv => leave_flat (e.flat fun _ _ e => e) hv
  obtain ⟨H1, cs, c, e1, t1⟩ := text_loop2 n l (by omega) hl hno p0 file line H.lo hM.1 n 0 _ _ _ (by omega) (by omega) t0
  obtain ⟨H2, e2, k2⟩ := string_ok n (by omega) t1.ok t1.bld t1.emp (by omega)
  apply ok59
  unfold F59
  simp only [letH_mk]
  rw [show (.int .i64 0 : AV) = .int .i64 ((0 : Nat) : Int) from rfl, e1]
  simp only [KA, KB, KD, reduceCtorEq, if_false, if_true]
  rw [e2]
  simp only [KA, KB, KD, reduceCtorEq, if_false, if_true]
  rw [hd (t1.eff.trans k2 fun x hx => .inr (t1.new x hx)) rfl]
/-! Lists that grow: which blocks are touched. -/
/-- The block of a slice. -/
def TipAt (v : AV) (x : Nat) : Prop := ∃ o n c e, v = .slice (some (x, o)) n c e
theorem Grow.app2 {st e sz : Nat} (ht : SlT st e sz) {H : VH} {b : Nat} {v : AV} {len : Nat} {cs : List AV} (h : Grow H b e sz v len cs) (hH : H.Ok) (hb : b < H.next) (hl : len < 1000000) {p : Nat} {c : Option Nat} {es : Nat} {new : List AV} (hc : H.cells p 0 (1 * sz) = some new) (hn : new.length = sz) (ho : allOne new = true) :
    ∃ v' H', vbuiltin T H .append [st, st] [v, .slice (some (p, 0)) 1 c es] = some (v', H') ∧ Grow H' b e sz v' (len + 1) (cs ++ new) ∧ H'.Ok ∧ Eff (TipAt v) H H' ∧ (∀ x, TipAt v' x → x = H.next) ∧ H'.next = H.next + 1 := by
  obtain ⟨hcs, h⟩ := h
  have hlen : (cs ++ new).length = (len + 1) * sz := by rw [List.length_append, hcs, hn, Nat.succ_mul]
  have htip : ∀ (n : Nat) (c : Option Nat) (e x : Nat), TipAt (.slice (some (H.next, 0)) n c e) x → x = H.next := fun n c e x ⟨_, _, _, _, h⟩ => by
    simp only [AV.slice.injEq, Option.some.injEq, Prod.mk.injEq] at h
    exact h.1.1.symm
  rcases h with ⟨rfl, rfl⟩ | ⟨q, rfl, h1, h2, h3⟩
  · have : cs = [] := List.length_eq_zero_iff.1 (by rw [hcs]; simp)
    subst this
    refine ⟨_, _, app_slt ht (H := H) (v := .slice none 0 (some 0) 0) (x := .slice (some (p, 0)) 1 c es) (len := 0) (n := 1) (new := new) rfl rfl (by omega) (by omega) hc ho, ⟨hlen, .inr ⟨H.next, rfl, hb, ?_, by omega⟩⟩, freshT_ok hH _ _, Eff.freshT _ hH _ _, htip _ _ _, rfl⟩
    rw [List.nil_append]
    exact freshT_tip hH new _
  · obtain ⟨H', a1, a2, a3, a4, a5, a6⟩ := h2.append hH sz len 1 new hcs.symm (by rw [hn, Nat.one_mul])
    refine ⟨_, H', (app_slt ht (H := H) (v := .slice (some (q, 0)) len none sz) (x := .slice (some (p, 0)) 1 c es) (len := len) (n := 1) (new := new) rfl rfl (by omega) (by omega) hc ho).trans a1, ⟨hlen, .inr ⟨H.next, rfl, hb, a2, by omega⟩⟩, a4, (Eff.of_low a3 a4 a5 (h2.lt hH)).mono fun y _ e => ⟨0, len, none, sz, by rw [e]⟩, htip _ _ _, a6⟩
theorem TipAt.lt {H : VH} {b e sz : Nat} {v : AV} {len : Nat} {cs : List AV} (h : Grow H b e sz v len cs) (hH : H.Ok) {x : Nat} (ht : TipAt v x) : x < H.next ∧ b < x := by
  obtain ⟨_, h | ⟨q, h, h1, h2, h3⟩⟩ := h
  · obtain ⟨_, _, _, _, e⟩ := ht
    rw [h.1] at e
    cases e
  · obtain ⟨_, _, _, _, e⟩ := ht
    rw [h] at e
    simp only [AV.slice.injEq, Option.some.injEq, Prod.mk.injEq] at e
    rw [← e.1.1]
    exact ⟨h2.lt hH, h1⟩
theorem Grow.keep2 {S : Nat → Prop} {H H' : VH} {b e sz : Nat} {v : AV} {len : Nat} {cs : List AV} (h : Grow H b e sz v len cs) (hH : H.Ok) (k : Keep S H H') (hs : ∀ x, TipAt v x → ¬ S x) : Grow H' b e sz v len cs := by
  obtain ⟨hc, h | ⟨q, e1, h1, h2, h3⟩⟩ := h
  · exact ⟨hc, .inl h⟩
  · exact ⟨hc, .inr ⟨q, e1, h1, h2.keep hH k (hs q ⟨0, len, none, sz, e1⟩), h3⟩⟩
end Go.Vm.Tryz
