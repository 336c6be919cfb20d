/- The preprocessor: a line without a backquote is not changed. -/
import Derived.Test.YtdpaokgemjfhlaaGreatDoorPb
namespace Go.Vm.Tryz
set_option linter.unusedSectionVars false
set_option linter.unusedSimpArgs false
set_option linter.unusedVariables false
set_option maxRecDepth 10000
theorem index_room (p : List UInt8) : ∀ s : List UInt8, 0 ≤ Lib.index s p → (Lib.index s p).toNat + p.length ≤ s.length
  | [], h => by
    unfold Lib.index at h ⊢
    cases p with
    | nil => simp
    | cons a p => simp at h
  | b :: s, h => by
    unfold Lib.index at h ⊢
    split at h
    · rename_i hp
      rw [if_pos hp]
      have := (List.isPrefixOf_iff_prefix.1 hp).length_le
      simpa using this
    · rename_i hp
      rw [if_neg hp]
      split at h
      · omega
      · rename_i h1
        rw [if_neg h1]
        have h2 := Lib.index_ge s p
        have h3 : ¬ Lib.index s p = -1 := by simpa using h1
        have := index_room p s (by omega)
        simp only [List.length_cons]
        omega
/-- What the loop over a line keeps. -/
structure TextI (H0 H : VH) (cs : List AV) (c : AV) (l : List UInt8) : Prop where
  ok : H.Ok
  mx : Mx H
  bld : Bld H H0.next 0 79 cs c l
  eff : Eff (fun _ => False) H0 H
  new : ∀ x, BufAt c x → H0.next ≤ x
  emp : l ≠ [] ∨ ¬ ∃ x, BufAt c x
theorem TextI.write {H0 H : VH} {cs : List AV} {c : AV} {l : List UInt8} (h : TextI H0 H cs c l) (h0 : 0 < H0.next) (n : Nat) (hn : 10 ≤ n) (s : List UInt8) (hs : s ≠ []) (hl : l.length + s.length < 1000000000) :
    ∃ cs' c' H', vcall T ext promo n 47 [.ptr (some (H0.next, 0)), .str (PS.of s)] H = some (.tuple [.int .i64 (s.length : Int), .nilIface], H') ∧ TextI H0 H' cs' c' (l ++ s) := by
  obtain ⟨c', H', e1, e2, e3, e4⟩ := write_ok n hn h.ok h.bld s hl
  have hle := h.eff.keep.next
  refine ⟨_, c', H', e1, e3.ok, h.mx.keep h.ok e3.keep fun e => ?_, e2, h.eff.trans e3 fun x hx => ?_, fun x hx => ?_, .inl fun e => hs (List.append_eq_nil_iff.1 e).2⟩
  · rcases e with e | e
    · omega
    · have := h.new 0 e
      omega
  · rcases hx with rfl | e
    · exact .inr (Nat.le_refl _)
    · exact .inr (h.new x e)
  · rcases e4 x hx with e | e
    · exact h.new x e
    · omega
theorem text_loop (n : Nat) (l : List UInt8) (hn : l.length + 100 ≤ n) (hl : l.length < 100000) (hno : ∀ x ∈ l, x ≠ 96) (p0 : Option (Nat × Nat)) (file : PS) (line : Int) (H0 : VH) (h0 : 0 < H0.next) :
    ∀ (m i : Nat) (b : Bool) (H : VH) (cs : List AV) (c : AV), i ≤ l.length → l.length - i < m → TextI H0 H cs c (l.take i) →
      (∃ b' H' cs' c', loopN (L59_0 (vcall T ext promo n) n p0 H0 (PS.of l) file line) m [.bool b, .int .i64 (i : Int)] H = some (.exit 0, [.bool b'], H') ∧ TextI H0 H' cs' c' l) ∨
      ∃ H', loopN (L59_0 (vcall T ext promo n) n p0 H0 (PS.of l) file line) m [.bool b, .int .i64 (i : Int)] H = some (.ret, [.str (PS.of l), .bool true], H') ∧ Eff (fun _ => False) H0 H' := by
  intro m
  induction m with
  | zero => intro i b H cs c _ h; omega
  | succ m ih =>
    intro i b H cs c hi hm hT
    rw [loopN_succ]
    generalize hlp : loopN (L59_0 (vcall T ext promo n) n p0 H0 (PS.of l) file line) m = lp at ih ⊢
    unfold L59_0
    simp only [KA, KB, KD, reduceCtorEq, if_false, if_true, of_len, Bool.and_eq_true, ieq_dec]
    by_cases h : i < l.length
    · rw [if_pos (by omega)]
      have go : ∀ (e : Nat), i < e → e ≤ l.length → l.take i ++ (l.drop i).take (e - i) = l.take e ∧ (l.drop i).take (e - i) ≠ [] := fun e h1 h2 => by
        constructor
        · rw [show e = i + (e - i) by omega, List.take_add]
          congr 2
          omega
        · intro e2
          have := congrArg List.length e2
          rw [List.length_take, List.length_drop] at this
          simp only [List.length_nil] at this
          omega
      cases b with
      | true =>
        simp only [KA, KB, KD, reduceCtorEq, if_false, if_true]
        rw [slStrF _ _ _ (by omega)]
        simp only [KA, KB, KD, reduceCtorEq, if_false, if_true]
        rw [sindex_ok n (by omega) _ [42, 47] (by rw [List.length_drop]; omega) hT.mx]
        simp only [KA, KB, KD, reduceCtorEq, if_false, if_true]
        by_cases hk : Lib.index (l.drop i) [42, 47] < 0
        · rw [if_pos hk]
          obtain ⟨cs1, c1, H1, e1, t1⟩ := hT.write h0 n (by omega) (l.drop i) (fun e => by have := congrArg List.length e; rw [List.length_drop] at this; simp only [List.length_nil] at this; omega) (by rw [List.length_take, List.length_drop]; omega)
          rw [slStrF _ _ _ (by omega)]
          simp only [KA, KB, KD, reduceCtorEq, if_false, if_true]
          rw [e1]
          simp only [KA, KB, KD, reduceCtorEq, if_false, if_true]
          rw [List.take_append_drop] at t1
          obtain ⟨H2, e2, k2⟩ := string_ok n (by omega) t1.ok t1.bld t1.emp (by omega)
          rw [e2]
          simp only [KA, KB, KD, reduceCtorEq, if_false, if_true]
          exact .inr ⟨H2, rfl, t1.eff.trans k2 fun x hx => .inr (t1.new x hx)⟩
        · rw [if_neg hk]
          have hr := index_room [42, 47] (l.drop i) (by omega)
          rw [List.length_drop] at hr
          simp only [List.length_cons, List.length_nil] at hr
          obtain ⟨k, hkk⟩ : ∃ k : Nat, Lib.index (l.drop i) [42, 47] = (k : Int) := ⟨(Lib.index (l.drop i) [42, 47]).toNat, by omega⟩
          rw [hkk] at hr ⊢
          have hk2 : i + k + 2 ≤ l.length := by omega
          have f1 : fwrap .i64 ((i : Int) + (k : Int)) = ((i + k : Nat) : Int) := by rw [fw_i64 (by omega) (by omega)]; omega
          have f2 : fwrap .i64 (((i + k : Nat) : Int) + 2) = ((i + k + 2 : Nat) : Int) := by rw [fw_i64 (by omega) (by omega)]; omega
          rw [f1, f2, slStr _ _ _ _ (by omega) hk2]
          simp only [KA, KB, KD, reduceCtorEq, if_false, if_true]
          obtain ⟨g1, g2⟩ := go (i + k + 2) (by omega) hk2
          obtain ⟨cs1, c1, H1, e1, t1⟩ := hT.write h0 n (by omega) ((l.drop i).take (i + k + 2 - i)) g2 (by rw [List.length_take, List.length_take, List.length_drop]; omega)
          rw [e1]
          simp only [KA, KB, KD, reduceCtorEq, if_false, if_true]
          rw [g1] at t1
          exact ih (i + k + 2) false H1 cs1 c1 hk2 (by omega) t1
      | false =>
        simp only [KA, KB, KD, reduceCtorEq, if_false, if_true]
        rw [slStrF _ _ _ (by omega)]
        simp only [KA, KB, KD, reduceCtorEq, if_false, if_true]
        rw [prefix_ok n (by omega) _ _ (by rw [List.length_drop]; omega)]
        simp only [KA, KB, KD, reduceCtorEq, if_false, if_true, List.length_cons, List.length_nil]
        by_cases hp : (l.drop i).take 2 = [47, 42]
        · rw [if_pos hp]
          have hl2 : i + 2 ≤ l.length := by
            have := congrArg List.length hp
            rw [List.length_take, List.length_drop] at this
            simp only [List.length_cons, List.length_nil] at this
            omega
          obtain ⟨g1, g2⟩ := go (i + 2) (by omega) hl2
          rw [show i + 2 - i = 2 by omega, hp] at g1
          obtain ⟨cs1, c1, H1, e1, t1⟩ := hT.write h0 n (by omega) [47, 42] (by simp) (by rw [List.length_take]; simp only [List.length_cons, List.length_nil]; omega)
          rw [e1]
          simp only [KA, KB, KD, reduceCtorEq, if_false, if_true]
          rw [g1] at t1
          rw [fw_i64 (by omega) (by omega), show (i : Int) + 2 = ((i + 2 : Nat) : Int) by omega]
          exact ih (i + 2) true H1 cs1 c1 hl2 (by omega) t1
        · rw [if_neg hp, if_pos (by omega), byte_int l i h]
          have h96 : ¬ (l[i].toNat : Int) = 96 := fun e => hno l[i] (List.getElem_mem h) (UInt8.toNat_inj.1 (by
            show l[i].toNat = 96
            omega))
          rw [if_neg h96]
          obtain ⟨e, p1, p2, p3⟩ := piece_ok n l (by omega) hl i h H
          rw [p3]
          simp only [KA, KB, KD, reduceCtorEq, if_false, if_true]
          rw [slStr _ _ _ _ (by omega) p2]
          simp only [KA, KB, KD, reduceCtorEq, if_false, if_true]
          obtain ⟨g1, g2⟩ := go e p1 p2
          obtain ⟨cs1, c1, H1, e1, t1⟩ := hT.write h0 n (by omega) ((l.drop i).take (e - i)) g2 (by rw [List.length_take, List.length_take, List.length_drop]; omega)
          rw [e1]
          simp only [KA, KB, KD, reduceCtorEq, if_false, if_true]
          rw [g1] at t1
          exact ih e false H1 cs1 c1 p2 (by omega) t1
    · rw [if_neg (by omega)]
      refine .inl ⟨b, H, cs, c, rfl, ?_⟩
      rwa [List.take_of_length_le (by omega)] at hT
theorem text_ok (n : Nat) (l : List UInt8) (hn : l.length + 200 ≤ n) (hl : l.length < 100000) (hno : ∀ x ∈ l, x ≠ 96) (p0 : Option (Nat × Nat)) (file : PS) (line : Int) (b : Bool) {H : VH} (hH : H.Ok) (hM : Mx H) :
    ∃ b', vcall T ext promo n 59 [.ptr p0, .agg [.str file, .int .i64 line], .str (PS.of l), .bool b] H = some (.tuple [.str (PS.of l), .bool b'], H) := by
  obtain ⟨n, rfl⟩ : ∃ m, n = m + 1 := ⟨n - 1, by omega⟩
  have hpt := freshT_plainT (lo_ok hH) [.ptr none, .slice none 0 (some 0) 0] 79
  have hok := freshT_ok (lo_ok hH) [.ptr none, .slice none 0 (some 0) 0] 79
  have heff : Eff (fun _ => False) H.lo (H.lo.freshT [.ptr none, .slice none 0 (some 0) 0] 79) := .freshT _ (lo_ok hH) _ _
  have t0 : TextI H.lo (H.lo.freshT [.ptr none, .slice none 0 (some 0) 0] 79) [.ptr none, .slice none 0 (some 0) 0] (.slice none 0 (some 0) 0) (l.take 0) := by
    refine ⟨hok, hM.lo.keep (lo_ok hH) heff.keep (fun e => e), ⟨hpt, ⟨by kernel_rfl, 2, by kernel_rfl, by omega, by simp⟩, .inl rfl, rfl, .inl ⟨rfl, rfl⟩, (fun ⟨_, _, _, _, e⟩ => by cases e)⟩, heff, (fun x ⟨_, _, _, _, e⟩ => by cases e), .inr (fun ⟨x, _, _, _, _, e⟩ => by cases e)⟩
  have h0 : 0 < H.lo.next := hM.1
  have hd : ∀ {H' : VH} {v : AV}, Eff (fun _ => False) H.lo H' → flat v = true → leave H H' v = H := fun e hv => leave_flat (e.flat fun _ _ e => e) hv
  rcases text_loop n l (by omega) hl hno p0 file line H.lo h0 n 0 b _ _ _ (by omega) (by omega) t0 with ⟨b', H1, cs, c, e1, t1⟩ | ⟨H1, e1, k1⟩
  · obtain ⟨H2, e2, k2⟩ := string_ok n (by omega) t1.ok t1.bld t1.emp (by omega)
    refine ⟨b', ok59 _ _ _ _ _ _ _ ?_⟩
    unfold F59
    simp only [letH_mk]
    rw [show (.int .i64 0 : AV) = .int .i64 ((0 : Nat) : Int) from rfl, e1]
    simp only [KA, KB, KD, reduceCtorEq, if_false, if_true]
    rw [e2]
    simp only [KA, KB, KD, reduceCtorEq, if_false, if_true]
    rw [hd (t1.eff.trans k2 fun x hx => .inr (t1.new x hx)) rfl]
  · refine ⟨true, ok59 _ _ _ _ _ _ _ ?_⟩
    unfold F59
    simp only [letH_mk]
    rw [show (.int .i64 0 : AV) = .int .i64 ((0 : Nat) : Int) from rfl, e1]
    simp only [KA, KB, KD, reduceCtorEq, if_false, if_true]
    rw [hd k1 rfl]
end Go.Vm.Tryz
