/- Blanks and comments. -/
import Derived.Test.YtieocmaaloaoaaaDoorXa
namespace Go.Vm.Tryd
set_option linter.unusedSectionVars false
set_option linter.unusedSimpArgs false
set_option linter.unusedVariables false
set_option maxRecDepth 10000
/-- The variable MaxLen holds a number. -/
def Mx (H : VH) : Prop := 0 < H.next ∧ ∃ m, H.cell 0 0 = some (.int .i64 m)
theorem Mx.keep {S : Nat → Prop} {H H' : VH} (h : Mx H) (hH : H.Ok) (k : Keep S H H') (hs : ¬ S 0) : Mx H' := by
  obtain ⟨h1, m, h2⟩ := h
  exact ⟨Nat.lt_of_lt_of_le h1 k.next, m, by rw [keep_cell k hH h1 hs]; exact h2⟩
theorem Mx.lo {H : VH} (h : Mx H) : Mx H.lo := h
theorem Mx.did {H H' : VH} {b : Nat} (h : Mx H) (hH : H.Ok) (k : Did b H H') (hb : b ≠ 0) : Mx H' := h.keep hH k.eff.keep (fun e => hb e.symm)
theorem slite_ok (n : Nat) (hn : 1 ≤ n) (l p : List UInt8) (hl : l.length < 100000) {H : VH} (hm : Mx H) : vcall T ext promo n 154 [.str (PS.of l), .str (PS.of p)] H = some (.int .i64 (Lib.index l p), H) := by
  obtain ⟨n, rfl⟩ : ∃ m, n = m + 1 := ⟨n - 1, by omega⟩
  obtain ⟨_, m, hm⟩ := hm
  refine call_ext (g := xIndexS 0) rfl ?_
  have : Nat.blt (PS.of l).len 4294967281 = true := by rw [blt_eq]; exact decide_eq_true (by rw [of_len]; omega)
  simp only [xIndexS, hm, this, bytes_back]
theorem sindex_ok (n : Nat) (hn : 5 ≤ n) (l p : List UInt8) (hl : l.length < 100000) {H : VH} (hm : Mx H) : vcall T ext promo n 123 [.str (PS.of l), .str (PS.of p)] H = some (.int .i64 (Lib.index l p), H) := by
  obtain ⟨n, rfl⟩ : ∃ m, n = m + 1 := ⟨n - 1, by omega⟩
  apply ok123
  unfold F123
  simp only [letH_mk]
  rw [slite_ok n (by omega) l p hl hm.lo]
  simp only [KA, KB, KD, reduceCtorEq, if_false, if_true]
  rw [leave_flat rfl rfl]
/-- Where blanks end: at the text's end, or at a byte that begins neither a blank nor a comment. -/
def Stop (l : List UInt8) : Prop := ∀ c t, l = c :: t → c ≠ 32 ∧ c ≠ 9 ∧ c ≠ 10 ∧ (c = 47 → ∀ d u, t = d :: u → d ≠ 47 ∧ d ≠ 42)
/-- A text begins with so many bytes of blanks and comments. -/
inductive Bl : List UInt8 → Nat → Prop
  | stop (tl : List UInt8) (h : Stop tl) : Bl tl 0
  | ws (c : UInt8) (tl : List UInt8) (k : Nat) (h : c = 32 ∨ c = 9 ∨ c = 10) (t : Bl tl k) : Bl (c :: tl) (k + 1)
  | line (w tl : List UInt8) (k : Nat) (hw : ∀ x ∈ w, x ≠ 10) (ht : ∀ c t, tl = c :: t → c = 10) (t : Bl tl k) : Bl (47 :: 47 :: w ++ tl) (w.length + 2 + k)
  | block (w tl : List UInt8) (k : Nat) (hi : Lib.index (w ++ 42 :: 47 :: tl) [42, 47] = (w.length : Int)) (t : Bl tl k) : Bl (47 :: 42 :: (w ++ 42 :: 47 :: tl)) (w.length + 4 + k)
theorem notNl_ok : Pred 136 (fun c => !decide (c = 10)) := by
  intro n hn c H
  obtain ⟨n, rfl⟩ : ∃ m, n = m + 1 := ⟨n - 1, by omega⟩
  apply ok136
  unfold F136
  have hc : decide ((c.toNat : Int) = 10) = decide (c = 10) := decide_eq_decide.2 ⟨fun e => UInt8.toNat_inj.1 (by show c.toNat = 10; omega), fun e => by rw [e]; rfl⟩
  simp only [KA, KB, KD, reduceCtorEq, if_false, if_true, ieq_dec, hc]
  rw [leave_flat rfl rfl]
theorem u8_ne {c d : UInt8} (h : c ≠ d) : ¬ (c.toNat : Int) = (d.toNat : Int) := fun e => h (UInt8.toNat_inj.1 (by omega))
theorem pre_two (a b c : UInt8) (t : List UInt8) : [a, b].isPrefixOf (c :: t) = (a == c && match t with | [] => false | d :: _ => b == d) := by
  cases t <;> simp [List.isPrefixOf]
/-- How a run of 'blank' ends. -/
def BlEnd (e : Ex) (l : List AV) : Prop := (e = .exit 0 ∧ l = []) ∨ (e = .ret ∧ l = [.int .i64 0])
theorem blank_loop (n : Nat) (b : Nat) (hb0 : b ≠ 0) (s : List UInt8) (hn : s.length + 60 ≤ n) (hl : s.length < 90000) :
    ∀ (tl : List UInt8) (k : Nat), Bl tl k → ∀ (m : Nat) (p : Pos) (H : VH), k < m → s.drop p.at_ = tl → p.Ok → p.at_ ≤ s.length → H.Ok → Mx H → Scan H b s p →
      ∃ e l H', loopN (L97_0 (vcall T ext promo n) n (some (b, 0))) m [] H = some (e, l, H') ∧ BlEnd e l ∧ Scan H' b s (p.go (tl.take k)) ∧ H'.Ok ∧ Did b H H' := by
  intro tl k hbl
  induction hbl with
  | stop tl h =>
    intro m p H hm hd hp hat hH hM hs
    obtain ⟨m, rfl⟩ : ∃ m', m = m' + 1 := ⟨m - 1, by omega⟩
    have c0 : H.cell b 0 = some (.str (PS.of s)) := Plain.cell hs 0
    have c1 : H.cell b (0 + 1) = some (.int .i64 (p.at_ : Int)) := Plain.cell hs 1
    rw [loopN_succ]
    unfold L97_0
    cases tl with
    | nil =>
      have hlen : s.length ≤ p.at_ := by
        have := congrArg List.length hd
        rw [List.length_drop] at this
        simp at this
        omega
      have h' : ¬ (p.at_ : Int) < (s.length : Int) := by omega
      refine ⟨.exit 0, [], H, ?_, .inl ⟨rfl, rfl⟩, hs, hH, .refl hH⟩
      simp only [KA, KB, KD, reduceCtorEq, if_false, if_true, c0, c1, of_len, h']
    | cons c t =>
      obtain ⟨hlt, hc0, hd'⟩ := drop_lt hd
      obtain ⟨g1, g2, g3, g4⟩ := h c t rfl
      have h' : (p.at_ : Int) < (s.length : Int) := by omega
      have h0 : (0 : Int) ≤ (p.at_ : Int) := Int.natCast_nonneg _
      have hq1 : [47, 47].isPrefixOf (s.drop p.at_) = false := by
        rw [hd, pre_two]
        by_cases e : c = 47
        · subst e
          cases t with
          | nil => simp
          | cons d u => simpa using fun e => ((g4 rfl) d u rfl).1 e.symm
        · simp [Ne.symm e]
      have hq2 : [47, 42].isPrefixOf (s.drop p.at_) = false := by
        rw [hd, pre_two]
        by_cases e : c = 47
        · subst e
          cases t with
          | nil => simp
          | cons d u => simpa using fun e => ((g4 rfl) d u rfl).2 e.symm
        · simp [Ne.symm e]
      refine ⟨.ret, [.int .i64 0], H, ?_, .inr ⟨rfl, rfl⟩, hs, hH, .refl hH⟩
      simp only [KA, KB, KD, reduceCtorEq, if_false, if_true, c0, c1, of_len, h', h0, and_self, Bool.and_eq_true, byte_opt hc0, ieq_dec, show ¬ (c.toNat : Int) = 32 from u8_ne g1, show ¬ (c.toNat : Int) = 9 from u8_ne g2, show ¬ (c.toNat : Int) = 10 from u8_ne g3, decide_false, has_ok n (by omega) hs hat, hq1, hq2]
  | ws c tl k h t ih =>
    intro m p H hm hd hp hat hH hM hs
    obtain ⟨m, rfl⟩ : ∃ m', m = m' + 1 := ⟨m - 1, by omega⟩
    have c0 : H.cell b 0 = some (.str (PS.of s)) := Plain.cell hs 0
    have c1 : H.cell b (0 + 1) = some (.int .i64 (p.at_ : Int)) := Plain.cell hs 1
    obtain ⟨hlt, hc0, hd'⟩ := drop_lt hd
    have h' : (p.at_ : Int) < (s.length : Int) := by omega
    have h0 : (0 : Int) ≤ (p.at_ : Int) := Int.natCast_nonneg _
    obtain ⟨H1, e1, p1, o1, k1⟩ := skip_ok n [c] tl (by simp; omega) (by omega) hd hp hH hs
    have e1' : vcall T ext promo n 99 [.ptr (some (b, 0)), .int .i64 1] H = some (.tuple [], H1) := e1
    have hat1 : (p.go [c]).at_ = p.at_ + 1 := by rw [Pos.go_at]; rfl
    obtain ⟨e, l, H2, e2, f2, p2, o2, k2⟩ := ih m (p.go [c]) H1 (by omega) (by rw [hat1]; exact hd') (Pos.Ok.go hp) (by omega) o1 (hM.did hH k1 hb0) p1
    refine ⟨e, l, H2, ?_, f2, by rw [List.take_succ_cons, ← List.singleton_append, Pos.go_app]; exact p2, o2, k1.trans k2⟩
    rw [loopN_succ]
    generalize hlp : loopN (L97_0 (vcall T ext promo n) n (some (b, 0))) m = lp at e2 ⊢
    unfold L97_0
    rcases h with rfl | rfl | rfl
    · simp only [KA, KB, KD, reduceCtorEq, if_false, if_true, c0, c1, of_len, h', h0, and_self, Bool.and_eq_true, byte_opt hc0, ieq_dec, show ((UInt8.toNat 32 : Nat) : Int) = 32 from rfl, decide_true, e1', e2]
    · simp only [KA, KB, KD, reduceCtorEq, if_false, if_true, c0, c1, of_len, h', h0, and_self, Bool.and_eq_true, byte_opt hc0, ieq_dec, show ((UInt8.toNat 9 : Nat) : Int) = 9 from rfl, decide_true, e1', e2, show ¬ (9 : Int) = 32 by decide, decide_false]
    · simp only [KA, KB, KD, reduceCtorEq, if_false, if_true, c0, c1, of_len, h', h0, and_self, Bool.and_eq_true, byte_opt hc0, ieq_dec, show ((UInt8.toNat 10 : Nat) : Int) = 10 from rfl, decide_true, e1', e2, show ¬ (10 : Int) = 32 by decide, show ¬ (10 : Int) = 9 by decide, decide_false]
  | line w tl k hw ht t ih =>
    intro m p H hm hd hp hat hH hM hs
    obtain ⟨m, rfl⟩ : ∃ m', m = m' + 1 := ⟨m - 1, by omega⟩
    have c0 : H.cell b 0 = some (.str (PS.of s)) := Plain.cell hs 0
    have c1 : H.cell b (0 + 1) = some (.int .i64 (p.at_ : Int)) := Plain.cell hs 1
    obtain ⟨hlt, hc0, hd'⟩ := drop_lt (by rw [List.cons_append] at hd; exact hd)
    have h' : (p.at_ : Int) < (s.length : Int) := by omega
    have h0 : (0 : Int) ≤ (p.at_ : Int) := Int.natCast_nonneg _
    have hwl : (47 :: 47 :: w).length + tl.length = s.length - p.at_ := by rw [← List.length_append, ← hd, List.length_drop]
    obtain ⟨H1, e1, p1, o1, k1⟩ := skip_ok n (47 :: 47 :: w) tl (by omega) (by omega) hd hp hH hs
    have hr := run_ok n notNl_ok hs (by omega) hat 0 (by omega) (47 :: 47 :: w) tl (by omega) (by rw [Nat.add_zero]; exact hd) (fun c hc => by
      rcases List.mem_cons.1 hc with rfl | hc
      · rfl
      rcases List.mem_cons.1 hc with rfl | hc
      · rfl
      · simp [hw c hc]) (fun c t e => by simp [ht c t e])
    rw [Nat.zero_add] at hr
    have hr' : vcall T ext promo n 135 [.ptr (some (b, 0)), .int .i64 0, .func 136 [] []] H = some (.int .i64 (((47 :: 47 :: w).length : Nat) : Int), H) := hr
    have hq1 : [47, 47].isPrefixOf (s.drop p.at_) = true := by rw [hd]; simp [List.isPrefixOf]
    have hat1 : (p.go (47 :: 47 :: w)).at_ = p.at_ + (47 :: 47 :: w).length := by rw [Pos.go_at]
    obtain ⟨e, l, H2, e2, f2, p2, o2, k2⟩ := ih m (p.go (47 :: 47 :: w)) H1 (by omega) (by rw [hat1, ← List.drop_drop, hd, List.drop_left]) (Pos.Ok.go hp) (by omega) o1 (hM.did hH k1 hb0) p1
    have htk : (47 :: 47 :: w ++ tl).take (w.length + 2 + k) = (47 :: 47 :: w) ++ tl.take k := by
      rw [show w.length + 2 + k = (47 :: 47 :: w).length + k by simp, List.take_length_add_append]
    refine ⟨e, l, H2, ?_, f2, by rw [htk, Pos.go_app]; exact p2, o2, k1.trans k2⟩
    rw [loopN_succ]
    generalize hlp : loopN (L97_0 (vcall T ext promo n) n (some (b, 0))) m = lp at e2 ⊢
    unfold L97_0
    simp only [KA, KB, KD, reduceCtorEq, if_false, if_true, c0, c1, of_len, h', h0, and_self, Bool.and_eq_true, byte_opt hc0, ieq_dec, show ((UInt8.toNat 47 : Nat) : Int) = 47 from rfl, show ¬ (47 : Int) = 32 by decide, show ¬ (47 : Int) = 9 by decide, show ¬ (47 : Int) = 10 by decide, decide_false, has_ok n (by omega) hs hat, hq1, hr', e1, e2]
  | block w tl k hi t ih =>
    intro m p H hm hd hp hat hH hM hs
    obtain ⟨m, rfl⟩ : ∃ m', m = m' + 1 := ⟨m - 1, by omega⟩
    have c0 : H.cell b 0 = some (.str (PS.of s)) := Plain.cell hs 0
    have c1 : H.cell b (0 + 1) = some (.int .i64 (p.at_ : Int)) := Plain.cell hs 1
    obtain ⟨hlt, hc0, hd'⟩ := drop_lt hd
    have h' : (p.at_ : Int) < (s.length : Int) := by omega
    have h0 : (0 : Int) ≤ (p.at_ : Int) := Int.natCast_nonneg _
    have hd2 : s.drop (p.at_ + 2) = w ++ 42 :: 47 :: tl := by rw [← List.drop_drop, hd]; rfl
    have hsp : s.drop p.at_ = (47 :: 42 :: (w ++ [42, 47])) ++ tl := by rw [hd]; simp
    have hwl : w.length + 4 + tl.length = s.length - p.at_ := by
      have := congrArg List.length hsp
      rw [List.length_drop] at this
      simp at this
      omega
    have hwn : (47 :: 42 :: (w ++ [42, 47])).length = w.length + 4 := by simp
    obtain ⟨H1, e1, p1, o1, k1⟩ := skip_ok n (47 :: 42 :: (w ++ [42, 47])) tl (by omega) (by omega) hsp hp hH hs
    rw [hwn] at e1
    have hq1 : [47, 47].isPrefixOf (s.drop p.at_) = false := by rw [hd]; rfl
    have hq2 : [47, 42].isPrefixOf (s.drop p.at_) = true := by rw [hd]; simp [List.isPrefixOf]
    have hat1 : (p.go (47 :: 42 :: (w ++ [42, 47]))).at_ = p.at_ + (w.length + 4) := by rw [Pos.go_at, hwn]
    obtain ⟨e, l, H2, e2, f2, p2, o2, k2⟩ := ih m (p.go (47 :: 42 :: (w ++ [42, 47]))) H1 (by omega) (by rw [hat1, ← hwn, ← List.drop_drop, hsp, List.drop_left]) (Pos.Ok.go hp) (by omega) o1 (hM.did hH k1 hb0) p1
    have htk : (47 :: 42 :: (w ++ 42 :: 47 :: tl)).take (w.length + 4 + k) = (47 :: 42 :: (w ++ [42, 47])) ++ tl.take k := by
      rw [show (47 :: 42 :: (w ++ 42 :: 47 :: tl)) = (47 :: 42 :: (w ++ [42, 47])) ++ tl by simp, show w.length + 4 + k = (47 :: 42 :: (w ++ [42, 47])).length + k by rw [hwn], List.take_length_add_append]
    have f1 : fwrap .i64 ((p.at_ : Int) + 2) = ((p.at_ + 2 : Nat) : Int) := fw_addn p.at_ 2 (by omega)
    have f3 : fwrap .i64 ((w.length : Int) + 4) = ((w.length + 4 : Nat) : Int) := fw_addn w.length 4 (by omega)
    have h4 : ¬ (w.length : Int) < 0 := by omega
    refine ⟨e, l, H2, ?_, f2, by rw [htk, Pos.go_app]; exact p2, o2, k1.trans k2⟩
    rw [loopN_succ]
    generalize hlp : loopN (L97_0 (vcall T ext promo n) n (some (b, 0))) m = lp at e2 ⊢
    unfold L97_0
    have hix := sindex_ok n (by omega) (w ++ 42 :: 47 :: tl) [42, 47] (by simp; omega) hM
    rw [hi] at hix
    simp only [KA, KB, KD, reduceCtorEq, if_false, if_true, c0, c1, of_len, h', h0, and_self, Bool.and_eq_true, byte_opt hc0, ieq_dec, show ((UInt8.toNat 47 : Nat) : Int) = 47 from rfl, show ¬ (47 : Int) = 32 by decide, show ¬ (47 : Int) = 9 by decide, show ¬ (47 : Int) = 10 by decide, decide_false, has_ok n (by omega) hs hat, hq1, hq2, f1, slStrF _ _ _ (show p.at_ + 2 ≤ s.length by omega), hd2, hix, h4, f3, e1, e2]
theorem blank_ok (n : Nat) {H : VH} {b : Nat} (hb0 : b ≠ 0) {s tl : List UInt8} {p : Pos} {k : Nat} (hn : s.length + 70 ≤ n) (hl : s.length < 90000) (hbl : Bl tl k) (hk : k ≤ tl.length) (hd : s.drop p.at_ = tl) (hp : p.Ok) (hat : p.at_ ≤ s.length) (hH : H.Ok) (hM : Mx H) (hs : Scan H b s p) :
    ∃ H', vcall T ext promo n 97 [.ptr (some (b, 0))] H = some (.int .i64 0, H') ∧ Scan H' b s (p.go (tl.take k)) ∧ H'.Ok ∧ Did b H H' := by
  obtain ⟨n, rfl⟩ : ∃ m, n = m + 1 := ⟨n - 1, by omega⟩
  have htl : tl.length ≤ s.length := by rw [← hd, List.length_drop]; omega
  obtain ⟨e, l, H1, e1, f1, p1, o1, k1⟩ := blank_loop n b hb0 s (by omega) hl tl k hbl n p H.lo (by omega) hd hp hat (lo_ok hH) hM.lo hs.lo
  have k2 := k1.leave hH (hs.lt hH) (.int .i64 0)
  refine ⟨leave H H1 (.int .i64 0), ok97 _ _ _ ?_, plain_leave hH (hs.lt hH) p1 k1 _, k2.eff.ok, k2⟩
  unfold F97
  simp only [letH_mk]
  rw [e1]
  rcases f1 with ⟨rfl, rfl⟩ | ⟨rfl, rfl⟩
  · simp only [KA, KB, KD, reduceCtorEq, if_false, if_true]
  · simp only [KA, KB, KD, reduceCtorEq, if_false, if_true]
end Go.Vm.Tryd
