/- The preprocessor: a file without backquotes. -/
import Derived.Test.YtdpaokgemjfhlaaGreatDoorPe
namespace Go.Vm.Tryz
set_option linter.unusedSectionVars false
set_option linter.unusedSimpArgs false
set_option linter.unusedVariables false
set_option maxRecDepth 10000
theorem trimLeft_ok (n : Nat) (hn : 1 ≤ n) (l : List UInt8) (hl : l.length < 100000) (H : VH) : ∃ r, r.length ≤ l.length ∧ vcall T ext promo n 55 [.str (PS.of l), .str (PS.of [32, 9])] H = some (.str (PS.of r), H) := by
  obtain ⟨n, rfl⟩ : ∃ m, n = m + 1 := ⟨n - 1, by omega⟩
  refine ⟨Lib.trimLeftS l [32, 9], ?_, ?_⟩
  · unfold Lib.trimLeftS
    exact (List.dropWhile_sublist _).length_le
  · refine call_ext (g := fun _ => xCut Lib.trimLeftS) rfl ?_
    have h1 : (Nat.ble (PS.of l).len 9223372036854775807 && (Nat.blt (PS.of [32, 9]).len 4294967281 && allAscii (PS.of [32, 9]).bytes)) = true := by
      have : Nat.ble (PS.of l).len 9223372036854775807 = true := Nat.ble_eq_true_of_le (by rw [of_len]; omega)
      rw [this]
      rfl
    simp only [xCut, h1, bytes_back]
def ot (ls : List (List UInt8)) : List UInt8 := ls.flatMap fun l => l ++ [10]
def oc (f : List UInt8) : Nat → List AV
  | 0 => []
  | i + 1 => oc f i ++ [.str (PS.of f), .int .i64 ((i + 1 : Nat) : Int), .bool true]
/-- What the loop over a file's lines keeps. -/
structure FileI (H0 H : VH) (R g A C : Nat) (c0 c1 c5 c6 c7 : AV) (f : List UInt8) (ls : List (List UInt8)) (i : Nat) : Prop where
  ok : H.Ok
  mx : Mx H
  run : ∃ v, Plain H R [c0, c1, .str (PS.of (ot (ls.take i))), v, .int .i64 ((ot (ls.take i)).length : Int), c5, c6, c7, .bool false] ∧ Grow H g tyO 3 v i (oc f i)
  ln : Plain H A (strCells ls)
  cd : Plain H C [.slice none 0 (some 0) 0]
  le : R ≤ g ∧ A ≤ g ∧ C ≤ g ∧ A ≠ R ∧ C ≠ R ∧ R ≠ 0
  gn : g < H.next
  eff : Eff (fun y => y = R ∨ g < y) H0 H
theorem file_loop (n : Nat) (hn : 3000 ≤ n) (f : List UInt8) (ls : List (List UInt8)) (hls : ls.length < 10000) (hno : ∀ l ∈ ls, l.length < 1000 ∧ ∀ x ∈ l, x ≠ 96) (hsz : (ot ls).length ≤ 16000) (H0 H18 : VH) (R g A : Nat) (c0 c1 c5 c6 c7 : AV) :
    ∀ (m i : Nat) (b : Bool) (H : VH), i ≤ ls.length → ls.length - i < m → FileI H0 H R g A H18.next c0 c1 c5 c6 c7 f ls i →
      ∃ H', loopN (L28_0 (vcall T ext promo n) n (some (R, 0)) (PS.of f) H18 (some (A, 0)) ls.length) m [.bool b, .int .i64 (i : Int)] H = some (.exit 0, [], H') ∧ FileI H0 H' R g A H18.next c0 c1 c5 c6 c7 f ls ls.length := by
  intro m
  induction m with
  | zero => intro i b H _ h; omega
  | succ m ih =>
    intro i b H hi hm hF
    rw [loopN_succ]
    generalize hlp : loopN (L28_0 (vcall T ext promo n) n (some (R, 0)) (PS.of f) H18 (some (A, 0)) ls.length) m = lp at ih ⊢
    unfold L28_0
    simp only [KA, KB, KD, reduceCtorEq, if_false, if_true, Bool.and_eq_true]
    by_cases h : i < ls.length
    · rw [if_pos (by omega), if_pos (by omega)]
      obtain ⟨v, hp, hg⟩ := hF.run
      obtain ⟨q1, q2, q3, q4, q5, q6⟩ := hF.le
      have rA : H.cell A (0 + (i : Int).toNat * 1) = some (.str (PS.of ls[i])) := by
        rw [hF.ln.cell, Int.toNat_natCast, Nat.zero_add, Nat.mul_one, strCells, List.getElem?_map, List.getElem?_eq_getElem h]
        rfl
      have r8 : H.cell R (0 + 8) = some (.bool false) := hp.cell 8
      obtain ⟨hl1, hl2⟩ := hno ls[i] (List.getElem_mem h)
      obtain ⟨r, hr, er⟩ := trimLeft_ok n (by omega) ls[i] (by omega) H
      have f1 : fwrap .i64 ((i : Int) + 1) = ((i + 1 : Nat) : Int) := by rw [fw_i64 (by omega) (by omega)]; rfl
      have f2 : fwrap .i64 ((ls[i].length : Int) - (r.length : Int)) = ((ls[i].length - r.length : Nat) : Int) := by rw [fw_i64 (by omega) (by omega)]; omega
      obtain ⟨H1, e1, p1, k1⟩ := dirs_ok n (by omega) hF.ok
      have M1 : Mx H1 := hF.mx.keep hF.ok k1.keep (fun h => h)
      have e2 := search_ok n (by omega) p1
      obtain ⟨b', e3⟩ := text_ok n ls[i] (by omega) (by omega) hl2 (some (R, 0)) (PS.of f) ((i + 1 : Nat) : Int) b k1.ok M1
      have hp1 := hp.keep hF.ok k1.keep (fun h => h)
      have hg1 := hg.keep hF.ok k1.keep (fun _ h => h.elim)
      have hgn1 : g < H1.next := Nat.lt_of_lt_of_le hF.gn k1.keep.next
      have hot : ot (ls.take (i + 1)) = ot (ls.take i) ++ ls[i] ++ [10] := by
        have e : ls.take (i + 1) = ls.take i ++ [ls[i]] := by rw [List.take_add_one, List.getElem?_eq_getElem h]; rfl
        unfold ot
        rw [e, List.flatMap_append]
        simp
      have hle : (ot (ls.take (i + 1))).length ≤ (ot ls).length := by
        have : ot ls = ot (ls.take (i + 1)) ++ ot (ls.drop (i + 1)) := by
          unfold ot
          rw [← List.flatMap_append, List.take_append_drop]
        rw [this, List.length_append]
        omega
      have hlen : (ot (ls.take (i + 1))).length = (ot (ls.take i)).length + ls[i].length + 1 := by rw [hot]; simp; omega
      obtain ⟨v', H2, e4, p2, g2, k2⟩ := emit_ok n (by omega) q1 hgn1 k1.ok hp1 hg1 (by omega) (by omega) (by omega) f ((i + 1 : Nat) : Int) true (l := ls[i])
      have hF2 : FileI H0 H2 R g A H18.next c0 c1 c5 c6 c7 f ls (i + 1) := by
        refine ⟨k2.ok, M1.keep k1.ok k2.keep (fun e => by omega), ⟨v', ?_, g2⟩, (hF.ln.keep hF.ok k1.keep (fun h => h)).keep k1.ok k2.keep (fun e => by omega), (hF.cd.keep hF.ok k1.keep (fun h => h)).keep k1.ok k2.keep (fun e => by omega), hF.le, Nat.lt_of_lt_of_le hgn1 k2.keep.next, (hF.eff.trans k1 fun _ h => h.elim).trans k2 fun x h => .inl h⟩
        rw [hlen, hot]
        exact p2
      have hc : H.cell H18.next 0 = some (.slice none 0 (some 0) 0) := hF.cd.cell 0
      have rest : ∃ H', lp [.bool b', .int .i64 ((i + 1 : Nat) : Int)] H2 = some (.exit 0, [], H') ∧ FileI H0 H' R g A H18.next c0 c1 c5 c6 c7 f ls ls.length := ih (i + 1) b' H2 (by omega) (by omega) hF2
      have hbyte : ls[i].length - r.length < ls[i].length → ieq (((PS.of ls[i]).byte (((ls[i].length - r.length : Nat) : Int)).toNat : Nat) : Int) 96 = false := by
        intro h3
        rw [byte_int _ _ h3, ieq_dec]
        exact decide_eq_false fun e => hl2 _ (List.getElem_mem h3) (UInt8.toNat_inj.1 (by
          show (ls[i])[ls[i].length - r.length].toNat = 96
          omega))
      simp only [KA, KB, KD, reduceCtorEq, if_false, if_true, rA, r8, f1, er, of_len, f2]
      cases b with
      | true =>
        simp only [KA, KB, KD, reduceCtorEq, if_false, if_true, hc, e1, e2, e3, e4, str_eq, decide_true, ieq_dec, f1]
        rw [if_pos (show ((0 : Nat) : Int) = 0 from rfl)]
        simp only [KA, KB, KD, reduceCtorEq, if_false, if_true, e1, e2, e3, e4, f1, str_eq, decide_true]
        exact rest
      | false =>
        simp only [KA, KB, KD, reduceCtorEq, if_false, if_true]
        by_cases h3 : ls[i].length - r.length < ls[i].length
        · rw [if_pos (by omega), if_pos (by omega)]
          simp only [KA, KB, KD, reduceCtorEq, if_false, if_true, hbyte h3, hc, e1, e2, e3, e4, str_eq, decide_true, f1]
          simp only [KA, KB, KD, reduceCtorEq, if_false, if_true, ieq_dec]
          rw [if_pos (show ((0 : Nat) : Int) = 0 from rfl)]
          simp only [KA, KB, KD, reduceCtorEq, if_false, if_true, e1, e2, e3, e4, f1, str_eq, decide_true]
          exact rest
        · rw [if_neg (by omega)]
          simp only [KA, KB, KD, reduceCtorEq, if_false, if_true, hc, e1, e2, e3, e4, str_eq, decide_true, ieq_dec, f1]
          rw [if_pos (show ((0 : Nat) : Int) = 0 from rfl)]
          simp only [KA, KB, KD, reduceCtorEq, if_false, if_true, e1, e2, e3, e4, f1, str_eq, decide_true]
          exact rest
    · rw [if_neg (by omega)]
      have : i = ls.length := by omega
      subst this
      exact ⟨H, rfl, hF⟩
end Go.Vm.Tryz
