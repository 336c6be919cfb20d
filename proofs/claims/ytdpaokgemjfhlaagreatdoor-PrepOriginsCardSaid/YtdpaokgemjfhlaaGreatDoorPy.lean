/- PrepOrigins: the files that are made. -/
import Derived.Test.YtdpaokgemjfhlaaGreatDoorPt
namespace Go.Vm.Tryz
set_option linter.unusedSectionVars false
set_option linter.unusedSimpArgs false
set_option linter.unusedVariables false
set_option maxRecDepth 10000
theorem fileT_snoc (f : List Ln) (l : Ln) : fileT (f ++ [l]) = fileT f ++ (l.text ++ [10]) := by simp [fileT, ot]
theorem fileT_len {n i : Nat} (hn : n ≤ 5) : ∀ (f : List Ln), (∀ x ∈ f, LnOk n i x) → (fileT f).length ≤ 14 * f.length
  | [], _ => Nat.le_refl _
  | x :: l, h => by
    have g := (ln_ok hn (h x List.mem_cons_self)).1
    have g2 := fileT_len hn l fun y hy => h y (List.mem_cons_of_mem _ hy)
    have : fileT (x :: l) = (x.text ++ [10]) ++ fileT l := by simp [fileT, ot]
    rw [this, List.length_append, List.length_append, List.length_singleton, List.length_cons]
    omega
theorem incText (k : Nat) (h1 : 1 ≤ k) (h2 : k ≤ 4) : ([96, 105, 110, 99, 108, 117, 100, 101, 32, 34, 102] ++ dec k) ++ [34, 10] = (Ln.inc k).text ++ [10] := by
  revert h1 h2 k
  exact five (by decide) (by decide) (by decide) (by decide)
theorem decLen (k : Nat) (h : k < 100) : (dec k).length ≤ 2 := (dec_ok k (List.mem_range.2 h)).1
theorem lines_loop (n nf i : Nat) (hn : 50 ≤ n) (hi : i < nf) (hnf : nf ≤ 5) (N : Nat) (hN : N ≤ 6) (H1 : VH) :
    ∀ (m j : Nat) (f : List Ln) (H0 H : VH) (K : Nat), j ≤ N → N - j < m → K + 2 * (N - j) < 900000000 → f.length = j → (∀ l ∈ f, LnOk nf i l) → H0.Ok → Drawn H0 H H1.next K →
      ∃ f' H', loopN (L5_1 (vcall T ext promo n) n H1 (nf : Int) (i : Int) (N : Int)) m [.str (PS.of (fileT f)), .int .i64 (j : Int)] H = some (.exit 2, [.str (PS.of (fileT f'))], H') ∧ f'.length = N ∧ (∀ l ∈ f', LnOk nf i l) ∧ Drawn H0 H' H1.next (K + 2 * (N - j)) := by
  intro m
  induction m with
  | zero => intro j f H0 H K _ h; omega
  | succ m ih =>
    intro j f H0 H K hj hm hK hf hok hH0 hD
    rw [loopN_succ]
    generalize hlp : loopN (L5_1 (vcall T ext promo n) n H1 (nf : Int) (i : Int) (N : Int)) m = lp at ih ⊢
    unfold L5_1
    simp only [KA, KB, KD, reduceCtorEq, if_false, if_true]
    by_cases h : j < N
    · rw [if_pos (by omega), fw_add1 i (by omega), fw_add1 j (by omega)]
      have hlen := fileT_len hnf f hok
      -- a line
      have line : ∀ (H2 : VH), Drawn H0 H2 H1.next (K + 1) → ∃ (d : Nat) (H3 : VH), d < 100 ∧ vcall T ext promo n 16 [.ptr (some (H1.next, 0)), .int .i64 100] H2 = some (.int .i64 (d : Int), H3) ∧ Drawn H0 H3 H1.next (K + 2) := fun H2 D2 => by
        obtain ⟨r, H3, e1, h1, h2, D3⟩ := next_ok n (by omega) D2.ok D2.st (by omega) 100 (by omega)
        obtain ⟨d, rfl⟩ : ∃ d : Nat, r = (d : Int) := ⟨r.toNat, by omega⟩
        exact ⟨d, H3, by omega, e1, D2.trans D3⟩
      have go : ∀ (l : Ln) (H3 : VH), LnOk nf i l → Drawn H0 H3 H1.next (K + 2) → ∃ f' H', lp [.str (PS.of (fileT f ++ (l.text ++ [10]))), .int .i64 ((j + 1 : Nat) : Int)] H3 = some (.exit 2, [.str (PS.of (fileT f'))], H') ∧ f'.length = N ∧ (∀ l ∈ f', LnOk nf i l) ∧ Drawn H0 H' H1.next (K + 2 * (N - j)) := fun l H3 hl D3 => by
        obtain ⟨f', H', r1, r2, r3, r4⟩ := ih (j + 1) (f ++ [l]) H0 H3 (K + 2) (by omega) (by omega) (by omega) (by rw [List.length_append]; simp; omega) (fun x hx => by
          rcases List.mem_append.1 hx with hx | hx
          · exact hok x hx
          · rw [List.mem_singleton.1 hx]; exact hl) hH0 D3
        rw [fileT_snoc] at r1
        exact ⟨f', H', r1, r2, r3, by rw [show K + 2 * (N - j) = K + 2 + 2 * (N - (j + 1)) by omega]; exact r4⟩
      have tx : ∀ (H2 : VH), Drawn H0 H2 H1.next (K + 1) → ∃ (d : Nat) (H3 : VH), d < 100 ∧ vcall T ext promo n 16 [.ptr (some (H1.next, 0)), .int .i64 100] H2 = some (.int .i64 (d : Int), H3) ∧ Drawn H0 H3 H1.next (K + 2) ∧ vstrOp .add (PS.of [108, 105, 110, 101]) (PS.of (dec d)) = some (.str (PS.of (lineW ++ dec d))) ∧ vstrOp .add (PS.of (lineW ++ dec d)) (PS.of [10]) = some (.str (PS.of (lineW ++ dec d ++ [10]))) ∧ vstrOp .add (PS.of (fileT f)) (PS.of (lineW ++ dec d ++ [10])) = some (.str (PS.of (fileT f ++ ((Ln.txt d).text ++ [10])))) := fun H2 D2 => by
        obtain ⟨d, H3, h1, h2, h3⟩ := line H2 D2
        have hd := decLen d h1
        have hw : lineW.length = 4 := rfl
        refine ⟨d, H3, h1, h2, h3, str_add _ _ (by simp; omega), str_add _ _ (by simp; omega), str_add _ _ (by simp; omega)⟩
      by_cases hin : i + 1 < nf
      · rw [if_pos (by omega)]
        obtain ⟨r, H2, e1, D2'⟩ := flip_ok n (by omega) hD.ok hD.st (by omega) 3 (by omega)
        have D2 := hD.trans D2'
        rw [e1]
        simp only [KA, KB, KD, reduceCtorEq, if_false, if_true]
        cases r with
        | true =>
          simp only [KA, KB, KD, reduceCtorEq, if_false, if_true]
          obtain ⟨r, H3, e3, h1, h2, D3'⟩ := range_ok n (by omega) D2.ok D2.st (by omega) ((i + 1 : Nat) : Int) ((nf - 1 : Nat) : Int) (by omega) (by omega) (by omega)
          obtain ⟨k, rfl⟩ : ∃ k : Nat, r = (k : Int) := ⟨r.toNat, by omega⟩
          have D3 := D2.trans D3'
          have hd := decLen k (by omega)
          rw [fw_sub1 nf (by omega) (by omega), e3]
          simp only [KA, KB, KD, reduceCtorEq, if_false, if_true]
          rw [itoa_ok n (by omega) k (by omega)]
          simp only [KA, KB, KD, reduceCtorEq, if_false, if_true]
          rw [str_add _ _ (by simp; omega)]
          simp only [KA, KB, KD, reduceCtorEq, if_false, if_true]
          rw [str_add _ _ (by simp; omega), incText k (by omega) (by omega)]
          simp only [KA, KB, KD, reduceCtorEq, if_false, if_true]
          rw [str_add _ _ (by have := (inc_ok k (by omega) (by omega)).1; have : (Ln.inc k).text.length = 13 := this; simp; omega)]
          simp only [KA, KB, KD, reduceCtorEq, if_false, if_true]
          exact go (.inc k) H3 ⟨by omega, by omega⟩ D3
        | false =>
          obtain ⟨d, H3, d1, d2, d3, d4, d5, d6⟩ := tx H2 D2
          simp only [KA, KB, KD, reduceCtorEq, if_false, if_true, d2]
          rw [itoa_ok n (by omega) d d1]
          simp only [KA, KB, KD, reduceCtorEq, if_false, if_true, d4, d5, d6]
          exact go (.txt d) H3 d1 d3
      · rw [if_neg (by omega)]
        obtain ⟨d, H3, d1, d2, d3, d4, d5, d6⟩ := tx H (hD.up (by omega))
        simp only [KA, KB, KD, reduceCtorEq, if_false, if_true, d2]
        rw [itoa_ok n (by omega) d d1]
        simp only [KA, KB, KD, reduceCtorEq, if_false, if_true, d4, d5, d6]
        exact go (.txt d) H3 d1 d3
    · rw [if_neg (by omega)]
      have : j = N := by omega
      subst this
      exact ⟨f, H, rfl, hf, hok, by rw [Nat.sub_self]; exact hD⟩
/-! The map of the files. -/
theorem ents_snoc (F : Nat → List UInt8) (n : Nat) : ents F (n + 1) = ents F n ++ [ent F n] := by
  unfold ents
  rw [List.range'_concat, List.map_append]
  simp
theorem ents_congr {F G : Nat → List UInt8} {n : Nat} (h : ∀ i, i < n → F i = G i) : ents F n = ents G n := by
  unfold ents
  refine List.map_congr_left fun i hi => ?_
  have := (List.mem_range'_1.1 hi).2
  unfold ent
  rw [h i (by omega)]
theorem mfind_none (F : Nat → List UInt8) (k : Nat) (hk : k < 10) : ∀ (m s i : Nat), s + m ≤ k → mfind (.str (PS.of (fname k))) ((List.range' s m).map (ent F)) i = some none
  | 0, s, i, _ => rfl
  | m + 1, s, i, h0 => by
    rw [List.range'_succ, List.map_cons]
    have hq : kEq (.str (PS.of (fname k))) (.str (PS.of (fname s))) = some (decide (fname k = fname s)) := by
      show some ((PS.of (fname k)).eq (PS.of (fname s))) = _
      rw [str_eq]
    unfold mfind
    rw [show (ent F s).k = .str (PS.of (fname s)) from rfl, hq]
    have : ¬ fname k = fname s := fun h => by have := fname_inj k hk s (by omega) h; omega
    simp only [this, decide_false]
    exact mfind_none F k hk m (s + 1) (i + 1) (by omega)
theorem putE {H : VH} {mf i ver : Nat} {F : Nat → List UInt8} (h : H.map? mf = some (ents F i, i, ver)) (hi : i < 10) : vmapUpdate T H 34 (.map (some mf)) (.str (PS.of (fname i))) (.str (PS.of (F i))) = some (H.setMap mf (ents F (i + 1)) (i + 1) ver) := by
  unfold vmapUpdate
  rw [undMap]
  simp only [fitStr, h]
  have := mfind_none F i hi i 0 0 (by omega)
  have this : mfind (.str (PS.of (fname i))) (ents F i) 0 = some none := this
  rw [this, ents_snoc]
  rfl
theorem ents_it (F : Nat → List UInt8) (n : Nat) : isIt (ents F n) = false := by
  cases n with
  | zero => rfl
  | succ n =>
    unfold ents
    rw [List.range'_succ, List.map_cons]
    rfl
theorem files_loop (n nf : Nat) (hn : 100 ≤ n) (hnf : nf ≤ 5) (H1 : VH) (mf : Nat) (hmf : H1.next < mf) (h1 : 0 < H1.next) :
    ∀ (m i : Nat) (fl : List (List Ln)) (H : VH) (K : Nat), i ≤ nf → nf - i < m → K + 13 * (nf - i) < 900000000 → fl.length = i → (∀ j, j < i → (fl.getD j []).length ≤ 6 ∧ ∀ l ∈ fl.getD j [], LnOk nf j l) →
      H.Ok → Mx H → StB H H1.next K → H.low ≤ H1.next → mf < H.next → (∃ ver, H.map? mf = some (ents (fun j => fileT (fl.getD j [])) i, i, ver)) →
      ∃ (fl' : List (List Ln)) (H' : VH), loopN (L5_0 (vcall T ext promo n) n H1 (nf : Int) (some mf)) m [.int .i64 (i : Int)] H = some (.exit 0, [], H') ∧
        (∀ j, j < nf → (fl'.getD j []).length ≤ 6 ∧ ∀ l ∈ fl'.getD j [], LnOk nf j l) ∧ H'.Ok ∧ Mx H' ∧ mf < H'.next ∧ ∃ ver, H'.map? mf = some (ents (fun j => fileT (fl'.getD j [])) nf, nf, ver) := by
  intro m
  induction m with
  | zero => intro i fl H K _ h; omega
  | succ m ih =>
    intro i fl H K hi hm hK hfl hok hH hM hS hlow hmn ⟨ver, hmap⟩
    rw [loopN_succ]
    generalize hlp : loopN (L5_0 (vcall T ext promo n) n H1 (nf : Int) (some mf)) m = lp at ih ⊢
    unfold L5_0
    simp only [KA, KB, KD, reduceCtorEq, if_false, if_true]
    by_cases h : i < nf
    · rw [if_pos (by omega)]
      obtain ⟨r, H2, e2, q1, q2, D2⟩ := range_ok n (by omega) hH hS (by omega) 0 6 (by omega) (by omega) (by omega)
      obtain ⟨N, rfl⟩ : ∃ N : Nat, r = (N : Int) := ⟨r.toNat, by omega⟩
      obtain ⟨f, H3, e3, f1, f2, D3⟩ := lines_loop n nf i (by omega) h hnf N (by omega) H1 n 0 [] H H2 (K + 1) (by omega) (by omega) (by omega) rfl (fun _ h => by cases h) hH D2
      have hmap3 := map?_keep hmap hmn D3.keep (by omega)
      have M3 := hM.keep hH D3.keep (by omega)
      have hmn3 : mf < H3.next := Nat.lt_of_lt_of_le hmn D3.keep.next
      have hcong : ents (fun j => fileT (fl.getD j [])) i = ents (fun j => fileT ((fl ++ [f]).getD j [])) i := ents_congr fun j hj => by
        show fileT (fl.getD j []) = fileT ((fl ++ [f]).getD j [])
        rw [List.getD_eq_getElem?_getD, List.getD_eq_getElem?_getD, List.getElem?_append_left (by omega)]
      have hFi : (fl ++ [f]).getD i [] = f := by
        rw [List.getD_eq_getElem?_getD, List.getElem?_append_right (by omega), hfl, Nat.sub_self]
        rfl
      rw [hcong] at hmap3
      have u4 := putE hmap3 (by omega)
      have u4' : vmapUpdate T H3 34 (.map (some mf)) (.str (PS.of (fname i))) (.str (PS.of (fileT f))) = some (H3.setMap mf (ents (fun j => fileT ((fl ++ [f]).getD j [])) (i + 1)) (i + 1) ver) := by
        have u4 : vmapUpdate T H3 34 (.map (some mf)) (.str (PS.of (fname i))) (.str (PS.of (fileT ((fl ++ [f]).getD i [])))) = _ := u4
        rw [hFi] at u4
        exact u4
      have k4 := setMap_eff D3.ok hmn3 (ents (fun j => fileT ((fl ++ [f]).getD j [])) (i + 1)) (i + 1) ver
      have hm4 : (H3.setMap mf (ents (fun j => fileT ((fl ++ [f]).getD j [])) (i + 1)) (i + 1) ver).map? mf = some (ents (fun j => fileT ((fl ++ [f]).getD j [])) (i + 1), i + 1, ver + 1) := map?_get ((setMap_get _ _ _ _ _ _).trans (if_pos rfl)) (ents_it _ _)
      generalize hH4 : H3.setMap mf (ents (fun j => fileT ((fl ++ [f]).getD j [])) (i + 1)) (i + 1) ver = H4 at *
      obtain ⟨fl', H', r1, r2, r3, r4, r5, r6⟩ := ih (i + 1) (fl ++ [f]) H4 (K + 13) (by omega) (by omega) (by omega) (by rw [List.length_append, hfl]; rfl) (fun j hj => by
        by_cases e : j = i
        · subst e
          rw [hFi]
          exact ⟨by omega, f2⟩
        · have := hok j (by omega)
          rw [List.getD_eq_getElem?_getD] at this ⊢
          rw [List.getElem?_append_left (by omega)]
          exact this) k4.ok (M3.keep D3.ok k4.keep (by omega)) ((D3.st.up (by omega)).keepUp D3.ok k4.keep (fun x hx => by omega)) (Nat.le_trans k4.low D3.low) (Nat.lt_of_lt_of_le hmn3 k4.keep.next) ⟨_, hm4⟩
      refine ⟨fl', H', ?_, r2, r3, r4, r5, r6⟩
      have hd : dec i = [UInt8.ofNat (48 + i)] := by unfold dec; rw [if_pos (by omega)]
      have e3' : loopN (L5_1 (vcall T ext promo n) n H1 (nf : Int) (i : Int) (N : Int)) n [.str (PS.of []), .int .i64 0] H2 = some (.exit 2, [.str (PS.of (fileT f))], H3) := e3
      rw [e2]
      simp only [KA, KB, KD, reduceCtorEq, if_false, if_true, e3']
      rw [itoa_ok n (by omega) i (by omega), hd]
      simp only [KA, KB, KD, reduceCtorEq, if_false, if_true]
      rw [str_add _ _ (by simp)]
      simp only [KA, KB, KD, reduceCtorEq, if_false, if_true]
      have u4'' : vmapUpdate T H3 34 (.map (some mf)) (.str (PS.of ([102] ++ [UInt8.ofNat (48 + i)]))) (.str (PS.of (fileT f))) = some H4 := u4'
      rw [u4'']
      simp only [KA, KB, KD, reduceCtorEq, if_false, if_true]
      rw [fw_add1 i (by omega)]
      exact r1
    · rw [if_neg (by omega)]
      have : i = nf := by omega
      subst this
      exact ⟨fl, H, rfl, hok, hH, hM, hmn, ver, hmap⟩
end Go.Vm.Tryz
