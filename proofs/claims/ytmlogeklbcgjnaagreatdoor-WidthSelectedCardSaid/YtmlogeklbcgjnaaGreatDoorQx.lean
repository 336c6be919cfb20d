/- design.Name stands for a plain function. -/
import Derived.Test.YtmlogeklbcgjnaaGreatDoorQn
import Derived.Test.YtmlogeklbcgjnaaGreatDoorE0
import Derived.Test.YtmlogeklbcgjnaaGreatDoorVmK
import Derived.Test.YtmlogeklbcgjnaaGreatDoorVmStr
import Derived.Lib.IndexBytes
namespace Go.Vm.Tryz
open Go.Proofs.Tryz Go.RowKit
set_option linter.unusedSectionVars false
set_option linter.unusedSimpArgs false
set_option linter.unusedVariables false
set_option maxRecDepth 10000
/-- A text's parts between bytes. -/
def splits (c : UInt8) : List UInt8 → List (List UInt8)
  | [] => [[]]
  | b :: l => if b = c then [] :: splits c l else match splits c l with
    | x :: xs => (b :: x) :: xs
    | [] => [[b]]
theorem splits_none (c : UInt8) : ∀ l : List UInt8, l.count c = 0 → splits c l = [l]
  | [], _ => rfl
  | b :: l, h => by
    by_cases e : b = c
    · subst e; simp at h
    · rw [List.count_cons_of_ne e] at h
      unfold splits
      rw [if_neg e, splits_none c l h]
theorem index_none (c : UInt8) : ∀ l : List UInt8, l.count c = 0 → Lib.indexByte l c = -1
  | [], _ => rfl
  | b :: l, h => by
    by_cases e : b = c
    · subst e; simp at h
    · rw [List.count_cons_of_ne e] at h
      unfold Lib.indexByte
      simp [e, index_none c l h]
theorem splits_some (c : UInt8) : ∀ l : List UInt8, 0 < l.count c → ∃ m : Nat, Lib.indexByte l c = (m : Int) ∧ m < l.length ∧ splits c l = l.take m :: splits c (l.drop (m + 1))
  | [], h => by simp at h
  | b :: l, h => by
    by_cases e : b = c
    · subst e
      exact ⟨0, by simp [Lib.indexByte], by simp, by simp [splits]⟩
    · rw [List.count_cons_of_ne e] at h
      obtain ⟨m, h1, h2, h3⟩ := splits_some c l h
      refine ⟨m + 1, ?_, by simpa using h2, ?_⟩
      · unfold Lib.indexByte
        rw [h1]
        simp [e]
      · conv => lhs; unfold splits
        rw [if_neg e, h3]
        simp
/-- A byte of a part. -/
def okB (b : UInt8) : Bool := decide (33 ≤ b.toNat) && decide (b.toNat ≤ 126) && !(ile 0 (idxN [46, 91, 93, 34, 92] b.toNat))
/-- A part of a name. -/
def partB (l : List UInt8) : Bool := decide (1 ≤ l.length) && decide (l.length ≤ 40) && l.all okB
/-- A name. -/
def nameB (l : List UInt8) : Bool := decide (l.length ≤ 120) && (splits 46 l).all partB
theorem sIndexByte0_ok (n : Nat) (hn : 3 ≤ n) (s : PS) (c : Int) (H : VH) : vcall T ext0 promo n 91 [.str s, .int .u8 c] H = some (.int .i64 (idxN s.bytes (c.toNat % 256)), H) := by
  obtain ⟨n, rfl⟩ : ∃ m, n = m + 3 := ⟨n - 3, by omega⟩
  have e0 : ∀ H, vcall T ext0 promo (n + 1) 205 [.str s, .int .u8 c] H = some (.int .i64 (idxN s.bytes (c.toNat % 256)), H) := fun H => call_ext (g := fun _ => xIndexByte) rfl rfl
  have e1 : ∀ H, vcall T ext0 promo (n + 2) 144 [.str s, .int .u8 c] H = some (.int .i64 (idxN s.bytes (c.toNat % 256)), H) := fun H => by
    apply E0.ok144
    unfold E0.F144
    simp only [letH_mk, e0, bindC_mk, asI_mk]
    rw [leave_flat rfl rfl]
  apply E0.ok91
  unfold E0.F91
  simp only [letH_mk, e1, bindC_mk, asI_mk]
  rw [leave_flat rfl rfl]
theorem byte_mod (b : UInt8) : ((b.toNat : Int)).toNat % 256 = b.toNat := by
  have := b.toNat_lt
  rw [Int.toNat_natCast]
  omega
theorem part_loop (n : Nat) (hn : 5 ≤ n) (l : List UInt8) (hl : l.length < 100000) (H : VH) : ∀ (m i : Nat), i ≤ l.length → l.length - i < m →
    loopN (E0.L57_0 (vcall T ext0 promo n) n (PS.of l)) m [.int .i64 (i : Int)] H = some (if (l.drop i).all okB = true then (.exit 0, [], H) else (.ret, [.bool false], H)) := by
  intro m
  induction m with
  | zero => intro i _ h; omega
  | succ m ih =>
    intro i hi hm
    rw [loopN_succ]
    generalize hlp : loopN (E0.L57_0 (vcall T ext0 promo n) n (PS.of l)) m = lp at ih ⊢
    unfold E0.L57_0
    simp only [KA, KB, KD, KE,  reduceCtorEq, if_false, if_true, Bool.and_eq_true, of_len]
    by_cases h : i < l.length
    · have hd : l.drop i = l[i] :: l.drop (i + 1) := List.drop_eq_getElem_cons h
      have hI : ∀ H, vcall T ext0 promo n 91 [.str (PS.of [46, 91, 93, 34, 92]), .int .u8 (l[i].toNat : Int)] H = some (.int .i64 (idxN [46, 91, 93, 34, 92] l[i].toNat), H) := fun H => by
        rw [sIndexByte0_ok n (by omega), byte_mod]
        rfl
      rw [if_pos (by omega), if_pos (by omega), byte_int l i h, hd, List.all_cons]
      by_cases h1 : l[i].toNat < 33
      · rw [if_pos (by omega)]
        have : okB l[i] = false := by unfold okB; rw [decide_eq_false (by omega)]; rfl
        simp only [KA, KB, KD, KE,  reduceCtorEq, if_false, if_true, this, Bool.false_and]
      · rw [if_neg (by omega), if_pos (by omega)]
        by_cases h2 : 126 < l[i].toNat
        · rw [if_pos (by omega)]
          have : okB l[i] = false := by unfold okB; rw [decide_eq_false (show ¬ l[i].toNat ≤ 126 by omega), Bool.and_false]; rfl
          simp only [KA, KB, KD, KE,  reduceCtorEq, if_false, if_true, this, Bool.false_and]
        · rw [if_neg (by omega), if_pos (by omega), hI]
          have hk : okB l[i] = !(ile 0 (idxN [46, 91, 93, 34, 92] l[i].toNat)) := by unfold okB; rw [decide_eq_true (show 33 ≤ l[i].toNat by omega), decide_eq_true (show l[i].toNat ≤ 126 by omega)]; rfl
          have ih' := ih (i + 1) (by omega) (by omega)
          cases hx : ile 0 (idxN [46, 91, 93, 34, 92] l[i].toNat) with
          | true =>
            rw [hx] at hk
            simp only [bindC_mk, asI_mk, bindJ_mk, hx, hk]
            rw [ile_eq] at hx
            simp only [KA, KB, KD, KE,  reduceCtorEq, if_false, if_true, of_decide_eq_true hx, Bool.not_true, Bool.false_and]
          | false =>
            rw [hx] at hk
            simp only [bindC_mk, asI_mk, bindJ_mk, hx, hk]
            rw [ile_eq] at hx
            simp only [KA, KB, KD, KE,  reduceCtorEq, if_false, if_true, of_decide_eq_false hx, Bool.not_false, Bool.true_and]
            rw [fw_i64 (by omega) (by omega), show (i : Int) + 1 = ((i + 1 : Nat) : Int) by omega]
            exact ih'
    · rw [if_neg (by omega), List.drop_of_length_le (by omega)]
      rfl
theorem part0_ok (n : Nat) (hn : 60 ≤ n) (l : List UInt8) (H : VH) : vcall T ext0 promo n 57 [.str (PS.of l)] H = some (.bool (partB l), H) := by
  obtain ⟨n, rfl⟩ : ∃ m, n = m + 1 := ⟨n - 1, by omega⟩
  apply E0.ok57
  unfold E0.F57
  simp only [KA, KB, KD, KE,  reduceCtorEq, if_false, if_true, of_len]
  by_cases h1 : l.length < 1
  · rw [if_pos (by omega)]
    have : partB l = false := by unfold partB; rw [decide_eq_false (by omega)]; rfl
    simp only [KA, KB, KD, KE,  reduceCtorEq, if_false, if_true, this]
    rw [leave_flat rfl rfl]
  · rw [if_neg (by omega)]
    by_cases h2 : 40 < l.length
    · have : partB l = false := by unfold partB; rw [decide_eq_false (show ¬ l.length ≤ 40 by omega), Bool.and_false]; rfl
      simp only [KA, KB, KD, KE,  reduceCtorEq, if_false, if_true, this, decide_eq_true (show (40 : Int) < (l.length : Int) by omega)]
      rw [leave_flat rfl rfl]
    · have hp : partB l = l.all okB := by unfold partB; rw [decide_eq_true (show 1 ≤ l.length by omega), decide_eq_true (show l.length ≤ 40 by omega)]; rfl
      have hlo := part_loop n (by omega) l (by omega) H.lo n 0 (by omega) (by omega)
      rw [List.drop_zero] at hlo
      simp only [KA, KB, KD, KE,  reduceCtorEq, if_false, if_true, decide_eq_false (show ¬ (40 : Int) < (l.length : Int) by omega)]
      rw [show ((0 : Nat) : Int) = 0 from rfl] at hlo
      rw [hlo, hp]
      cases l.all okB
      · simp only [KA, KB, KD, KE,  reduceCtorEq, if_false, if_true]
        rw [leave_flat rfl rfl]
      · simp only [KA, KB, KD, KE,  reduceCtorEq, if_false, if_true]
        rw [leave_flat rfl rfl]
theorem ba_of (l : List UInt8) : (⟨l.toArray⟩ : ByteArray).data.toList = l := rfl
theorem ba_size (l : List UInt8) : (⟨l.toArray⟩ : ByteArray).size = l.length := by simp [ByteArray.size]
theorem ba_drop (l : List UInt8) (i : Nat) : (⟨l.toArray⟩ : ByteArray).extract i (⟨l.toArray⟩ : ByteArray).size = ⟨(l.drop i).toArray⟩ := by
  apply ByteArray.ext
  rw [ByteArray.data_extract, ba_size]
  apply Array.toList_inj.1
  simp [List.take_of_length_le]
theorem ba_take (l : List UInt8) (i : Nat) (h : i ≤ l.length) : (⟨l.toArray⟩ : ByteArray).extract 0 i = ⟨(l.take i).toArray⟩ := by
  apply ByteArray.ext
  rw [ByteArray.data_extract]
  apply Array.toList_inj.1
  simp
theorem cuts_of : ∀ (k : Nat) (l : List UInt8), l.length ≤ k → Cuts ⟨l.toArray⟩ ((splits 46 l).map fun x => ⟨x.toArray⟩)
  | 0, l, h => by
    have : l = [] := List.eq_nil_of_length_eq_zero (by omega)
    subst this
    exact Cuts.last _ (by decide +kernel)
  | k + 1, l, h => by
    have hix : Lib.index (⟨l.toArray⟩ : ByteArray).data.toList dot.data.toList = Lib.indexByte l 46 := Lib.index_one l 46
    by_cases hc : l.count 46 = 0
    · rw [splits_none 46 l hc]
      exact Cuts.last _ (by rw [hix, index_none 46 l hc]; decide)
    · obtain ⟨m, h1, h2, h3⟩ := splits_some 46 l (by omega)
      rw [h3, List.map_cons, ← ba_take l m (by omega)]
      refine Cuts.cons _ m _ (by rw [hix, h1]) (by rw [ba_size]; omega) ?_
      rw [ba_drop]
      exact cuts_of k _ (by rw [List.length_drop]; omega)
theorem answers_of_calls {P : Program} {f : FuncId} {fn : Func} {args : Array Value} {w : World} {R : Value → World → Prop} (hf : P.funcs[f]? = some fn) (hname : (fn.name == "runtime.NumGoroutine") = false) (hb : fn.body.isNone = false)
    (C : Calls P f args w fun e w' => ∃ u, e = .returned u ∧ R u w') : Answers P f args w R := by
  have hrun : (callFunc f args).run P w = .ok (.enter f args) w := by
    simp only [callFunc, Sem.run_bind, run_program, Result.andThen, hf, hname, hb, Bool.false_eq_true, if_false, Sem.run_pure]
  unfold Answers
  rw [hrun]
  exact Calls.mono C fun e w2 he => by
    obtain ⟨u, rfl, h⟩ := he
    exact h
theorem calls_of_answers {P : Program} {f : FuncId} {fn : Func} {args : Array Value} {w : World} {R : Value → World → Prop} (hf : P.funcs[f]? = some fn) (hname : (fn.name == "runtime.NumGoroutine") = false) (hb : fn.body.isNone = false)
    (A : Answers P f args w R) : Calls P f args w fun e w' => ∃ u, e = .returned u ∧ R u w' := by
  have hrun : (callFunc f args).run P w = .ok (.enter f args) w := by
    simp only [callFunc, Sem.run_bind, run_program, Result.andThen, hf, hname, hb, Bool.false_eq_true, if_false, Sem.run_pure]
  unfold Answers at A
  rw [hrun] at A
  exact Calls.mono A fun e w2 he => by
    cases e with
    | returned u => exact ⟨u, rfl, he⟩
    | panicked ch => exact he.elim
    | outgrown => exact he.elim
theorem post_below {ρ : Rho} {w w' : World} (h : Post ρ ρ (fun _ => False) w w') (k : ∀ b pl, ρ b = some pl → pl.rb < w.heap.size → w'.heap[pl.rb]? = w.heap[pl.rb]?) : Below w.heap.size w w' :=
  ⟨h.os, h.tape, h.output, h.size, fun i hi => by
    by_cases e : ∃ b pl, ρ b = some pl ∧ pl.rb = i
    · obtain ⟨b, pl, hb, rfl⟩ := e
      exact k b pl hb hi
    · exact h.frame i hi (fun b pl hb hp => (e ⟨b, pl, hb, hp⟩).elim) (fun h => h)⟩
theorem below_post {ρ : Rho} {G : Nat → Prop} {H : VH} {w w' : World} (hH : RelH ρ G H w) (h : Below w.heap.size w w') : Post ρ ρ (fun _ => False) w w' :=
  ⟨.refl ρ, h.os, h.tape, h.output, h.size, fun k hk _ _ => h.block k hk, fun b pl hb => .inr ⟨b, pl, hb, rfl⟩, fun _ e => .inl e⟩
theorem rel_below {ρ : Rho} {G : Nat → Prop} {H : VH} {w w' : World} (hH : RelH ρ G H w) (h : Below w.heap.size w w') : RelH ρ G H w' :=
  hH.grown h.size (fun b pl hb => h.block _ (hH.has b pl hb).2.1) (fun k hk => h.block k (hH.qlt k hk))
theorem part_in (k : Nat) (s : ByteArray) {ρ : Rho} {G : Nat → Prop} {H : VH} {w : World} (hH : RelH ρ G H w) (hg : Globs T ρ) : CallsIn Fence.wide k prog 57 #[.string s] w fun e w' => e = .returned (.bool (partB s.data.toList)) ∧ Below w.heap.size w w' := by
  obtain ⟨H', h⟩ : ∃ H', vcall T ext0 promo 60 57 [.str (PS.of s.data.toList)] (lit (gls.map fun x => (x, [])) prog.globals.size) = some (.bool (partB s.data.toList), H') := ⟨_, part0_ok 60 (by omega) s.data.toList _⟩
  have A := closed_ok (T := T) (P := prog) tab_ok.tb ext0_ok (promo := promo) tab_ok.draws (gs := gls.map fun x => (x, [])) (N := prog.globals.size) (fun x hx => litAt_none gls x (memB_mem hx))
    (fun p hp => by obtain ⟨x, hx, rfl⟩ := List.mem_map.1 hp; exact gls_lt x hx) (fun p hp => by obtain ⟨x, hx, rfl⟩ := List.mem_map.1 hp; rfl) h rfl rfl (H := H)
    (fun q hq i x hx => by obtain ⟨y, hy, rfl⟩ := List.mem_map.1 hq; cases hx) hH hg (args := #[.string s]) ⟨_, _, rfl, ⟨s, rfl, rfl⟩, rfl⟩
  refine callsIn_wide.2 ((calls_of_answers func57 (by kernel_rfl) rfl A).mono ?_)
  rintro e w' ⟨u, rfl, h1, h2, h3⟩
  obtain rfl : u = _ := h3
  exact ⟨rfl, post_below h1 h2⟩
/-- design.Name. -/
noncomputable def xName (g : Nat) (H : VH) : List AV → Option XR
  | [.str s] =>
    match H.cell (.blk g) 0 with
    | some (.int .i64 _) => some (.val (.bool (nameB (s.bytes.map UInt8.ofNat))))
    | _ => none
  | _ => none
theorem xName_ok : ExtOne T prog 96 (xName 0) := by
  intro H vals v hv ρ G w args hH hg ha
  unfold xName at hv
  split at hv
  · rename_i s
    split at hv
    · rename_i m hm
      obtain ⟨u, us, e1, ⟨a, rfl, hs⟩, h3⟩ := ha
      obtain rfl : us = [] := h3
      obtain rfl : args = #[.string a] := Array.toList_inj.1 e1
      subst hs
      obtain rfl := Option.some.inj hv
      have hT : T.gl 0 = true := by kernel_rfl
      obtain ⟨sz, hr⟩ := hg 0 hT
      have hcell : w.cell? ⟨0, 0, none⟩ = some (.int .i64 m) := by
        obtain ⟨u, hu, hv, _⟩ := cell_read hH (b := .blk 0) (show At ρ (.blk 0) _ from hr) hm
        obtain rfl : u = _ := hv
        simpa using hu
      have hlt : 0 < w.heap.size := (hH.has 0 _ hr).2.1
      have hx := cuts_of a.data.toList.length a.data.toList (Nat.le_refl _)
      have C := name_in 10 (by omega) a _ hx w m hlt hcell (fun p => partB p.data.toList) (fun k p w1 hB => part_in k p (rel_below hH hB) hg)
      refine Answers.mono (answers_of_calls func96 (by kernel_rfl) rfl ((callsIn_wide.1 C).mono (R' := fun e w' => ∃ u, e = .returned u ∧ (u = .bool (nameB a.data.toList) ∧ Below w.heap.size w w')) ?_)) ?_
      · rintro e w' ⟨rfl, hB⟩
        refine ⟨_, rfl, ?_, hB⟩
        unfold nameB
        rw [List.all_map]
        rfl
      · rintro u w' ⟨rfl, hB⟩
        refine ⟨below_post hH hB, fun b pl hb hp => hB.block _ hp, ?_⟩
        show _ = _
        rw [bytes_back]
    · cases hv
  · cases hv
end Go.Vm.Tryz
