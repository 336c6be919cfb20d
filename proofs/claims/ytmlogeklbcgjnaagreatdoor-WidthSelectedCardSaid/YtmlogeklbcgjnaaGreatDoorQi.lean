/- strings.SplitSeq: what its iterator hands to a loop. -/
import Derived.Test.YtmlogeklbcgjnaaGreatDoorSz
import Derived.RangeFuncBound
import Derived.RangeFuncCalls
import Derived.RangeFuncLeaves
import Derived.RangeFuncBox
import Derived.Shelf.Abstract
import Derived.Shelf.RegionOpen
import Derived.WalkKit
import Derived.OwnWalkIn
import Derived.TacticsInMore
import Derived.LoopNIn
import Derived.LoopIn
import Derived.Test.YtmlogeklbcgjnaaGreatDoorSh2

namespace Go.Proofs.Tryz
open Go.RowKit Go.Shelf
attribute [local go_sem] Oper.semAt_some
set_option maxRecDepth 100000
theorem idx_in (n : Nat) (h1 : 1 ≤ n) (s sub : ByteArray) (m : Int) (w : World) (hs : s.size < 4294967281) (hm : w.cell? ⟨0, 0, none⟩ = some (.int .i64 m)) :
    CallsIn Fence.wide n prog 125 #[.string s, .string sub] w fun e w' => e = .returned (.int .i64 (Lib.index s.data.toList sub.data.toList)) ∧ w' = w := by
  refine callsIn_of_wp (f := 125) func125 rfl trivial ?_ rfl
  simp only [ntmps125, List.size_toArray, List.length_cons, List.length_nil, Nat.reduceAdd, Nat.reduceSub, Array.replicate_succ, Array.replicate_zero, List.push_toArray, List.append_toArray, List.nil_append, List.cons_append]
  gi_wp2_with (refine ⟨trivial, ?_⟩; gi_at_call 193; refine (callsIn_wide.2 (Go.Proofs.Any.stringslite_Index lays219 s sub m w hs hm)).mono ?_; rintro e w' ⟨rfl, rfl⟩)
  go_ret
  exact ⟨rfl, rfl⟩
def dot : ByteArray := ⟨#[46]⟩
/-- The parts of a text between dots. -/
inductive Cuts : ByteArray → List ByteArray → Prop where
  | last (s : ByteArray) : Lib.index s.data.toList dot.data.toList < 0 → Cuts s [s]
  | cons (s : ByteArray) (i : Nat) (xs : List ByteArray) : Lib.index s.data.toList dot.data.toList = (i : Int) → i + 1 ≤ s.size → Cuts (s.extract (i + 1) s.size) xs → Cuts s (s.extract 0 i :: xs)
theorem cell_other_box (W : World) {b Bs : Nat} (h : b ≠ Bs) {v : Value} : (W.setCell ⟨Bs, 0, none⟩ v).cell? ⟨b, 0, none⟩ = W.cell? ⟨b, 0, none⟩ := by
  unfold World.cell?
  rw [Below.heap_setCell W ⟨Bs, 0, none⟩ v b h]
def boxLen (Bs : Nat) (W : World) : Nat := match W.cell? ⟨Bs, 0, none⟩ with | some (.string s) => s.size | _ => 0
theorem split_box (n : Nat) (hn : 3 ≤ n) (m Bp Bs Bv : Nat) (mx : Int) (s : ByteArray) (xs : List ByteArray) (hx : Cuts s xs) (hsz : s.size < 4294967281) (w : World) (hp : Bp < m) (hs : Bs < m) (hv : Bv < m) (h0m : 0 < m) (hm : m ≤ w.heap.size) (n1 : Bp ≠ Bs) (n2 : Bv ≠ Bs) (n3 : 0 ≠ Bs)
    (bp : Boxed w Bp 9 (.string dot)) (bs : Boxed w Bs 9 (.string s)) (bv : Boxed w Bv 3 (.int .i64 0)) (h0 : w.cell? ⟨0, 0, none⟩ = some (.int .i64 mx)) :
    Go.Vm.SeqBox Fence.wide n prog 239 #[.pointer (some ⟨Bp, 0, none⟩), .pointer (some ⟨Bs, 0, none⟩), .pointer (some ⟨Bv, 0, none⟩)] (fun x : ByteArray => #[Value.string x]) m Bs xs w := by
  intro l J Jx W hW hJ hJx hJs hY hJ0
  have h1 : 1 ≤ n := by omega
  have h2 : 1 ≤ n - 1 := by omega
  refine callsIn_of_wp (f := 239) func239 rfl trivial ?_ rfl
  simp only [ntmps239, List.size_toArray, List.length_cons, List.length_nil, Nat.reduceAdd, Nat.reduceSub, Array.replicate_succ, Array.replicate_zero, List.push_toArray, List.append_toArray, List.nil_append, List.cons_append]
  have cp : W.cell? ⟨Bp, 0, none⟩ = some (.string dot) := (hW.cell (p := ⟨Bp, 0, none⟩) hp).trans bp.cell
  have hd : dot.size = 1 := rfl
  have bpW : Boxed W Bp 9 (.string dot) := (hW.block Bp hp).trans bp
  have bsW : Boxed W Bs 9 (.string s) := (hW.block Bs hs).trans bs
  have bvW : Boxed W Bv 3 (.int .i64 0) := (hW.block Bv hv).trans bv
  have h0W : W.cell? ⟨0, 0, none⟩ = some (.int .i64 mx) := (hW.cell (p := ⟨0, 0, none⟩) h0m).trans h0
  have hmW : m ≤ W.heap.size := Nat.le_trans hm hW.size
  gi_wp2
  gi_loopw [] (fun wr => ∃ (pre rest : List ByteArray) (cur : ByteArray), Boxed wr Bs 9 (.string cur) ∧ cur.size < 4294967281 ∧ Cuts cur rest ∧ xs = pre ++ rest ∧ J pre wr ∧ Boxed wr Bp 9 (.string dot) ∧ Boxed wr Bv 3 (.int .i64 0) ∧ wr.cell? ⟨0, 0, none⟩ = some (.int .i64 mx) ∧ m ≤ wr.heap.size) (fun wr => boxLen Bs wr)
  case atStart =>
    exact ⟨[], xs, s, bsW, hsz, hx, rfl, hJ0, bpW, bvW, h0W, hmW⟩
  case round =>
    obtain ⟨pre, rest, cur, b1, b2, b3, b4, b5, b6, b7, b8, b9⟩ := hrel
    have c1 := b1.cell
    have c2 := b6.cell
    have c3 := b7.cell
    cases b3 with
    | last _ hi =>
      obtain ⟨fn, tmps, assign, body, hy, hR⟩ := hY pre cur wr b5
      gi_wp2_with (refine ⟨trivial, ?_⟩; gi_at_call 125; refine (idx_in (n - 1) (by omega) cur dot mx wr b2 b8).mono ?_; rintro e w' ⟨rfl, rfl⟩)
      refine hR.mono ?_
      rintro e W' (⟨rfl, hJ', hk'⟩ | ⟨rfl, hJx'⟩)
      · gi_wp2
        go_end0
        exact ⟨⟨_, rfl⟩, .inl (by rw [b4]; exact hJ')⟩
      · gi_wp2
        go_end0
        exact ⟨⟨_, rfl⟩, .inr ⟨_, ⟨[], by rw [b4, List.append_nil]⟩, hJx'⟩⟩
    | cons _ i rest hi hle hc =>
      obtain ⟨fn, tmps, assign, body, hy, hR⟩ := hY pre (cur.extract 0 i) wr b5
      gi_wp2_with (refine ⟨trivial, ?_⟩; gi_at_call 125; refine (idx_in (n - 1) (by omega) cur dot mx wr b2 b8).mono ?_; rintro e w' ⟨rfl, rfl⟩)
      refine hR.mono ?_
      rintro e W' (⟨rfl, hJ', hk'⟩ | ⟨rfl, hJx'⟩)
      · have d1 : Boxed W' Bs 9 (.string cur) := (hk'.block Bs hs).trans b1
        have d2 : Boxed W' Bp 9 (.string dot) := (hk'.block Bp hp).trans b6
        have d3 : Boxed W' Bv 3 (.int .i64 0) := (hk'.block Bv hv).trans b7
        have d4 : W'.cell? ⟨0, 0, none⟩ = some (.int .i64 mx) := (hk'.cell (p := ⟨0, 0, none⟩) h0m).trans b8
        have g1 := d1.cell
        have g2 := d2.cell
        have g3 := d3.cell
        have g4 := d1.frozen
        gi_wp2
        have x1 := d1.set (.string (cur.extract (i + 1) cur.size))
        refine ⟨⟨pre ++ [cur.extract 0 i], rest, _, x1, ?_, hc, by rw [b4, List.append_assoc]; rfl, hJs _ _ _ hJ', d2.other n1 _, d3.other n2 _, ?_, ?_⟩, ?_⟩
        · rw [ByteArray.size_extract]
          omega
        · exact (cell_other_box W' n3).trans d4
        · rw [World.size_setCell]
          exact Nat.le_trans b9 hk'.size
        · unfold boxLen
          rw [x1.cell, c1]
          show (cur.extract (i + 1) cur.size).size < cur.size
          rw [ByteArray.size_extract]
          omega
      · gi_wp2
        refine bodyPost_ret (results_none rfl _ _ _) rfl ?_
        exact ⟨⟨_, rfl⟩, .inr ⟨_, ⟨rest, by rw [b4, List.append_assoc]; rfl⟩, hJx'⟩⟩
/-- The boxes that SplitSeq makes. -/
def boxes3 (s sep : ByteArray) (w : World) : World := ((w.alloc (.cells #[.string s] 9)).alloc (.cells #[.string sep] 9)).alloc (.cells #[.int .i64 0] 3)
def splitFn (w : World) : Value := .func (.func 239) #[] #[.pointer (some ⟨w.heap.size + 1, 0, none⟩), .pointer (some ⟨w.heap.size, 0, none⟩), .pointer (some ⟨w.heap.size + 2, 0, none⟩)]
theorem split1_in (n : Nat) (h1 : 1 ≤ n) (s sep : ByteArray) (w : World) : CallsIn Fence.wide n prog 207 #[.string s, .string sep, .int .i64 0] w fun e w' => e = .returned (splitFn w) ∧ w' = boxes3 s sep w := by
  refine callsIn_of_wp (f := 207) func207 rfl trivial ?_ rfl
  simp only [ntmps207, List.size_toArray, List.length_cons, List.length_nil, Nat.reduceAdd, Nat.reduceSub, Array.replicate_succ, Array.replicate_zero, List.push_toArray, List.append_toArray, List.nil_append, List.cons_append]
  gi_wp2
  go_ret
  exact ⟨by simp [splitFn], rfl⟩
theorem split_in (n : Nat) (hn : 2 ≤ n) (s sep : ByteArray) (w : World) : CallsIn Fence.wide n prog 150 #[.string s, .string sep] w fun e w' => e = .returned (splitFn w) ∧ w' = boxes3 s sep w := by
  have h1 : 1 ≤ n := by omega
  refine callsIn_of_wp (f := 150) func150 rfl trivial ?_ rfl
  simp only [ntmps150, List.size_toArray, List.length_cons, List.length_nil, Nat.reduceAdd, Nat.reduceSub, Array.replicate_succ, Array.replicate_zero, List.push_toArray, List.append_toArray, List.nil_append, List.cons_append]
  gi_wp2_with (refine ⟨trivial, ?_⟩; gi_at_call 207; refine (split1_in (n - 1) (by omega) s sep w).mono ?_; rintro e w' ⟨rfl, rfl⟩)
  go_ret
  exact ⟨rfl, rfl⟩
end Go.Proofs.Tryz
