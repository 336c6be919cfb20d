/- A range over a function whose iterator keeps a variable of its own in a box (strings.SplitSeq): the caller's law, for a loop that asks something of each element and may return. -/
import Derived.RangeFuncFrom
import Derived.RangeFuncNested
namespace Go.Vm
open Go.RowKit
variable {F : Fence} {n : Nat} {P : Program}
/-- The word of an iterator that writes its box Bs between two rounds, and asks of a round that goes on that all below m stays. -/
def SeqBox {α : Type} (F : Fence) (n : Nat) (P : Program) (g : Nat) (lb : Array Value) (encs : α → Array Value) (m Bs : Nat) (xs : List α) (w : World) : Prop :=
  ∀ (l : Nat) (J Jx : List α → World → Prop) (W : World), Below m w W → AbidesFrom W.heap.size J → AbidesFrom W.heap.size Jx → (∀ pre W1 v, J pre W1 → J pre (W1.setCell ⟨Bs, 0, none⟩ v)) →
    (∀ pre x W1, J pre W1 → YieldAt F (n - 1) P l (encs x) W1 fun e W' => (e = .returned (.bool true) ∧ J (pre ++ [x]) W' ∧ Below m W1 W') ∨ (e = .returned (.bool false) ∧ Jx (pre ++ [x]) W')) →
    J [] W → CallsIn F n P g (#[.func (.yield l) #[] #[]] ++ lb) W fun e W' => (∃ v, e = .returned v) ∧ (J xs W' ∨ ∃ pre, (∃ suf, xs = pre ++ suf) ∧ Jx pre W')
/-- A loop that goes on while the elements are good, and returns at the first that is not. -/
theorem wpIn_range_box {α : Type} {g : Operand} {ps : Array Tmp} {assign body : Code} {Q : Exit → Act → World → Prop} {a : Act} {w w0 : World} {n₀ Bs : Nat}
    (hro : F.round = none) (h1 : 1 ≤ n) {gf : Nat} {lb : Array Value} (hg : a.eval g = .func (.func gf) #[] lb) (hFg : F.fn gf) (eg : ∀ args w, (callFunc gf args).run P w = .ok (.enter gf args) w)
    {encs : α → Array Value} {xs : List α} (hseq : SeqBox F (n - 1) P gf lb encs w.heap.size Bs xs w) (hps : ∀ x, (encs x).size = ps.size)
    (hB0 : n₀ ≤ Bs) (hB1 : Bs < w.heap.size) (hn0 : n₀ ≤ w0.heap.size) (hb : Below n₀ w0 w) (good : α → Bool) (a₁ : α → Act)
    (hassign : ∀ (l : Nat) (x : α) (W : World) (K : Act → World → Prop), K (a₁ x) W →
      assign.wpIn (F.inRound l) (n - 1 - 1) P (Exit.then K (fun _ _ _ => False)) { tmps := (ps.zip (encs x)).foldl (fun t (p, v) => t.setIfInBounds p v) a.tmps, defers := [] } W)
    (hbody : ∀ (l : Nat) (x : α) (W : World), Below n₀ w0 W → (∀ k, k < w.heap.size → k ≠ Bs → W.heap[k]? = w.heap[k]?) → w.heap.size ≤ W.heap.size → body.wpIn (F.inRound l) (n - 1 - 1) P (fun e _ W' => KeepsOthers W W' ∧ Below w.heap.size W W' ∧ match e with | .normal => good x = true | .ret => good x = false | _ => False) (a₁ x) W)
    (hdone : ∀ (D : Nat) (W : World), w.heap.size ≤ D → (∀ x ∈ xs, good x = true) → Below n₀ w0 W → (∀ k, k < w.heap.size → k ≠ Bs → W.heap[k]? = w.heap[k]?) → W.heap[D]? = some (.deferred (some [])) → Q .normal { a with defers := { target := .collected D, args := #[] } :: a.defers } W)
    (hstop : ∀ (D : Nat) (W : World), w.heap.size ≤ D → (∃ x ∈ xs, good x = false) → Below n₀ w0 W → (∀ k, k < w.heap.size → k ≠ Bs → W.heap[k]? = w.heap[k]?) → W.heap[D]? = some (.deferred (some [])) → Code.wpIn F n P .ret Q { a with defers := { target := .collected D, args := #[] } :: a.defers } W) :
    (Code.rangeFunc g ps assign body).wpIn F n P Q a w := by
  refine wpIn_rangeFunc fun fn hfn => ?_
  rw [hro]
  -- the record of the loop, and the block behind which its calls are put off
  generalize hL : w.heap.size + 1 = L
  generalize hr : (fun st pe => ({ state := st, pending := pe, fn := fn, tmps := a.tmps, params := ps, assign := assign, body := body, defers := w.heap.size } : Loop)) = rec
  have hrp : ∀ st pe, (rec st pe).params = ps ∧ (rec st pe).fn = fn ∧ (rec st pe).tmps = a.tmps ∧ (rec st pe).assign = assign ∧ (rec st pe).body = body ∧ (rec st pe).state = st ∧ (rec st pe).pending = pe := fun st pe => by rw [← hr]; exact ⟨rfl, rfl, rfl, rfl, rfl, rfl, rfl⟩
  have hset : ∀ st pe st', { rec st pe with state := st' } = rec st' pe := fun st pe st' => by rw [← hr]
  have hset2 : ∀ st pe st' pe', { rec st pe with state := st', pending := pe' } = rec st' pe' := fun st pe st' pe' => by rw [← hr]
  let W1 := (w.alloc (.deferred (some []))).alloc (.loop (rec .ready none))
  have hs1 : W1.heap.size = w.heap.size + 2 := by simp [W1]
  have hL1 : W1.heap[L]? = some (.loop (rec .ready none)) := by
    have := World.alloc_heap_new (w.alloc (.deferred (some []))) (.loop (rec .ready none))
    rwa [World.size_alloc, hL] at this
  have hD1 : W1.heap[w.heap.size]? = some (.deferred (some [])) := (Below.heap_alloc _ _ _ (by simp)).trans (World.alloc_heap_new w _)
  have hbw : Below w.heap.size w W1 := ((Below.refl _ w).alloc (Nat.le_refl _) _).alloc (by simp) _
  have hb1 : Below n₀ w0 W1 := (hb.alloc (by omega) _).alloc (by simp; omega) _
  -- what holds between two rounds, and where a round has left
  let Bk : World → Prop := fun W => Below n₀ w0 W ∧ W1.heap.size ≤ W.heap.size ∧ W.heap[w.heap.size]? = some (.deferred (some [])) ∧ ∀ k, k < w.heap.size → k ≠ Bs → W.heap[k]? = w.heap[k]?
  let J : List α → World → Prop := fun pre W => (∀ x ∈ pre, good x = true) ∧ Bk W ∧ W.heap[L]? = some (.loop (rec .ready none))
  let Jx : List α → World → Prop := fun pre W => (∃ x ∈ pre, good x = false) ∧ Bk W ∧ W.heap[L]? = some (.loop (rec .done (some .ret)))
  have grow : ∀ {A B : World} {row : Option Nat}, A.grownBy B row → (∀ r, row = some r → W1.heap.size ≤ r ∧ ∃ o : Obj, A.heap[r]? = some o ∧ o.isWalk = true) → Bk A → Bk B := fun hg hrow ⟨k1, k2, k3, k4⟩ =>
    ⟨k1.grown hg (by omega) (fun r e => by have := (hrow r e).1; omega), Nat.le_trans k2 hg.size, (grownBy_keeps hg (fun r e => (hrow r e).2) k3 rfl).trans k3, fun k hk hn => (hg.block k (by omega) (fun e => by have := (hrow k e.symm).1; omega)).trans (k4 k hk hn)⟩
  have put : ∀ {A : World} (o : Obj), Bk A → Bk (A.putObj L o) := fun o ⟨k1, k2, k3, k4⟩ =>
    ⟨k1.grown (grownBy_putObj' _ L o) (by omega) (fun r e => by cases e; omega), by simpa using k2, (World.putObj_heap_other (by omega)).trans k3, fun k hk hn => (World.putObj_heap_other (by omega)).trans (k4 k hk hn)⟩
  refine ⟨L, [{ target := .collected w.heap.size, args := #[] }], W1, { target := .fn (.func gf) lb, args := #[.func (.yield L) #[] #[]] }, W1, gf, #[.func (.yield L) #[] #[]] ++ lb, W1, ?_, ?_, ?_, ?_, fun _ => h1, ?_⟩
  · have := run_enterLoop_outer (P := P) (w := w) fn a.tmps ps assign body
    rw [this]
    simp only [W1, ← hr, hL]
  · simp only [resolve, hg]
    simp [go_sem]
  · intro f' hf'
    simp [Target.leads] at hf'
    subst hf'
    exact hFg
  · simp [invoke, go_sem, eg]
  · refine (hseq L J Jx W1 hbw ?_ ?_ ?_ ?_ ⟨(fun x hx => by cases hx), ⟨hb1, Nat.le_refl _, hD1, fun k hk _ => hbw.block k hk⟩, hL1⟩).mono ?_
    · rintro pre A B row ⟨k1, k2, k3⟩ hg hrow
      exact ⟨k1, grow hg hrow k2, (grownBy_keeps hg (fun r e => (hrow r e).2) k3 rfl).trans k3⟩
    · rintro pre A B row ⟨k1, k2, k3⟩ hg hrow
      exact ⟨k1, grow hg hrow k2, (grownBy_keeps hg (fun r e => (hrow r e).2) k3 rfl).trans k3⟩
    · rintro pre A v ⟨k1, ⟨k2, k3, k4, k6⟩, k5⟩
      exact ⟨k1, ⟨k2.setCell hB0 v, by simpa using k3, (Below.heap_setCell A ⟨Bs, 0, none⟩ v w.heap.size (by show w.heap.size ≠ Bs; omega)).trans k4, fun k hk hn => (Below.heap_setCell A ⟨Bs, 0, none⟩ v k hn).trans (k6 k hk hn)⟩, (Below.heap_setCell A ⟨Bs, 0, none⟩ v L (by show L ≠ Bs; omega)).trans k5⟩
    · -- a round
      rintro pre x W ⟨k1, k2, k3⟩
      have hlt : L < W.heap.size := (Array.getElem?_eq_some_iff.1 k3).1
      obtain ⟨p1, p2, p3, p4, p5, p6, p7⟩ := hrp .ready none
      have hy := run_yield (P := P) (args := encs x) k3 (by rw [p1]; exact hps x)
      rw [p1, p2, p3, p4, p5] at hy
      refine ⟨fn, _, assign, body, hy, roundIn_of_wpIn hfn (hassign L x W _ ⟨_, run_beginRound k3 p6, ?_⟩)⟩
      rw [hset]
      have b1 := put (.loop (rec .busy none)) k2
      have b2 : (W.putObj L (.loop (rec .busy none))).heap[L]? = some (.loop (rec .busy none)) := World.putObj_heap_same hlt
      have b3 : Below w.heap.size W (W.putObj L (.loop (rec .busy none))) := (Below.refl _ W).grown (grownBy_putObj' _ L _) (by omega) (fun r e => by cases e; omega)
      refine wpIn_mono (hbody L x _ b1.1 b1.2.2.2 (by have := b1.2.1; omega)) ?_
      rintro e a3 W3 ⟨q1, q2, q3⟩
      have c1 : W3.heap[L]? = some (.loop (rec .busy none)) := q1.same _ _ b2 rfl
      have c2 : Bk W3 := ⟨?_, Nat.le_trans b1.2.1 q1.size, q1.same _ _ b1.2.2.1 rfl, fun k hk hn => (q2.block k hk).trans (b1.2.2.2 k hk hn)⟩
      have hlt3 : L < W3.heap.size := (Array.getElem?_eq_some_iff.1 c1).1
      rotate_left
      · exact b1.1.trans (q2.mono (by omega))
      cases e with
      | normal =>
        have hr := run_endRound (P := P) none c1
        rw [hset2] at hr
        exact ⟨_, _, hr, .inl ⟨rfl, ⟨fun y hy => by
          rcases List.mem_append.1 hy with hy | hy
          · exact k1 y hy
          · rw [List.mem_singleton.1 hy]; exact q3, put _ c2, World.putObj_heap_same hlt3⟩, (b3.trans q2).trans ((Below.refl _ W3).grown (grownBy_putObj' _ L _) (by omega) (fun r e => by cases e; omega))⟩⟩
      | ret =>
        have hr := run_endRound (P := P) (some .ret) c1
        rw [hset2] at hr
        exact ⟨_, _, hr, .inr ⟨rfl, ⟨x, by simp, q3⟩, put _ c2, World.putObj_heap_same hlt3⟩⟩
      | exit id => exact q3.elim
      | goto t => exact q3.elim
      | panic ch => exact q3.elim
      | outgrown => exact q3.elim
    · -- behind the iterator
      rintro e W2 ⟨⟨v, rfl⟩, ⟨k1, k2, k3⟩ | ⟨pre, ⟨suf, hx⟩, ⟨x, hx1, hx2⟩, k2, k3⟩⟩
      · obtain ⟨_, _, _, _, _, p6, p7⟩ := hrp .ready none
        have hr := run_endLoop (P := P) k3 (by rw [p6]; simp)
        rw [hset, p7] at hr
        have k4 := put (.loop (rec .exhausted none)) k2
        exact ⟨none, _, hr, hdone _ _ (Nat.le_refl _) k1 k4.1 k4.2.2.2 k4.2.2.1⟩
      · obtain ⟨_, _, _, _, _, p6, p7⟩ := hrp .done (some .ret)
        have hr := run_endLoop (P := P) k3 (by rw [p6]; simp)
        rw [hset, p7] at hr
        have k4 := put (.loop (rec .exhausted (some .ret))) k2
        exact ⟨some .ret, _, hr, hstop _ _ (Nat.le_refl _) ⟨x, by rw [hx]; exact List.mem_append_left _ hx1, hx2⟩ k4.1 k4.2.2.2 k4.2.2.1⟩
end Go.Vm
