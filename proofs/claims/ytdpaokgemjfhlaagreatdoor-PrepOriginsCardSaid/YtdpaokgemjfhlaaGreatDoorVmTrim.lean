/- Library functions whose contract is known: strings.Trim and its kin. -/
import Derived.Test.YtdpaokgemjfhlaaGreatDoorVmDark
import Derived.Below
namespace Go.Vm
open Go.RowKit (Below)
set_option linter.unusedSimpArgs false
set_option linter.unusedVariables false
set_option linter.unusedSectionVars false
theorem answers_below {P : Program} {f : FuncId} {fn : Func} {args : Array Value} {w : World} {u : Value} (hf : P.funcs[f]? = some fn) (hname : (fn.name == "runtime.NumGoroutine") = false) (hb : fn.body.isNone = false)
    (C : Calls P f args w fun e w' => e = .returned u ∧ Below w.heap.size w w') : Answers P f args w fun x w' => x = u ∧ Below w.heap.size w w' := by
  have hrun : (callFunc f args).run P w = .ok (.enter f args) w := by
    simp only [callFunc, Sem.run_bind, run_program, Result.andThen, hf, hname, hb, Bool.false_eq_true, if_false, Sem.run_pure]
  unfold Answers
  rw [hrun]
  exact Calls.mono C fun e w2 he => by
    obtain ⟨rfl, he⟩ := he
    exact ⟨rfl, he⟩
def allAscii : List Nat → Bool
  | [] => true
  | b :: l => Nat.blt b 128 && allAscii l
/-- A function of two strings, the second one a set of bytes below 128. -/
noncomputable def xCut (tr : List UInt8 → List UInt8 → List UInt8) : List AV → Option XR
  | [.str s, .str p] =>
    match Nat.ble s.len 9223372036854775807 && (Nat.blt p.len 4294967281 && allAscii p.bytes) with
    | true => some (.val (.str (PS.of (tr (s.bytes.map UInt8.ofNat) (p.bytes.map UInt8.ofNat)))))
    | false => none
  | _ => none
theorem allAscii_get : ∀ {l : List UInt8}, allAscii (PS.of l).bytes = true → ∀ (j : Nat) (b : UInt8), l[j]? = some b → b.toNat < 128
  | [], _, _, _, h => by cases h
  | x :: l, h, 0, b, hb => by
    obtain rfl := Option.some.inj hb
    rw [PS.bytes_of] at h
    have h' : (Nat.blt x.toNat 128 && allAscii (l.map UInt8.toNat)) = true := h
    rw [Bool.and_eq_true, blt_eq] at h'
    exact of_decide_eq_true h'.1
  | x :: l, h, j + 1, b, hb => by
    rw [PS.bytes_of] at h
    have h' : (Nat.blt x.toNat 128 && allAscii (l.map UInt8.toNat)) = true := h
    rw [Bool.and_eq_true] at h'
    exact allAscii_get (by rw [PS.bytes_of]; exact h'.2) j b hb
theorem xCut_ok {T : Tb} {P : Program} {f : FuncId} {fn : Func} {tr : List UInt8 → List UInt8 → List UInt8} (hf : P.funcs[f]? = some fn) (hname : (fn.name == "runtime.NumGoroutine") = false) (hb : fn.body.isNone = false)
    (C : ∀ (s cut : ByteArray) (w : World), s.size ≤ 9223372036854775807 → cut.size < 4294967281 → (∀ (j : Nat) b, cut.data.toList[j]? = some b → b.toNat < 128) →
      Calls P f #[.string s, .string cut] w fun e w' => e = .returned (.string ⟨(tr s.data.toList cut.data.toList).toArray⟩) ∧ Below w.heap.size w w') : ExtOne T P f (fun _ => xCut tr) := by
  intro H vals v hv ρ G w args hH hg ha
  change xCut tr vals = some v at hv
  unfold xCut at hv
  split at hv
  · rename_i s p
    split at hv
    · rename_i hc
      simp only [Bool.and_eq_true, blt_eq, decide_eq_true_eq] at hc
      obtain ⟨hc1, hc2, hc3⟩ := hc
      have hc1 := Nat.le_of_ble_eq_true hc1
      obtain ⟨u, us, e1, ⟨a, rfl, hs⟩, u2, us2, rfl, ⟨b, rfl, hp⟩, h3⟩ := ha
      obtain rfl : us2 = [] := h3
      obtain rfl : args = #[.string a, .string b] := Array.toList_inj.1 e1
      subst hs hp
      have has : a.size = a.data.toList.length := Lib.size_eq a
      have hbs : b.size = b.data.toList.length := Lib.size_eq b
      obtain rfl := Option.some.inj hv
      refine Answers.mono (answers_below hf hname hb (C a b w (by rw [has]; exact hc1) (by rw [hbs]; exact hc2) fun j x hx => allAscii_get hc3 j x hx)) fun x w' ⟨h1, h2⟩ => ?_
      subst h1
      refine ⟨⟨.refl ρ, h2.os, h2.tape, h2.output, h2.size, fun k hk _ _ => h2.block k hk, fun b pl h => .inr ⟨b, pl, h, rfl, rfl⟩⟩, fun b pl hb hlt => h2.block _ hlt, ?_⟩
      rw [bytes_back, bytes_back]
      exact ⟨_, rfl, rfl⟩
    · cases hv
  · cases hv
end Go.Vm
