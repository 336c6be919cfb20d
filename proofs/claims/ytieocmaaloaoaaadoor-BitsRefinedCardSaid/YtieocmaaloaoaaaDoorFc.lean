/- Plain functions that the second machine reduces to: printed by fns.py. -/
import Derived.Test.YtieocmaaloaoaaaDoorFb
namespace Go.Vm.Tryd
open Go.Proofs.Tryd
set_option maxRecDepth 100000
set_option linter.unusedVariables false
set_option linter.unusedSimpArgs false
theorem ext56 : ext 56 = none := rfl
theorem fn56 : T.fn.get 56 = some f56 := by kernel_rfl
/-! maskwright/maskkeep1.BitsRefined$1 -/
noncomputable def ann56 : Ann := (.two .nil .nil)
noncomputable def F56 (cf : CF) (n : Nat) (x_0_0 : Int) (x_0_1 : Int) (x_0_2 : Int) (q_1 : Nat) (o_1 : Nat) (H : VH) : Option (AV × VH) :=
  letH H.lo fun H1 => letN (iandn .u64 x_0_1 x_0_2) fun n2 => bindV (H1.cell q_1 o_1) fun v3 => asP v3 fun p4 => bindC (cf 40 [.ptr p4, .int .i64 x_0_0] H1) fun v5 H6 => asA v5 fun l7 => unc l7 fun a8 l9 => asI .i64 a8 fun n10 => unc l9 fun a11 l12 => asI .u64 a11 fun n13 => unc l12 fun a14 l15 => asI .u64 a14 fun n16 => endL l15 (letN (iand .u64 n13 x_0_2) fun n17 => letN (ior .u64 n2 n17) fun n18 => some (.agg [.int .i64 x_0_0, .int .u64 n18, .int .u64 0], leave H H6 (.agg [.int .i64 x_0_0, .int .u64 n18, .int .u64 0])))
theorem eq56 (cf : CF) (n : Nat) (x_0_0 : Int) (x_0_1 : Int) (x_0_2 : Int) (q_1 : Nat) (o_1 : Nat) (H : VH) : wfun T cf (promo 56) n ann56 f56 [.agg [.int .i64 x_0_0, .int .u64 x_0_1, .int .u64 x_0_2], .ptr (some (q_1, o_1))] H = F56 cf n x_0_0 x_0_1 x_0_2 q_1 o_1 H := by kernel_rfl
theorem ok56 (n : Nat) (x_0_0 : Int) (x_0_1 : Int) (x_0_2 : Int) (q_1 : Nat) (o_1 : Nat) (H : VH) {r : AV × VH} (h : F56 (vcall T ext promo n) n x_0_0 x_0_1 x_0_2 q_1 o_1 H = some r) : vcall T ext promo (n + 1) 56 [.agg [.int .i64 x_0_0, .int .u64 x_0_1, .int .u64 x_0_2], .ptr (some (q_1, o_1))] H = some r :=
  call_of_wfun ext56 fn56 ((eq56 _ _ _ _ _ _ _ _).trans h)

end Go.Vm.Tryd
