/- Plain functions that the second machine reduces to: printed by fns.py. -/
import Derived.Test.YtieocmaaloaoaaaDoorVmExt
namespace Go.Vm.Tryd
open Go.Proofs.Tryd
set_option maxRecDepth 100000
set_option linter.unusedVariables false
set_option linter.unusedSimpArgs false
theorem ext162 : ext 162 = none := rfl
theorem fn162 : T.fn.get 162 = some f162 := by kernel_rfl
/-! internal/stringslite.IndexByte -/
noncomputable def ann162 : Ann := (.two .nil .nil)
noncomputable def F162 (cf : CF) (n : Nat) (s_0 : PS) (x_1 : Int) (H : VH) : Option (AV × VH) :=
  letH H.lo fun H1 => bindC (cf 186 [.str s_0, .int .u8 x_1] H1) fun v2 H3 => asI .i64 v2 fun n4 => some (.int .i64 n4, leave H H3 (.int .i64 n4))
theorem eq162 (cf : CF) (n : Nat) (s_0 : PS) (x_1 : Int) (H : VH) : wfun T cf (promo 162) n ann162 f162 [.str s_0, .int .u8 x_1] H = F162 cf n s_0 x_1 H := by kernel_rfl
theorem ok162 (n : Nat) (s_0 : PS) (x_1 : Int) (H : VH) {r : AV × VH} (h : F162 (vcall T ext promo n) n s_0 x_1 H = some r) : vcall T ext promo (n + 1) 162 [.str s_0, .int .u8 x_1] H = some r :=
  call_of_wfun ext162 fn162 ((eq162 _ _ _ _ _).trans h)

theorem ext154 : ext 154 = none := rfl
theorem fn154 : T.fn.get 154 = some f154 := by kernel_rfl
/-! internal/stringslite.Index -/
noncomputable def ann154 : Ann := (.two .nil (.two .nil (.two (.one (.two (.join [] [(.normal, ⟨[(16, 4)], [], []⟩)] .nil) (.two .nil (.two .nil (.two .nil (.two .nil (.two .nil (.two (.join [] [(.normal, ⟨[(36, 4)], [], []⟩)] .nil) (.two .nil .nil))))))))) (.two .nil (.two .nil (.two .nil (.two .nil (.two .nil (.two (.one (.loop [] ⟨[(8, 3), (10, 3)], [], []⟩ [((.exit 1), ⟨[], [], []⟩), (.ret, ⟨[(4, 3)], [], []⟩)] (.two (.two .nil .nil) (.one (.two (.join [] [(.normal, ⟨[(8, 3)], [], []⟩), (.ret, ⟨[(4, 3)], [], []⟩)] (.two .nil (.two (.two .nil (.two (.two .nil (.two .nil .nil)) .nil)) .nil))) (.two (.two (.join [] [(.normal, ⟨[(93, 4)], [], []⟩)] .nil) (.two .nil .nil)) (.two .nil (.two .nil (.two (.join [] [(.normal, ⟨[(107, 4)], [], []⟩)] .nil) (.two (.two .nil (.two (.two .nil (.two .nil .nil)) .nil)) (.two (.join [] [(.normal, ⟨[(132, 4)], [], []⟩)] .nil) (.two (.two .nil (.two (.two .nil (.two .nil .nil)) .nil)) .nil)))))))))))) .nil)))))))))
noncomputable def L154_0 (cf : CF) (n : Nat) (s_0 : PS) (s_1 : PS) (n22 : Int) (n23 : Int) (n25 : Int) (ih26 : List AV → VH → Option R) (l27 : List AV) (H28 : VH) : Option R :=
  unc l27 fun a29 l30 => asI .i64 a29 fun n31 => unc l30 fun a32 l33 => asI .i64 a32 fun n34 => endL l33 (selC (ilt n31 n25) (bindJ (condT (ile 0 n31 && ilt n31 (s_0.len : Nat)) (letN (((s_0.byte n31.toNat : Nat) : Int)) fun n35 => selC (!(ieq n35 n22)) (letN (fwrap .i64 (n31 + 1)) fun n36 => bindV (vslice T H28 9 (.v (.str s_0)) (some (.int .i64 n36)) (some (.int .i64 n25))) fun v37 => asS v37 fun s38 => bindC (cf 162 [.str s38, .int .u8 n22] H28) fun v39 H40 => asI .i64 v39 fun n41 => selC (ilt n41 0) (some (.ret, [.int .i64 (-1)], H40)) (letN (fwrap .i64 (n41 + 1)) fun n42 => letN (fwrap .i64 (n31 + n42)) fun n43 => some (.normal, [.int .i64 n43], H40))) (some (.normal, [.int .i64 n31], H28)))) fun x44 l45 H46 => caseEx .normal x44 (unc l45 fun a50 l51 => asI .i64 a50 fun n52 => endL l51 (bindJ (letN (fwrap .i64 (n52 + 1)) fun n53 => condT (ile 0 n53 && ilt n53 (s_0.len : Nat)) (letN (((s_0.byte n53.toNat : Nat) : Int)) fun n54 => selC (ieq n54 n23) (letN (fwrap .i64 (n52 + (s_1.len : Int))) fun n55 => bindV (vslice T H46 9 (.v (.str s_0)) (some (.int .i64 n52)) (some (.int .i64 n55))) fun v56 => asS v56 fun s57 => some (.normal, [.bool (s57.eq s_1)], H46)) (some (.normal, [.bool false], H46)))) fun x58 l59 H60 => caseEx .normal x58 (unc l59 fun a61 l62 => asB a61 fun b63 => endL l62 (selC b63 (some (.ret, [.int .i64 n52], H60)) (letN (fwrap .i64 (n52 + 1)) fun n64 => letN (fwrap .i64 (n34 + 1)) fun n65 => bindJ (none) fun x66 l67 H68 => caseEx .normal x66 (unc l67 fun a69 l70 => asB a69 fun b71 => endL l70 (selC b71 (bindV (vslice T H68 9 (.v (.str s_0)) (some (.int .i64 n64)) none) fun v72 => asS v72 fun s73 => bindC (cf 176 [.str s73, .str s_1] H68) fun v74 H75 => asI .i64 v74 fun n76 => selC (ile 0 n76) (letN (fwrap .i64 (n76 + n64)) fun n77 => some (.ret, [.int .i64 n77], H75)) (some (.ret, [.int .i64 (-1)], H75))) (bindJ (none) fun x78 l79 H80 => caseEx .normal x78 (unc l79 fun a81 l82 => asB a81 fun b83 => endL l82 (selC b83 (bindV (vslice T H80 9 (.v (.str s_0)) (some (.int .i64 n64)) none) fun v84 => asS v84 fun s85 => bindC (cf 178 [.str s85, .str s_1] H80) fun v86 H87 => asI .i64 v86 fun n88 => selC (ilt n88 0) (some (.ret, [.int .i64 (-1)], H87)) (letN (fwrap .i64 (n64 + n88)) fun n89 => some (.ret, [.int .i64 n89], H87))) (ih26 [.int .i64 n64, .int .i64 n65] H80))) (none)))) (none)))) (none))) (caseEx .ret x44 (unc l45 fun a47 l48 => asI .i64 a47 fun n49 => endL l48 (some (.ret, [.int .i64 n49], H46))) (none))) (some ((.exit 1), [], H28)))
noncomputable def F154 (cf : CF) (n : Nat) (s_0 : PS) (s_1 : PS) (H : VH) : Option (AV × VH) :=
  letH H.lo fun H1 => bindJ (selC (ieq (s_1.len : Int) 0) (some (.normal, [.bool true], H1)) (some (.normal, [.bool (s_1.eq s_0)], H1))) fun x2 l3 H4 => caseEx .normal x2 (unc l3 fun a5 l6 => asB a5 fun b7 => endL l6 (selC b7 (some (.int .i64 0, leave H H4 (.int .i64 0))) (selC (ieq (s_1.len : Int) 1) (condT (ile 0 0 && ilt 0 (s_1.len : Nat)) (letN (((s_1.byte (0 : Int).toNat : Nat) : Int)) fun n8 => bindC (cf 162 [.str s_0, .int .u8 n8] H4) fun v9 H10 => asI .i64 v9 fun n11 => some (.int .i64 n11, leave H H10 (.int .i64 n11)))) (letB (ile (s_0.len : Int) (s_1.len : Int)) fun b12 => selC b12 (some (.int .i64 (-1), leave H H4 (.int .i64 (-1)))) (bindJ (none) fun x13 l14 H15 => caseEx .normal x13 (unc l14 fun a16 l17 => asB a16 fun b18 => endL l17 (selC b18 (bindC (cf 176 [.str s_0, .str s_1] H15) fun v19 H20 => asI .i64 v19 fun n21 => some (.int .i64 n21, leave H H20 (.int .i64 n21))) (condT (ile 0 0 && ilt 0 (s_1.len : Nat)) (letN (((s_1.byte (0 : Int).toNat : Nat) : Int)) fun n22 => condT (ile 0 1 && ilt 1 (s_1.len : Nat)) (letN (((s_1.byte (1 : Int).toNat : Nat) : Int)) fun n23 => letN (fwrap .i64 ((s_0.len : Int) - (s_1.len : Int))) fun n24 => letN (fwrap .i64 (n24 + 1)) fun n25 => bindJ (loopN (L154_0 cf n s_0 s_1 n22 n23 n25) n [.int .i64 0, .int .i64 0] H15) fun x90 l91 H92 => caseEx (.exit 1) x90 (endL l91 (some (.int .i64 (-1), leave H H92 (.int .i64 (-1))))) (caseEx .ret x90 (unc l91 fun a93 l94 => asI .i64 a93 fun n95 => endL l94 (some (.int .i64 n95, leave H H92 (.int .i64 n95)))) (none))))))) (none)))))) (none)
theorem eq154 (cf : CF) (n : Nat) (s_0 : PS) (s_1 : PS) (H : VH) : wfun T cf (promo 154) n ann154 f154 [.str s_0, .str s_1] H = F154 cf n s_0 s_1 H := by kernel_rfl
theorem ok154 (n : Nat) (s_0 : PS) (s_1 : PS) (H : VH) {r : AV × VH} (h : F154 (vcall T ext promo n) n s_0 s_1 H = some r) : vcall T ext promo (n + 1) 154 [.str s_0, .str s_1] H = some r :=
  call_of_wfun ext154 fn154 ((eq154 _ _ _ _ _).trans h)

theorem ext123 : ext 123 = none := rfl
theorem fn123 : T.fn.get 123 = some f123 := by kernel_rfl
/-! strings.Index -/
noncomputable def ann123 : Ann := (.two .nil .nil)
noncomputable def F123 (cf : CF) (n : Nat) (s_0 : PS) (s_1 : PS) (H : VH) : Option (AV × VH) :=
  letH H.lo fun H1 => bindC (cf 154 [.str s_0, .str s_1] H1) fun v2 H3 => asI .i64 v2 fun n4 => some (.int .i64 n4, leave H H3 (.int .i64 n4))
theorem eq123 (cf : CF) (n : Nat) (s_0 : PS) (s_1 : PS) (H : VH) : wfun T cf (promo 123) n ann123 f123 [.str s_0, .str s_1] H = F123 cf n s_0 s_1 H := by kernel_rfl
theorem ok123 (n : Nat) (s_0 : PS) (s_1 : PS) (H : VH) {r : AV × VH} (h : F123 (vcall T ext promo n) n s_0 s_1 H = some r) : vcall T ext promo (n + 1) 123 [.str s_0, .str s_1] H = some r :=
  call_of_wfun ext123 fn123 ((eq123 _ _ _ _ _).trans h)

theorem ext68 : ext 68 = none := rfl
theorem fn68 : T.fn.get 68 = some f68 := by kernel_rfl
/-! strings.Count -/
noncomputable def ann68 : Ann := (.two .nil (.two (.two .nil (.two .nil .nil)) (.two (.two .nil (.two .nil .nil)) (.two .nil (.one (.loop [] ⟨[(0, 9), (5, 3)], [], []⟩ [(.ret, ⟨[(4, 3)], [], []⟩)] (.one (.two .nil (.two (.two .nil (.two .nil .nil)) .nil)))))))))
noncomputable def L68_0 (cf : CF) (n : Nat) (s_1 : PS) (ih10 : List AV → VH → Option R) (l11 : List AV) (H12 : VH) : Option R :=
  unc l11 fun a13 l14 => asS a13 fun s15 => unc l14 fun a16 l17 => asI .i64 a16 fun n18 => endL l17 (bindC (cf 123 [.str s15, .str s_1] H12) fun v19 H20 => asI .i64 v19 fun n21 => selC (ieq n21 (-1)) (some (.ret, [.int .i64 n18], H20)) (letN (fwrap .i64 (n18 + 1)) fun n22 => letN (fwrap .i64 (n21 + (s_1.len : Int))) fun n23 => bindV (vslice T H20 9 (.v (.str s15)) (some (.int .i64 n23)) none) fun v24 => asS v24 fun s25 => ih10 [.str s25, .int .i64 n22] H20))
noncomputable def F68 (cf : CF) (n : Nat) (s_0 : PS) (s_1 : PS) (H : VH) : Option (AV × VH) :=
  letH H.lo fun H1 => selC (ieq (s_1.len : Int) 0) (bindC (cf 124 [.str s_0] H1) fun v2 H3 => asI .i64 v2 fun n4 => letN (fwrap .i64 (n4 + 1)) fun n5 => some (.int .i64 n5, leave H H3 (.int .i64 n5))) (selC (ieq (s_1.len : Int) 1) (condT (ile 0 0 && ilt 0 (s_1.len : Nat)) (letN (((s_1.byte (0 : Int).toNat : Nat) : Int)) fun n6 => bindC (cf 125 [.str s_0, .int .u8 n6] H1) fun v7 H8 => asI .i64 v7 fun n9 => some (.int .i64 n9, leave H H8 (.int .i64 n9)))) (bindJ (loopN (L68_0 cf n s_1) n [.str s_0, .int .i64 0] H1) fun x26 l27 H28 => caseEx .ret x26 (unc l27 fun a29 l30 => asI .i64 a29 fun n31 => endL l30 (some (.int .i64 n31, leave H H28 (.int .i64 n31)))) (none)))
theorem eq68 (cf : CF) (n : Nat) (s_0 : PS) (s_1 : PS) (H : VH) : wfun T cf (promo 68) n ann68 f68 [.str s_0, .str s_1] H = F68 cf n s_0 s_1 H := by kernel_rfl
theorem ok68 (n : Nat) (s_0 : PS) (s_1 : PS) (H : VH) {r : AV × VH} (h : F68 (vcall T ext promo n) n s_0 s_1 H = some r) : vcall T ext promo (n + 1) 68 [.str s_0, .str s_1] H = some r :=
  call_of_wfun ext68 fn68 ((eq68 _ _ _ _ _).trans h)

theorem ext67 : ext 67 = none := rfl
theorem fn67 : T.fn.get 67 = some f67 := by kernel_rfl
/-! strings.genSplit -/
noncomputable def ann67 : Ann := (.two .nil (.two (.two .nil (.two .nil .nil)) (.two (.two .nil (.two .nil .nil)) (.two (.join [] [(.normal, ⟨[(3, 3)], [], []⟩)] (.two .nil .nil)) (.two .nil (.two .nil (.two .nil (.two .nil (.two (.one (.loop [] ⟨[(0, 9), (10, 3)], [], []⟩ [((.exit 0), ⟨[(0, 9), (10, 3)], [], []⟩)] (.two (.two .nil .nil) (.one (.two .nil (.two (.two .nil .nil) (.two .nil .nil))))))) (.two .nil .nil))))))))))
noncomputable def L67_0 (cf : CF) (n : Nat) (s_1 : PS) (x_2 : Int) (a21 : Option (Nat × Nat)) (k22 : Nat) (n25 : Int) (ih26 : List AV → VH → Option R) (l27 : List AV) (H28 : VH) : Option R :=
  unc l27 fun a29 l30 => asS a29 fun s31 => unc l30 fun a32 l33 => asI .i64 a32 fun n34 => endL l33 (selC (ilt n34 n25) (bindC (cf 123 [.str s31, .str s_1] H28) fun v35 H36 => asI .i64 v35 fun n37 => selC (ilt n37 0) (some ((.exit 0), [.str s31, .int .i64 n34], H36)) (letN (fwrap .i64 (n37 + x_2)) fun n38 => bindV (vslice T H36 9 (.v (.str s31)) none (some (.int .i64 n38))) fun v39 => asS v39 fun s40 => asSome a21 fun p41 o42 => condT (ile 0 n34 && ilt n34 (k22 : Nat)) (bindH (H36.puts p41 (o42 + n34.toNat * 1) [.str s40]) fun H43 => letN (fwrap .i64 (n37 + (s_1.len : Int))) fun n44 => bindV (vslice T H43 9 (.v (.str s31)) (some (.int .i64 n44)) none) fun v45 => asS v45 fun s46 => letN (fwrap .i64 (n34 + 1)) fun n47 => ih26 [.str s46, .int .i64 n47] H43))) (some ((.exit 0), [.str s31, .int .i64 n34], H28)))
noncomputable def F67 (cf : CF) (n : Nat) (s_0 : PS) (s_1 : PS) (x_2 : Int) (x_3 : Int) (H : VH) : Option (AV × VH) :=
  letH H.lo fun H1 => selC (ieq x_3 0) (some (.slice none 0 (some 0) 0, leave H H1 (.slice none 0 (some 0) 0))) (selC (s_1.eq (PS.of [])) (bindC (cf 122 [.str s_0, .int .i64 x_3] H1) fun v2 H3 => asSl v2 fun a4 k5 c6 e7 => some (.slice a4 k5 c6 e7, leave H H3 (.slice a4 k5 c6 e7))) (bindJ (selC (ilt x_3 0) (bindC (cf 68 [.str s_0, .str s_1] H1) fun v8 H9 => asI .i64 v8 fun n10 => letN (fwrap .i64 (n10 + 1)) fun n11 => some (.normal, [.int .i64 n11], H9)) (some (.normal, [.int .i64 x_3], H1))) fun x12 l13 H14 => caseEx .normal x12 (unc l13 fun a15 l16 => asI .i64 a15 fun n17 => endL l16 (letN (fwrap .i64 ((s_0.len : Int) + 1)) fun n18 => bindC (vmakeSlice T H14 27 (.int .i64 (imin n17 n18)) (.int .i64 (imin n17 n18))) fun v19 H20 => asSl v19 fun a21 k22 c23 e24 => letN (fwrap .i64 ((imin n17 n18) - 1)) fun n25 => bindJ (loopN (L67_0 cf n s_1 x_2 a21 k22 n25) n [.str s_0, .int .i64 0] H20) fun x48 l49 H50 => caseEx (.exit 0) x48 (unc l49 fun a51 l52 => asS a51 fun s53 => unc l52 fun a54 l55 => asI .i64 a54 fun n56 => endL l55 (asSome a21 fun p57 o58 => condT (ile 0 n56 && ilt n56 (k22 : Nat)) (bindH (H50.puts p57 (o58 + n56.toNat * 1) [.str s53]) fun H59 => letN (fwrap .i64 (n56 + 1)) fun n60 => bindV (vslice T H59 27 (.v (.slice a21 k22 c23 e24)) none (some (.int .i64 n60))) fun v61 => asSl v61 fun a62 k63 c64 e65 => some (.slice a62 k63 c64 e65, leave H H59 (.slice a62 k63 c64 e65))))) (none))) (none)))
theorem eq67 (cf : CF) (n : Nat) (s_0 : PS) (s_1 : PS) (x_2 : Int) (x_3 : Int) (H : VH) : wfun T cf (promo 67) n ann67 f67 [.str s_0, .str s_1, .int .i64 x_2, .int .i64 x_3] H = F67 cf n s_0 s_1 x_2 x_3 H := by kernel_rfl
theorem ok67 (n : Nat) (s_0 : PS) (s_1 : PS) (x_2 : Int) (x_3 : Int) (H : VH) {r : AV × VH} (h : F67 (vcall T ext promo n) n s_0 s_1 x_2 x_3 H = some r) : vcall T ext promo (n + 1) 67 [.str s_0, .str s_1, .int .i64 x_2, .int .i64 x_3] H = some r :=
  call_of_wfun ext67 fn67 ((eq67 _ _ _ _ _ _ _).trans h)

theorem ext16 : ext 16 = none := rfl
theorem fn16 : T.fn.get 16 = some f16 := by kernel_rfl
/-! strings.Split -/
noncomputable def ann16 : Ann := (.two .nil .nil)
noncomputable def F16 (cf : CF) (n : Nat) (s_0 : PS) (s_1 : PS) (H : VH) : Option (AV × VH) :=
  letH H.lo fun H1 => bindC (cf 67 [.str s_0, .str s_1, .int .i64 0, .int .i64 (-1)] H1) fun v2 H3 => asSl v2 fun a4 k5 c6 e7 => some (.slice a4 k5 c6 e7, leave H H3 (.slice a4 k5 c6 e7))
theorem eq16 (cf : CF) (n : Nat) (s_0 : PS) (s_1 : PS) (H : VH) : wfun T cf (promo 16) n ann16 f16 [.str s_0, .str s_1] H = F16 cf n s_0 s_1 H := by kernel_rfl
theorem ok16 (n : Nat) (s_0 : PS) (s_1 : PS) (H : VH) {r : AV × VH} (h : F16 (vcall T ext promo n) n s_0 s_1 H = some r) : vcall T ext promo (n + 1) 16 [.str s_0, .str s_1] H = some r :=
  call_of_wfun ext16 fn16 ((eq16 _ _ _ _ _).trans h)

theorem ext126 : ext 126 = none := rfl
theorem fn126 : T.fn.get 126 = some f126 := by kernel_rfl
/-! internal/bytealg.LastIndexByteString -/
noncomputable def ann126 : Ann := (.two .nil (.two (.two .nil (.one (.loop [] ⟨[(5, 3)], [], []⟩ [((.exit 0), ⟨[], [], []⟩), (.ret, ⟨[(4, 3)], [], []⟩)] (.two (.two .nil .nil) (.two (.one (.two .nil (.two .nil .nil))) .nil))))) .nil))
noncomputable def L126_0 (cf : CF) (n : Nat) (s_0 : PS) (x_1 : Int) (ih3 : List AV → VH → Option R) (l4 : List AV) (H5 : VH) : Option R :=
  unc l4 fun a6 l7 => asI .i64 a6 fun n8 => endL l7 (selC (ile 0 n8) (condT (ile 0 n8 && ilt n8 (s_0.len : Nat)) (letN (((s_0.byte n8.toNat : Nat) : Int)) fun n9 => selC (ieq n9 x_1) (some (.ret, [.int .i64 n8], H5)) (letN (fwrap .i64 (n8 - 1)) fun n10 => ih3 [.int .i64 n10] H5))) (some ((.exit 0), [], H5)))
noncomputable def F126 (cf : CF) (n : Nat) (s_0 : PS) (x_1 : Int) (H : VH) : Option (AV × VH) :=
  letH H.lo fun H1 => letN (fwrap .i64 ((s_0.len : Int) - 1)) fun n2 => bindJ (loopN (L126_0 cf n s_0 x_1) n [.int .i64 n2] H1) fun x11 l12 H13 => caseEx (.exit 0) x11 (endL l12 (some (.int .i64 (-1), leave H H13 (.int .i64 (-1))))) (caseEx .ret x11 (unc l12 fun a14 l15 => asI .i64 a14 fun n16 => endL l15 (some (.int .i64 n16, leave H H13 (.int .i64 n16)))) (none))
theorem eq126 (cf : CF) (n : Nat) (s_0 : PS) (x_1 : Int) (H : VH) : wfun T cf (promo 126) n ann126 f126 [.str s_0, .int .u8 x_1] H = F126 cf n s_0 x_1 H := by kernel_rfl
theorem ok126 (n : Nat) (s_0 : PS) (x_1 : Int) (H : VH) {r : AV × VH} (h : F126 (vcall T ext promo n) n s_0 x_1 H = some r) : vcall T ext promo (n + 1) 126 [.str s_0, .int .u8 x_1] H = some r :=
  call_of_wfun ext126 fn126 ((eq126 _ _ _ _ _).trans h)

theorem ext69 : ext 69 = none := rfl
theorem fn69 : T.fn.get 69 = some f69 := by kernel_rfl
/-! strings.LastIndex -/
noncomputable def ann69 : Ann := (.two .nil (.two .nil (.two (.one (.two .nil (.two .nil (.two .nil (.two .nil (.two .nil (.two (.two (.two .nil (.two .nil .nil)) .nil) (.two .nil (.two .nil .nil))))))))) .nil)))
noncomputable def F69 (cf : CF) (n : Nat) (s_0 : PS) (s_1 : PS) (H : VH) : Option (AV × VH) :=
  letH H.lo fun H1 => selC (ieq (s_1.len : Int) 0) (some (.int .i64 (s_0.len : Int), leave H H1 (.int .i64 (s_0.len : Int)))) (selC (ieq (s_1.len : Int) 1) (condT (ile 0 0 && ilt 0 (s_1.len : Nat)) (letN (((s_1.byte (0 : Int).toNat : Nat) : Int)) fun n2 => bindC (cf 126 [.str s_0, .int .u8 n2] H1) fun v3 H4 => asI .i64 v3 fun n5 => some (.int .i64 n5, leave H H4 (.int .i64 n5)))) (letB (ieq (s_1.len : Int) (s_0.len : Int)) fun b6 => selC b6 (selC (s_1.eq s_0) (some (.int .i64 0, leave H H1 (.int .i64 0))) (some (.int .i64 (-1), leave H H1 (.int .i64 (-1))))) (letB (ilt (s_0.len : Int) (s_1.len : Int)) fun b7 => selC b7 (some (.int .i64 (-1), leave H H1 (.int .i64 (-1)))) (bindC (cf 127 [.str s_0, .str s_1] H1) fun v8 H9 => asI .i64 v8 fun n10 => some (.int .i64 n10, leave H H9 (.int .i64 n10))))))
theorem eq69 (cf : CF) (n : Nat) (s_0 : PS) (s_1 : PS) (H : VH) : wfun T cf (promo 69) n ann69 f69 [.str s_0, .str s_1] H = F69 cf n s_0 s_1 H := by kernel_rfl
theorem ok69 (n : Nat) (s_0 : PS) (s_1 : PS) (H : VH) {r : AV × VH} (h : F69 (vcall T ext promo n) n s_0 s_1 H = some r) : vcall T ext promo (n + 1) 69 [.str s_0, .str s_1] H = some r :=
  call_of_wfun ext69 fn69 ((eq69 _ _ _ _ _).trans h)

theorem ext17 : ext 17 = none := rfl
theorem fn17 : T.fn.get 17 = some f17 := by kernel_rfl
/-! maskwright/note.Place -/
noncomputable def ann17 : Ann := (.two .nil (.two (.two (.join [] [(.normal, ⟨[(14, 4)], [], []⟩)] .nil) (.two .nil .nil)) (.two .nil .nil)))
noncomputable def F17 (cf : CF) (n : Nat) (s_0 : PS) (x_1 : Int) (H : VH) : Option (AV × VH) :=
  letH H.lo fun H1 => bindJ (selC (ilt x_1 0) (some (.normal, [.bool true], H1)) (some (.normal, [.bool (ilt (s_0.len : Int) x_1)], H1))) fun x2 l3 H4 => caseEx .normal x2 (unc l3 fun a5 l6 => asB a5 fun b7 => endL l6 (selC b7 (some (.tuple [.int .i64 0, .int .i64 0], leave H H4 (.tuple [.int .i64 0, .int .i64 0]))) (bindV (vslice T H4 9 (.v (.str s_0)) none (some (.int .i64 x_1))) fun v8 => asS v8 fun s9 => bindC (cf 68 [.str s9, .str (PS.of [10])] H4) fun v10 H11 => asI .i64 v10 fun n12 => letN (fwrap .i64 (n12 + 1)) fun n13 => bindC (cf 69 [.str s9, .str (PS.of [10])] H11) fun v14 H15 => asI .i64 v14 fun n16 => letN (fwrap .i64 (x_1 - n16)) fun n17 => some (.tuple [.int .i64 n13, .int .i64 n17], leave H H15 (.tuple [.int .i64 n13, .int .i64 n17]))))) (none)
theorem eq17 (cf : CF) (n : Nat) (s_0 : PS) (x_1 : Int) (H : VH) : wfun T cf (promo 17) n ann17 f17 [.str s_0, .int .i64 x_1] H = F17 cf n s_0 x_1 H := by kernel_rfl
theorem ok17 (n : Nat) (s_0 : PS) (x_1 : Int) (H : VH) {r : AV × VH} (h : F17 (vcall T ext promo n) n s_0 x_1 H = some r) : vcall T ext promo (n + 1) 17 [.str s_0, .int .i64 x_1] H = some r :=
  call_of_wfun ext17 fn17 ((eq17 _ _ _ _ _).trans h)

theorem ext18 : ext 18 = none := rfl
theorem fn18 : T.fn.get 18 = some f18 := by kernel_rfl
/-! maskwright/maskkeep1.placed -/
noncomputable def ann18 : Ann := (.two .nil (.two .nil (.two .nil .nil)))
noncomputable def F18 (cf : CF) (n : Nat) (H : VH) : Option (AV × VH) :=
  letH H.lo fun H1 => bindC (cf 17 [.str (PS.of [97, 98, 10, 99]), .int .i64 2] H1) fun v2 H3 => asTu v2 fun l4 => unc l4 fun a5 l6 => asI .i64 a5 fun n7 => unc l6 fun a8 l9 => asI .i64 a8 fun n10 => endL l9 (bindC (cf 17 [.str (PS.of [97, 98, 10, 99]), .int .i64 3] H3) fun v11 H12 => asTu v11 fun l13 => unc l13 fun a14 l15 => asI .i64 a14 fun n16 => unc l15 fun a17 l18 => asI .i64 a17 fun n19 => endL l18 (selC (ieq n7 1) (selC (ieq n10 3) (selC (ieq n16 2) (some (.bool (ieq n19 1), leave H H12 (.bool (ieq n19 1)))) (some (.bool false, leave H H12 (.bool false)))) (some (.bool false, leave H H12 (.bool false)))) (some (.bool false, leave H H12 (.bool false)))))
theorem eq18 (cf : CF) (n : Nat) (H : VH) : wfun T cf (promo 18) n ann18 f18 [] H = F18 cf n H := by kernel_rfl
theorem ok18 (n : Nat) (H : VH) {r : AV × VH} (h : F18 (vcall T ext promo n) n H = some r) : vcall T ext promo (n + 1) 18 [] H = some r :=
  call_of_wfun ext18 fn18 ((eq18 _ _ _).trans h)

theorem ext3 : ext 3 = none := rfl
theorem fn3 : T.fn.get 3 = some f3 := by kernel_rfl
/-! maskwright/maskkeep1.NotePlaced -/
noncomputable def ann3 : Ann := (.two .nil (.two .nil (.two .nil (.two (.two .nil (.one (.loop [] ⟨[(4, 9), (17, 3)], [], []⟩ [((.exit 0), ⟨[(4, 9)], [], []⟩)] (.two .nil (.two .nil (.two (.one .nil) .nil)))))) (.two .nil (.two .nil (.two .nil (.two (.two (.join [] [(.normal, ⟨[(65, 4)], [], []⟩)] .nil) (.two .nil .nil)) (.two .nil (.two (.two .nil (.one (.loop [] ⟨[(9, 3), (73, 3)], [], []⟩ [((.exit 2), ⟨[(9, 3)], [], []⟩)] (.two .nil (.two .nil (.two (.one .nil) .nil)))))) .nil))))))))))
noncomputable def L3_0 (cf : CF) (n : Nat) (H1 : VH) (n5 : Int) (ih6 : List AV → VH → Option R) (l7 : List AV) (H8 : VH) : Option R :=
  unc l7 fun a9 l10 => asS a9 fun s11 => unc l10 fun a12 l13 => asI .i64 a12 fun n14 => endL l13 (selC (ilt n14 n5) (letH (H8.fresh [.str (PS.of [97]), .str (PS.of [98]), .str (PS.of [10]), .str (PS.of [32])]) fun H15 => bindC (cf 15 [.ptr (some (H1.next, 0)), .int .i64 4] H15) fun v16 H17 => asI .i64 v16 fun n18 => condT (ile 0 n18 && ilt n18 (4 : Nat)) (bindV (H17.cell H8.next (0 + n18.toNat * 1)) fun v19 => asS v19 fun s20 => bindV (vstrOp .add s11 s20) fun v21 => asS v21 fun s22 => letN (fwrap .i64 (n14 + 1)) fun n23 => ih6 [.str s22, .int .i64 n23] H17)) (some ((.exit 0), [.str s11], H8)))
noncomputable def L3_1 (cf : CF) (n : Nat) (a66 : Option (Nat × Nat)) (k67 : Nat) (ih70 : List AV → VH → Option R) (l71 : List AV) (H72 : VH) : Option R :=
  unc l71 fun a73 l74 => asI .i64 a73 fun n75 => unc l74 fun a76 l77 => asI .i64 a76 fun n78 => endL l77 (selC (ilt n78 (k67 : Int)) (asSome a66 fun p79 o80 => condT (ile 0 n78 && ilt n78 (k67 : Nat)) (bindV (H72.cell p79 (o80 + n78.toNat * 1)) fun v81 => asS v81 fun s82 => letN (fwrap .i64 ((s82.len : Int) + 1)) fun n83 => letN (fwrap .i64 (n75 + n83)) fun n84 => letN (fwrap .i64 (n78 + 1)) fun n85 => ih70 [.int .i64 n84, .int .i64 n85] H72)) (some ((.exit 2), [.int .i64 n75], H72)))
noncomputable def F3 (cf : CF) (n : Nat) (a_0 : Option (Nat × Nat)) (k_0 : Nat) (c_0 : Option Nat) (e_0 : Nat) (H : VH) : Option (AV × VH) :=
  letH H.lo fun H1 => letH (H1.fresh [.slice a_0 k_0 c_0 e_0, .int .i64 0]) fun H2 => bindC (cf 14 [.ptr (some (H1.next, 0)), .int .i64 0, .int .i64 60] H2) fun v3 H4 => asI .i64 v3 fun n5 => bindJ (loopN (L3_0 cf n H1 n5) n [.str (PS.of []), .int .i64 0] H4) fun x24 l25 H26 => caseEx (.exit 0) x24 (unc l25 fun a27 l28 => asS a27 fun s29 => endL l28 (bindC (cf 16 [.str s29, .str (PS.of [10])] H26) fun v30 H31 => asSl v30 fun a32 k33 c34 e35 => bindC (cf 14 [.ptr (some (H1.next, 0)), .int .i64 0, .int .i64 (s29.len : Int)] H31) fun v36 H37 => asI .i64 v36 fun n38 => bindC (cf 17 [.str s29, .int .i64 n38] H37) fun v39 H40 => asTu v39 fun l41 => unc l41 fun a42 l43 => asI .i64 a42 fun n44 => unc l43 fun a45 l46 => asI .i64 a45 fun n47 => endL l46 (bindJ (bindC (cf 18 [] H40) fun v48 H49 => asB v48 fun b50 => selC (!b50) (some (.normal, [.bool true], H49)) (selC (ilt n44 1) (some (.normal, [.bool true], H49)) (selC (ilt (k33 : Int) n44) (some (.normal, [.bool true], H49)) (selC (ilt n47 1) (some (.normal, [.bool true], H49)) (letN (fwrap .i64 (n44 - 1)) fun n51 => asSome a32 fun p52 o53 => condT (ile 0 n51 && ilt n51 (k33 : Nat)) (bindV (H49.cell p52 (o53 + n51.toNat * 1)) fun v54 => asS v54 fun s55 => letN (fwrap .i64 ((s55.len : Int) + 1)) fun n56 => some (.normal, [.bool (ilt n56 n47)], H49))))))) fun x57 l58 H59 => caseEx .normal x57 (unc l58 fun a60 l61 => asB a60 fun b62 => endL l61 (selC b62 (some (.bool false, leave H H59 (.bool false))) (letN (fwrap .i64 (n47 - 1)) fun n63 => letN (fwrap .i64 (n44 - 1)) fun n64 => bindV (vslice T H59 27 (.v (.slice a32 k33 c34 e35)) none (some (.int .i64 n64))) fun v65 => asSl v65 fun a66 k67 c68 e69 => bindJ (loopN (L3_1 cf n a66 k67) n [.int .i64 n63, .int .i64 0] H59) fun x86 l87 H88 => caseEx (.exit 2) x86 (unc l87 fun a89 l90 => asI .i64 a89 fun n91 => endL l90 (some (.bool (ieq n91 n38), leave H H88 (.bool (ieq n91 n38))))) (none)))) (none)))) (none)
theorem eq3 (cf : CF) (n : Nat) (a_0 : Option (Nat × Nat)) (k_0 : Nat) (c_0 : Option Nat) (e_0 : Nat) (H : VH) : wfun T cf (promo 3) n ann3 f3 [.slice a_0 k_0 c_0 e_0] H = F3 cf n a_0 k_0 c_0 e_0 H := by kernel_rfl
theorem ok3 (n : Nat) (a_0 : Option (Nat × Nat)) (k_0 : Nat) (c_0 : Option Nat) (e_0 : Nat) (H : VH) {r : AV × VH} (h : F3 (vcall T ext promo n) n a_0 k_0 c_0 e_0 H = some r) : vcall T ext promo (n + 1) 3 [.slice a_0 k_0 c_0 e_0] H = some r :=
  call_of_wfun ext3 fn3 ((eq3 _ _ _ _ _ _ _).trans h)

end Go.Vm.Tryd
