/- Small laws for the reduced functions. -/
import Derived.Test.YtmlogeklbcgjnaaGreatDoorVmW5
namespace Go.Vm
set_option linter.unusedSimpArgs false
set_option linter.unusedVariables false
set_option linter.unusedSectionVars false

section
variable {α : Type}
@[simp] theorem bindV_mk (v : AV) (k : AV → Option α) : bindV (some v) k = k v := Eq.trans rfl rfl
@[simp] theorem bindL_mk (v : List AV) (k : List AV → Option α) : bindL (some v) k = k v := Eq.trans rfl rfl
@[simp] theorem bindH_mk (v : VH) (k : VH → Option α) : bindH (some v) k = k v := Eq.trans rfl rfl
@[simp] theorem bindC_mk (v : AV) (H : VH) (k : AV → VH → Option α) : bindC (some (v, H)) k = k v H := Eq.trans rfl rfl
@[simp] theorem bindJ_mk (e : Ex) (l : List AV) (H : VH) (k : Ex → List AV → VH → Option α) : bindJ (some (e, l, H)) k = k e l H := Eq.trans rfl rfl
@[simp] theorem condT_eq (b : Bool) (k : Option α) : condT b k = if b = true then k else none := by cases b <;> rfl
@[simp] theorem selC_eq (b : Bool) (x y : Option α) : selC b x y = if b = true then x else y := by cases b <;> rfl
@[simp] theorem sel_eq {β : Type} (b : Bool) (x y : β) : sel b x y = if b = true then x else y := by cases b <;> rfl
@[simp] theorem asB_mk (b : Bool) (k : Bool → Option α) : asB (.bool b) k = k b := Eq.trans rfl rfl
@[simp] theorem asI_mk (kd : IntKind) (n : Int) (k : Int → Option α) : asI kd (.int kd n) k = k n := by simp [asI]
@[simp] theorem asS_mk (s : PS) (k : PS → Option α) : asS (.str s) k = k s := Eq.trans rfl rfl
@[simp] theorem asP_mk (p : Option (Bk × Nat)) (k : Option (Bk × Nat) → Option α) : asP (.ptr p) k = k p := Eq.trans rfl rfl
@[simp] theorem asM_mk (m : Option Nat) (k : Option Nat → Option α) : asM (.map m) k = k m := Eq.trans rfl rfl
@[simp] theorem asSl_mk (a : Option (Bk × Nat)) (n : Nat) (c : Option Nat) (e : Nat) (k : Option (Bk × Nat) → Nat → Option Nat → Nat → Option α) : asSl (.slice a n c e) k = k a n c e := Eq.trans rfl rfl
@[simp] theorem asA_mk (l : List AV) (k : List AV → Option α) : asA (.agg l) k = k l := Eq.trans rfl rfl
@[simp] theorem asTu_mk (l : List AV) (k : List AV → Option α) : asTu (.tuple l) k = k l := Eq.trans rfl rfl
@[simp] theorem asFn_mk (f : Nat) (a b : List AV) (k : Nat → List AV → List AV → Option α) : asFn (.func f a b) k = k f a b := Eq.trans rfl rfl
@[simp] theorem asSome_mk (b : Bk) (o : Nat) (k : Bk → Nat → Option α) : asSome (some (b, o)) k = k b o := Eq.trans rfl rfl
@[simp] theorem unc_mk (a : AV) (l : List AV) (k : AV → List AV → Option α) : unc (a :: l) k = k a l := Eq.trans rfl rfl
@[simp] theorem endL_mk (k : Option α) : endL [] k = k := Eq.trans rfl rfl
@[simp] theorem uI_mk (n : Int) (l : List AV) (k : Int → List AV → Option α) : uI (.int .i64 n :: l) k = k n l := by simp [uI]
@[simp] theorem uU_mk (n : Int) (l : List AV) (k : Int → List AV → Option α) : uU (.int .u64 n :: l) k = k n l := by simp [uU]
@[simp] theorem uB_mk (n : Bool) (l : List AV) (k : Bool → List AV → Option α) : uB (.bool n :: l) k = k n l := by simp [uB]
@[simp] theorem uS_mk (n : PS) (l : List AV) (k : PS → List AV → Option α) : uS (.str n :: l) k = k n l := by simp [uS]
@[simp] theorem uL_mk (a : Option (Bk × Nat)) (n : Nat) (c : Option Nat) (e : Nat) (l : List AV) (k : Option (Bk × Nat) → Nat → Option Nat → Nat → List AV → Option α) : uL (.slice a n c e :: l) k = k a n c e l := by simp [uL]
@[simp] theorem letH_mk (H : VH) (k : VH → Option α) : letH H k = k H := Eq.trans rfl rfl
@[simp] theorem letN_mk (n : Int) (k : Int → Option α) : letN n k = k n := Eq.trans rfl rfl
@[simp] theorem letB_mk (n : Bool) (k : Bool → Option α) : letB n k = k n := Eq.trans rfl rfl
@[simp] theorem letS_mk (n : PS) (k : PS → Option α) : letS n k = k n := Eq.trans rfl rfl
@[simp] theorem case_nn (a b : Option α) : caseEx .normal .normal a b = a := Eq.trans rfl rfl
@[simp] theorem case_nr (a b : Option α) : caseEx .normal .ret a b = b := Eq.trans rfl rfl
@[simp] theorem case_ne (i : Nat) (a b : Option α) : caseEx .normal (.exit i) a b = b := Eq.trans rfl rfl
@[simp] theorem case_rn (a b : Option α) : caseEx .ret .normal a b = b := Eq.trans rfl rfl
@[simp] theorem case_rr (a b : Option α) : caseEx .ret .ret a b = a := Eq.trans rfl rfl
@[simp] theorem case_re (i : Nat) (a b : Option α) : caseEx .ret (.exit i) a b = b := Eq.trans rfl rfl
@[simp] theorem case_en (i : Nat) (a b : Option α) : caseEx (.exit i) .normal a b = b := Eq.trans rfl rfl
@[simp] theorem case_er (i : Nat) (a b : Option α) : caseEx (.exit i) .ret a b = b := Eq.trans rfl rfl
@[simp] theorem case_ee (i : Nat) (a b : Option α) : caseEx (.exit i) (.exit i) a b = a := by simp [caseEx]
theorem case_ee' (i j : Nat) (a b : Option α) : caseEx (.exit i) (.exit j) a b = if i = j then a else b := by
  by_cases h : i = j
  · subst h; simp
  · have : Nat.beq i j = false := by cases e : Nat.beq i j with
      | false => rfl
      | true => exact absurd (Nat.eq_of_beq_eq_true e) h
    simp [caseEx, this, h]
/-- A join behind a choice. -/
theorem bindJ_ite {c : Prop} [Decidable c] (x y : Option R) (k : Ex → List AV → VH → Option α) : bindJ (if c then x else y) k = if c then bindJ x k else bindJ y k := by split <;> rfl
theorem bindV_ite {c : Prop} [Decidable c] (x y : Option AV) (k : AV → Option α) : bindV (if c then x else y) k = if c then bindV x k else bindV y k := by split <;> rfl
@[simp] theorem loopN_zero (B : (List AV → VH → Option R) → List AV → VH → Option R) (l : List AV) (H : VH) : loopN B 0 l H = none := rfl
theorem loopN_succ (B : (List AV → VH → Option R) → List AV → VH → Option R) (n : Nat) (l : List AV) (H : VH) : loopN B (n + 1) l H = B (loopN B n) l H := rfl
end

/-! Numbers. -/
theorem fw_i64 {n : Int} (h1 : -9223372036854775808 ≤ n) (h2 : n < 9223372036854775808) : fwrap .i64 n = n := by
  rw [fwrap_eq]
  simp only [IntKind.wrap, IntKind.bits, IntKind.signed, Bool.true_and, decide_eq_true_eq, show (2 : Int) ^ 64 = 18446744073709551616 from rfl, show (2 : Int) ^ (64 - 1) = 9223372036854775808 from rfl]
  split <;> omega
theorem fw_u64 (n : Int) : fwrap .u64 n = n % 18446744073709551616 := by
  rw [fwrap_eq]
  simp [IntKind.wrap, IntKind.bits, IntKind.signed]
theorem fw_u8 (n : Int) : fwrap .u8 n = n % 256 := by
  rw [fwrap_eq]
  simp [IntKind.wrap, IntKind.bits, IntKind.signed]
/-- A whole number of 64 bits without a sign. -/
abbrev u64 (x : BitVec 64) : Int := (x.toNat : Int)
theorem nmod_nat (a M : Nat) : nmod (a : Int) M = a % M := rfl
theorem fw_nat (a : Nat) : fwrap .u64 (.ofNat a) = u64 (BitVec.ofNat 64 a) := by
  rw [fw_u64]
  simp [u64, BitVec.toNat_ofNat]
  try omega
theorem nmod_u64 (x : BitVec 64) : nmod (u64 x) (modOf .u64) = x.toNat := by
  rw [u64, nmod_nat]
  exact Nat.mod_eq_of_lt x.isLt
@[simp] theorem iand_u64 (x y : BitVec 64) : iand .u64 (u64 x) (u64 y) = u64 (x &&& y) := by
  unfold iand
  rw [nmod_u64, nmod_u64, fw_nat]
  congr 2
  apply BitVec.eq_of_toNat_eq
  rw [BitVec.toNat_ofNat, BitVec.toNat_and]
  exact Nat.mod_eq_of_lt (Nat.lt_of_le_of_lt Nat.and_le_left x.isLt)
@[simp] theorem ior_u64 (x y : BitVec 64) : ior .u64 (u64 x) (u64 y) = u64 (x ||| y) := by
  unfold ior
  rw [nmod_u64, nmod_u64, fw_nat]
  congr 2
  apply BitVec.eq_of_toNat_eq
  rw [BitVec.toNat_ofNat, BitVec.toNat_or]
  exact Nat.mod_eq_of_lt (Nat.or_lt_two_pow x.isLt y.isLt)
@[simp] theorem ixor_u64 (x y : BitVec 64) : ixor .u64 (u64 x) (u64 y) = u64 (x ^^^ y) := by
  unfold ixor
  rw [nmod_u64, nmod_u64, fw_nat]
  congr 2
  apply BitVec.eq_of_toNat_eq
  rw [BitVec.toNat_ofNat, BitVec.toNat_xor]
  exact Nat.mod_eq_of_lt (Nat.xor_lt_two_pow x.isLt y.isLt)
@[simp] theorem iandn_u64 (x y : BitVec 64) : iandn .u64 (u64 x) (u64 y) = u64 (x &&& ~~~y) := by
  unfold iandn
  rw [nmod_u64, nmod_u64, fw_nat]
  congr 2
  apply BitVec.eq_of_toNat_eq
  rw [BitVec.toNat_ofNat, BitVec.toNat_and, BitVec.toNat_not]
  exact Nat.mod_eq_of_lt (Nat.lt_of_le_of_lt Nat.and_le_left x.isLt)
@[simp] theorem inot_u64 (x : BitVec 64) : inot .u64 (u64 x) = u64 (~~~x) := by
  unfold inot
  rw [nmod_u64, fw_nat]
  congr 2
  apply BitVec.eq_of_toNat_eq
  have : nmod (if IntKind.signed .u64 = true then -1 else IntKind.max .u64) (modOf .u64) = (BitVec.allOnes 64).toNat := by decide
  rw [this, BitVec.toNat_ofNat]
  show ((BitVec.allOnes 64).toNat ^^^ x.toNat) % 2 ^ 64 = _
  rw [← BitVec.toNat_xor, BitVec.allOnes_xor]
  exact Nat.mod_eq_of_lt (~~~x).isLt
theorem add_u64 (x y : BitVec 64) : fwrap .u64 (u64 x + u64 y) = u64 (x + y) := by
  rw [fw_u64]
  simp only [u64, BitVec.toNat_add]
  omega
theorem sub_u64 (x y : BitVec 64) : fwrap .u64 (u64 x - u64 y) = u64 (x - y) := by
  rw [fw_u64]
  simp only [u64, BitVec.toNat_sub]
  have := x.isLt
  have := y.isLt
  omega
theorem mul_u64 (x y : BitVec 64) : fwrap .u64 (u64 x * u64 y) = u64 (x * y) := by
  rw [fw_u64]
  simp only [u64, BitVec.toNat_mul]
  omega
theorem u64_inj {x y : BitVec 64} : u64 x = u64 y ↔ x = y := by
  constructor
  · intro h
    exact BitVec.eq_of_toNat_eq (Int.ofNat_inj.1 h)
  · rintro rfl
    rfl
theorem ieq_dec (a b : Int) : ieq a b = decide (a = b) := by
  rw [ieq_eq]
  by_cases h : a = b <;> simp [h]
theorem ieq_u64 (a b : BitVec 64) : ieq (u64 a) (u64 b) = decide (a = b) := by
  rw [ieq_dec, Bool.eq_iff_iff]
  simp only [decide_eq_true_eq]
  exact u64_inj
theorem ieq_u64_0 (a : BitVec 64) : ieq (u64 a) 0 = decide (a = 0#64) := ieq_u64 a 0#64
theorem u64_lit (n : Nat) (h : n < 18446744073709551616) : ((n : Nat) : Int) = u64 (BitVec.ofNat 64 n) := by
  simp [u64, BitVec.toNat_ofNat]
  omega

theorem cell_blk (H : VH) (b o : Nat) : H.cell b o = H.cellN b o := rfl
theorem put_blk (H : VH) (b o : Nat) (v : AV) : H.put b o v = H.putN b o v := rfl
theorem cell_pur (H : VH) (cs : List AV) (o : Nat) : H.cell (.pur cs) o = cs[o]? := rfl
/-! The heap. -/
structure VH.Ok (H : VH) : Prop where
  get : ∀ b x, H.get b = some x → b < H.next
  wg : ∀ l g, H.wg.get l = some g → l < H.next
  lin : ∀ b r, H.row? b = some r → r.lin < H.next
@[simp] theorem lo_next (H : VH) : H.lo.next = H.next := rfl
@[simp] theorem lo_low (H : VH) : H.lo.low = H.next := rfl
@[simp] theorem lo_lo (H : VH) : H.lo.lo = H.lo := rfl
@[simp] theorem lo_get (H : VH) (b : Nat) : H.lo.get b = H.get b := rfl
@[simp] theorem lo_cell (H : VH) (b o : Nat) : H.lo.cell b o = H.cell b o := rfl
theorem lo_ok {H : VH} (h : H.Ok) : H.lo.Ok := ⟨h.get, h.wg, h.lin⟩
@[simp] theorem lo_cells (H : VH) (b : Nat) : ∀ (n o : Nat), H.lo.cells b o n = H.cells b o n
  | 0, _ => rfl
  | n + 1, o => by simp only [VH.cells, lo_cell, lo_cells H b n]
@[simp] theorem fresh_next (H : VH) (cs : List AV) : (H.fresh cs).next = H.next + 1 := rfl
@[simp] theorem fresh_low (H : VH) (cs : List AV) : (H.fresh cs).low = H.low := rfl
theorem fresh_get (H : VH) (cs : List AV) (b : Nat) : (H.fresh cs).get b = if b = H.next then some (.row { n := cs.length, t := Tr.ofList cs, live := true, lin := H.next, gen := 0, ver := 0 }) else H.get b := Tr.get_set _ _ _ _
theorem fresh_ok {H : VH} (h : H.Ok) (cs : List AV) : (H.fresh cs).Ok := by
  refine ⟨fun b x hb => ?_, fun l g hl => Nat.lt_succ_of_lt (h.wg l g hl), fun b r hr => ?_⟩
  · rw [fresh_get] at hb
    split at hb
    · rename_i e
      rw [e]
      exact Nat.lt_succ_self _
    · exact Nat.lt_succ_of_lt (h.get b x hb)
  · unfold VH.row? at hr
    rw [fresh_get] at hr
    by_cases e : b = H.next
    · simp only [if_pos e, Option.some.injEq] at hr
      subst hr
      exact Nat.lt_succ_self _
    · simp only [if_neg e] at hr
      exact Nat.lt_succ_of_lt (h.lin b r hr)
theorem fresh_cell {H : VH} (h : H.Ok) (cs : List AV) (b o : Nat) : (H.fresh cs).cell b o = if b = H.next then cs[o]? else H.cell b o := by
  simp only [cell_blk]
  unfold VH.cellN VH.row?
  rw [fresh_get]
  by_cases e : b = H.next
  · simp only [if_pos e]
    have hw : H.wg.get H.next = none := by
      cases e : H.wg.get H.next with
      | none => rfl
      | some g => exact absurd (h.wg _ _ e) (Nat.lt_irrefl _)
    have hr : (H.fresh cs).readable { n := cs.length, t := Tr.ofList cs, live := true, lin := H.next, gen := 0, ver := 0 } = true := by
      unfold VH.readable VH.from_
      rw [show (H.fresh cs).wg = H.wg from rfl, hw]
      rfl
    simp only [hr, if_true, Tr.get_ofList]
    by_cases ho : o < cs.length
    · simp [blt_eq, ho]
    · simp [blt_eq, ho]
  · simp only [if_neg e]
    rfl
theorem cells_eq {H : VH} {b : Nat} {cs : List AV} : ∀ {n o : Nat}, (∀ i, i < n → H.cell b (o + i) = cs[i]?) → n = cs.length → H.cells b o n = some cs
  | 0, o, h, hn => by
    have : cs = [] := List.length_eq_zero_iff.1 hn.symm
    subst this
    rfl
  | n + 1, o, h, hn => by
    cases cs with
    | nil => cases hn
    | cons c cs =>
      have h0 := h 0 (Nat.succ_pos _)
      simp only [Nat.add_zero, List.getElem?_cons_zero] at h0
      have ih := cells_eq (H := H) (b := b) (cs := cs) (n := n) (o := o + 1) (fun i hi => by
        have := h (i + 1) (Nat.succ_lt_succ hi)
        rw [List.getElem?_cons_succ] at this
        rw [← this]
        congr 1
        omega) (by simpa using hn)
      simp only [VH.cells, h0, ih]
theorem fresh_cells {H : VH} (h : H.Ok) (cs : List AV) (o n : Nat) (hn : o + n ≤ cs.length) : (H.fresh cs).cells H.next o n = some ((cs.drop o).take n) := by
  refine cells_eq (fun i hi => ?_) (by simp; omega)
  rw [fresh_cell h, if_pos rfl]
  rw [List.getElem?_take, if_pos hi, List.getElem?_drop]
@[simp] theorem freshT_next (H : VH) (cs : List AV) (ty : Nat) : (H.freshT cs ty).next = H.next + 1 := rfl
@[simp] theorem freshT_low (H : VH) (cs : List AV) (ty : Nat) : (H.freshT cs ty).low = H.low := rfl
theorem freshT_get (H : VH) (cs : List AV) (ty : Nat) (b : Nat) : (H.freshT cs ty).get b = if b = H.next then some (.row { n := cs.length, t := Tr.ofList cs, live := true, lin := H.next, gen := 0, ver := 0, ety := some ty }) else H.get b := Tr.get_set _ _ _ _
theorem freshT_ok {H : VH} (h : H.Ok) (cs : List AV) (ty : Nat) : (H.freshT cs ty).Ok := by
  refine ⟨fun b x hb => ?_, fun l g hl => Nat.lt_succ_of_lt (h.wg l g hl), fun b r hr => ?_⟩
  · rw [freshT_get] at hb
    split at hb
    · rename_i e
      rw [e]
      exact Nat.lt_succ_self _
    · exact Nat.lt_succ_of_lt (h.get b x hb)
  · unfold VH.row? at hr
    rw [freshT_get] at hr
    by_cases e : b = H.next
    · simp only [if_pos e, Option.some.injEq] at hr
      subst hr
      exact Nat.lt_succ_self _
    · simp only [if_neg e] at hr
      exact Nat.lt_succ_of_lt (h.lin b r hr)
theorem freshT_cell {H : VH} (h : H.Ok) (cs : List AV) (ty : Nat) (b o : Nat) : (H.freshT cs ty).cell b o = if b = H.next then cs[o]? else H.cell b o := by
  simp only [cell_blk]
  unfold VH.cellN VH.row?
  rw [freshT_get]
  by_cases e : b = H.next
  · simp only [if_pos e]
    have hw : H.wg.get H.next = none := by
      cases e : H.wg.get H.next with
      | none => rfl
      | some g => exact absurd (h.wg _ _ e) (Nat.lt_irrefl _)
    have hr : (H.freshT cs ty).readable { n := cs.length, t := Tr.ofList cs, live := true, lin := H.next, gen := 0, ver := 0, ety := some ty } = true := by
      unfold VH.readable VH.from_
      rw [show (H.freshT cs ty).wg = H.wg from rfl, hw]
      rfl
    simp only [hr, if_true, Tr.get_ofList]
    by_cases ho : o < cs.length
    · simp [blt_eq, ho]
    · simp [blt_eq, ho]
  · simp only [if_neg e]
    rfl
theorem freshT_cells {H : VH} (h : H.Ok) (cs : List AV) (ty : Nat) (o n : Nat) (hn : o + n ≤ cs.length) : (H.freshT cs ty).cells H.next o n = some ((cs.drop o).take n) := by
  refine cells_eq (fun i hi => ?_) (by simp; omega)
  rw [freshT_cell h, if_pos rfl]
  rw [List.getElem?_take, if_pos hi, List.getElem?_drop]
/-- What a piece of work leaves of a heap: all that was there but for some blocks. -/
structure Keep (S : Nat → Prop) (H H' : VH) : Prop where
  next : H.next ≤ H'.next
  get : ∀ b, b < H.next → ¬ S b → H'.get b = H.get b
  wg : ∀ l, l < H.next → H'.wg.get l = H.wg.get l
theorem Keep.refl (S : Nat → Prop) (H : VH) : Keep S H H := ⟨Nat.le_refl _, fun _ _ _ => rfl, fun _ _ => rfl⟩
theorem Keep.trans {S : Nat → Prop} {a b c : VH} (h : Keep S a b) (k : Keep S b c) : Keep S a c :=
  ⟨Nat.le_trans h.next k.next, fun x hx hs => (k.get x (Nat.lt_of_lt_of_le hx h.next) hs).trans (h.get x hx hs), fun l hl => (k.wg l (Nat.lt_of_lt_of_le hl h.next)).trans (h.wg l hl)⟩
theorem Keep.mono {S S' : Nat → Prop} {a b : VH} (h : Keep S a b) (hs : ∀ x, S x → S' x) : Keep S' a b :=
  ⟨h.next, fun x hx hn => h.get x hx fun e => hn (hs x e), h.wg⟩
theorem Keep.fresh (S : Nat → Prop) (H : VH) (cs : List AV) : Keep S H (H.fresh cs) :=
  ⟨Nat.le_succ _, fun b hb _ => by rw [fresh_get, if_neg (Nat.ne_of_lt hb)], fun _ _ => rfl⟩
theorem Keep.freshT (S : Nat → Prop) (H : VH) (cs : List AV) (ty : Nat) : Keep S H (H.freshT cs ty) :=
  ⟨Nat.le_succ _, fun b hb _ => by rw [freshT_get, if_neg (Nat.ne_of_lt hb)], fun _ _ => rfl⟩
theorem Keep.lo (S : Nat → Prop) (H : VH) : Keep S H H.lo := ⟨Nat.le_refl _, fun _ _ _ => rfl, fun _ _ => rfl⟩
theorem Keep.from_lo {S : Nat → Prop} {H H' : VH} (h : Keep S H.lo H') : Keep S H H' := ⟨h.next, h.get, h.wg⟩
/-- Blocks with new numbers may change at will. -/
theorem Keep.narrow {S : Nat → Prop} {a b : VH} (h : Keep (fun x => S x ∨ a.next ≤ x) a b) : Keep S a b :=
  ⟨h.next, fun x hx hs => h.get x hx fun e => e.elim hs fun e => absurd hx (Nat.not_lt.2 e), h.wg⟩
theorem keep_row {S : Nat → Prop} {H H' : VH} (h : Keep S H H') {b : Nat} (hb : b < H.next) (hs : ¬ S b) : H'.row? b = H.row? b := by
  unfold VH.row?
  rw [h.get b hb hs]
theorem keep_from {S : Nat → Prop} {H H' : VH} (h : Keep S H H') {l : Nat} (hl : l < H.next) : H'.from_ l = H.from_ l := by
  unfold VH.from_
  rw [h.wg l hl]
theorem keep_cell {S : Nat → Prop} {H H' : VH} (h : Keep S H H') (hH : H.Ok) {b : Nat} (hb : b < H.next) (hs : ¬ S b) (o : Nat) : H'.cell b o = H.cell b o := by
  simp only [cell_blk]
  unfold VH.cellN
  rw [keep_row h hb hs]
  split
  · rename_i r hr
    unfold VH.readable
    rw [keep_from h (hH.lin b r hr)]
  · rfl
theorem keep_cells {S : Nat → Prop} {H H' : VH} (h : Keep S H H') (hH : H.Ok) {b : Nat} (hb : b < H.next) (hs : ¬ S b) : ∀ (n o : Nat), H'.cells b o n = H.cells b o n
  | 0, _ => rfl
  | n + 1, o => by simp only [VH.cells, keep_cell h hH hb hs, keep_cells h hH hb hs n]
/-- A block of cells that may be read and written. -/
structure Plain (H : VH) (b : Nat) (cs : List AV) : Prop where
  row : ∃ r, H.row? b = some r ∧ r.n = cs.length ∧ (∀ i, i < cs.length → r.t.get i = cs[i]?) ∧ r.live = true ∧ r.gen = 0 ∧ H.from_ r.lin = 0
theorem Plain.cell {H : VH} {b : Nat} {cs : List AV} (h : Plain H b cs) (o : Nat) : H.cell b o = cs[o]? := by
  obtain ⟨r, h1, h2, h3, h4, h5, h6⟩ := h.row
  simp only [cell_blk]
  unfold VH.cellN
  rw [h1]
  simp only [VH.readable, h6, h5]
  by_cases ho : o < cs.length
  · simp [blt_eq, h2, ho, h3 o ho]
  · simp [blt_eq, h2, ho]
theorem Plain.lt {H : VH} {b : Nat} {cs : List AV} (h : Plain H b cs) (hH : H.Ok) : b < H.next := by
  obtain ⟨r, h1, _⟩ := h.row
  unfold VH.row? at h1
  split at h1
  · rename_i r' hr
    exact hH.get b _ hr
  · cases h1
theorem Plain.lo {H : VH} {b : Nat} {cs : List AV} (h : Plain H b cs) : Plain H.lo b cs := ⟨h.row⟩
theorem Plain.keep {S : Nat → Prop} {H H' : VH} {b : Nat} {cs : List AV} (h : Plain H b cs) (hH : H.Ok) (k : Keep S H H') (hs : ¬ S b) : Plain H' b cs := by
  have hb := h.lt hH
  obtain ⟨r, h1, h2, h3, h4, h5, h6⟩ := h.row
  exact ⟨r, (keep_row k hb hs).trans h1, h2, h3, h4, h5, (keep_from k (hH.lin b r h1)).trans h6⟩
theorem fresh_plain {H : VH} (h : H.Ok) (cs : List AV) : Plain (H.fresh cs) H.next cs := by
  refine ⟨⟨{ n := cs.length, t := Tr.ofList cs, live := true, lin := H.next, gen := 0, ver := 0 }, by unfold VH.row?; rw [fresh_get, if_pos rfl], rfl, fun i hi => ?_, rfl, rfl, ?_⟩⟩
  · exact Tr.get_ofList _ _
  · unfold VH.from_
    have hw : H.wg.get H.next = none := by
      cases e : H.wg.get H.next with
      | none => rfl
      | some g => exact absurd (h.wg _ _ e) (Nat.lt_irrefl _)
    rw [show (H.fresh cs).wg = H.wg from rfl]
    simp only [hw]
    rfl
theorem freshT_plain {H : VH} (h : H.Ok) (cs : List AV) (ty : Nat) : Plain (H.freshT cs ty) H.next cs := by
  refine ⟨⟨{ n := cs.length, t := Tr.ofList cs, live := true, lin := H.next, gen := 0, ver := 0, ety := some ty }, by unfold VH.row?; rw [freshT_get, if_pos rfl], rfl, fun i hi => ?_, rfl, rfl, ?_⟩⟩
  · exact Tr.get_ofList _ _
  · unfold VH.from_
    have hw : H.wg.get H.next = none := by
      cases e : H.wg.get H.next with
      | none => rfl
      | some g => exact absurd (h.wg _ _ e) (Nat.lt_irrefl _)
    rw [show (H.freshT cs ty).wg = H.wg from rfl]
    simp only [hw]
    rfl
theorem Plain.puts1 {H : VH} {b : Nat} {cs : List AV} (h : Plain H b cs) (hH : H.Ok) (o : Nat) (ho : o < cs.length) (v : AV) (hv : v.one = true) :
    ∃ H', H.puts b o [v] = some H' ∧ Plain H' b (cs.set o v) ∧ Keep (· = b) H H' ∧ H'.Ok ∧ H'.low = min H.low b ∧ H'.next = H.next := by
  have hb := h.lt hH
  obtain ⟨r, h1, h2, h3, h4, h5, h6⟩ := h.row
  have hcut : H.cut r.lin r.gen = H := by
    unfold VH.cut
    rw [h5]
    rfl
  have hput : H.put b o v = some (H.set b (.row { r with t := r.t.set o v, ver := r.ver + 1 })) := by
    simp only [put_blk]
    unfold VH.putN
    rw [h1]
    simp [hv, h2, ho, h4, blt_eq, hcut]
  have hget : ∀ x, (H.set b (.row { r with t := r.t.set o v, ver := r.ver + 1 })).get x = if x = b then some (.row { r with t := r.t.set o v, ver := r.ver + 1 }) else H.get x := fun x => Tr.get_set _ _ _ _
  refine ⟨H.set b (.row { r with t := r.t.set o v, ver := r.ver + 1 }), by simp only [VH.puts, hput], ⟨{ r with t := r.t.set o v, ver := r.ver + 1 }, by unfold VH.row?; rw [hget, if_pos rfl], by simp [h2], fun i hi => ?_, h4, h5, h6⟩, ⟨Nat.le_refl _, fun x _ hx => by rw [hget, if_neg hx], fun _ _ => rfl⟩, ⟨fun x y hx => ?_, hH.wg, fun x y hx => ?_⟩, rfl, rfl⟩
  · show (r.t.set o v).get i = _
    rw [Tr.get_set, List.getElem?_set]
    simp only [List.length_set] at hi
    by_cases e : i = o
    · subst e; simp [ho]
    · rw [if_neg e, if_neg (Ne.symm e)]
      exact h3 i hi
  · rw [hget] at hx
    split at hx
    · rename_i e
      subst e
      exact hb
    · exact hH.get x y hx
  · unfold VH.row? at hx
    rw [hget] at hx
    by_cases e : x = b
    · simp only [if_pos e, Option.some.injEq] at hx
      subst hx
      exact hH.lin b r h1
    · simp only [if_neg e] at hx
      exact hH.lin x y hx
/-- A call that leaves something. -/
theorem leave_eff {H H' : VH} {v : AV} (h : H'.low < H.next) : leave H H' v = { H' with low := min H.low H'.low } := by
  unfold leave
  have : Nat.beq H'.low H.next = false := by
    cases e : Nat.beq H'.low H.next with
    | false => rfl
    | true => exact absurd (Nat.eq_of_beq_eq_true e) (Nat.ne_of_lt h)
  rw [this]
  rfl
theorem ok_low {H : VH} (h : H.Ok) (m : Nat) : ({ H with low := m } : VH).Ok := ⟨h.get, h.wg, h.lin⟩
theorem plain_low {H : VH} {b : Nat} {cs : List AV} (h : Plain H b cs) (m : Nat) : Plain { H with low := m } b cs := ⟨h.row⟩
theorem keep_low {S : Nat → Prop} {H H' : VH} (h : Keep S H H') (m : Nat) : Keep S H { H' with low := m } := ⟨h.next, h.get, h.wg⟩
/-- A call that leaves nothing. -/
theorem leave_flat {H H' : VH} {v : AV} (h : H'.low = H.next) (hf : flat v = true) : leave H H' v = H := by
  unfold leave
  rw [h, hf]
  simp
theorem leave_rest {H H' : VH} {v : AV} (h : flat v = false) : leave H H' v = { H' with low := min H.low H'.low } := by
  unfold leave
  rw [h, Bool.and_false]
theorem fw_range (n : Int) : -9223372036854775808 ≤ fwrap .i64 n ∧ fwrap .i64 n < 9223372036854775808 := by
  rw [fwrap_eq]
  simp only [IntKind.wrap, IntKind.bits, IntKind.signed, Bool.true_and, decide_eq_true_eq, show (2 : Int) ^ 64 = 18446744073709551616 from rfl, show (2 : Int) ^ (64 - 1) = 9223372036854775808 from rfl]
  split <;> omega
theorem rem_i64 (a b : Int) (h : b ≠ 0) : varith .rem .i64 a .i64 b = some (.int .i64 (a.tmod b)) := by
  simp only [varith, kindEq, if_true, ieq_dec, decide_eq_true_eq, if_neg h]
theorem quo_i64 (a b : Int) (h : b ≠ 0) : varith .quo .i64 a .i64 b = some (.int .i64 (fwrap .i64 (a.tdiv b))) := by
  simp only [varith, kindEq, if_true, ieq_dec, decide_eq_true_eq, if_neg h]

/-- A row at whose end an append goes on. -/
structure Tip (H : VH) (b : Nat) (cs : List AV) (e : Nat) : Prop where
  row : ∃ r, H.row? b = some r ∧ r.n = cs.length ∧ (∀ i, i < cs.length → r.t.get i = cs[i]?) ∧ r.live = true ∧ H.from_ r.lin ≤ r.gen ∧ r.ety = some e
theorem Tip.cell {H : VH} {b : Nat} {cs : List AV} {e : Nat} (h : Tip H b cs e) (o : Nat) : H.cell b o = cs[o]? := by
  obtain ⟨r, h1, h2, h3, h4, h5, h6⟩ := h.row
  simp only [cell_blk]
  unfold VH.cellN
  rw [h1]
  have : H.readable r = true := Nat.ble_eq_true_of_le h5
  simp only [this, if_true]
  by_cases ho : o < cs.length
  · simp [blt_eq, h2, ho, h3 o ho]
  · simp [blt_eq, h2, ho]
theorem Tip.cells {H : VH} {b : Nat} {cs : List AV} {e : Nat} (h : Tip H b cs e) (o n : Nat) (hn : o + n ≤ cs.length) : H.cells b o n = some ((cs.drop o).take n) := by
  refine cells_eq (fun i hi => ?_) (by simp; omega)
  rw [h.cell, List.getElem?_take, if_pos hi, List.getElem?_drop]
theorem Tip.lt {H : VH} {b : Nat} {cs : List AV} {e : Nat} (h : Tip H b cs e) (hH : H.Ok) : b < H.next := by
  obtain ⟨r, h1, _⟩ := h.row
  unfold VH.row? at h1
  split at h1
  · rename_i r' hr
    exact hH.get b _ hr
  · cases h1
theorem Tip.lo {H : VH} {b : Nat} {cs : List AV} {e : Nat} (h : Tip H b cs e) : Tip H.lo b cs e := ⟨h.row⟩
theorem Tip.low {H : VH} {b : Nat} {cs : List AV} {e : Nat} (h : Tip H b cs e) (m : Nat) : Tip { H with low := m } b cs e := ⟨h.row⟩
theorem Tip.keep {S : Nat → Prop} {H H' : VH} {b : Nat} {cs : List AV} {e : Nat} (h : Tip H b cs e) (hH : H.Ok) (k : Keep S H H') (hs : ¬ S b) : Tip H' b cs e := by
  have hb := h.lt hH
  obtain ⟨r, h1, h2, h3, h4, h5, h6⟩ := h.row
  exact ⟨r, (keep_row k hb hs).trans h1, h2, h3, h4, by rw [keep_from k (hH.lin b r h1)]; exact h5, h6⟩
theorem freshT_tip {H : VH} (h : H.Ok) (cs : List AV) (ty : Nat) : Tip (H.freshT cs ty) H.next cs ty := by
  refine ⟨⟨{ n := cs.length, t := Tr.ofList cs, live := true, lin := H.next, gen := 0, ver := 0, ety := some ty }, by unfold VH.row?; rw [freshT_get, if_pos rfl], rfl, fun i hi => Tr.get_ofList _ _, rfl, ?_, rfl⟩⟩
  unfold VH.from_
  have hw : H.wg.get H.next = none := by
    cases e : H.wg.get H.next with
    | none => rfl
    | some g => exact absurd (h.wg _ _ e) (Nat.lt_irrefl _)
  rw [show (H.freshT cs ty).wg = H.wg from rfl, hw]
  exact Nat.le_refl _
@[simp] theorem blank_next (H : VH) (e : Nat) : (H.blank e).next = H.next + 1 := rfl
@[simp] theorem blank_low (H : VH) (e : Nat) : (H.blank e).low = H.low := rfl
theorem blank_is (H : VH) (e : Nat) : H.blank e = H.freshT [] e := rfl
theorem blank_tip {H : VH} (h : H.Ok) (ty : Nat) : Tip (H.blank ty) H.next [] ty := freshT_tip h [] ty
theorem blank_ok {H : VH} (h : H.Ok) (ty : Nat) : (H.blank ty).Ok := freshT_ok h [] ty
theorem Keep.blank (S : Nat → Prop) (H : VH) (ty : Nat) : Keep S H (H.blank ty) := Keep.freshT S H [] ty
/-- An append at the row's end. -/
theorem Tip.append {H : VH} {b : Nat} {cs : List AV} {e : Nat} (h : Tip H b cs e) (hH : H.Ok) (sz len n : Nat) (new : List AV) (hl : len * sz = cs.length) (hn : new.length = n * sz) :
    ∃ H', appendTo H e sz (.slice (some (b, 0)) len none sz) n new = some (.slice (some (H.next, 0)) (len + n) none sz, H') ∧ Tip H' H.next (cs ++ new) e ∧ Keep (· = b) H H' ∧ H'.Ok ∧ H'.low = min H.low b ∧ H'.next = H.next + 1 := by
  have hb := h.lt hH
  obtain ⟨r, h1, h2, h3, h4, h5, h6⟩ := h.row
  have hrd : H.readable r = true := Nat.ble_eq_true_of_le h5
  have hq : Nat.beq (0 + len * sz) r.n = true := by rw [Nat.zero_add, hl, h2]; exact Nat.beq_refl _
  have hge : growE 0 r.ety e = some e := by
    rw [h6]
    show (match Nat.beq e e with | true => some e | false => none) = some e
    rw [Nat.beq_refl]
  have hesz : (!Nat.beq sz sz) = false := by rw [Nat.beq_refl]; rfl
  have hget : ∀ x, (H.grow b r (len * sz + n * sz) (Tr.setList r.t (len * sz) new) (some e)).get x = if x = H.next then some (.row { n := len * sz + n * sz, t := Tr.setList r.t (len * sz) new, live := true, lin := r.lin, gen := r.gen + 1, ver := 0, ety := some e }) else if x = b then some (.row { r with live := false }) else H.get x := by
    intro x
    show ((H.set b (.row { r with live := false })).alloc _).get x = _
    rw [get_valloc, get_vset]
    rfl
  refine ⟨H.grow b r (len * sz + n * sz) (Tr.setList r.t (len * sz) new) (some e), ?_, ⟨_, by unfold VH.row?; rw [hget, if_pos rfl], by simp [hl, hn], fun i hi => ?_, rfl, ?_, rfl⟩, ⟨Nat.le_succ _, fun x hx hs => ?_, fun _ _ => rfl⟩, ⟨fun x y hx => ?_, fun l g hg => Nat.lt_succ_of_lt (hH.wg l g hg), fun x y hx => ?_⟩, rfl, rfl⟩
  · unfold appendTo
    simp only [hesz, Bool.false_eq_true, if_false, h1, h4, hrd, Bool.true_and]
    have : Nat.ble (0 + len * sz) r.n = true := Nat.ble_eq_true_of_le (by omega)
    simp only [this, if_true, hq, hge, VH.cutIf]
  · show (Tr.setList r.t (len * sz) new).get i = _
    rw [Tr.get_setList]
    simp only [List.length_append] at hi
    by_cases hc : len * sz ≤ i ∧ i < len * sz + new.length
    · rw [if_pos hc, List.getElem?_append_right (by omega), hl]
    · rw [if_neg hc, List.getElem?_append_left (by omega)]
      exact h3 i (by omega)
  · show (H.wg.get r.lin).getD 0 ≤ r.gen + 1
    have : H.from_ r.lin ≤ r.gen := h5
    exact Nat.le_succ_of_le this
  · rw [hget, if_neg (by omega), if_neg hs]
  · rw [hget] at hx
    show x < H.next + 1
    split at hx
    · omega
    · split at hx
      · omega
      · have := hH.get x y hx; omega
  · unfold VH.row? at hx
    rw [hget] at hx
    show y.lin < H.next + 1
    have hlin := hH.lin b r h1
    by_cases e1 : x = H.next
    · simp only [if_pos e1, Option.some.injEq] at hx
      subst hx
      exact Nat.lt_succ_of_lt hlin
    · by_cases e2 : x = b
      · subst e2
        simp only [if_neg e1, if_pos, Option.some.injEq] at hx
        subst hx
        exact Nat.lt_succ_of_lt hlin
      · simp only [if_neg e1, if_neg e2] at hx
        exact Nat.lt_succ_of_lt (hH.lin x y hx)
/-- A string out of the row's bytes. -/
theorem Tip.dead {H : VH} {b : Nat} {cs : List AV} {e : Nat} (h : Tip H b cs e) (hH : H.Ok) :
    ∃ r, H.row? b = some r ∧ r.ety = some e ∧ r.live = true ∧ Keep (· = b) H (H.dead b r) ∧ (H.dead b r).Ok ∧ (H.dead b r).low = min H.low b ∧ (H.dead b r).next = H.next := by
  have hb := h.lt hH
  obtain ⟨r, h1, h2, h3, h4, h5, h6⟩ := h.row
  have hget : ∀ x, (H.dead b r).get x = if x = b then some (.row { r with live := false }) else H.get x := fun x => get_vset _ _ _ _
  refine ⟨r, h1, h6, h4, ⟨Nat.le_refl _, fun x _ hs => by rw [hget, if_neg hs], fun _ _ => rfl⟩, ⟨fun x y hx => ?_, hH.wg, fun x y hx => ?_⟩, rfl, rfl⟩
  · rw [hget] at hx
    split at hx
    · rename_i e; subst e; exact hb
    · exact hH.get x y hx
  · unfold VH.row? at hx
    rw [hget] at hx
    by_cases e2 : x = b
    · simp only [if_pos e2, Option.some.injEq] at hx
      subst hx
      exact hH.lin b r h1
    · simp only [if_neg e2] at hx
      exact hH.lin x y hx
theorem nilOk_c (p : Value) (y : Operand) (a b : AV) : nilOk (.const p) y a b = true := by
  unfold nilOk
  split <;> rfl

/-! What a piece of work does to a heap: but for the blocks S all is as it was; the least block that it changed. -/
structure Eff (S : Nat → Prop) (H H' : VH) : Prop where
  keep : Keep S H H'
  ok : H'.Ok
  low : H'.low ≤ H.low
  low2 : ∀ m, m ≤ H.low → m ≤ H.next → (∀ x, x < H.next → S x → m ≤ x) → m ≤ H'.low
theorem Eff.refl {S : Nat → Prop} {H : VH} (h : H.Ok) : Eff S H H := ⟨.refl _ _, h, Nat.le_refl _, fun _ h _ _ => h⟩
theorem Eff.trans {S S' : Nat → Prop} {H H1 H2 : VH} (h : Eff S H H1) (k : Eff S' H1 H2) (hs : ∀ x, S' x → S x ∨ H.next ≤ x) : Eff S H H2 := by
  refine ⟨Keep.narrow ((h.keep.mono fun x hx => .inl hx).trans (k.keep.mono hs)), k.ok, Nat.le_trans k.low h.low, fun m h1 h2 h3 => ?_⟩
  refine k.low2 m (h.low2 m h1 h2 h3) (Nat.le_trans h2 h.keep.next) fun x hx hsx => ?_
  rcases hs x hsx with g | g
  · rcases Nat.lt_or_ge x H.next with g2 | g2
    · exact h3 x g2 g
    · exact Nat.le_trans h2 g2
  · exact Nat.le_trans h2 g
theorem Eff.mono {S S' : Nat → Prop} {H H' : VH} (h : Eff S H H') (hs : ∀ x, x < H.next → S x → S' x) : Eff S' H H' :=
  ⟨⟨h.keep.next, fun x hx hn => h.keep.get x hx fun e => hn (hs x hx e), h.keep.wg⟩, h.ok, h.low, fun m h1 h2 h3 => h.low2 m h1 h2 fun x hx e => h3 x hx (hs x hx e)⟩
theorem Eff.fresh (S : Nat → Prop) {H : VH} (h : H.Ok) (cs : List AV) : Eff S H (H.fresh cs) := ⟨.fresh _ _ _, fresh_ok h _, Nat.le_refl _, fun _ h _ _ => h⟩
theorem Eff.freshT (S : Nat → Prop) {H : VH} (h : H.Ok) (cs : List AV) (ty : Nat) : Eff S H (H.freshT cs ty) := ⟨.freshT _ _ _ _, freshT_ok h _ _, Nat.le_refl _, fun _ h _ _ => h⟩
theorem Eff.blank (S : Nat → Prop) {H : VH} (h : H.Ok) (ty : Nat) : Eff S H (H.blank ty) := Eff.freshT S h [] ty
theorem Eff.of_low {b : Nat} {H H' : VH} (k : Keep (· = b) H H') (o : H'.Ok) (l : H'.low = min H.low b) (hb : b < H.next) : Eff (· = b) H H' :=
  ⟨k, o, by omega, fun m h1 h2 h3 => by have := h3 b hb rfl; omega⟩
/-- Behind a call. -/
theorem Eff.leave {S : Nat → Prop} {H H' : VH} (hH : H.Ok) (h : Eff S H.lo H') (v : AV) : Eff S H (leave H H' v) := by
  unfold Go.Vm.leave
  split
  · exact .refl hH
  · exact ⟨keep_low h.keep.from_lo _, ok_low h.ok _, Nat.min_le_left _ _, fun m h1 h2 h3 => Nat.le_min.2 ⟨h1, h.low2 m h2 h2 h3⟩⟩
/-- A call that has changed nothing old. -/
theorem Eff.flat {S : Nat → Prop} {H H' : VH} (h : Eff S H.lo H') (hs : ∀ x, x < H.next → ¬ S x) : H'.low = H.next :=
  Nat.le_antisymm h.low (h.low2 H.next (Nat.le_refl _) (Nat.le_refl _) fun x hx e => (hs x hx e).elim)
/-- A block whose type is known. -/
structure PlainT (H : VH) (b : Nat) (cs : List AV) (ty : Nat) : Prop where
  plain : Plain H b cs
  ety : ∃ r, H.row? b = some r ∧ r.ety = some ty
theorem freshT_plainT {H : VH} (h : H.Ok) (cs : List AV) (ty : Nat) : PlainT (H.freshT cs ty) H.next cs ty :=
  ⟨freshT_plain h cs ty, _, by unfold VH.row?; rw [freshT_get, if_pos rfl], rfl⟩
theorem PlainT.keep {S : Nat → Prop} {H H' : VH} {b : Nat} {cs : List AV} {ty : Nat} (h : PlainT H b cs ty) (hH : H.Ok) (k : Keep S H H') (hs : ¬ S b) : PlainT H' b cs ty := by
  obtain ⟨r, h1, h2⟩ := h.ety
  exact ⟨h.plain.keep hH k hs, r, (keep_row k (h.plain.lt hH) hs).trans h1, h2⟩
theorem PlainT.lo {H : VH} {b : Nat} {cs : List AV} {ty : Nat} (h : PlainT H b cs ty) : PlainT H.lo b cs ty := ⟨h.plain.lo, h.ety⟩
theorem PlainT.low {H : VH} {b : Nat} {cs : List AV} {ty : Nat} (h : PlainT H b cs ty) (m : Nat) : PlainT { H with low := m } b cs ty := ⟨plain_low h.plain m, h.ety⟩
theorem PlainT.puts1 {H : VH} {b : Nat} {cs : List AV} {ty : Nat} (h : PlainT H b cs ty) (hH : H.Ok) (o : Nat) (ho : o < cs.length) (v : AV) (hv : v.one = true) :
    ∃ H', H.puts b o [v] = some H' ∧ PlainT H' b (cs.set o v) ty ∧ Eff (· = b) H H' ∧ H'.next = H.next := by
  obtain ⟨H', h1, h2, h3, h4, h5, h6⟩ := h.plain.puts1 hH o ho v hv
  obtain ⟨r, g1, g2⟩ := h.ety
  refine ⟨H', h1, ⟨h2, ?_⟩, .of_low h3 h4 h5 (h.plain.lt hH), h6⟩
  simp only [VH.puts] at h1
  split at h1
  · rename_i H1 hp
    obtain rfl := Option.some.inj h1
    obtain ⟨r', a1, _, _, _, rfl⟩ := put_spec hp
    rw [g1] at a1
    obtain rfl := Option.some.inj a1
    exact ⟨_, (row?_vset _ _ _ _).trans (if_pos rfl), g2⟩
  · cases h1
theorem vb_append (T : Tb) (H : VH) (ts : List Nat) (v x : AV) : vbuiltin T H .append ts [v, x] = vappend T H ts v x := rfl
theorem PlainT.fits {H : VH} {p : Nat} {cs : List AV} {ty : Nat} (h : PlainT H p cs ty) (k : Nat) (hk : k ≤ cs.length) : Go.Vm.fits H p k = true := by
  obtain ⟨r, h1, h2, _⟩ := h.plain.row
  unfold Go.Vm.fits
  rw [h1]
  exact Nat.ble_eq_true_of_le (by omega)
/-- What is kept reads the same. -/
theorem same_keep {S : Nat → Prop} {H H' : VH} {q : Nat} {cs : List AV} (hp : Plain H q cs) (hH : H.Ok) (k : Keep S H H') (hs : ¬ S q) : allSame H H' [q] = true := by
  have hq := hp.lt hH
  obtain ⟨r, h1, h2, h3, h4, h5, h6⟩ := hp.row
  have g : H.get q = some (.row r) := by
    unfold VH.row? at h1
    cases hg : H.get q with
    | none => rw [hg] at h1; cases h1
    | some x =>
      rw [hg] at h1
      cases x with
      | row r' => exact congrArg (fun z => some (Blk.row z)) (Option.some.inj h1)
      | map es c v => cases h1
      | dark => cases h1
  have g' : H'.get q = some (.row r) := by rw [k.get q hq hs]; exact g
  have f : H'.from_ r.lin = 0 := by rw [keep_from k (hH.lin q r h1)]; exact h6
  simp [allSame, VH.same, g, g', VH.readable, h5, h6, f]
theorem vb_cap (T : Tb) (H : VH) (ts : List Nat) (x : AV) : vbuiltin T H .cap ts [x] = vcap T H ts x := rfl
theorem vb_copy (T : Tb) (H : VH) (ts : List Nat) (v x : AV) : vbuiltin T H .copy ts [v, x] = vcopy T H ts v x := rfl
theorem vb_data (T : Tb) (H : VH) (ts : List Nat) (a : Bk × Nat) (n : Nat) (c : Option Nat) (e : Nat) : vbuiltin T H .unsafeSliceData ts [.slice (some a) (n + 1) c e] = some (.ptr (some a), H) := rfl
theorem vb_data0 (T : Tb) (H : VH) (ts : List Nat) (n : Nat) (c : Option Nat) (e : Nat) : vbuiltin T H .unsafeSliceData ts [.slice none n c e] = some (.ptr none, H) := rfl
theorem vb_str (T : Tb) (H : VH) (ts : List Nat) (p : Option (Bk × Nat)) (n : Int) : vbuiltin T H .unsafeString ts [.ptr p, .int .i64 n] = vunsafeString T H ts p n := rfl
/-! The usual words, a few of them together: simp takes each part. -/
theorem KA {α : Type} : ((((∀ (H : VH) (k : VH → Option α), letH H k = k H) ∧ (∀ (v : AV) (H : VH) (k : AV → VH → Option α), bindC (some (v, H)) k = k v H)) ∧ ((∀ (v : AV) (k : AV → Option α), bindV (some v) k = k v) ∧ (∀ (v : List AV) (k : List AV → Option α), bindL (some v) k = k v))) ∧
    (((∀ (v : VH) (k : VH → Option α), bindH (some v) k = k v) ∧ (∀ (e : Ex) (l : List AV) (H : VH) (k : Ex → List AV → VH → Option α), bindJ (some (e, l, H)) k = k e l H)) ∧ ((∀ (b : Bool) (k : Bool → Option α), asB (.bool b) k = k b) ∧ (∀ (kd : IntKind) (n : Int) (k : Int → Option α), asI kd (.int kd n) k = k n)))) ∧
    ((((∀ (s : PS) (k : PS → Option α), asS (.str s) k = k s) ∧ (∀ (p : Option (Bk × Nat)) (k : Option (Bk × Nat) → Option α), asP (.ptr p) k = k p)) ∧ ((∀ (a : Option (Bk × Nat)) (n : Nat) (c : Option Nat) (e : Nat) (k : Option (Bk × Nat) → Nat → Option Nat → Nat → Option α), asSl (.slice a n c e) k = k a n c e) ∧ ((∀ (l : List AV) (k : List AV → Option α), asA (.agg l) k = k l) ∧ (∀ (m : Option Nat) (k : Option Nat → Option α), asM (.map m) k = k m)))) ∧
    (((∀ (l : List AV) (k : List AV → Option α), asTu (.tuple l) k = k l) ∧ (∀ (b : Bk) (o : Nat) (k : Bk → Nat → Option α), asSome (some (b, o)) k = k b o)) ∧ ((∀ (a : AV) (l : List AV) (k : AV → List AV → Option α), unc (a :: l) k = k a l) ∧ (∀ (k : Option α), endL [] k = k)))) :=
  ⟨⟨⟨⟨letH_mk, bindC_mk⟩, ⟨bindV_mk, bindL_mk⟩⟩, ⟨⟨bindH_mk, bindJ_mk⟩, ⟨asB_mk, asI_mk⟩⟩⟩, ⟨⟨⟨asS_mk, asP_mk⟩, ⟨asSl_mk, ⟨asA_mk, asM_mk⟩⟩⟩, ⟨⟨asTu_mk, asSome_mk⟩, ⟨unc_mk, endL_mk⟩⟩⟩⟩
theorem KE {α : Type} : ((∀ (n : Int) (l : List AV) (k : Int → List AV → Option α), uI (.int .i64 n :: l) k = k n l) ∧ (∀ (n : Int) (l : List AV) (k : Int → List AV → Option α), uU (.int .u64 n :: l) k = k n l)) ∧
    ((∀ (n : Bool) (l : List AV) (k : Bool → List AV → Option α), uB (.bool n :: l) k = k n l) ∧ (∀ (n : PS) (l : List AV) (k : PS → List AV → Option α), uS (.str n :: l) k = k n l)) ∧
    (∀ (a : Option (Bk × Nat)) (n : Nat) (c : Option Nat) (e : Nat) (l : List AV) (k : Option (Bk × Nat) → Nat → Option Nat → Nat → List AV → Option α), uL (.slice a n c e :: l) k = k a n c e l) :=
  ⟨⟨uI_mk, uU_mk⟩, ⟨uB_mk, uS_mk⟩, uL_mk⟩
theorem KB {α : Type} : ((((∀ (b : Bool) (x y : Option α), selC b x y = if b = true then x else y) ∧ (∀ (b : Bool) (k : Option α), condT b k = if b = true then k else none)) ∧ ((∀ (n : Int) (k : Int → Option α), letN n k = k n) ∧ (∀ (n : Bool) (k : Bool → Option α), letB n k = k n))) ∧
    (((∀ (a b : Option α), caseEx .normal .normal a b = a) ∧ (∀ (a b : Option α), caseEx .normal .ret a b = b)) ∧ ((∀ (i : Nat) (a b : Option α), caseEx .normal (.exit i) a b = b) ∧ (∀ (a b : Option α), caseEx .ret .normal a b = b)))) ∧
    (((∀ (a b : Option α), caseEx .ret .ret a b = a) ∧ (∀ (i : Nat) (a b : Option α), caseEx .ret (.exit i) a b = b)) ∧ ((∀ (i : Nat) (a b : Option α), caseEx (.exit i) .normal a b = b) ∧ ((∀ (i : Nat) (a b : Option α), caseEx (.exit i) .ret a b = b) ∧ (∀ (i : Nat) (a b : Option α), caseEx (.exit i) (.exit i) a b = a)))) :=
  ⟨⟨⟨⟨selC_eq, condT_eq⟩, ⟨letN_mk, letB_mk⟩⟩, ⟨⟨case_nn, case_nr⟩, ⟨case_ne, case_rn⟩⟩⟩, ⟨⟨case_rr, case_re⟩, ⟨case_en, ⟨case_er, case_ee⟩⟩⟩⟩
theorem KD : (((!true) = false ∧ (!false) = true) ∧ ((∀ b : Bool, ((!b) = true) = (b = false)) ∧ (false = true) = False)) ∧ (((∀ a b : Int, ilt a b = decide (a < b)) ∧ (∀ a b : Int, ile a b = decide (a ≤ b))) ∧ ((∀ (p : Prop) [Decidable p], (decide p = true) = p) ∧ ((∀ (p : Prop) [Decidable p], (decide p = false) = ¬ p) ∧ ((¬ False) = True ∧ (¬ True) = False)))) :=
  ⟨⟨⟨rfl, rfl⟩, ⟨fun b => by cases b <;> simp, by simp⟩⟩, ⟨⟨ilt_eq, ile_eq⟩, ⟨fun p _ => by simp, fun p _ => by simp, by simp, by simp⟩⟩⟩
theorem KU : (((∀ x y : BitVec 64, iand .u64 (u64 x) (u64 y) = u64 (x &&& y)) ∧ (∀ x y : BitVec 64, ior .u64 (u64 x) (u64 y) = u64 (x ||| y))) ∧ ((∀ x y : BitVec 64, ixor .u64 (u64 x) (u64 y) = u64 (x ^^^ y)) ∧ (∀ a : BitVec 64, ieq (u64 a) 0 = decide (a = 0#64)))) ∧ (∀ a b : BitVec 64, ieq (u64 a) (u64 b) = decide (a = b)) :=
  ⟨⟨⟨iand_u64, ior_u64⟩, ⟨ixor_u64, ieq_u64_0⟩⟩, ieq_u64⟩
end Go.Vm
