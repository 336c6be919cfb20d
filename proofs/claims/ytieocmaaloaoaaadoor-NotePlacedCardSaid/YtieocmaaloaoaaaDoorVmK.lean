/- Small laws for the reduced functions. -/
import Derived.Test.YtieocmaaloaoaaaDoorVmW5
namespace Go.Vm
set_option linter.unusedSimpArgs false
set_option linter.unusedVariables false
set_option linter.unusedSectionVars false

section
variable {α : Type}
@[simp] theorem bindV_mk (v : AV) (k : AV → Option α) : bindV (some v) k = k v := Eq.trans rfl rfl
@[simp] theorem bindL_mk (v : List AV) (k : List AV → Option α) : bindL (some v) k = k v := Eq.trans rfl rfl
@[simp] theorem bindH_mk (v : VH) (k : VH → Option α) : bindH (some v) k = k v := Eq.trans rfl rfl
@[simp] theorem bindC_mk (v : AV) (H : VH) (k : AV → VH → Option α) : bindC (some (v, H)) k = k v H := Eq.trans rfl rfl
@[simp] theorem bindJ_mk (e : Ex) (l : List AV) (H : VH) (k : Ex → List AV → VH → Option α) : bindJ (some (e, l, H)) k = k e l H := Eq.trans rfl rfl
@[simp] theorem condT_eq (b : Bool) (k : Option α) : condT b k = if b = true then k else none := by cases b <;> rfl
@[simp] theorem selC_eq (b : Bool) (x y : Option α) : selC b x y = if b = true then x else y := by cases b <;> rfl
@[simp] theorem sel_eq {β : Type} (b : Bool) (x y : β) : sel b x y = if b = true then x else y := by cases b <;> rfl
@[simp] theorem asB_mk (b : Bool) (k : Bool → Option α) : asB (.bool b) k = k b := Eq.trans rfl rfl
@[simp] theorem asI_mk (kd : IntKind) (n : Int) (k : Int → Option α) : asI kd (.int kd n) k = k n := by simp [asI]
@[simp] theorem asS_mk (s : PS) (k : PS → Option α) : asS (.str s) k = k s := Eq.trans rfl rfl
@[simp] theorem asP_mk (p : Option (Nat × Nat)) (k : Option (Nat × Nat) → Option α) : asP (.ptr p) k = k p := Eq.trans rfl rfl
@[simp] theorem asSl_mk (a : Option (Nat × Nat)) (n : Nat) (c : Option Nat) (e : Nat) (k : Option (Nat × Nat) → Nat → Option Nat → Nat → Option α) : asSl (.slice a n c e) k = k a n c e := Eq.trans rfl rfl
@[simp] theorem asA_mk (l : List AV) (k : List AV → Option α) : asA (.agg l) k = k l := Eq.trans rfl rfl
@[simp] theorem asTu_mk (l : List AV) (k : List AV → Option α) : asTu (.tuple l) k = k l := Eq.trans rfl rfl
@[simp] theorem asFn_mk (f : Nat) (a b : List AV) (k : Nat → List AV → List AV → Option α) : asFn (.func f a b) k = k f a b := Eq.trans rfl rfl
@[simp] theorem asSome_mk (b o : Nat) (k : Nat → Nat → Option α) : asSome (some (b, o)) k = k b o := Eq.trans rfl rfl
@[simp] theorem unc_mk (a : AV) (l : List AV) (k : AV → List AV → Option α) : unc (a :: l) k = k a l := Eq.trans rfl rfl
@[simp] theorem endL_mk (k : Option α) : endL [] k = k := Eq.trans rfl rfl
@[simp] theorem letH_mk (H : VH) (k : VH → Option α) : letH H k = k H := Eq.trans rfl rfl
@[simp] theorem letN_mk (n : Int) (k : Int → Option α) : letN n k = k n := Eq.trans rfl rfl
@[simp] theorem letB_mk (n : Bool) (k : Bool → Option α) : letB n k = k n := Eq.trans rfl rfl
@[simp] theorem letS_mk (n : PS) (k : PS → Option α) : letS n k = k n := Eq.trans rfl rfl
@[simp] theorem case_nn (a b : Option α) : caseEx .normal .normal a b = a := Eq.trans rfl rfl
@[simp] theorem case_nr (a b : Option α) : caseEx .normal .ret a b = b := Eq.trans rfl rfl
@[simp] theorem case_ne (i : Nat) (a b : Option α) : caseEx .normal (.exit i) a b = b := Eq.trans rfl rfl
@[simp] theorem case_rn (a b : Option α) : caseEx .ret .normal a b = b := Eq.trans rfl rfl
@[simp] theorem case_rr (a b : Option α) : caseEx .ret .ret a b = a := Eq.trans rfl rfl
@[simp] theorem case_re (i : Nat) (a b : Option α) : caseEx .ret (.exit i) a b = b := Eq.trans rfl rfl
@[simp] theorem case_en (i : Nat) (a b : Option α) : caseEx (.exit i) .normal a b = b := Eq.trans rfl rfl
@[simp] theorem case_er (i : Nat) (a b : Option α) : caseEx (.exit i) .ret a b = b := Eq.trans rfl rfl
@[simp] theorem case_ee (i : Nat) (a b : Option α) : caseEx (.exit i) (.exit i) a b = a := by simp [caseEx]
theorem case_ee' (i j : Nat) (a b : Option α) : caseEx (.exit i) (.exit j) a b = if i = j then a else b := by
  by_cases h : i = j
  · subst h; simp
  · have : Nat.beq i j = false := by cases e : Nat.beq i j with
      | false => rfl
      | true => exact absurd (Nat.eq_of_beq_eq_true e) h
    simp [caseEx, this, h]
/-- A join behind a choice. -/
theorem bindJ_ite {c : Prop} [Decidable c] (x y : Option R) (k : Ex → List AV → VH → Option α) : bindJ (if c then x else y) k = if c then bindJ x k else bindJ y k := by split <;> rfl
theorem bindV_ite {c : Prop} [Decidable c] (x y : Option AV) (k : AV → Option α) : bindV (if c then x else y) k = if c then bindV x k else bindV y k := by split <;> rfl
@[simp] theorem loopN_zero (B : (List AV → VH → Option R) → List AV → VH → Option R) (l : List AV) (H : VH) : loopN B 0 l H = none := rfl
theorem loopN_succ (B : (List AV → VH → Option R) → List AV → VH → Option R) (n : Nat) (l : List AV) (H : VH) : loopN B (n + 1) l H = B (loopN B n) l H := rfl
end

/-! Numbers. -/
theorem fw_i64 {n : Int} (h1 : -9223372036854775808 ≤ n) (h2 : n < 9223372036854775808) : fwrap .i64 n = n := by
  rw [fwrap_eq]
  simp only [IntKind.wrap, IntKind.bits, IntKind.signed, Bool.true_and, decide_eq_true_eq, show (2 : Int) ^ 64 = 18446744073709551616 from rfl, show (2 : Int) ^ (64 - 1) = 9223372036854775808 from rfl]
  split <;> omega
theorem fw_u64 (n : Int) : fwrap .u64 n = n % 18446744073709551616 := by
  rw [fwrap_eq]
  simp [IntKind.wrap, IntKind.bits, IntKind.signed]
theorem fw_u8 (n : Int) : fwrap .u8 n = n % 256 := by
  rw [fwrap_eq]
  simp [IntKind.wrap, IntKind.bits, IntKind.signed]
/-- A whole number of 64 bits without a sign. -/
abbrev u64 (x : BitVec 64) : Int := (x.toNat : Int)
theorem nmod_nat (a M : Nat) : nmod (a : Int) M = a % M := rfl
theorem fw_nat (a : Nat) : fwrap .u64 (.ofNat a) = u64 (BitVec.ofNat 64 a) := by
  rw [fw_u64]
  simp [u64, BitVec.toNat_ofNat]
  try omega
theorem nmod_u64 (x : BitVec 64) : nmod (u64 x) (modOf .u64) = x.toNat := by
  rw [u64, nmod_nat]
  exact Nat.mod_eq_of_lt x.isLt
@[simp] theorem iand_u64 (x y : BitVec 64) : iand .u64 (u64 x) (u64 y) = u64 (x &&& y) := by
  unfold iand
  rw [nmod_u64, nmod_u64, fw_nat]
  congr 2
  apply BitVec.eq_of_toNat_eq
  rw [BitVec.toNat_ofNat, BitVec.toNat_and]
  exact Nat.mod_eq_of_lt (Nat.lt_of_le_of_lt Nat.and_le_left x.isLt)
@[simp] theorem ior_u64 (x y : BitVec 64) : ior .u64 (u64 x) (u64 y) = u64 (x ||| y) := by
  unfold ior
  rw [nmod_u64, nmod_u64, fw_nat]
  congr 2
  apply BitVec.eq_of_toNat_eq
  rw [BitVec.toNat_ofNat, BitVec.toNat_or]
  exact Nat.mod_eq_of_lt (Nat.or_lt_two_pow x.isLt y.isLt)
@[simp] theorem ixor_u64 (x y : BitVec 64) : ixor .u64 (u64 x) (u64 y) = u64 (x ^^^ y) := by
  unfold ixor
  rw [nmod_u64, nmod_u64, fw_nat]
  congr 2
  apply BitVec.eq_of_toNat_eq
  rw [BitVec.toNat_ofNat, BitVec.toNat_xor]
  exact Nat.mod_eq_of_lt (Nat.xor_lt_two_pow x.isLt y.isLt)
@[simp] theorem iandn_u64 (x y : BitVec 64) : iandn .u64 (u64 x) (u64 y) = u64 (x &&& ~~~y) := by
  unfold iandn
  rw [nmod_u64, nmod_u64, fw_nat]
  congr 2
  apply BitVec.eq_of_toNat_eq
  rw [BitVec.toNat_ofNat, BitVec.toNat_and, BitVec.toNat_not]
  exact Nat.mod_eq_of_lt (Nat.lt_of_le_of_lt Nat.and_le_left x.isLt)
@[simp] theorem inot_u64 (x : BitVec 64) : inot .u64 (u64 x) = u64 (~~~x) := by
  unfold inot
  rw [nmod_u64, fw_nat]
  congr 2
  apply BitVec.eq_of_toNat_eq
  have : nmod (if IntKind.signed .u64 = true then -1 else IntKind.max .u64) (modOf .u64) = (BitVec.allOnes 64).toNat := by decide
  rw [this, BitVec.toNat_ofNat]
  show ((BitVec.allOnes 64).toNat ^^^ x.toNat) % 2 ^ 64 = _
  rw [← BitVec.toNat_xor, BitVec.allOnes_xor]
  exact Nat.mod_eq_of_lt (~~~x).isLt
theorem add_u64 (x y : BitVec 64) : fwrap .u64 (u64 x + u64 y) = u64 (x + y) := by
  rw [fw_u64]
  simp only [u64, BitVec.toNat_add]
  omega
theorem sub_u64 (x y : BitVec 64) : fwrap .u64 (u64 x - u64 y) = u64 (x - y) := by
  rw [fw_u64]
  simp only [u64, BitVec.toNat_sub]
  have := x.isLt
  have := y.isLt
  omega
theorem mul_u64 (x y : BitVec 64) : fwrap .u64 (u64 x * u64 y) = u64 (x * y) := by
  rw [fw_u64]
  simp only [u64, BitVec.toNat_mul]
  omega
theorem u64_inj {x y : BitVec 64} : u64 x = u64 y ↔ x = y := by
  constructor
  · intro h
    exact BitVec.eq_of_toNat_eq (Int.ofNat_inj.1 h)
  · rintro rfl
    rfl
theorem ieq_dec (a b : Int) : ieq a b = decide (a = b) := by
  rw [ieq_eq]
  by_cases h : a = b <;> simp [h]
theorem ieq_u64 (a b : BitVec 64) : ieq (u64 a) (u64 b) = decide (a = b) := by
  rw [ieq_dec, Bool.eq_iff_iff]
  simp only [decide_eq_true_eq]
  exact u64_inj
theorem ieq_u64_0 (a : BitVec 64) : ieq (u64 a) 0 = decide (a = 0#64) := ieq_u64 a 0#64
theorem u64_lit (n : Nat) (h : n < 18446744073709551616) : ((n : Nat) : Int) = u64 (BitVec.ofNat 64 n) := by
  simp [u64, BitVec.toNat_ofNat]
  omega

/-! The heap. -/
structure VH.Ok (H : VH) : Prop where
  get : ∀ b x, H.get b = some x → b < H.next
  wg : ∀ l g, H.wg.get l = some g → l < H.next
  lin : ∀ b r, H.row? b = some r → r.lin < H.next
@[simp] theorem lo_next (H : VH) : H.lo.next = H.next := rfl
@[simp] theorem lo_low (H : VH) : H.lo.low = H.next := rfl
@[simp] theorem lo_lo (H : VH) : H.lo.lo = H.lo := rfl
@[simp] theorem lo_get (H : VH) (b : Nat) : H.lo.get b = H.get b := rfl
@[simp] theorem lo_cell (H : VH) (b o : Nat) : H.lo.cell b o = H.cell b o := rfl
theorem lo_ok {H : VH} (h : H.Ok) : H.lo.Ok := ⟨h.get, h.wg, h.lin⟩
@[simp] theorem lo_cells (H : VH) (b : Nat) : ∀ (n o : Nat), H.lo.cells b o n = H.cells b o n
  | 0, _ => rfl
  | n + 1, o => by simp only [VH.cells, lo_cell, lo_cells H b n]
@[simp] theorem fresh_next (H : VH) (cs : List AV) : (H.fresh cs).next = H.next + 1 := rfl
@[simp] theorem fresh_low (H : VH) (cs : List AV) : (H.fresh cs).low = H.low := rfl
theorem fresh_get (H : VH) (cs : List AV) (b : Nat) : (H.fresh cs).get b = if b = H.next then some (.row { n := cs.length, t := Tr.ofList cs, live := true, lin := H.next, gen := 0, ver := 0 }) else H.get b := Tr.get_set _ _ _ _
theorem fresh_ok {H : VH} (h : H.Ok) (cs : List AV) : (H.fresh cs).Ok := by
  refine ⟨fun b x hb => ?_, fun l g hl => Nat.lt_succ_of_lt (h.wg l g hl), fun b r hr => ?_⟩
  · rw [fresh_get] at hb
    split at hb
    · rename_i e
      rw [e]
      exact Nat.lt_succ_self _
    · exact Nat.lt_succ_of_lt (h.get b x hb)
  · unfold VH.row? at hr
    rw [fresh_get] at hr
    by_cases e : b = H.next
    · simp only [if_pos e, Option.some.injEq] at hr
      subst hr
      exact Nat.lt_succ_self _
    · simp only [if_neg e] at hr
      exact Nat.lt_succ_of_lt (h.lin b r hr)
theorem fresh_cell {H : VH} (h : H.Ok) (cs : List AV) (b o : Nat) : (H.fresh cs).cell b o = if b = H.next then cs[o]? else H.cell b o := by
  unfold VH.cell VH.row?
  rw [fresh_get]
  by_cases e : b = H.next
  · simp only [if_pos e]
    have hw : H.wg.get H.next = none := by
      cases e : H.wg.get H.next with
      | none => rfl
      | some g => exact absurd (h.wg _ _ e) (Nat.lt_irrefl _)
    have hr : (H.fresh cs).readable { n := cs.length, t := Tr.ofList cs, live := true, lin := H.next, gen := 0, ver := 0 } = true := by
      unfold VH.readable VH.from_
      rw [show (H.fresh cs).wg = H.wg from rfl, hw]
      rfl
    simp only [hr, if_true, Tr.get_ofList]
    by_cases ho : o < cs.length
    · simp [blt_eq, ho]
    · simp [blt_eq, ho]
  · simp only [if_neg e]
    rfl
theorem cells_eq {H : VH} {b : Nat} {cs : List AV} : ∀ {n o : Nat}, (∀ i, i < n → H.cell b (o + i) = cs[i]?) → n = cs.length → H.cells b o n = some cs
  | 0, o, h, hn => by
    have : cs = [] := List.length_eq_zero_iff.1 hn.symm
    subst this
    rfl
  | n + 1, o, h, hn => by
    cases cs with
    | nil => cases hn
    | cons c cs =>
      have h0 := h 0 (Nat.succ_pos _)
      simp only [Nat.add_zero, List.getElem?_cons_zero] at h0
      have ih := cells_eq (H := H) (b := b) (cs := cs) (n := n) (o := o + 1) (fun i hi => by
        have := h (i + 1) (Nat.succ_lt_succ hi)
        rw [List.getElem?_cons_succ] at this
        rw [← this]
        congr 1
        omega) (by simpa using hn)
      simp only [VH.cells, h0, ih]
theorem fresh_cells {H : VH} (h : H.Ok) (cs : List AV) (o n : Nat) (hn : o + n ≤ cs.length) : (H.fresh cs).cells H.next o n = some ((cs.drop o).take n) := by
  refine cells_eq (fun i hi => ?_) (by simp; omega)
  rw [fresh_cell h, if_pos rfl]
  rw [List.getElem?_take, if_pos hi, List.getElem?_drop]
/-- What a piece of work leaves of a heap: all that was there but for some blocks. -/
structure Keep (S : Nat → Prop) (H H' : VH) : Prop where
  next : H.next ≤ H'.next
  get : ∀ b, b < H.next → ¬ S b → H'.get b = H.get b
  wg : ∀ l, l < H.next → H'.wg.get l = H.wg.get l
theorem Keep.refl (S : Nat → Prop) (H : VH) : Keep S H H := ⟨Nat.le_refl _, fun _ _ _ => rfl, fun _ _ => rfl⟩
theorem Keep.trans {S : Nat → Prop} {a b c : VH} (h : Keep S a b) (k : Keep S b c) : Keep S a c :=
  ⟨Nat.le_trans h.next k.next, fun x hx hs => (k.get x (Nat.lt_of_lt_of_le hx h.next) hs).trans (h.get x hx hs), fun l hl => (k.wg l (Nat.lt_of_lt_of_le hl h.next)).trans (h.wg l hl)⟩
theorem Keep.mono {S S' : Nat → Prop} {a b : VH} (h : Keep S a b) (hs : ∀ x, S x → S' x) : Keep S' a b :=
  ⟨h.next, fun x hx hn => h.get x hx fun e => hn (hs x e), h.wg⟩
theorem Keep.fresh (S : Nat → Prop) (H : VH) (cs : List AV) : Keep S H (H.fresh cs) :=
  ⟨Nat.le_succ _, fun b hb _ => by rw [fresh_get, if_neg (Nat.ne_of_lt hb)], fun _ _ => rfl⟩
theorem Keep.lo (S : Nat → Prop) (H : VH) : Keep S H H.lo := ⟨Nat.le_refl _, fun _ _ _ => rfl, fun _ _ => rfl⟩
theorem Keep.from_lo {S : Nat → Prop} {H H' : VH} (h : Keep S H.lo H') : Keep S H H' := ⟨h.next, h.get, h.wg⟩
/-- Blocks with new numbers may change at will. -/
theorem Keep.narrow {S : Nat → Prop} {a b : VH} (h : Keep (fun x => S x ∨ a.next ≤ x) a b) : Keep S a b :=
  ⟨h.next, fun x hx hs => h.get x hx fun e => e.elim hs fun e => absurd hx (Nat.not_lt.2 e), h.wg⟩
theorem keep_row {S : Nat → Prop} {H H' : VH} (h : Keep S H H') {b : Nat} (hb : b < H.next) (hs : ¬ S b) : H'.row? b = H.row? b := by
  unfold VH.row?
  rw [h.get b hb hs]
theorem keep_from {S : Nat → Prop} {H H' : VH} (h : Keep S H H') {l : Nat} (hl : l < H.next) : H'.from_ l = H.from_ l := by
  unfold VH.from_
  rw [h.wg l hl]
theorem keep_cell {S : Nat → Prop} {H H' : VH} (h : Keep S H H') (hH : H.Ok) {b : Nat} (hb : b < H.next) (hs : ¬ S b) (o : Nat) : H'.cell b o = H.cell b o := by
  unfold VH.cell
  rw [keep_row h hb hs]
  split
  · rename_i r hr
    unfold VH.readable
    rw [keep_from h (hH.lin b r hr)]
  · rfl
theorem keep_cells {S : Nat → Prop} {H H' : VH} (h : Keep S H H') (hH : H.Ok) {b : Nat} (hb : b < H.next) (hs : ¬ S b) : ∀ (n o : Nat), H'.cells b o n = H.cells b o n
  | 0, _ => rfl
  | n + 1, o => by simp only [VH.cells, keep_cell h hH hb hs, keep_cells h hH hb hs n]
/-- A block of cells that may be read and written. -/
structure Plain (H : VH) (b : Nat) (cs : List AV) : Prop where
  row : ∃ r, H.row? b = some r ∧ r.n = cs.length ∧ (∀ i, i < cs.length → r.t.get i = cs[i]?) ∧ r.live = true ∧ r.gen = 0 ∧ H.from_ r.lin = 0
theorem Plain.cell {H : VH} {b : Nat} {cs : List AV} (h : Plain H b cs) (o : Nat) : H.cell b o = cs[o]? := by
  obtain ⟨r, h1, h2, h3, h4, h5, h6⟩ := h.row
  unfold VH.cell
  rw [h1]
  simp only [VH.readable, h6, h5]
  by_cases ho : o < cs.length
  · simp [blt_eq, h2, ho, h3 o ho]
  · simp [blt_eq, h2, ho]
theorem Plain.lt {H : VH} {b : Nat} {cs : List AV} (h : Plain H b cs) (hH : H.Ok) : b < H.next := by
  obtain ⟨r, h1, _⟩ := h.row
  unfold VH.row? at h1
  split at h1
  · rename_i r' hr
    exact hH.get b _ hr
  · cases h1
theorem Plain.lo {H : VH} {b : Nat} {cs : List AV} (h : Plain H b cs) : Plain H.lo b cs := ⟨h.row⟩
theorem Plain.keep {S : Nat → Prop} {H H' : VH} {b : Nat} {cs : List AV} (h : Plain H b cs) (hH : H.Ok) (k : Keep S H H') (hs : ¬ S b) : Plain H' b cs := by
  have hb := h.lt hH
  obtain ⟨r, h1, h2, h3, h4, h5, h6⟩ := h.row
  exact ⟨r, (keep_row k hb hs).trans h1, h2, h3, h4, h5, (keep_from k (hH.lin b r h1)).trans h6⟩
theorem fresh_plain {H : VH} (h : H.Ok) (cs : List AV) : Plain (H.fresh cs) H.next cs := by
  refine ⟨⟨{ n := cs.length, t := Tr.ofList cs, live := true, lin := H.next, gen := 0, ver := 0 }, by unfold VH.row?; rw [fresh_get, if_pos rfl], rfl, fun i hi => ?_, rfl, rfl, ?_⟩⟩
  · exact Tr.get_ofList _ _
  · unfold VH.from_
    have hw : H.wg.get H.next = none := by
      cases e : H.wg.get H.next with
      | none => rfl
      | some g => exact absurd (h.wg _ _ e) (Nat.lt_irrefl _)
    rw [show (H.fresh cs).wg = H.wg from rfl]
    simp only [hw]
    rfl
theorem Plain.puts1 {H : VH} {b : Nat} {cs : List AV} (h : Plain H b cs) (hH : H.Ok) (o : Nat) (ho : o < cs.length) (v : AV) (hv : v.one = true) :
    ∃ H', H.puts b o [v] = some H' ∧ Plain H' b (cs.set o v) ∧ Keep (· = b) H H' ∧ H'.Ok ∧ H'.low = min H.low b ∧ H'.next = H.next := by
  have hb := h.lt hH
  obtain ⟨r, h1, h2, h3, h4, h5, h6⟩ := h.row
  have hcut : H.cut r.lin r.gen = H := by
    unfold VH.cut
    rw [h5]
    rfl
  have hput : H.put b o v = some (H.set b (.row { r with t := r.t.set o v, ver := r.ver + 1 })) := by
    unfold VH.put
    rw [h1]
    simp [hv, h2, ho, h4, blt_eq, hcut]
  have hget : ∀ x, (H.set b (.row { r with t := r.t.set o v, ver := r.ver + 1 })).get x = if x = b then some (.row { r with t := r.t.set o v, ver := r.ver + 1 }) else H.get x := fun x => Tr.get_set _ _ _ _
  refine ⟨H.set b (.row { r with t := r.t.set o v, ver := r.ver + 1 }), by simp only [VH.puts, hput], ⟨{ r with t := r.t.set o v, ver := r.ver + 1 }, by unfold VH.row?; rw [hget, if_pos rfl], by simp [h2], fun i hi => ?_, h4, h5, h6⟩, ⟨Nat.le_refl _, fun x _ hx => by rw [hget, if_neg hx], fun _ _ => rfl⟩, ⟨fun x y hx => ?_, hH.wg, fun x y hx => ?_⟩, rfl, rfl⟩
  · show (r.t.set o v).get i = _
    rw [Tr.get_set, List.getElem?_set]
    simp only [List.length_set] at hi
    by_cases e : i = o
    · subst e; simp [ho]
    · rw [if_neg e, if_neg (Ne.symm e)]
      exact h3 i hi
  · rw [hget] at hx
    split at hx
    · rename_i e
      subst e
      exact hb
    · exact hH.get x y hx
  · unfold VH.row? at hx
    rw [hget] at hx
    by_cases e : x = b
    · simp only [if_pos e, Option.some.injEq] at hx
      subst hx
      exact hH.lin b r h1
    · simp only [if_neg e] at hx
      exact hH.lin x y hx
/-- A call that leaves something. -/
theorem leave_eff {H H' : VH} {v : AV} (h : H'.low < H.next) : leave H H' v = { H' with low := min H.low H'.low } := by
  unfold leave
  have : Nat.beq H'.low H.next = false := by
    cases e : Nat.beq H'.low H.next with
    | false => rfl
    | true => exact absurd (Nat.eq_of_beq_eq_true e) (Nat.ne_of_lt h)
  rw [this]
  rfl
theorem ok_low {H : VH} (h : H.Ok) (m : Nat) : ({ H with low := m } : VH).Ok := ⟨h.get, h.wg, h.lin⟩
theorem plain_low {H : VH} {b : Nat} {cs : List AV} (h : Plain H b cs) (m : Nat) : Plain { H with low := m } b cs := ⟨h.row⟩
theorem keep_low {S : Nat → Prop} {H H' : VH} (h : Keep S H H') (m : Nat) : Keep S H { H' with low := m } := ⟨h.next, h.get, h.wg⟩
/-- A call that leaves nothing. -/
theorem leave_flat {H H' : VH} {v : AV} (h : H'.low = H.next) (hf : flat v = true) : leave H H' v = H := by
  unfold leave
  rw [h, hf]
  simp
theorem leave_rest {H H' : VH} {v : AV} (h : flat v = false) : leave H H' v = { H' with low := min H.low H'.low } := by
  unfold leave
  rw [h, Bool.and_false]
theorem fw_range (n : Int) : -9223372036854775808 ≤ fwrap .i64 n ∧ fwrap .i64 n < 9223372036854775808 := by
  rw [fwrap_eq]
  simp only [IntKind.wrap, IntKind.bits, IntKind.signed, Bool.true_and, decide_eq_true_eq, show (2 : Int) ^ 64 = 18446744073709551616 from rfl, show (2 : Int) ^ (64 - 1) = 9223372036854775808 from rfl]
  split <;> omega
theorem rem_i64 (a b : Int) (h : b ≠ 0) : varith .rem .i64 a .i64 b = some (.int .i64 (a.tmod b)) := by
  simp only [varith, kindEq, if_true, ieq_dec, decide_eq_true_eq, if_neg h]
theorem quo_i64 (a b : Int) (h : b ≠ 0) : varith .quo .i64 a .i64 b = some (.int .i64 (fwrap .i64 (a.tdiv b))) := by
  simp only [varith, kindEq, if_true, ieq_dec, decide_eq_true_eq, if_neg h]
end Go.Vm
