/- strings.Builder: what its functions answer. -/
import Derived.Test.YtdpaokgemjfhlaaGreatDoorP1
import Derived.Test.YtdpaokgemjfhlaaGreatDoorVmStr
import Derived.Test.YtdpaokgemjfhlaaGreatDoorVmX
namespace Go.Vm.Tryz
set_option linter.unusedSectionVars false
set_option linter.unusedSimpArgs false
set_option linter.unusedVariables false
set_option maxRecDepth 10000
theorem undBytes : T.und 77 = some (.slice 5) := by kernel_rfl
theorem undByte : T.und 5 = some (.int .u8) := by kernel_rfl
theorem undStr0 : T.und 9 = some .string := by kernel_rfl
theorem listyStr : listy T 9 = true := by kernel_rfl
theorem undPB : T.und 76 = some (.pointer 79) := by kernel_rfl
theorem undUP : T.und 142 = some .unsafePointer := by kernel_rfl
theorem undPU8 : T.und 112 = some (.pointer 5) := by kernel_rfl
theorem sizeB : sizeOfT T 79 = some 2 := by kernel_rfl
theorem sizeByte : sizeOfT T 5 = some 1 := by kernel_rfl
theorem zeroByte : zeroFits T 5 1 = true := by kernel_rfl
/-- The bytes of a builder: none yet, or those of a row at whose end an append goes on. -/
def Buf (H : VH) (c : AV) (l : List UInt8) : Prop := (c = .slice none 0 (some 0) 0 ∧ l = []) ∨ ∃ b, c = .slice (some (b, 0)) l.length none 1 ∧ Tip H b (byteCells l) 5
/-- The row's block. -/
def BufAt (c : AV) (b : Nat) : Prop := ∃ o n k e, c = .slice (some (b, o)) n k e
theorem Buf.keep {S : Nat → Prop} {H H' : VH} {c : AV} {l : List UInt8} (h : Buf H c l) (hH : H.Ok) (k : Keep S H H') (hs : ∀ b, S b → ¬ BufAt c b) : Buf H' c l := by
  rcases h with h | ⟨b, rfl, h⟩
  · exact .inl h
  · exact .inr ⟨b, rfl, h.keep hH k fun e => hs b e ⟨0, _, _, _, rfl⟩⟩
theorem Buf.lt {H : VH} {c : AV} {l : List UInt8} (h : Buf H c l) (hH : H.Ok) {b : Nat} (hb : BufAt c b) : b < H.next := by
  obtain ⟨o, n, k, e, rfl⟩ := hb
  rcases h with ⟨h, _⟩ | ⟨b', h, t⟩
  · cases h
  · cases h
    exact t.lt hH
theorem Buf.lo {H : VH} {c : AV} {l : List UInt8} (h : Buf H c l) : Buf H.lo c l := by
  rcases h with h | ⟨b, rfl, h⟩
  · exact .inl h
  · exact .inr ⟨b, rfl, h.lo⟩
theorem Buf.low {H : VH} {c : AV} {l : List UInt8} (h : Buf H c l) (m : Nat) : Buf { H with low := m } c l := by
  rcases h with h | ⟨b, rfl, h⟩
  · exact .inl h
  · exact .inr ⟨b, rfl, h.low m⟩
theorem Buf.one {H : VH} {c : AV} {l : List UInt8} (h : Buf H c l) : c.one = true := by
  rcases h with ⟨rfl, _⟩ | ⟨b, rfl, _⟩ <;> rfl
theorem byteCells_len (l : List UInt8) : (byteCells l).length = l.length := by simp [byteCells]
theorem byteCells_app (a b : List UInt8) : byteCells (a ++ b) = byteCells a ++ byteCells b := by simp [byteCells]
theorem byteCells_one : ∀ l : List UInt8, allOne (byteCells l) = true
  | [] => rfl
  | c :: l => by simp [byteCells, allOne, AV.one]; exact byteCells_one l
theorem bytesCells (l : List UInt8) : (PS.of l).bytes.map (fun (b : Nat) => AV.int .u8 b) = byteCells l := by
  rw [PS.bytes_of, List.map_map]
  rfl
theorem append_str {H : VH} (hH : H.Ok) {c : AV} {l : List UInt8} (h : Buf H c l) (s : List UInt8) (hl : l.length + s.length < 1000000000) :
    ∃ c' H', vbuiltin T H .append [77, 9] [c, .str (PS.of s)] = some (c', H') ∧ Buf H' c' (l ++ s) ∧ Eff (BufAt c) H H' ∧ (∀ b, BufAt c' b → BufAt c b ∨ H.next ≤ b) := by
  obtain ⟨i, hi, h1, h2⟩ : ∃ i, T.info 5 = some i ∧ i.bytes = 1 ∧ i.size = 1 := ⟨Go.Proofs.Tryz.t5, by kernel_rfl, by kernel_rfl, by kernel_rfl⟩
  have hv : vlenOf c = some l.length := by
    rcases h with ⟨rfl, rfl⟩ | ⟨b, rfl, _⟩ <;> rfl
  have hsl : ∃ a n k e, c = .slice a n k e := by
    rcases h with ⟨rfl, _⟩ | ⟨b, rfl, _⟩ <;> exact ⟨_, _, _, _, rfl⟩
  by_cases hs : s = []
  · subst hs
    refine ⟨c, H, ?_, by rwa [List.append_nil], .refl hH, fun b hb => .inl hb⟩
    rw [vb_append]
    unfold vappend
    simp only [undBytes, listyStr, hi, hv]
    obtain ⟨a, n, k, e, rfl⟩ := hsl
    rfl
  · have hsn : s.length ≠ 0 := by simpa using hs
    have key : ∀ c' H', appendTo H 5 1 c s.length (byteCells s) = some (c', H') → vbuiltin T H .append [77, 9] [c, .str (PS.of s)] = some (c', H') := by
      intro c' H' ha
      rw [vb_append]
      unfold vappend
      simp only [undBytes, listyStr, hi, hv, show vlenOf (.str (PS.of s)) = some s.length from rfl]
      have e1 : Nat.beq s.length 0 = false := by
        cases e : Nat.beq s.length 0 with
        | false => rfl
        | true => exact absurd (Nat.eq_of_beq_eq_true e) hsn
      have e2 : (Nat.blt 0 i.size && Nat.ble ((l.length + s.length) * i.bytes) 140737488355328 && Nat.ble (l.length + s.length) 9223372036854775807 && zeroFits T 5 i.size) = true := by
        rw [h1, h2, zeroByte]
        simp
        omega
      have e3 : vsource H i.size s.length (.str (PS.of s)) = some (byteCells s) := by
        rw [h2]
        show some (((PS.of s).bytes.take s.length).map _) = _
        rw [List.take_of_length_le (by rw [PS.bytes_of]; simp), bytesCells]
      rw [h2] at e3 e2
      simp only [e1, Bool.false_eq_true, if_false, h2, e2, if_true, e3, byteCells_one, ha]
    rcases h with ⟨rfl, rfl⟩ | ⟨b, rfl, t⟩
    · refine ⟨_, _, key _ _ rfl, .inr ⟨H.next, rfl, ?_⟩, .freshT _ hH _ _, fun b hb => ?_⟩
      · exact freshT_tip hH (byteCells s) _
      · obtain ⟨o, n, k, e, hb⟩ := hb
        cases hb
        exact .inr (Nat.le_refl _)
    · obtain ⟨H', a1, a2, a3, a4, a5, a6⟩ := t.append hH 1 l.length s.length (byteCells s) (by rw [byteCells_len]; omega) (by rw [byteCells_len]; omega)
      refine ⟨_, H', key _ _ a1, .inr ⟨H.next, by rw [List.length_append], by rw [byteCells_app]; exact a2⟩, (Eff.of_low a3 a4 a5 (t.lt hH)).mono fun x _ hx => by subst hx; exact ⟨_, _, _, _, rfl⟩, fun b hb => ?_⟩
      obtain ⟨o, n, k, e, hb⟩ := hb
      cases hb
      exact .inr (Nat.le_refl _)
/-- A builder at a place of a block: its two cells, and the bytes it holds. -/
structure Bld (H : VH) (p o ty : Nat) (cs : List AV) (c : AV) (l : List UInt8) : Prop where
  blk : PlainT H p cs ty
  lies : T.liesB ty o 79 = true ∧ (∃ s, sizeOfT T ty = some s ∧ 0 < s ∧ s ≤ cs.length)
  self : cs[o]? = some (.ptr none) ∨ cs[o]? = some (.ptr (some (p, o)))
  at_ : cs[o + 1]? = some c
  buf : Buf H c l
  apart : ¬ BufAt c p
theorem eq_ptr_none (a : Option (Nat × Nat)) : vbinOp T .eql 76 (.ptr a) (.ptr none) = some (.bool a.isNone) := by
  cases a with
  | none => kernel_rfl
  | some a => kernel_rfl
theorem ne_ptr_self (p o : Nat) : vbinOp T .neq 76 (.ptr (some (p, o))) (.ptr (some (p, o))) = some (.bool false) := by
  have : veq T 60 76 (.ptr (some (p, o))) (.ptr (some (p, o))) = some true := by
    rw [show (60 : Nat) = 59 + 1 from rfl]
    simp only [veq, undPB, sizeB, Nat.beq_refl]
  show (veq T 60 76 (.ptr (some (p, o))) (.ptr (some (p, o)))).map _ = _
  rw [this]
  rfl
theorem conv_up {H : VH} {p o : Nat} (hf : fits H p (o + 1) = true) : vconvert T H 76 142 (.ptr (some (p, o))) = some (.ptr (some (p, o)), H) := by
  unfold vconvert
  simp only [undPB, undUP, sizeB, hf]
theorem conv_down {H : VH} {p o : Nat} (hl : vconvert.vlies T H p o 79 = true) : vconvert T H 142 76 (.ptr (some (p, o))) = some (.ptr (some (p, o)), H) := by
  unfold vconvert
  simp only [undPB, undUP, sizeB, hl]
theorem Bld.vlies {H : VH} {p o ty : Nat} {cs : List AV} {c : AV} {l : List UInt8} (h : Bld H p o ty cs c l) : vconvert.vlies T H p o 79 = true := by
  obtain ⟨r, h1, h2, _⟩ := h.blk.plain.row
  obtain ⟨r', h3, h4⟩ := h.blk.ety
  rw [h1] at h3
  obtain rfl := Option.some.inj h3
  obtain ⟨hl, s, hs, hs0, hsl⟩ := h.lies
  unfold vconvert.vlies
  rw [h1]
  simp only [h4, hs, hl, Bool.and_true]
  have : Nat.ble s r.n = true := Nat.ble_eq_true_of_le (by omega)
  have : Nat.blt 0 s = true := by rw [blt_eq]; exact decide_eq_true hs0
  simp [*]
theorem noEscape_ok (n : Nat) (hn : 1 ≤ n) (a : Option (Nat × Nat)) (H : VH) : vcall T ext promo n 110 [.ptr a] H = some (.ptr a, H) := by
  obtain ⟨n, rfl⟩ : ∃ m, n = m + 1 := ⟨n - 1, by omega⟩
  exact call_ext (g := fun _ => xSame) rfl rfl
theorem Bld.olt {H : VH} {p o ty : Nat} {cs : List AV} {c : AV} {l : List UInt8} (h : Bld H p o ty cs c l) : o + 1 < cs.length := (List.getElem?_eq_some_iff.1 h.at_).1
theorem copyCheck_ok (n : Nat) (hn : 5 ≤ n) {H : VH} (hH : H.Ok) {p o ty : Nat} {cs : List AV} {c : AV} {l : List UInt8} (h : Bld H p o ty cs c l) :
    ∃ H', vcall T ext promo n 72 [.ptr (some (p, o))] H = some (.tuple [], H') ∧ Bld H' p o ty (cs.set o (.ptr (some (p, o)))) c l ∧ Eff (· = p) H H' := by
  obtain ⟨n, rfl⟩ : ∃ m, n = m + 1 := ⟨n - 1, by omega⟩
  have hp := h.blk.plain.lt hH
  have ho := h.olt
  by_cases hs : cs[o]? = some (.ptr (some (p, o)))
  · refine ⟨H, ok72 _ _ _ ?_, ?_, .refl hH⟩
    · unfold F72
      simp only [KA, KB, KD, reduceCtorEq, if_false, if_true, h.blk.lo.plain.cell, hs]
      rw [eq_ptr_none]
      simp only [KA, KB, KD, reduceCtorEq, if_false, if_true, Option.isNone_some]
      rw [ne_ptr_self]
      simp only [KA, KB, KD, reduceCtorEq, if_false, if_true]
      rw [leave_flat rfl rfl]
    · have e : cs.set o (.ptr (some (p, o))) = cs := by
        apply List.ext_getElem?
        intro i
        rw [List.getElem?_set]
        split
        · rename_i e; subst e
          rw [if_pos (by omega), hs]
        · rfl
      rw [e]
      exact h
  · have hs0 : cs[o]? = some (.ptr none) := h.self.resolve_right hs
    obtain ⟨H1, e1, p1, k1, n1⟩ := h.blk.lo.puts1 (lo_ok hH) o (by omega) (.ptr (some (p, o))) rfl
    have hlow : H1.low < H.next := by
      have e1' := e1
      simp only [VH.puts] at e1'
      split at e1'
      · rename_i H2 hp2
        obtain rfl := Option.some.inj e1'
        obtain ⟨r, _, _, _, _, rfl⟩ := put_spec hp2
        show min (H.lo.cut _ _).low p < H.next
        omega
      · cases e1'
    have hb : Bld H.lo p o ty cs c l := ⟨h.blk.lo, h.lies, h.self, h.at_, h.buf.lo, h.apart⟩
    refine ⟨leave H H1 (.tuple []), ok72 _ _ _ ?_, ?_, k1.leave hH _⟩
    · unfold F72
      simp only [KA, KB, KD, reduceCtorEq, if_false, if_true, h.blk.lo.plain.cell, hs0]
      rw [eq_ptr_none]
      simp only [KA, KB, KD, reduceCtorEq, if_false, if_true, Option.isNone_none]
      rw [conv_up (h.blk.lo.fits _ (by omega))]
      simp only [KA, KB, KD, reduceCtorEq, if_false, if_true]
      rw [noEscape_ok n (by omega)]
      simp only [KA, KB, KD, reduceCtorEq, if_false, if_true]
      rw [conv_down hb.vlies]
      simp only [KA, KB, KD, reduceCtorEq, if_false, if_true]
      rw [e1]
      simp only [KA, KB, KD, reduceCtorEq, if_false, if_true]
    · rw [leave_eff hlow]
      refine ⟨p1.low _, ⟨h.lies.1, by simpa using h.lies.2⟩, .inr ?_, ?_, (h.buf.lo.keep (lo_ok hH) k1.keep fun b hb => by rw [hb]; exact h.apart).low _, h.apart⟩
      · rw [List.getElem?_set_self (by omega)]
      · rw [List.getElem?_set_ne (by omega)]
        exact h.at_
theorem write_ok (n : Nat) (hn : 10 ≤ n) {H : VH} (hH : H.Ok) {p o ty : Nat} {cs : List AV} {c : AV} {l : List UInt8} (h : Bld H p o ty cs c l) (s : List UInt8) (hl : l.length + s.length < 1000000000) :
    ∃ c' H', vcall T ext promo n 47 [.ptr (some (p, o)), .str (PS.of s)] H = some (.tuple [.int .i64 (s.length : Int), .nilIface], H') ∧ Bld H' p o ty ((cs.set o (.ptr (some (p, o)))).set (o + 1) c') c' (l ++ s) ∧ Eff (fun x => x = p ∨ BufAt c x) H H' ∧ (∀ b, BufAt c' b → BufAt c b ∨ H.next ≤ b) := by
  obtain ⟨n, rfl⟩ : ∃ m, n = m + 1 := ⟨n - 1, by omega⟩
  have hp := h.blk.plain.lt hH
  have ho := h.olt
  have hb : Bld H.lo p o ty cs c l := ⟨h.blk.lo, h.lies, h.self, h.at_, h.buf.lo, h.apart⟩
  obtain ⟨H1, e1, b1, k1⟩ := copyCheck_ok n (by omega) (lo_ok hH) hb
  obtain ⟨c', H2, e2, b2, k2, r2⟩ := append_str k1.ok b1.buf s hl
  have p2 := b1.blk.keep k1.ok k2.keep h.apart
  have hap : ¬ BufAt c' p := fun e => (r2 p e).elim h.apart fun g => by have := k1.keep.next; have := hp; simp only [lo_next] at *; omega
  obtain ⟨H3, e3, p3, k3, n3⟩ := p2.puts1 k2.ok (o + 1) (by simpa using ho) c' b2.one
  have hlow : H3.low < H.next := by
    have e1' := e3
    simp only [VH.puts] at e1'
    split at e1'
    · rename_i H2' hp2
      obtain rfl := Option.some.inj e1'
      obtain ⟨r, _, _, _, _, rfl⟩ := put_spec hp2
      show min (H2.cut _ _).low p < H.next
      omega
    · cases e1'
  have hsl : ∃ a k q e, c = .slice a k q e := by
    rcases h.buf with ⟨rfl, _⟩ | ⟨b, rfl, _⟩ <;> exact ⟨_, _, _, _, rfl⟩
  have hsl' : ∃ a k q e, c' = .slice a k q e := by
    rcases b2 with ⟨rfl, _⟩ | ⟨b, rfl, _⟩ <;> exact ⟨_, _, _, _, rfl⟩
  have eff : Eff (fun x => x = p ∨ BufAt c x) H.lo H3 := by
    refine ((k1.mono fun x _ hx => .inl hx).trans (k2.mono (S' := fun x => x = p ∨ BufAt c x) fun x _ hx => .inr hx) fun x hx => .inl hx).trans (k3.mono (S' := fun x => x = p ∨ BufAt c x) fun x _ hx => .inl hx) fun x hx => .inl hx
  refine ⟨c', leave H H3 (.tuple [.int .i64 (s.length : Int), .nilIface]), ok47 _ _ _ _ ?_, ?_, eff.leave hH _, fun b hb => (r2 b hb).imp id fun g => Nat.le_trans k1.keep.next g⟩
  · obtain ⟨a, k, q, e, rfl⟩ := hsl
    obtain ⟨a', k', q', e', rfl⟩ := hsl'
    unfold F47
    simp only [letH_mk]
    rw [e1]
    simp only [KA, KB, KD, reduceCtorEq, if_false, if_true, b1.blk.plain.cell, b1.at_]
    rw [e2]
    simp only [KA, KB, KD, reduceCtorEq, if_false, if_true]
    rw [e3]
    simp only [KA, KB, KD, reduceCtorEq, if_false, if_true, of_len]
  · rw [leave_eff hlow]
    refine ⟨p3.low _, ⟨h.lies.1, by simpa using h.lies.2⟩, .inr ?_, ?_, (b2.keep k2.ok k3.keep fun b hb => by rw [hb]; exact hap).low _, hap⟩
    · rw [List.getElem?_set_ne (by omega), List.getElem?_set_self (by omega)]
    · rw [List.getElem?_set_self (by simpa using ho)]
theorem puts1_low {H H1 : VH} {p o : Nat} {v : AV} (h : H.puts p o [v] = some H1) : H1.low ≤ p := by
  simp only [VH.puts] at h
  split at h
  · rename_i H2 hp2
    obtain rfl := Option.some.inj h
    obtain ⟨r, _, _, _, _, rfl⟩ := put_spec hp2
    show min (H.cut _ _).low p ≤ p
    omega
  · cases h
theorem go_byteCells (l : List UInt8) : vconvert.go (byteCells l) = some (PS.of l) := conv_go l
/-- The builder's text; the builder is done with. -/
theorem string_ok (n : Nat) (hn : 5 ≤ n) {H : VH} (hH : H.Ok) {p o ty : Nat} {cs : List AV} {c : AV} {l : List UInt8} (h : Bld H p o ty cs c l) (hl : l ≠ [] ∨ ¬ ∃ b, BufAt c b) (hlen : l.length < 1000000000) :
    ∃ H', vcall T ext promo n 48 [.ptr (some (p, o))] H = some (.str (PS.of l), H') ∧ Eff (BufAt c) H H' := by
  obtain ⟨n, rfl⟩ : ∃ m, n = m + 1 := ⟨n - 1, by omega⟩
  have hp := h.blk.plain.lt hH
  have pl := h.blk.lo
  have hself : H.lo.same H.lo p = true := by
    have := same_keep pl.plain (lo_ok hH) (Keep.refl (fun _ => False) H.lo) (fun h => h)
    simpa [allSame] using this
  rcases h.buf.lo with ⟨rfl, rfl⟩ | ⟨b, rfl, t⟩
  · refine ⟨H, ok48 _ _ _ ?_, .refl hH⟩
    unfold F48
    simp only [KA, KB, KD, reduceCtorEq, if_false, if_true, pl.plain.cell, h.at_]
    rw [vb_data0]
    simp only [KA, KB, KD, reduceCtorEq, if_false, if_true, pl.plain.cell, h.at_]
    rw [if_pos (by simp [freeOf, Tag.free, allSame, hself]), vb_str]
    rw [show vunsafeString T H.lo [112, 3] none ((0 : Nat) : Int) = some (.str (PS.of []), H.lo) from rfl]
    simp only [KA, KB, KD, reduceCtorEq, if_false, if_true]
    rw [leave_flat rfl rfl]
  · have hne : l ≠ [] := hl.resolve_right fun h => h ⟨b, 0, _, _, _, rfl⟩
    have hl0 : l.length ≠ 0 := by simpa using hne
    obtain ⟨k, hk⟩ : ∃ k, l.length = k + 1 := ⟨l.length - 1, by omega⟩
    obtain ⟨r, r1, r2, r3, r4, r5, r6, r7⟩ := t.dead (lo_ok hH)
    have hb := t.lt (lo_ok hH)
    have hlow : (H.lo.dead b r).low < H.next := by rw [r6]; simp only [lo_low, lo_next] at *; omega
    have hstr : vunsafeString T H.lo [112, 3] (some (b, 0)) ((l.length : Nat) : Int) = some (.str (PS.of l), H.lo.dead b r) := by
      unfold vunsafeString
      have e0 : ieq ((l.length : Nat) : Int) 0 = false := by
        rw [ieq_dec, decide_eq_false]
        omega
      have hc := t.cells 0 l.length (by rw [byteCells_len]; omega)
      rw [List.drop_zero, List.take_of_length_le (by rw [byteCells_len]; omega)] at hc
      simp only [e0, undPU8, r1, r2, Nat.beq_refl, sizeByte, r3, Bool.and_true, Bool.true_and, ile_eq]
      have : (decide (0 ≤ ((l.length : Nat) : Int)) && decide (((l.length : Nat) : Int) ≤ 9223372036854775807)) = true := by
        simp
        omega
      rw [this]
      simp only [Int.toNat_natCast, hc, go_byteCells, Option.map_some]
    refine ⟨leave H (H.lo.dead b r) (.str (PS.of l)), ok48 _ _ _ ?_, ((Eff.of_low r4 r5 r6 hb).mono fun x _ hx => by subst hx; exact ⟨_, _, _, _, rfl⟩).leave hH _⟩
    unfold F48
    simp only [KA, KB, KD, reduceCtorEq, if_false, if_true, pl.plain.cell, h.at_]
    have hd : vbuiltin T H.lo .unsafeSliceData [77] [.slice (some (b, 0)) l.length none 1] = some (.ptr (some (b, 0)), H.lo) := by
      rw [hk]
      exact vb_data ..
    rw [hd]
    simp only [KA, KB, KD, reduceCtorEq, if_false, if_true, pl.plain.cell, h.at_]
    rw [if_pos (by simp [freeOf, Tag.free, allSame, hself]), vb_str, hstr]
    simp only [KA, KB, KD, reduceCtorEq, if_false, if_true]
end Go.Vm.Tryz

