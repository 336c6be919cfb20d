/- Functions of the library without a body: what they answer. -/
import Derived.Test.YtmlogeklbcgjnaaGreatDoorVmTop
import Derived.Lib.Bytealg
import Derived.Lib.MakeNoZero
import Derived.Lib.IndexEntry
namespace Go.Vm
set_option linter.unusedSimpArgs false
set_option linter.unusedVariables false
set_option linter.unusedSectionVars false
/-- internal/bytealg.CountString. -/
noncomputable def xCount : List AV → Option XR
  | [.str s, .int .u8 c] => some (.val (.int .i64 ((s.bytes.count (c.toNat % 256) : Nat) : Int)))
  | _ => none
def idxN : List Nat → Nat → Int
  | [], _ => -1
  | b :: l, c => if b == c then 0 else if idxN l c == -1 then -1 else idxN l c + 1
/-- internal/bytealg.IndexByteString. -/
noncomputable def xIndexByte : List AV → Option XR
  | [.str s, .int .u8 c] => some (.val (.int .i64 (idxN s.bytes (c.toNat % 256))))
  | _ => none
/-- internal/abi.NoEscape. -/
def xSame : List AV → Option XR
  | [.ptr a] => some (.val (.ptr a))
  | _ => none
/-- internal/bytealg.MakeNoZero (e: the type of bytes). -/
def xRoom (e : Nat) : List AV → Option XR
  | [.int .i64 n] => match ile 0 n && ile n 281474976710656 with | true => some (.room n.toNat e) | false => none
  | _ => none
theorem u8_of (c : Nat) : (c.toUInt8).toNat = c % 256 := UInt8.toNat_ofNat' ..
theorem idxN_of (l : List UInt8) (c : UInt8) : idxN (l.map (·.toNat)) c.toNat = Lib.indexByte l c := by
  induction l with
  | nil => rfl
  | cons b l ih =>
    simp only [List.map_cons, idxN, Lib.indexByte, ih]
    by_cases h : b = c
    · subst h; simp
    · have : ¬ b.toNat = c.toNat := fun e => h (UInt8.toNat_inj.1 e)
      simp [h, this]
theorem count_of (l : List UInt8) (c : UInt8) : (l.map (·.toNat)).count c.toNat = l.count c := by
  induction l with
  | nil => rfl
  | cons b l ih =>
    simp only [List.map_cons, List.count_cons, ih]
    by_cases h : b = c
    · subst h; simp
    · have : ¬ b.toNat = c.toNat := fun e => h (UInt8.toNat_inj.1 e)
      simp [h, this]
theorem answers_extern {P : Program} {f : FuncId} {fn : Func} {e : Array Value → Sem Value} {args : Array Value} {w w' : World} {u : Value} {R : Value → World → Prop} (hf : P.funcs[f]? = some fn)
    (hname : (fn.name == "runtime.NumGoroutine") = false) (hb : fn.body.isNone = true) (hn : Extern.findNext fn = none) (he : Extern.find fn = some e) (hr : (e args).run P w = .ok u w') (hR : R u w') : Answers P f args w R := by
  unfold Answers
  rw [run_callFunc_extern hf hname hb hn he, hr]
  exact hR
theorem args_two {ρ : Rho} {s : PS} {k : IntKind} {c : Int} {args : Array Value} (h : VRs ρ [.str s, .int k c] args.toList) : ∃ b : ByteArray, args = #[.string b, .int k c] ∧ s = PS.of b.data.toList := by
  obtain ⟨u, us, e1, ⟨b, rfl, hs⟩, u2, us2, rfl, h2, h3⟩ := h
  have h2' : u2 = .int k c := h2
  have h3' : us2 = [] := h3
  subst h2' h3'
  exact ⟨b, Array.toList_inj.1 e1, hs⟩
theorem xCount_ok {T : Tb} {P : Program} {f : FuncId} {fn : Func} (hf : P.funcs[f]? = some fn) (hname : (fn.name == "runtime.NumGoroutine") = false) (hb : fn.body.isNone = true) (hn : Extern.findNext fn = none) (he : Extern.find fn = some Extern.BytealgCount.count) : ExtOne T P f (fun _ => xCount) := by
  intro H vals v hv ρ G w args hH hg ha
  change xCount vals = some v at hv
  unfold xCount at hv
  split at hv
  · rename_i s c
    obtain ⟨b, rfl, hs⟩ := args_two ha
    refine answers_extern hf hname hb hn he (Lib.run_countString b c w) ?_
    subst hs
    rw [PS.bytes_of, ← u8_of, count_of] at hv
    obtain rfl := Option.some.inj hv
    exact ⟨.refl _ _ _, fun _ _ _ _ => rfl, rfl⟩
  · cases hv
theorem xIndexByte_ok {T : Tb} {P : Program} {f : FuncId} {fn : Func} (hf : P.funcs[f]? = some fn) (hname : (fn.name == "runtime.NumGoroutine") = false) (hb : fn.body.isNone = true) (hn : Extern.findNext fn = none) (he : Extern.find fn = some Extern.BytealgIndexByte.indexByte) : ExtOne T P f (fun _ => xIndexByte) := by
  intro H vals v hv ρ G w args hH hg ha
  change xIndexByte vals = some v at hv
  unfold xIndexByte at hv
  split at hv
  · rename_i s c
    obtain ⟨b, rfl, hs⟩ := args_two ha
    refine answers_extern hf hname hb hn he (Lib.run_indexByteString b c w) ?_
    subst hs
    rw [PS.bytes_of, ← u8_of, idxN_of] at hv
    obtain rfl := Option.some.inj hv
    exact ⟨.refl _ _ _, fun _ _ _ _ => rfl, rfl⟩
  · cases hv
theorem xSame_ok {T : Tb} {P : Program} {f : FuncId} {fn : Func} (hf : P.funcs[f]? = some fn) (hname : (fn.name == "runtime.NumGoroutine") = false) (hb : fn.body.isNone = true) (hn : Extern.findNext fn = none) (he : Extern.find fn = some Extern.AbiNoEscape.same) : ExtOne T P f (fun _ => xSame) := by
  intro H vals v hv ρ G w args hH hg ha
  change xSame vals = some v at hv
  unfold xSame at hv
  split at hv
  · rename_i a
    obtain ⟨u, us, e1, h1, e2⟩ := ha
    obtain rfl : us = [] := e2
    obtain rfl : args = #[u] := Array.toList_inj.1 e1
    obtain rfl := Option.some.inj hv
    exact answers_extern hf hname hb hn he (w' := w) (u := u) rfl ⟨.refl _ _ _, fun _ _ _ _ => rfl, h1⟩
  · cases hv
theorem xRoom_ok {T : Tb} {P : Program} {f : FuncId} {fn : Func} {t e : TypeId} (ht : P.underlying t = some (.slice e)) (hf : P.funcs[f]? = some fn) (hname : (fn.name == "runtime.NumGoroutine") = false) (hb : fn.body.isNone = true) (hn : Extern.findNext fn = none) (he : Extern.find fn = some (Extern.BytealgMakeNoZero.makeNoZero fn.params #[t])) : ExtOne T P f (fun _ => xRoom e) := by
  intro H vals v hv ρ G w args hH hg ha
  change xRoom e vals = some v at hv
  unfold xRoom at hv
  split at hv
  · rename_i n
    split at hv
    · rename_i hc
      simp only [Bool.and_eq_true, ile_eq, decide_eq_true_eq] at hc
      obtain ⟨u, us, e1, h1, e2⟩ := ha
      obtain rfl : us = [] := e2
      obtain rfl : u = .int .i64 n := h1
      obtain rfl : args = #[.int .i64 n] := Array.toList_inj.1 e1
      obtain rfl := Option.some.inj hv
      obtain ⟨cs, r1, r2, _⟩ := Lib.run_makeNoZero (P := P) w fn.params t e ht n.toNat (by omega)
      rw [Int.toNat_of_nonneg hc.1] at r1
      exact answers_extern hf hname hb hn he r1 ⟨cs, r2, rfl, rfl, rfl, rfl, rfl⟩
    · cases hv
  · cases hv
/-- internal/bytealg.IndexString (g: the variable MaxLen). -/
noncomputable def xIndex (g : Nat) (H : VH) : List AV → Option XR
  | [.str s, .str p] =>
    match H.cell g 0 with
    | some (.int .i64 m) =>
      match Nat.ble 2 p.len && ile (p.len : Int) m && Nat.blt s.len 4294967281 with
      | true => some (.val (.int .i64 (Lib.index (s.bytes.map UInt8.ofNat) (p.bytes.map UInt8.ofNat))))
      | false => none
    | _ => none
  | _ => none
theorem bytes_back (l : List UInt8) : (PS.of l).bytes.map UInt8.ofNat = l := by
  rw [PS.bytes_of, List.map_map]
  conv => rhs; rw [← List.map_id l]
  exact List.map_congr_left fun x _ => UInt8.ofNat_toNat
theorem xIndex_ok {T : Tb} {P : Program} {f : FuncId} {fn : Func} {g : Nat} (hgl : P.globals.findIdx? (·.name == "internal/bytealg.MaxLen") = some g) (hT : T.gl g = true) (hf : P.funcs[f]? = some fn) (hname : (fn.name == "runtime.NumGoroutine") = false) (hb : fn.body.isNone = true) (hn : Extern.findNext fn = none) (he : Extern.find fn = some Extern.BytealgIndex.index) : ExtOne T P f (xIndex g) := by
  intro H vals v hv ρ G w args hH hg ha
  unfold xIndex at hv
  split at hv
  · rename_i s p
    split at hv
    · rename_i m hm
      split at hv
      · rename_i hc
        simp only [Bool.and_eq_true, Nat.ble_eq, ile_eq, decide_eq_true_eq, blt_eq] at hc
        obtain ⟨u, us, e1, ⟨a, rfl, hs⟩, u2, us2, rfl, ⟨b, rfl, hp⟩, h3⟩ := ha
        obtain rfl : us2 = [] := h3
        obtain rfl : args = #[.string a, .string b] := Array.toList_inj.1 e1
        subst hs hp
        obtain ⟨sz, hr⟩ := hg g hT
        have hcell : w.cell? ⟨g, 0, none⟩ = some (.int .i64 m) := by
          obtain ⟨u, hu, hv, _⟩ := cell_read hH (b := .blk g) (show At ρ (.blk g) _ from hr) hm
          obtain rfl : u = _ := hv
          simpa using hu
        have hbs : b.size = b.data.toList.length := Lib.size_eq b
        have has : a.size = a.data.toList.length := Lib.size_eq a
        obtain rfl := Option.some.inj hv
        refine answers_extern hf hname hb hn he (Lib.run_indexString a b w g m hgl hcell (by rw [hbs]; exact hc.1.1) (by rw [hbs]; exact hc.1.2) (by rw [has]; exact hc.2)) ⟨.refl _ _ _, fun _ _ _ _ => rfl, ?_⟩
        show _ = _
        rw [bytes_back, bytes_back]
      · cases hv
    · cases hv
  · cases hv
theorem call_ext {T : Tb} {ext : Nat → Option (VH → List AV → Option XR)} {promo : Nat → Nat → Bool} {n f : Nat} {g : VH → List AV → Option XR} {args : List AV} {v : AV} {H : VH} (h : ext f = some g) (hv : g H args = some (.val v)) : vcall T ext promo (n + 1) f args H = some (v, H) := by
  show callStep T ext promo n (vcall T ext promo n) f args H = _
  unfold callStep
  rw [h]
  simp only [hv]
theorem call_room {T : Tb} {ext : Nat → Option (VH → List AV → Option XR)} {promo : Nat → Nat → Bool} {n f : Nat} {g : VH → List AV → Option XR} {args : List AV} {k e : Nat} {H : VH} (h : ext f = some g) (hv : g H args = some (.room k e)) : vcall T ext promo (n + 1) f args H = some (.slice (some (H.next, 0)) k none 1, H.blank e) := by
  show callStep T ext promo n (vcall T ext promo n) f args H = _
  unfold callStep
  rw [h]
  simp only [hv]
end Go.Vm
