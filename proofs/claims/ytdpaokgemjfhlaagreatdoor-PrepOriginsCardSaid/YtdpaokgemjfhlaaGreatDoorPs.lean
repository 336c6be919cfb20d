/- The preprocessor: look-ups in the files; a line that includes one. -/
import Derived.Test.YtdpaokgemjfhlaaGreatDoorPr
namespace Go.Vm.Tryz
set_option linter.unusedSectionVars false
set_option linter.unusedSimpArgs false
set_option linter.unusedVariables false
set_option maxRecDepth 10000
def ent (T : Nat → List UInt8) (i : Nat) : ME := ⟨.str (PS.of (fname i)), .str (PS.of (T i)), i⟩
def ents (T : Nat → List UInt8) (n : Nat) : List ME := (List.range' 0 n).map (ent T)
theorem fname_inj : ∀ i < 10, ∀ k < 10, fname i = fname k → i = k := by decide
theorem mfind_ents (F : Nat → List UInt8) (k : Nat) (hk : k < 10) : ∀ (m s i : Nat), s + m ≤ 10 → s ≤ k → k < s + m → mfind (.str (PS.of (fname k))) ((List.range' s m).map (ent F)) i = some (some (i + (k - s), ent F k))
  | 0, s, i, _, h1, h2 => by omega
  | m + 1, s, i, h0, h1, h2 => by
    rw [List.range'_succ, List.map_cons]
    have hq : kEq (.str (PS.of (fname k))) (.str (PS.of (fname s))) = some (decide (fname k = fname s)) := by
      show some ((PS.of (fname k)).eq (PS.of (fname s))) = _
      rw [str_eq]
    unfold mfind
    rw [show (ent F s).k = .str (PS.of (fname s)) from rfl, hq]
    by_cases e : k = s
    · subst e
      simp
    · have : ¬ fname k = fname s := fun h => e (fname_inj k hk s (by omega) h)
      simp only [this, decide_false]
      rw [mfind_ents F k hk m (s + 1) (i + 1) (by omega) (by omega) (by omega)]
      congr 3
      omega
theorem lookE {H : VH} {mf n k c ver : Nat} {F : Nat → List UInt8} (h : H.map? mf = some (ents F n, c, ver)) (hn : n ≤ 10) (hk : k < n) (ok : Bool) :
    vlookup T H 34 (.map (some mf)) (.str (PS.of (fname k))) ok = some (match ok with | true => .tuple [.str (PS.of (F k)), .bool true] | false => .str (PS.of (F k))) := by
  unfold vlookup
  rw [undMap]
  have hz : zeroOf T 9 = some (.str (PS.of [])) := by kernel_rfl
  simp only [fitStr, ments, h, hz]
  unfold ents
  rw [mfind_ents F k (by omega) n 0 0 (by omega) (by omega) (by omega)]
  cases ok <;> rfl
theorem index_loop (n : Nat) (b : Nat) (ns : List (List UInt8)) (s : List UInt8) (hns : s ∉ ns) (hl : ns.length < 1000) {H : VH} (h : ∀ i, i < ns.length → H.cell b (0 + i * 1) = (strCells ns)[i]?) : ∀ (m i : Nat), i ≤ ns.length → ns.length - i < m →
    loopN (L121_0 (vcall T ext promo n) n (some (b, 0)) ns.length (PS.of s)) m [.int .i64 (i : Int)] H = some (.exit 0, [], H) := by
  intro m
  induction m with
  | zero => intro i _ h; omega
  | succ m ih =>
    intro i hi hm
    rw [loopN_succ]
    generalize hlp : loopN (L121_0 (vcall T ext promo n) n (some (b, 0)) ns.length (PS.of s)) m = lp at ih ⊢
    unfold L121_0
    simp only [KA, KB, KD, reduceCtorEq, if_false, if_true, Bool.and_eq_true]
    by_cases hik : i < ns.length
    · rw [if_pos (by omega), if_pos (by omega)]
      have hc : (strCells ns)[i]? = some (.str (PS.of ns[i])) := by rw [strCells, List.getElem?_map, List.getElem?_eq_getElem hik]; rfl
      rw [Int.toNat_natCast, h i hik, hc]
      have hne : ¬ s = ns[i] := fun e => hns (e ▸ List.getElem_mem hik)
      simp only [KA, KB, KD, reduceCtorEq, if_false, if_true, str_eq, hne, decide_false]
      rw [fw_add1 i (by omega)]
      exact ih (i + 1) (by omega) (by omega)
    · rw [if_neg (by omega)]
theorem contains_ok (n : Nat) (hn : 1100 ≤ n) {H : VH} {q : AV} {ns : List (List UInt8)} {L : Nat} (h : Opn H q ns L) (hl : ns.length < 1000) (s : List UInt8) (hs : s ∉ ns) :
    vcall T ext promo n 90 [q, .str (PS.of s)] H = some (.bool false, H) := by
  obtain ⟨n, rfl⟩ : ∃ m, n = m + 2 := ⟨n - 2, by omega⟩
  obtain ⟨b, rfl, hc⟩ := h.cell
  apply ok90
  unfold F90
  simp only [letH_mk]
  have e1 : vcall T ext promo (n + 1) 121 [.slice (some (b, 0)) ns.length none 1, .str (PS.of s)] H.lo = some (.int .i64 (-1), H.lo) := by
    apply ok121
    unfold F121
    simp only [letH_mk]
    rw [show (.int .i64 0 : AV) = .int .i64 ((0 : Nat) : Int) from rfl, index_loop n b ns s hs hl (H := H.lo.lo) hc n 0 (by omega) (by omega)]
    simp only [KA, KB, KD, reduceCtorEq, if_false, if_true]
    rw [leave_flat rfl rfl]
  rw [e1]
  simp only [KA, KB, KD, reduceCtorEq, if_false, if_true]
  rw [leave_flat rfl rfl]
  rfl
theorem condition_ok (n : Nat) (hn : 1 ≤ n) {H : VH} {C : Nat} (p0 : Option (Nat × Nat)) (f : PS) (ln col : Int) (rest : PS) (h : H.cell C 0 = some (.slice none 0 (some 0) 0)) :
    vcall T ext promo n 57 [.ptr p0, .agg [.str f, .int .i64 ln], .int .i64 col, .str (PS.of incW), .str rest, .ptr (some (C, 0))] H = some (.bool false, H) := by
  obtain ⟨n, rfl⟩ : ∃ m, n = m + 1 := ⟨n - 1, by omega⟩
  apply ok57
  unfold F57
  have h' : H.lo.cell C 0 = some (.slice none 0 (some 0) 0) := h
  simp only [KA, KB, KD, reduceCtorEq, if_false, if_true, h', str_eq, incW, List.cons.injEq, show (105 : UInt8) = 105 from rfl, show ¬ (110 : UInt8) = 102 by decide, show ¬ (105 : UInt8) = 101 by decide, false_and, and_false, decide_false]
  rw [leave_flat rfl rfl]
theorem fname_ne (k : Nat) : 34 :: fname k ++ [34] = [34, 102, UInt8.ofNat (48 + k), 34] := rfl
theorem directive_ok (n : Nat) (hn : 1200 ≤ n) {H H' : VH} {R mf m k c ver : Nat} {F : Nat → List UInt8} {q : AV} {ns : List (List UInt8)} {L : Nat} (f : PS) (ln col : Int) (hk1 : 1 ≤ k) (hk2 : k ≤ 4) (hm : m ≤ 10) (hkm : k < m)
    (h0 : H.cell R 0 = some (.map (some mf))) (h7 : H.cell R (0 + 7) = some q) (hmap : H.map? mf = some (ents F m, c, ver)) (ho : Opn H q ns L) (hl : ns.length < 8) (hns : fname k ∉ ns)
    (hf : vcall T ext promo n 28 [.ptr (some (R, 0)), .str (PS.of (fname k))] H.lo = some (.tuple [], H')) :
    vcall T ext promo (n + 1) 58 [.ptr (some (R, 0)), .agg [.str f, .int .i64 ln], .int .i64 col, .str (PS.of incW), .str (PS.of ([32, 34] ++ fname k ++ [34]))] H = some (.tuple [], leave H H' (.tuple [])) := by
  apply ok58
  unfold F58
  have hlen : (34 :: fname k ++ [34]).length = 4 := rfl
  have h0' : H.lo.cell R 0 = some (.map (some mf)) := h0
  have h7' : H.lo.cell R (0 + 7) = some q := h7
  obtain ⟨b, rfl, _⟩ := ho.cell
  have lk := lookE (H := H.lo) (k := k) hmap hm hkm true
  have hb0 : (((PS.of (34 :: fname k ++ [34])).byte (0 : Int).toNat : Nat) : Int) = 34 := by
    rw [show (0 : Int).toNat = (((0 : Nat)) : Int).toNat from rfl, byte_int _ 0 (by rw [hlen]; omega)]
    rfl
  have hb3 : (((PS.of (34 :: fname k ++ [34])).byte (3 : Int).toNat : Nat) : Int) = 34 := by
    rw [show (3 : Int).toNat = ((3 : Nat) : Int).toNat from rfl, byte_int _ 3 (by rw [hlen]; omega)]
    rfl
  have hsl : vslice T H.lo 9 (.v (.str (PS.of (34 :: fname k ++ [34])))) (some (.int .i64 1)) (some (.int .i64 3)) = some (.str (PS.of (fname k))) := by
    have := slStr (H := H.lo) (34 :: fname k ++ [34]) 1 3 (by omega) (by rw [hlen]; omega)
    exact this
  have w1 : ¬ incW = [100, 101, 102, 105, 110, 101] := by decide
  have w2 : ¬ incW = [117, 110, 100, 101, 102] := by decide
  have w3 : ([105, 110, 99, 108, 117, 100, 101] : List UInt8) = incW := rfl
  simp only [KA, KB, KD, reduceCtorEq, if_false, if_true, str_eq, w1, w2, w3, decide_false, decide_true]
  rw [clean_ok n (by omega) k hk1 hk2]
  simp only [KA, KB, KD, reduceCtorEq, if_false, if_true, of_len, hlen, Bool.and_eq_true, ieq_dec]
  rw [if_neg (by omega), if_pos (by omega), hb0]
  simp only [KA, KB, KD, reduceCtorEq, if_false, if_true]
  rw [show fwrap .i64 (((4 : Nat) : Int) - 1) = 3 from rfl, if_pos (by omega), hb3]
  simp only [KA, KB, KD, reduceCtorEq, if_false, if_true]
  rw [hsl]
  simp only [KA, KB, KD, reduceCtorEq, if_false, if_true]
  rw [noteFileK_ok n (by omega) k hk1 hk2]
  simp only [KA, KB, KD, reduceCtorEq, if_false, if_true, h0', h7']
  rw [hsl]
  simp only [KA, KB, KD, reduceCtorEq, if_false, if_true, lk]
  rw [contains_ok n (by omega) ho.lo (by omega) _ hns]
  simp only [KA, KB, KD, reduceCtorEq, if_false, if_true, h7']
  rw [if_neg (by omega)]
  simp only [KA, KB, KD, reduceCtorEq, if_false, if_true, hf]
end Go.Vm.Tryz
