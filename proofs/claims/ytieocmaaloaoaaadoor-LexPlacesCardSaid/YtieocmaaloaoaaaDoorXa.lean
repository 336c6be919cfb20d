/- The scanner: going on, looking, running. -/
import Derived.Test.YtieocmaaloaoaaaDoorFl
import Derived.Test.YtieocmaaloaoaaaDoorDi
import Derived.Test.YtieocmaaloaoaaaDoorSl
namespace Go.Vm.Tryd
set_option linter.unusedSectionVars false
set_option linter.unusedSimpArgs false
set_option linter.unusedVariables false
set_option maxRecDepth 10000
/-- A place in a text: the byte's number, its line, its column. -/
structure Pos where
  at_ : Nat
  ln : Nat
  co : Nat
/-- One byte on. -/
def Pos.step (p : Pos) (c : UInt8) : Pos := if c = 10 then ⟨p.at_ + 1, p.ln + 1, 1⟩ else ⟨p.at_ + 1, p.ln, p.co + 1⟩
def Pos.go (p : Pos) (l : List UInt8) : Pos := l.foldl Pos.step p
theorem Pos.go_at : ∀ (l : List UInt8) (p : Pos), (p.go l).at_ = p.at_ + l.length
  | [], p => rfl
  | c :: l, p => by
    show ((p.step c).go l).at_ = _
    rw [Pos.go_at l]
    unfold Pos.step
    split <;> simp <;> omega
theorem Pos.go_bound : ∀ (l : List UInt8) (p : Pos), (p.go l).ln ≤ p.ln + l.length ∧ (p.go l).co ≤ max p.co 1 + l.length
  | [], p => by simp [Pos.go]; omega
  | c :: l, p => by
    show ((p.step c).go l).ln ≤ _ ∧ ((p.step c).go l).co ≤ _
    have h := Pos.go_bound l (p.step c)
    have hs : (p.step c).ln ≤ p.ln + 1 ∧ (p.step c).co ≤ max p.co 1 + 1 := by
      unfold Pos.step
      split <;> simp <;> omega
    simp only [List.length_cons]
    omega
/-- The scanner's block. -/
def Scan (H : VH) (b : Nat) (s : List UInt8) (p : Pos) : Prop := Plain H b [.str (PS.of s), .int .i64 (p.at_ : Int), .int .i64 (p.ln : Int), .int .i64 (p.co : Int)]
theorem plain_putAt {H : VH} {q : Nat} {cs : List AV} (h : Plain H q cs) (hH : H.Ok) (o : Nat) (ho : o < cs.length) (v : AV) (hv : v.one = true) : ∃ H', H.puts q (0 + o) [v] = some H' ∧ Plain H' q (cs.set o v) ∧ Did q H H' := by
  obtain ⟨H', e, p, k, w, l, _⟩ := h.puts1 hH o ho v hv
  exact ⟨H', by rw [Nat.zero_add]; exact e, p, ⟨.of_low k w l (h.lt hH), fun hx => by omega⟩⟩
def Pos.Ok (p : Pos) : Prop := p.ln ≤ p.at_ + 1 ∧ p.co ≤ p.at_ + 1
theorem Pos.Ok.step {p : Pos} (h : p.Ok) (c : UInt8) : (p.step c).Ok := by
  obtain ⟨h1, h2⟩ := h
  unfold Pos.step Pos.Ok
  split <;> constructor <;> simp only <;> omega
theorem Pos.step_at (p : Pos) (c : UInt8) : (p.step c).at_ = p.at_ + 1 := by unfold Pos.step; split <;> rfl
theorem Pos.Ok.go : ∀ {l : List UInt8} {p : Pos}, p.Ok → (p.go l).Ok
  | [], _, h => h
  | c :: l, _, h => Pos.Ok.go (l := l) (h.step c)
theorem Pos.go_app (p : Pos) (a b : List UInt8) : p.go (a ++ b) = (p.go a).go b := by unfold Pos.go; rw [List.foldl_append]
theorem drop_lt {s : List UInt8} {i : Nat} {c : UInt8} {l : List UInt8} (h : s.drop i = c :: l) : i < s.length ∧ s[i]? = some c ∧ s.drop (i + 1) = l := by
  have h1 : i < s.length := by
    cases Nat.lt_or_ge i s.length with
    | inl h => exact h
    | inr g => rw [List.drop_of_length_le g] at h; cases h
  rw [List.drop_eq_getElem_cons h1] at h
  obtain ⟨rfl, rfl⟩ := List.cons.inj h
  exact ⟨h1, List.getElem?_eq_getElem h1, rfl⟩
theorem byte_opt {s : List UInt8} {i : Nat} {c : UInt8} (h : s[i]? = some c) : (((PS.of s).byte ((i : Int).toNat) : Nat) : Int) = (c.toNat : Int) := by
  obtain ⟨h1, rfl⟩ := List.getElem?_eq_some_iff.1 h
  exact byte_int s i h1
theorem Scan.fresh {H : VH} {b : Nat} {s : List UInt8} {p : Pos} (h : Scan H b s p) (hH : H.Ok) (cs : List AV) : Scan (H.fresh cs) b s p := Plain.keep h hH (Keep.fresh (fun _ => False) H cs) (fun e => e)
theorem skip_loop (n : Nat) (b : Nat) (s : List UInt8) (hl : s.length < 100000) (k : Nat) (hk : k < 100000) :
    ∀ (w : List UInt8) (m i : Nat) (p : Pos) (r : List UInt8) (H : VH), i + w.length = k → w.length < m → s.drop p.at_ = w ++ r → p.Ok → H.Ok → Scan H b s p →
      ∃ H', loopN (L99_0 (vcall T ext promo n) n (some (b, 0)) (k : Int)) m [.int .i64 (i : Int)] H = some (.exit 0, [], H') ∧ Scan H' b s (p.go w) ∧ H'.Ok ∧ Did b H H' := by
  intro w
  induction w with
  | nil =>
    intro m i p r H hi hm hd hp hH hs
    obtain ⟨m, rfl⟩ : ∃ m', m = m' + 1 := ⟨m - 1, by omega⟩
    rw [loopN_succ]
    unfold L99_0
    have h' : ¬ (i : Int) < (k : Int) := by simp at hi; omega
    simp only [KA, KB, KD, reduceCtorEq, if_false, if_true, h']
    exact ⟨H, rfl, hs, hH, .refl hH⟩
  | cons c w ih =>
    intro m i p r H hi hm hd hp hH hs
    obtain ⟨m, rfl⟩ : ∃ m', m = m' + 1 := ⟨m - 1, by omega⟩
    rw [loopN_succ]
    generalize hlp : loopN (L99_0 (vcall T ext promo n) n (some (b, 0)) (k : Int)) m = lp
    unfold L99_0
    rw [List.length_cons] at hi hm
    obtain ⟨hat, hc0, hd'⟩ := drop_lt hd
    have h' : (i : Int) < (k : Int) := by omega
    have hA0 : (0 : Int) ≤ (p.at_ : Int) := Int.natCast_nonneg _
    have hA1 : (p.at_ : Int) < (s.length : Int) := by omega
    have c0 : H.cell b 0 = some (.str (PS.of s)) := Plain.cell hs 0
    have c1 : H.cell b (0 + 1) = some (.int .i64 (p.at_ : Int)) := Plain.cell hs 1
    have c2 : H.cell b (0 + 2) = some (.int .i64 (p.ln : Int)) := Plain.cell hs 2
    have c3 : H.cell b (0 + 3) = some (.int .i64 (p.co : Int)) := Plain.cell hs 3
    obtain ⟨hp1, hp2⟩ := hp
    have f1 := fw_add1 i (by omega)
    have f2 := fw_add1 p.at_ (by omega)
    have f3 := fw_add1 p.ln (by omega)
    have f4 := fw_add1 p.co (by omega)
    have hb := byte_opt hc0
    have hst := Pos.step_at p c
    have hgo : p.go (c :: w) = (p.step c).go w := rfl
    rw [hgo]
    by_cases hc : c = 10
    · have hc' : ((c.toNat : Nat) : Int) = 10 := by rw [hc]; rfl
      obtain ⟨H1, e1, p1, k1⟩ := plain_putAt hs hH 2 (by simp) (.int .i64 ((p.ln + 1 : Nat) : Int)) rfl
      obtain ⟨H2, e2, p2, k2⟩ := plain_putAt p1 k1.eff.ok 3 (by simp) (.int .i64 0) rfl
      have d1 : H2.cell b (0 + 1) = some (.int .i64 (p.at_ : Int)) := p2.cell 1
      have d3 : H2.cell b (0 + 3) = some (.int .i64 0) := p2.cell 3
      obtain ⟨H3, e3, p3, k3⟩ := plain_putAt p2 k2.eff.ok 1 (by simp) (.int .i64 ((p.at_ + 1 : Nat) : Int)) rfl
      obtain ⟨H4, e4, p4, k4⟩ := plain_putAt p3 k3.eff.ok 3 (by simp) (.int .i64 1) rfl
      have hst2 : p.step c = ⟨p.at_ + 1, p.ln + 1, 1⟩ := by unfold Pos.step; rw [if_pos hc]
      obtain ⟨H5, e5, p5, o5, k5⟩ := ih m (i + 1) (p.step c) r H4 (by omega) (by omega) (by rw [hst]; exact hd') (Pos.Ok.step ⟨hp1, hp2⟩ c) k4.eff.ok (by rw [hst2]; exact p4)
      refine ⟨H5, ?_, p5, o5, (((k1.trans k2).trans k3).trans k4).trans k5⟩
      simp only [KA, KB, KD, reduceCtorEq, if_false, if_true, h', c0, c1, c2, of_len, Bool.and_eq_true, hA0, hA1, and_self, hb, ieq_dec, hc', f3, e1, e2, d1, d3, f2, e3, show fwrap .i64 (0 + 1) = 1 by decide, e4, f1]
      rw [← hlp]
      exact e5
    · have hc' : ¬ ((c.toNat : Nat) : Int) = 10 := fun e => hc (UInt8.toNat_inj.1 (by
        have : c.toNat = 10 := by omega
        rw [this]; rfl))
      obtain ⟨H3, e3, p3, k3⟩ := plain_putAt hs hH 1 (by simp) (.int .i64 ((p.at_ + 1 : Nat) : Int)) rfl
      obtain ⟨H4, e4, p4, k4⟩ := plain_putAt p3 k3.eff.ok 3 (by simp) (.int .i64 ((p.co + 1 : Nat) : Int)) rfl
      have hst2 : p.step c = ⟨p.at_ + 1, p.ln, p.co + 1⟩ := by unfold Pos.step; rw [if_neg hc]
      obtain ⟨H5, e5, p5, o5, k5⟩ := ih m (i + 1) (p.step c) r H4 (by omega) (by omega) (by rw [hst]; exact hd') (Pos.Ok.step ⟨hp1, hp2⟩ c) k4.eff.ok (by rw [hst2]; exact p4)
      refine ⟨H5, ?_, p5, o5, (k3.trans k4).trans k5⟩
      simp only [KA, KB, KD, reduceCtorEq, if_false, if_true, h', c0, c1, c3, of_len, Bool.and_eq_true, hA0, hA1, and_self, hb, ieq_dec, hc', f2, f4, e3, e4, f1]
      rw [← hlp]
      exact e5
theorem Scan.lt {H : VH} {b : Nat} {s : List UInt8} {p : Pos} (h : Scan H b s p) (hH : H.Ok) : b < H.next := Plain.lt h hH
theorem Scan.lo {H : VH} {b : Nat} {s : List UInt8} {p : Pos} (h : Scan H b s p) : Scan H.lo b s p := Plain.lo h
theorem skip_ok (n : Nat) {H : VH} {b : Nat} {s : List UInt8} {p : Pos} (w r : List UInt8) (hn : w.length + 10 ≤ n) (hl : s.length < 100000) (hd : s.drop p.at_ = w ++ r) (hp : p.Ok) (hH : H.Ok) (hs : Scan H b s p) :
    ∃ H', vcall T ext promo n 99 [.ptr (some (b, 0)), .int .i64 (w.length : Int)] H = some (.tuple [], H') ∧ Scan H' b s (p.go w) ∧ H'.Ok ∧ Did b H H' := by
  obtain ⟨n, rfl⟩ : ∃ m, n = m + 1 := ⟨n - 1, by omega⟩
  have hw : w.length ≤ s.length := by
    have := congrArg List.length hd
    rw [List.length_drop, List.length_append] at this
    omega
  obtain ⟨H1, e1, p1, o1, k1⟩ := skip_loop n b s hl w.length (by omega) w n 0 p r H.lo (by omega) (by omega) hd hp (lo_ok hH) hs.lo
  have k2 := k1.leave hH (hs.lt hH) (.tuple [])
  refine ⟨leave H H1 (.tuple []), ok99 _ _ _ _ ?_, plain_leave hH (hs.lt hH) p1 k1 _, k2.eff.ok, k2⟩
  unfold F99
  simp only [letH_mk]
  rw [show (.int .i64 0 : AV) = .int .i64 ((0 : Nat) : Int) from rfl, e1]
  simp only [KA, KB, KD, reduceCtorEq, if_false, if_true]
theorem pre_ok (n : Nat) (hn : 5 ≤ n) (l p : List UInt8) (H : VH) : vcall T ext promo n 117 [.str (PS.of l), .str (PS.of p)] H = some (.bool (p.isPrefixOf l), H) := by
  obtain ⟨n, rfl⟩ : ∃ m, n = m + 2 := ⟨n - 2, by omega⟩
  have hq : decide (l.take p.length = p ∧ p.length ≤ l.length) = p.isPrefixOf l := by
    rw [Bool.eq_iff_iff, decide_eq_true_eq, List.isPrefixOf_iff_prefix]
    constructor
    · rintro ⟨h1, h2⟩
      rw [← h1]
      exact List.take_prefix _ _
    · rintro ⟨t, rfl⟩
      exact ⟨by simp, by simp⟩
  rw [← hq]
  have e : ∀ H, vcall T ext promo (n + 1) 150 [.str (PS.of l), .str (PS.of p)] H = some (.bool (decide (l.take p.length = p ∧ p.length ≤ l.length)), H) := by
    intro H
    apply ok150
    unfold F150
    simp only [KA, KB, KD, reduceCtorEq, if_false, if_true, of_len]
    by_cases h : p.length ≤ l.length
    · rw [if_pos (by omega), slStrT _ _ _ h]
      simp only [KA, KB, KD, reduceCtorEq, if_false, if_true, str_eq]
      rw [leave_flat rfl rfl]
      simp [h]
    · rw [if_neg (by omega), leave_flat rfl rfl]
      simp [h]
  apply ok117
  unfold F117
  simp only [letH_mk]
  rw [e]
  simp only [KA, KB, KD, reduceCtorEq, if_false, if_true]
  rw [leave_flat rfl rfl]
theorem has_ok (n : Nat) (hn : 10 ≤ n) {H : VH} {b : Nat} {s : List UInt8} {p : Pos} (hs : Scan H b s p) (hp : p.at_ ≤ s.length) (q : List UInt8) :
    vcall T ext promo n 134 [.ptr (some (b, 0)), .str (PS.of q)] H = some (.bool (q.isPrefixOf (s.drop p.at_)), H) := by
  obtain ⟨n, rfl⟩ : ∃ m, n = m + 1 := ⟨n - 1, by omega⟩
  have c0 : H.lo.cell b 0 = some (.str (PS.of s)) := Plain.cell hs.lo 0
  have c1 : H.lo.cell b (0 + 1) = some (.int .i64 (p.at_ : Int)) := Plain.cell hs.lo 1
  apply ok134
  unfold F134
  simp only [KA, KB, KD, reduceCtorEq, if_false, if_true, c0, c1, slStrF _ _ _ hp, pre_ok n (by omega)]
  rw [leave_flat rfl rfl]
/-- What a predicate on bytes answers. -/
def Pred (f : Nat) (g : UInt8 → Bool) : Prop := ∀ n, 20 ≤ n → ∀ (c : UInt8) (H : VH), vcall T ext promo n f [.int .u8 (c.toNat : Int)] H = some (.bool (g c), H)
theorem run_loop (n : Nat) (hn : 20 ≤ n) {f : Nat} {g : UInt8 → Bool} (hf : Pred f g) {H : VH} {b : Nat} {s : List UInt8} {p : Pos} (hs : Scan H b s p) (hl : s.length < 100000) (hp : p.at_ ≤ s.length) (r : List UInt8) (hr : ∀ c t, r = c :: t → g c = false) :
    ∀ (w : List UInt8) (m k : Nat), w.length < m → k < 200000 → s.drop (p.at_ + k) = w ++ r → (∀ c ∈ w, g c = true) →
      loopN (L135_0 (vcall T ext promo n) n (some (b, 0)) (.func f [] [])) m [.int .i64 (k : Int)] H = some (.exit 0, [.int .i64 ((k + w.length : Nat) : Int)], H) := by
  have c0 : H.cell b 0 = some (.str (PS.of s)) := Plain.cell hs 0
  have c1 : H.cell b (0 + 1) = some (.int .i64 (p.at_ : Int)) := Plain.cell hs 1
  intro w
  induction w with
  | nil =>
    intro m k hm hk hd hw
    obtain ⟨m, rfl⟩ : ∃ m', m = m' + 1 := ⟨m - 1, by omega⟩
    rw [loopN_succ]
    unfold L135_0
    have f1 := fw_addn p.at_ k (by omega)
    rw [List.nil_append] at hd
    cases r with
    | nil =>
      have hk2 : s.length ≤ p.at_ + k := by
        have := congrArg List.length hd
        rw [List.length_drop] at this
        simp at this
        omega
      have h' : ¬ ((p.at_ + k : Nat) : Int) < (s.length : Int) := by omega
      simp only [KA, KB, KD, reduceCtorEq, if_false, if_true, c0, c1, f1, of_len, h', List.length_nil, Nat.add_zero]
    | cons c t =>
      obtain ⟨hat, hc0, hd'⟩ := drop_lt hd
      have h' : ((p.at_ + k : Nat) : Int) < (s.length : Int) := by omega
      have h0 : (0 : Int) ≤ ((p.at_ + k : Nat) : Int) := Int.natCast_nonneg _
      simp only [KA, KB, KD, reduceCtorEq, if_false, if_true, c0, c1, f1, of_len, h', h0, and_self, Bool.and_eq_true, byte_opt hc0, asFn_mk, List.nil_append, List.append_nil, List.cons_append, hf n hn, hr c t rfl, List.length_nil, Nat.add_zero]
  | cons c w ih =>
    intro m k hm hk hd hw
    obtain ⟨m, rfl⟩ : ∃ m', m = m' + 1 := ⟨m - 1, by omega⟩
    rw [List.length_cons] at hm
    rw [loopN_succ]
    generalize hlp : loopN (L135_0 (vcall T ext promo n) n (some (b, 0)) (.func f [] [])) m = lp
    unfold L135_0
    have f1 := fw_addn p.at_ k (by omega)
    obtain ⟨hat, hc0, hd'⟩ := drop_lt hd
    have h' : ((p.at_ + k : Nat) : Int) < (s.length : Int) := by omega
    have h0 : (0 : Int) ≤ ((p.at_ + k : Nat) : Int) := Int.natCast_nonneg _
    have f2 := fw_add1 k (by omega)
    simp only [KA, KB, KD, reduceCtorEq, if_false, if_true, c0, c1, f1, of_len, h', h0, and_self, Bool.and_eq_true, byte_opt hc0, asFn_mk, List.nil_append, List.append_nil, List.cons_append, hf n hn, hw c (.head _), f2]
    rw [← hlp, ih m (k + 1) (by omega) (by omega) (by rw [show p.at_ + (k + 1) = p.at_ + k + 1 by omega]; exact hd') (fun x hx => hw x (.tail _ hx)), List.length_cons, show k + 1 + w.length = k + (w.length + 1) by omega]
theorem run_ok (n : Nat) {f : Nat} {g : UInt8 → Bool} (hf : Pred f g) {H : VH} {b : Nat} {s : List UInt8} {p : Pos} (hs : Scan H b s p) (hl : s.length < 100000) (hp : p.at_ ≤ s.length) (k : Nat) (hk : k < 100000) (w r : List UInt8) (hn : w.length + 30 ≤ n)
    (hd : s.drop (p.at_ + k) = w ++ r) (hw : ∀ c ∈ w, g c = true) (hr : ∀ c t, r = c :: t → g c = false) :
    vcall T ext promo n 135 [.ptr (some (b, 0)), .int .i64 (k : Int), .func f [] []] H = some (.int .i64 ((k + w.length : Nat) : Int), H) := by
  obtain ⟨n, rfl⟩ : ∃ m, n = m + 1 := ⟨n - 1, by omega⟩
  apply ok135
  unfold F135
  simp only [letH_mk]
  rw [run_loop n (by omega) hf hs.lo hl hp r hr w n k (by omega) (by omega) hd hw]
  simp only [KA, KB, KD, reduceCtorEq, if_false, if_true]
  rw [leave_flat rfl rfl]
def figB (c : UInt8) : Bool := decide (48 ≤ c.toNat ∧ c.toNat ≤ 57)
def letB (c : UInt8) : Bool := decide (97 ≤ c.toNat ∧ c.toNat ≤ 122 ∨ 65 ≤ c.toNat ∧ c.toNat ≤ 90 ∨ c.toNat = 95)
def wordB (c : UInt8) : Bool := letB c || figB c
theorem figure_ok' (n : Nat) (c : UInt8) (H : VH) : vcall T ext promo (n + 1) 139 [.int .u8 (c.toNat : Int)] H = some (.bool (figB c), H) := by
  apply ok139
  unfold F139
  have key : ∀ b, leave H H.lo (.bool b) = H := fun b => leave_flat rfl rfl
  simp only [KA, KB, KD, reduceCtorEq, if_false, if_true, key]
  split
  · rename_i h
    rw [figB, decide_eq_decide.2 (show ((c.toNat : Int) ≤ 57) ↔ (48 ≤ c.toNat ∧ c.toNat ≤ 57) by omega)]
  · rename_i h
    rw [figB, decide_eq_false (show ¬ (48 ≤ c.toNat ∧ c.toNat ≤ 57) by omega)]
theorem letter_ok' (n : Nat) (c : UInt8) (H : VH) : vcall T ext promo (n + 1) 137 [.int .u8 (c.toNat : Int)] H = some (.bool (letB c), H) := by
  apply ok137
  unfold F137
  have key : ∀ b, leave H H.lo (.bool b) = H := fun b => leave_flat rfl rfl
  simp only [KA, KB, KD, reduceCtorEq, if_false, if_true, key, ieq_dec]
  unfold letB
  have y : (97 ≤ c.toNat ∧ c.toNat ≤ 122 ∨ 65 ≤ c.toNat ∧ c.toNat ≤ 90 ∨ c.toNat = 95) → decide (97 ≤ c.toNat ∧ c.toNat ≤ 122 ∨ 65 ≤ c.toNat ∧ c.toNat ≤ 90 ∨ c.toNat = 95) = true := fun h => decide_eq_true h
  have z : ¬ (97 ≤ c.toNat ∧ c.toNat ≤ 122 ∨ 65 ≤ c.toNat ∧ c.toNat ≤ 90) → decide ((c.toNat : Int) = 95) = decide (97 ≤ c.toNat ∧ c.toNat ≤ 122 ∨ 65 ≤ c.toNat ∧ c.toNat ≤ 90 ∨ c.toNat = 95) := fun h => decide_eq_decide.2 (by omega)
  repeat' split
  all_goals first
    | rw [z (by omega)]
    | rw [y (by omega)]
theorem figure_ok : Pred 139 figB := by
  intro n hn c H
  obtain ⟨n, rfl⟩ : ∃ m, n = m + 1 := ⟨n - 1, by omega⟩
  exact figure_ok' n c H
theorem letter_ok : Pred 137 letB := by
  intro n hn c H
  obtain ⟨n, rfl⟩ : ∃ m, n = m + 1 := ⟨n - 1, by omega⟩
  exact letter_ok' n c H
theorem wordP_ok (f : Nat) (h : f = 138 ∨ f = 160) : Pred f wordB := by
  intro n hn c H
  obtain ⟨n, rfl⟩ : ∃ m, n = m + 1 := ⟨n - 1, by omega⟩
  have e1 : ∀ H, vcall T ext promo n 137 [.int .u8 (c.toNat : Int)] H = some (.bool (letB c), H) := by
    intro H
    obtain ⟨n, rfl⟩ : ∃ m, n = m + 1 := ⟨n - 1, by omega⟩
    exact letter_ok' n c H
  have e2 : ∀ H, vcall T ext promo n 139 [.int .u8 (c.toNat : Int)] H = some (.bool (figB c), H) := by
    intro H
    obtain ⟨n, rfl⟩ : ∃ m, n = m + 1 := ⟨n - 1, by omega⟩
    exact figure_ok' n c H
  have key : ∀ b, leave H H.lo (.bool b) = H := fun b => leave_flat rfl rfl
  rcases h with rfl | rfl
  · apply ok138
    unfold F138
    simp only [KA, KB, KD, reduceCtorEq, if_false, if_true, e1, e2, key]
    unfold wordB
    cases letB c <;> simp
  · apply ok160
    unfold F160
    simp only [KA, KB, KD, reduceCtorEq, if_false, if_true, e1, e2, key]
    unfold wordB
    cases letB c <;> simp
end Go.Vm.Tryd
