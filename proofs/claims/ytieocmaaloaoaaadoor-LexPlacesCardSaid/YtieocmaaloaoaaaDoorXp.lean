/- The parts that the laws put together: at each of them the scanner finds one token, whatever blank stands behind it. -/
import Derived.Test.YtieocmaaloaoaaaDoorXg
namespace Go.Vm.Tryd
set_option linter.unusedSectionVars false
set_option linter.unusedSimpArgs false
set_option linter.unusedVariables false
set_option maxRecDepth 10000
def sepB (d : UInt8) : Bool := d == 32 || d == 9 || d == 10
/-- Nothing, or a blank. -/
def Sep (r : List UInt8) : Prop := ∀ d t, r = d :: t → sepB d = true
theorem sep_cases {d : UInt8} (h : sepB d = true) : d = 32 ∨ d = 9 ∨ d = 10 := by
  simp only [sepB, Bool.or_eq_true, beq_iff_eq] at h
  rcases h with (h | h) | h
  · exact .inl h
  · exact .inr (.inl h)
  · exact .inr (.inr h)
theorem sep_word {d : UInt8} (h : sepB d = true) : wordB d = false := by
  rcases sep_cases h with rfl | rfl | rfl <;> decide
theorem sep_quo {d : UInt8} (h : sepB d = true) : quoB d = false := by
  rcases sep_cases h with rfl | rfl | rfl <;> decide
/-- What a part must be. -/
structure PartOk (p : List UInt8) : Prop where
  pos : 0 < p.length
  len : p.length ≤ 20
  tok : ∃ t, ∀ r, Sep r → TokAt (p ++ r) t p.length
  stop : ∀ r, Sep r → Stop (p ++ r)
def stopB : List UInt8 → Bool
  | [] => false
  | [c] => !sepB c
  | c :: d :: _ => !sepB c && (!(c == 47) || (!(d == 47) && !(d == 42)))
theorem sep_ne {d : UInt8} (h : sepB d = false) : d ≠ 32 ∧ d ≠ 9 ∧ d ≠ 10 := ⟨fun e => by subst e; exact absurd h (by decide), fun e => by subst e; exact absurd h (by decide), fun e => by subst e; exact absurd h (by decide)⟩
theorem stop_of {p : List UInt8} (h : stopB p = true) : ∀ r, Sep r → Stop (p ++ r) := by
  intro r hr c t e
  match p, h with
  | [x], h =>
    obtain ⟨rfl, rfl⟩ := List.cons.inj e
    simp only [stopB, Bool.not_eq_true'] at h
    refine ⟨(sep_ne h).1, (sep_ne h).2.1, (sep_ne h).2.2, fun _ d u e => ?_⟩
    rcases sep_cases (hr d u e) with rfl | rfl | rfl <;> decide
  | x :: y :: l, h =>
    obtain ⟨rfl, rfl⟩ := List.cons.inj e
    simp only [stopB, Bool.and_eq_true, Bool.not_eq_true', Bool.or_eq_true, beq_eq_false_iff_ne, ne_eq] at h
    refine ⟨(sep_ne h.1).1, (sep_ne h.1).2.1, (sep_ne h.1).2.2, fun e2 d u e => ?_⟩
    obtain ⟨rfl, _⟩ := List.cons.inj e
    rcases h.2 with h2 | h2
    · exact absurd e2 h2
    · exact h2
theorem pre_app {r : List UInt8} (hr : Sep r) : ∀ (q p : List UInt8), (q.all fun x => !sepB x) = true → q.isPrefixOf (p ++ r) = q.isPrefixOf p
  | [], p, _ => by cases p <;> rfl
  | a :: q, [], h => by
    simp only [List.all_cons, Bool.and_eq_true, Bool.not_eq_true'] at h
    cases r with
    | nil => rfl
    | cons d t =>
      have hd := hr d t rfl
      show (a == d && q.isPrefixOf t) = false
      cases e : (a == d) with
      | false => rfl
      | true =>
        rw [beq_iff_eq] at e
        rw [e, hd] at h
        cases h.1
  | a :: q, b :: p, h => by
    simp only [List.all_cons, Bool.and_eq_true] at h
    show (a == b && q.isPrefixOf (p ++ r)) = (a == b && q.isPrefixOf p)
    rw [pre_app hr q p h.2]
theorem find_pre {r : List UInt8} (hr : Sep r) (p : List UInt8) : ∀ ss : List (List UInt8), (ss.all fun q => q.all fun x => !sepB x) = true → ss.find? (fun q => q.isPrefixOf (p ++ r)) = ss.find? (fun q => q.isPrefixOf p)
  | [], _ => rfl
  | q :: ss, h => by
    simp only [List.all_cons, Bool.and_eq_true] at h
    simp only [List.find?_cons, pre_app hr q p h.1, find_pre hr p ss h.2]
def signB (p : List UInt8) : Bool :=
  match p with
  | [] => false
  | c :: w => !letB c && !figB c && !(c == 34) && !(c == 92) && stopB p && decide (p.length ≤ 20) && (signs.find? (fun q => q.isPrefixOf p) == some p)
theorem sign_part {p : List UInt8} (h : signB p = true) : PartOk p := by
  unfold signB at h
  split at h
  · cases h
  · rename_i c w
    simp only [Bool.and_eq_true, Bool.not_eq_true', beq_eq_false_iff_ne, ne_eq, decide_eq_true_eq, beq_iff_eq] at h
    obtain ⟨⟨⟨⟨⟨⟨h1, h2⟩, h3⟩, h4⟩, h5⟩, h6⟩, h7⟩ := h
    exact ⟨by simp, h6, ⟨_, fun r hr => token_sign c (w ++ r) (c :: w) h1 h2 h3 h4 (by
      have := find_pre hr (c :: w) signs (by decide)
      rw [h7] at this
      exact this)⟩, stop_of h5⟩
def wordPB (p : List UInt8) : Bool :=
  match p with
  | [] => false
  | c :: w => letB c && p.all wordB && stopB p && decide (p.length ≤ 20)
theorem word_part {p : List UInt8} (h : wordPB p = true) : PartOk p := by
  unfold wordPB at h
  split at h
  · cases h
  · rename_i c w
    simp only [Bool.and_eq_true, decide_eq_true_eq] at h
    obtain ⟨⟨⟨h1, h2⟩, h3⟩, h4⟩ := h
    exact ⟨by simp, h4, ⟨_, fun r hr => token_word c w r h1 (fun x hx => List.all_eq_true.1 h2 x hx) (fun d t e => sep_word (hr d t e)) (by omega)⟩, stop_of h3⟩
def quotPB (w : List UInt8) : Bool := !w.isEmpty && w.all quoB && decide (w.length ≤ 19)
theorem quot_part {w : List UInt8} (h : quotPB w = true) : PartOk (92 :: w) := by
  simp only [quotPB, Bool.and_eq_true, Bool.not_eq_true', List.isEmpty_eq_false_iff, decide_eq_true_eq] at h
  obtain ⟨⟨h1, h2⟩, h3⟩ := h
  refine ⟨by simp, by simp; omega, ⟨_, fun r hr => token_quoted w r h1 (fun x hx => List.all_eq_true.1 h2 x hx) (fun d t e => ⟨sep_quo (hr d t e), sep_cases (hr d t e)⟩) (by omega)⟩, stop_of ?_⟩
  cases w with
  | nil => exact absurd rfl h1
  | cons _ _ => rfl
theorem num_part (c : UInt8) (w : List UInt8) (h1 : (c :: w).all figB = true) (h2 : w = [] ∨ c ≠ 48) (h3 : valD 0 (c :: w) < 2147483648) (h4 : stopB (c :: w) = true) (h5 : (c :: w).length ≤ 20)
    (hof : ∀ n, 1 ≤ n → ∀ H, vcall T ext promo n 30 [.int .i64 32, .int .u64 ((valD 0 (c :: w) : Nat) : Int)] H = some (.agg [.int .i64 32, .int .u64 ((valD 0 (c :: w) : Nat) : Int), .int .u64 0], H)) : PartOk (c :: w) :=
  ⟨by simp, h5, ⟨_, fun r hr => token_num c w r (fun x hx => List.all_eq_true.1 h1 x hx) (fun d t e => ⟨sep_word (hr d t e), fun e2 => by have := hr d t e; rw [e2] at this; cases this⟩) h2 h3 hof⟩, stop_of h4⟩
theorem numq_part (c : UInt8) (d e : List UInt8) (W V X : Int) (sg : Bool) (h1 : (c :: d).all figB = true) (h2 : e.all wordB = true) (h4 : stopB (c :: d ++ 39 :: e) = true) (h5 : (c :: d ++ 39 :: e).length ≤ 20)
    (hread : ∀ n, 1 ≤ n → ∀ H, vcall T ext promo n 21 [.str (PS.of (c :: d ++ 39 :: e))] H = some (.tuple [.agg [.int .i64 W, .int .u64 V, .int .u64 X], .int .i64 0], H))
    (hcon : ∀ n, 1 ≤ n → ∀ H, Mx H → vcall T ext promo n 161 [.str (PS.of (c :: d ++ 39 :: e)), .str (PS.of [39, 115])] H = some (.bool sg, H)) : PartOk (c :: d ++ 39 :: e) :=
  ⟨by simp, h5, ⟨_, fun r hr => token_numq c d e r W V X sg (fun x hx => List.all_eq_true.1 h1 x hx) (fun x hx => List.all_eq_true.1 h2 x hx) (fun x t e => sep_word (hr x t e)) hread hcon⟩, stop_of h4⟩
theorem text_part (q t : List UInt8) (hx : ∀ r, Tx (q ++ r) t q.length) (ht : t.length ≤ 200) (hq : 0 < q.length) (hl : q.length ≤ 19) : PartOk (34 :: q) :=
  ⟨by simp, by simp; omega, ⟨_, fun r hr => token_text (q ++ r) t q.length (hx r) ht (by simp)⟩, stop_of (by cases q with | nil => simp at hq | cons _ _ => rfl)⟩
theorem ofTab (v : Int) (h : xTab tab30 [.int .i64 32, .int .u64 v] = some (.val (.agg [.int .i64 32, .int .u64 v, .int .u64 0]))) : ∀ n, 1 ≤ n → ∀ H, vcall T ext promo n 30 [.int .i64 32, .int .u64 v] H = some (.agg [.int .i64 32, .int .u64 v, .int .u64 0], H) := by
  intro n hn H
  obtain ⟨n, rfl⟩ : ∃ m, n = m + 1 := ⟨n - 1, by omega⟩
  exact call_ext (g := fun _ => xTab tab30) rfl h
theorem readTab (s : List UInt8) (W V X : Int) (h : xTab tab21 [.str (PS.of s)] = some (.val (.tuple [.agg [.int .i64 W, .int .u64 V, .int .u64 X], .int .i64 0]))) : ∀ n, 1 ≤ n → ∀ H, vcall T ext promo n 21 [.str (PS.of s)] H = some (.tuple [.agg [.int .i64 W, .int .u64 V, .int .u64 X], .int .i64 0], H) := by
  intro n hn H
  obtain ⟨n, rfl⟩ : ∃ m, n = m + 1 := ⟨n - 1, by omega⟩
  exact call_ext (g := fun _ => xTab tab21) rfl h
theorem call_max {f : Nat} {tab : List (List AV × AV)} (he : ext f = some (xTabM 0 tab)) {args : List AV} {v : AV} (h : xTab tab args = some (.val v)) : ∀ n, 1 ≤ n → ∀ H, Mx H → vcall T ext promo n f args H = some (v, H) := by
  intro n hn H hM
  obtain ⟨n, rfl⟩ : ∃ m, n = m + 1 := ⟨n - 1, by omega⟩
  obtain ⟨_, m, hm⟩ := hM
  refine call_ext he ?_
  unfold xTabM
  rw [hm]
  exact h
theorem signs_part : ∀ p ∈ signs, PartOk p := fun p hp => sign_part (List.all_eq_true.1 (show signs.all signB = true by decide +kernel) p hp)
theorem words_part : ∀ p ∈ words, PartOk p := fun p hp => word_part (List.all_eq_true.1 (show words.all wordPB = true by decide +kernel) p hp)
def nums : List (List UInt8) := [[48], [55], [49, 50, 51, 52, 53], [56, 39, 104, 102, 102], [52, 39, 98, 49, 48, 120, 122], [51, 39, 115, 100, 50], [54, 52, 39, 111, 49, 55]]
theorem con_ok (s : List UInt8) (sg : Bool) (h : xTab tab161 [.str (PS.of s), .str (PS.of [39, 115])] = some (.val (.bool sg))) : ∀ n, 1 ≤ n → ∀ H, Mx H → vcall T ext promo n 161 [.str (PS.of s), .str (PS.of [39, 115])] H = some (.bool sg, H) := call_max rfl h
theorem nums_part : ∀ p ∈ nums, PartOk p := by
  intro p hp
  simp only [nums, List.mem_cons, List.not_mem_nil, or_false] at hp
  rcases hp with rfl | rfl | rfl | rfl | rfl | rfl | rfl
  · exact num_part 48 [] (by decide) (.inl rfl) (by decide) (by decide) (by decide) (ofTab 0 (by kernel_rfl))
  · exact num_part 55 [] (by decide) (.inl rfl) (by decide) (by decide) (by decide) (ofTab 7 (by kernel_rfl))
  · exact num_part 49 [50, 51, 52, 53] (by decide) (.inr (by decide)) (by decide) (by decide) (by decide) (ofTab 12345 (by kernel_rfl))
  · exact numq_part 56 [] [104, 102, 102] 8 255 0 false (by decide) (by decide) (by decide) (by decide) (readTab _ _ _ _ (by kernel_rfl)) (con_ok _ _ (by kernel_rfl))
  · exact numq_part 52 [] [98, 49, 48, 120, 122] 4 10 3 false (by decide) (by decide) (by decide) (by decide) (readTab _ _ _ _ (by kernel_rfl)) (con_ok _ _ (by kernel_rfl))
  · exact numq_part 51 [] [115, 100, 50] 3 2 0 true (by decide) (by decide) (by decide) (by decide) (readTab _ _ _ _ (by kernel_rfl)) (con_ok _ _ (by kernel_rfl))
  · exact numq_part 54 [52] [111, 49, 55] 64 15 0 false (by decide) (by decide) (by decide) (by decide) (readTab _ _ _ _ (by kernel_rfl)) (con_ok _ _ (by kernel_rfl))
/-- What is quoted, and its quotation. -/
def raws : List (List UInt8) := [[], [97, 32, 98], [120, 34, 121], [92]]
def quots : List (List UInt8) := [[34, 34], [34, 97, 32, 98, 34], [34, 120, 92, 34, 121, 34], [34, 92, 92, 34]]
theorem quote_ok (i : Nat) (hi : i < 4) (n : Nat) (hn : 1 ≤ n) (H : VH) (hM : Mx H) : vcall T ext promo n 96 [.str (PS.of (raws.getD i []))] H = some (.str (PS.of (quots.getD i [])), H) := by
  match i, hi with
  | 0, _ => exact call_max (tab := tab96) rfl (by kernel_rfl) n hn H hM
  | 1, _ => exact call_max (tab := tab96) rfl (by kernel_rfl) n hn H hM
  | 2, _ => exact call_max (tab := tab96) rfl (by kernel_rfl) n hn H hM
  | 3, _ => exact call_max (tab := tab96) rfl (by kernel_rfl) n hn H hM
theorem quots_part : ∀ p ∈ quots, PartOk p := by
  intro p hp
  simp only [quots, List.mem_cons, List.not_mem_nil, or_false] at hp
  rcases hp with rfl | rfl | rfl | rfl
  · exact text_part [34] [] (fun r => .fin r) (by decide) (by decide) (by decide)
  · exact text_part [97, 32, 98, 34] [97, 32, 98] (fun r => .ch _ _ _ _ (by decide) (by decide) (by decide) (by decide) (.ch _ _ _ _ (by decide) (by decide) (by decide) (by decide) (.ch _ _ _ _ (by decide) (by decide) (by decide) (by decide) (.fin r)))) (by decide) (by decide) (by decide)
  · exact text_part [120, 92, 34, 121, 34] [120, 34, 121] (fun r => .ch _ _ _ _ (by decide) (by decide) (by decide) (by decide) (.esc _ _ _ _ (.inl rfl) (.ch _ _ _ _ (by decide) (by decide) (by decide) (by decide) (.fin r)))) (by decide) (by decide) (by decide)
  · exact text_part [92, 92, 34] [92] (fun r => .esc _ _ _ _ (.inr rfl) (.fin r)) (by decide) (by decide) (by decide)
def tails : List (List UInt8) := [[43], [47, 42], [49, 39, 98, 48], [47, 47]]
theorem tails_part : ∀ p ∈ tails, PartOk ([92, 113] ++ p) := by
  intro p hp
  simp only [tails, List.mem_cons, List.not_mem_nil, or_false] at hp
  rcases hp with rfl | rfl | rfl | rfl
  · exact quot_part (w := [113, 43]) (by decide +kernel)
  · exact quot_part (w := [113, 47, 42]) (by decide +kernel)
  · exact quot_part (w := [113, 49, 39, 98, 48]) (by decide +kernel)
  · exact quot_part (w := [113, 47, 47]) (by decide +kernel)
def nams : List (List UInt8) := [[97], [98, 49], [95], [119, 104, 105, 108], [77, 111, 100, 117, 108, 101]]
theorem nams_part : ∀ p ∈ nams, PartOk p := fun p hp => word_part (List.all_eq_true.1 (show nams.all wordPB = true by decide +kernel) p hp)
end Go.Vm.Tryd
