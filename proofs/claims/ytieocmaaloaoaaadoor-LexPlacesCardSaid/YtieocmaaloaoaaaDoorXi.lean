/- LexParts on the machine: tokens are found one by one, whatever separates them. -/
import Derived.Test.YtieocmaaloaoaaaDoorXh
namespace Go.Vm.Tryd
set_option linter.unusedSectionVars false
set_option linter.unusedSimpArgs false
set_option linter.unusedVariables false
set_option maxRecDepth 10000
open Classical in
noncomputable def tokP (p : List UInt8) : Tok := if h : PartOk p then Classical.choose h.tok else Tok.zero
theorem tokP_ok {p : List UInt8} (h : PartOk p) : ∀ r, Sep r → TokAt (p ++ r) (tokP p) p.length := by
  unfold tokP
  rw [dif_pos h]
  exact Classical.choose_spec h.tok
noncomputable def its : List (List UInt8) → List (List UInt8) → List It
  | p :: ps, g :: gs => ⟨p, g, tokP p⟩ :: its ps gs
  | _, _ => []
/-- What stands between two tokens. -/
structure GapOk (g : List UInt8) : Prop where
  len : g.length ≤ 9
  sep : ∀ r, Sep (g ++ r)
  bl : ∀ r, Stop r → Bl (g ++ r) g.length
theorem stop_nil : Stop [] := fun c t e => by cases e
theorem fl_its : ∀ (ps gs : List (List UInt8)), (∀ p ∈ ps, PartOk p) → (∀ g ∈ gs, GapOk g) → Stop (fl (its ps gs)) ∧ Good (its ps gs) ∧ (fl (its ps gs)).length ≤ 30 * ps.length ∧ (its ps gs).length ≤ ps.length
  | [], gs, _, _ => by
    cases gs <;> exact ⟨stop_nil, trivial, by simp [its, fl], by simp [its]⟩
  | p :: ps, [], _, _ => ⟨stop_nil, trivial, by simp [its, fl], by simp [its]⟩
  | p :: ps, g :: gs, hp, hg => by
    obtain ⟨h1, h2, h3, h4⟩ := fl_its ps gs (fun x hx => hp x (.tail _ hx)) (fun x hx => hg x (.tail _ hx))
    have P := hp p (.head _)
    have G := hg g (.head _)
    have hl := P.len
    have hgl := G.len
    exact ⟨P.stop _ (G.sep _), ⟨P.pos, tokP_ok P _ (G.sep _), G.bl _ h1, h2⟩, by simp only [its, fl, List.length_append, List.length_cons]; omega, by simp only [its, List.length_cons]; omega⟩
theorem its_len : ∀ (ps gs : List (List UInt8)), gs.length = ps.length → (its ps gs).length = ps.length
  | [], [], _ => rfl
  | p :: ps, g :: gs, h => by
    simp only [its, List.length_cons]
    rw [its_len ps gs (by simpa using h)]
theorem its_get : ∀ (ps gs : List (List UInt8)) (i : Nat), gs.length = ps.length → i < ps.length → ((its ps gs)[i]?).map (·.t) = some (tokP (ps.getD i []))
  | p :: ps, g :: gs, 0, _, _ => rfl
  | p :: ps, g :: gs, i + 1, h, hi => by
    simp only [its, List.getElem?_cons_succ]
    exact its_get ps gs i (by simpa using h) (by simpa using hi)
/-- The token of a number, and where it stands. -/
def tokI (l : List It) (i : Nat) : Tok := match l[i]? with | some x => x.t | none => Tok.zero
theorem toks_get : ∀ (l : List It) (p : Pos) (i j : Nat), i ≤ l.length → j < 9 → (toks l p)[i * 9 + j]? = ((tokI l i).cells (p.go (fl (l.take i))).ln (p.go (fl (l.take i))).co)[j]?
  | [], p, i, j, hi, hj => by
    obtain rfl : i = 0 := by simpa using hi
    simp only [toks, Nat.zero_mul, Nat.zero_add]
    rfl
  | x :: l, p, 0, j, hi, hj => by
    simp only [toks, Nat.zero_mul, Nat.zero_add]
    rw [List.getElem?_append_left (by rw [tok_len]; exact hj)]
    rfl
  | x :: l, p, i + 1, j, hi, hj => by
    simp only [toks]
    rw [List.getElem?_append_right (by rw [tok_len]; omega), tok_len, show (i + 1) * 9 + j - 9 = i * 9 + j by omega, toks_get l _ i j (by simpa using hi) hj]
    have e1 : tokI (x :: l) (i + 1) = tokI l i := rfl
    have e2 : fl ((x :: l).take (i + 1)) = (x.p ++ x.g) ++ fl (l.take i) := by simp [fl, List.append_assoc]
    rw [e1, e2, ← Pos.go_app]
theorem tok_cells {H : VH} {q : Nat} {l : List It} (hq : ∀ o, H.cell q o = (toks l pos0)[o]?) (i : Nat) (hi : i ≤ l.length) : H.cells q (0 + i * 9) 9 = some ((tokI l i).cells (pos0.go (fl (l.take i))).ln (pos0.go (fl (l.take i))).co) := by
  refine cells_eq (fun j hj => ?_) (by rw [tok_len])
  rw [hq, Nat.zero_add, toks_get l pos0 i j hi hj]
/-- Two equal tokens. -/
theorem tokVeq (t : Tok) : veq T 60 tyTok (.agg (t.cells 0 0)) (.agg (t.cells 0 0)) = some true := by
  have key : ∀ (s : PS) (k w v x : Int) (q g : Bool), veq T 60 tyTok (.agg [.int .i64 k, .int .i64 0, .int .i64 0, .str s, .bool q, .int .i64 w, .int .u64 v, .int .u64 x, .bool g]) (.agg [.int .i64 k, .int .i64 0, .int .i64 0, .str s, .bool q, .int .i64 w, .int .u64 v, .int .u64 x, .bool g]) =
      (match (if kindEq .i64 .i64 then some (ieq k k) else none : Option Bool) with
        | some true => (match (some (s.eq s) : Option Bool) with
          | some true => (match (some (q == q) : Option Bool) with
            | some true => (match (match (if kindEq .i64 .i64 then some (ieq w w) else none : Option Bool) with
                | some true => (match (if kindEq .u64 .u64 then some (ieq v v) else none : Option Bool) with
                  | some true => (match (if kindEq .u64 .u64 then some (ieq x x) else none : Option Bool) with
                    | some true => some true
                    | r => r)
                  | r => r)
                | r => r : Option Bool) with
              | some true => (match (some (g == g) : Option Bool) with
                | some true => some true
                | r => r)
              | r => r)
            | r => r)
          | r => r)
        | r => r) := by
    intro s k w v x q g
    kernel_rfl
  show veq T 60 tyTok (.agg [.int .i64 t.kind, .int .i64 0, .int .i64 0, .str (PS.of t.text), .bool t.quoted, .int .i64 t.w, .int .u64 t.v, .int .u64 t.x, .bool t.sg]) (.agg [.int .i64 t.kind, .int .i64 0, .int .i64 0, .str (PS.of t.text), .bool t.quoted, .int .i64 t.w, .int .u64 t.v, .int .u64 t.x, .bool t.sg]) = _
  rw [key]
  simp [str_eq, ieq_dec, show kindEq .i64 .i64 = true from rfl, show kindEq .u64 .u64 = true from rfl]
theorem tokNe (t : Tok) : vbinOp T .neq 62 (.agg [.int .i64 t.kind, .int .i64 0, .int .i64 0, .str (PS.of t.text), .bool t.quoted, .int .i64 t.w, .int .u64 t.v, .int .u64 t.x, .bool t.sg]) (.agg [.int .i64 t.kind, .int .i64 0, .int .i64 0, .str (PS.of t.text), .bool t.quoted, .int .i64 t.w, .int .u64 t.v, .int .u64 t.x, .bool t.sg]) = some (.bool false) := by
  show (veq T 60 tyTok _ _).map _ = _
  have := tokVeq t
  simp only [Tok.cells] at this
  have e : veq T 60 tyTok (.agg [.int .i64 t.kind, .int .i64 0, .int .i64 0, .str (PS.of t.text), .bool t.quoted, .int .i64 t.w, .int .u64 t.v, .int .u64 t.x, .bool t.sg]) (.agg [.int .i64 t.kind, .int .i64 0, .int .i64 0, .str (PS.of t.text), .bool t.quoted, .int .i64 t.w, .int .u64 t.v, .int .u64 t.x, .bool t.sg]) = some true := this
  rw [e]
  rfl
def seps : List (List UInt8) := [[32], [10], [9], [32, 47, 42, 32, 120, 32, 42, 47, 32], [32, 47, 47, 32, 121, 10], [10, 10]]
theorem gap_sep {c : UInt8} {g : List UInt8} (h : sepB c = true) : ∀ r, Sep (c :: g ++ r) := fun r d t e => by obtain ⟨rfl, _⟩ := List.cons.inj e; exact h
theorem seps_gap : ∀ g ∈ seps, GapOk g := by
  intro g hg
  simp only [seps, List.mem_cons, List.not_mem_nil, or_false] at hg
  rcases hg with rfl | rfl | rfl | rfl | rfl | rfl
  · exact ⟨by decide, gap_sep (by decide), fun r h => .ws _ _ 0 (.inl rfl) (.stop _ h)⟩
  · exact ⟨by decide, gap_sep (by decide), fun r h => .ws _ _ 0 (.inr (.inr rfl)) (.stop _ h)⟩
  · exact ⟨by decide, gap_sep (by decide), fun r h => .ws _ _ 0 (.inr (.inl rfl)) (.stop _ h)⟩
  · exact ⟨by decide, gap_sep (by decide), fun r h => .ws _ _ 8 (.inl rfl) (.block [32, 120, 32] (32 :: r) 1 (by rfl) (.ws _ _ 0 (.inl rfl) (.stop _ h)))⟩
  · exact ⟨by decide, gap_sep (by decide), fun r h => .ws _ _ 5 (.inl rfl) (.line [32, 121] (10 :: r) 1 (by decide) (fun c t e => by obtain ⟨rfl, _⟩ := List.cons.inj e; rfl) (.ws _ _ 0 (.inr (.inr rfl)) (.stop _ h)))⟩
  · exact ⟨by decide, gap_sep (by decide), fun r h => .ws _ _ 1 (.inr (.inr rfl)) (.ws _ _ 0 (.inr (.inr rfl)) (.stop _ h))⟩
def ones (ps : List (List UInt8)) : List (List UInt8) := ps.map fun _ => [32]
theorem ones_gap (ps : List (List UInt8)) : ∀ g ∈ ones ps, GapOk g := fun g hg => by
  obtain ⟨_, _, rfl⟩ := List.mem_map.1 hg
  exact seps_gap _ (.head _)
theorem drop_getD {ps : List (List UInt8)} {i : Nat} {p : List UInt8} {rest : List (List UInt8)} (h : ps.drop i = p :: rest) : i < ps.length ∧ ps.getD i [] = p ∧ ps.drop (i + 1) = rest := by
  have h1 : i < ps.length := by
    cases Nat.lt_or_ge i ps.length with
    | inl h => exact h
    | inr g => rw [List.drop_of_length_le g] at h; cases h
  rw [List.drop_eq_getElem_cons h1] at h
  obtain ⟨rfl, rfl⟩ := List.cons.inj h
  exact ⟨h1, by rw [List.getD_eq_getElem?_getD, List.getElem?_eq_getElem h1]; rfl, rfl⟩
theorem lp_loop (n : Nat) (hn : 100 ≤ n) {H0 H3 : VH} {K : Nat} (ps : List (List UInt8)) (hps : ps.length ≤ 30) (hpo : ∀ p ∈ ps, PartOk p) (hK : K < 800000000) (a8 : Option (Nat × Nat)) (c8 : Option Nat) (e8 : Nat) :
    ∀ (rest : List (List UInt8)) (m i : Nat) (one two : List UInt8) (H : VH), ps.drop i = rest → i ≤ ps.length → rest.length < m → one.length ≤ 30 * i → two.length ≤ 30 * i → Run H0 H H3.next (K + i) → Grow H H3.next 9 1 (.slice a8 ps.length c8 e8) ps.length (strCells ps) →
      ∃ gs H', gs.length = rest.length ∧ (∀ g ∈ gs, GapOk g) ∧ loopN (L9_0 (vcall T ext promo n) n H3 a8 ps.length) m [.str (PS.of one), .str (PS.of two), .int .i64 (i : Int)] H = some (.exit 0, [.str (PS.of (one ++ fl (its rest (ones rest)))), .str (PS.of (two ++ fl (its rest gs)))], H') ∧
        Run H0 H' H3.next (K + i + rest.length) ∧ Grow H' H3.next 9 1 (.slice a8 ps.length c8 e8) ps.length (strCells ps) := by
  intro rest
  induction rest with
  | nil =>
    intro m i one two H hd hi hm h1 h2 R hg
    obtain ⟨m, rfl⟩ : ∃ m', m = m' + 1 := ⟨m - 1, by omega⟩
    have hlen : ps.length ≤ i := by
      have := congrArg List.length hd
      rw [List.length_drop] at this
      simp at this
      omega
    have h' : ¬ (i : Int) < (ps.length : Int) := by omega
    refine ⟨[], H, rfl, (fun _ h => by cases h), ?_, R, hg⟩
    rw [loopN_succ]
    unfold L9_0
    simp only [KA, KB, KD, reduceCtorEq, if_false, if_true, h', its, fl, ones, List.map_nil, List.append_nil]
  | cons p rest ih =>
    intro m i one two H hd hi hm h1 h2 R hg
    obtain ⟨m, rfl⟩ : ∃ m', m = m' + 1 := ⟨m - 1, by omega⟩
    rw [List.length_cons] at hm
    obtain ⟨hlt, hp, hd'⟩ := drop_getD hd
    have P : PartOk p := hpo p (by rw [← hp]; exact getD_mem hlt)
    have hpl := P.len
    obtain ⟨q, hq1, hq2, hq3⟩ := hg.cells (by omega)
    simp only [AV.slice.injEq] at hq1
    obtain ⟨rfl, _, rfl, rfl⟩ := hq1
    have hcell : H.cell q (0 + i * 1) = some (.str (PS.of p)) := by
      rw [Nat.zero_add, Nat.mul_one, hq3, strCells_getD ps i hlt, hp]
    obtain ⟨j, H2, j1, e2, hc, R2, G2⟩ := pick_ok n (by omega) R (by omega) seps (by decide) (by decide)
    have hgap := seps_gap _ (getD_mem j1)
    have hgl := hgap.len
    generalize hgj : seps.getD j [] = gj at hc hgap hgl
    have e2' : vcall T ext promo n 15 [.ptr (some (H3.next, 0)), .int .i64 6] (H.fresh [.str (PS.of [32]), .str (PS.of [10]), .str (PS.of [9]), .str (PS.of [32, 47, 42, 32, 120, 32, 42, 47, 32]), .str (PS.of [32, 47, 47, 32, 121, 10]), .str (PS.of [10, 10])]) = some (.int .i64 (j : Int), H2) := e2
    have hj2 : (j : Int) < ((6 : Nat) : Int) := by have : j < 6 := j1; omega
    have hj1 : (0 : Int) ≤ (j : Int) := by omega
    have h' : (i : Int) < (ps.length : Int) := by omega
    have h0 : (0 : Int) ≤ (i : Int) := by omega
    obtain ⟨gs, H', f1, f2, f3, f4, f5⟩ := ih m (i + 1) (one ++ (p ++ [32])) (two ++ (p ++ gj)) H2 hd' (by omega) (by omega) (by simp; omega) (by simp; omega) (by rw [← Nat.add_assoc]; exact R2) (G2 _ _ _ _ _ hg)
    refine ⟨gj :: gs, H', by simp [f1], (fun g hg => by
      rcases List.mem_cons.1 hg with rfl | hg
      · exact hgap
      · exact f2 g hg), ?_, by rw [List.length_cons, show K + i + (rest.length + 1) = K + (i + 1) + rest.length by omega]; exact f4, f5⟩
    rw [loopN_succ]
    generalize loopN (L9_0 (vcall T ext promo n) n H3 (some (q, 0)) ps.length) m = lp at f3 ⊢
    unfold L9_0
    simp only [KA, KB, KD, reduceCtorEq, if_false, if_true, h', h0, and_self, Bool.and_eq_true, Int.toNat_natCast, hcell, str_add p [32] (by simp; omega), str_add one (p ++ [32]) (by simp; omega), e2', hj1, hj2, hc, str_add p gj (by omega), str_add two (p ++ gj) (by simp; omega), fw_add1 i (by omega), f3]
    simp only [its, fl, ones, List.map_cons, List.append_assoc]
theorem single_ok (n : Nat) (hn : 400 ≤ n) (p : List UInt8) (P : PartOk p) {H : VH} (hH : H.Ok) (hM : Mx H) :
    ∃ q H' , vcall T ext promo n 55 [.str (PS.of p)] H = some (.tuple [.slice (some (q, 0)) 2 none 9, .int .i64 0, .int .i64 0, .int .i64 0], H') ∧ (∃ ln co, H'.cells q 0 9 = some ((tokP p).cells ln co)) ∧ Eff (fun _ => False) H H' := by
  have hpl := P.len
  have hfl : fl [⟨p, [], tokP p⟩] = p := by simp [fl]
  have hsep : Sep [] := fun d t e => by cases e
  obtain ⟨v, H', e1, g1, k1⟩ := tokens_ok n [⟨p, [], tokP p⟩] (by rw [hfl]; omega) (by rw [hfl]; omega) (by simp) (by simp; omega) (by rw [hfl]; have := P.stop [] hsep; rwa [List.append_nil] at this) ⟨P.pos, tokP_ok P _ hsep, .stop _ stop_nil, trivial⟩ hH hM
  obtain ⟨q, rfl, _, hq⟩ := g1.cells (by simp)
  rw [hfl] at e1
  have := tok_cells (l := [⟨p, [], tokP p⟩]) hq 0 (by simp)
  rw [show 0 + 0 * 9 = 0 from rfl] at this
  exact ⟨q, H', e1, ⟨_, _, this⟩, k1⟩
theorem cmp_loop (n : Nat) (hn : 500 ≤ n) (ps ga gb : List (List UInt8)) (hps : ps.length ≤ 30) (hpo : ∀ p ∈ ps, PartOk p) (ha : ga.length = ps.length) (hb : gb.length = ps.length) (q8 qa qb : Nat) (H0 : VH) (h0 : H0.Ok)
    (hq8 : q8 < H0.next) (hqa : qa < H0.next) (hqb : qb < H0.next) (c8 : ∀ o, H0.cell q8 o = (strCells ps)[o]?) (ca : ∀ o, H0.cell qa o = (toks (its ps ga) pos0)[o]?) (cb : ∀ o, H0.cell qb o = (toks (its ps gb) pos0)[o]?) (hM0 : Mx H0) :
    ∀ (m i : Nat) (H : VH), i ≤ ps.length → ps.length - i < m → Eff (fun _ => False) H0 H →
      ∃ H', loopN (L9_1 (vcall T ext promo n) n (some (q8, 0)) ps.length (some (qa, 0)) (ps.length + 1) (some (qb, 0)) (ps.length + 1)) m [.int .i64 (i : Int)] H = some (.exit 2, [], H') := by
  intro m
  induction m with
  | zero => intro i H _ h; omega
  | succ m ih =>
    intro i H hi hm k
    rw [loopN_succ]
    generalize loopN (L9_1 (vcall T ext promo n) n (some (q8, 0)) ps.length (some (qa, 0)) (ps.length + 1) (some (qb, 0)) (ps.length + 1)) m = lp at ih ⊢
    unfold L9_1
    by_cases h : i < ps.length
    · have h' : (i : Int) < (ps.length : Int) := by omega
      have h1 : (i : Int) < ((ps.length + 1 : Nat) : Int) := by omega
      have h0' : (0 : Int) ≤ (i : Int) := by omega
      have hla := its_len ps ga ha
      have hlb := its_len ps gb hb
      have P := hpo _ (getD_mem h)
      have hia := its_get ps ga i ha h
      have hib := its_get ps gb i hb h
      have hta : tokI (its ps ga) i = tokP (ps.getD i []) := by
        unfold tokI
        cases e : (its ps ga)[i]? with
        | none => rw [e] at hia; cases hia
        | some x => rw [e] at hia; exact Option.some.inj hia
      have htb : tokI (its ps gb) i = tokP (ps.getD i []) := by
        unfold tokI
        cases e : (its ps gb)[i]? with
        | none => rw [e] at hib; cases hib
        | some x => rw [e] at hib; exact Option.some.inj hib
      have kc : ∀ q o, q < H0.next → H.cell q o = H0.cell q o := fun q o hq => keep_cell k.keep h0 hq (fun h => h) o
      have ra := tok_cells (H := H) (q := qa) (l := its ps ga) (fun o => by rw [kc qa o hqa]; exact ca o) i (by omega)
      have rb := tok_cells (H := H) (q := qb) (l := its ps gb) (fun o => by rw [kc qb o hqb]; exact cb o) i (by omega)
      have r8 : H.cell q8 (0 + i * 1) = some (.str (PS.of (ps.getD i []))) := by rw [Nat.zero_add, Nat.mul_one, kc q8 i hq8, c8]; exact strCells_getD ps i h
      rw [hta] at ra
      rw [htb] at rb
      obtain ⟨sq, H2, e5, ⟨ln, co, r5⟩, k5⟩ := single_ok n (by omega) (ps.getD i []) P k.ok (hM0.keep h0 k.keep (fun h => h))
      obtain ⟨H', e6⟩ := ih (i + 1) H2 (by omega) (by omega) (k.trans k5 fun x hx => hx.elim)
      generalize tokP (ps.getD i []) = t at ra rb r5
      refine ⟨H', ?_⟩
      simp only [KA, KB, KD, reduceCtorEq, if_false, if_true, h', h1, h0', and_self, Bool.and_eq_true, Int.toNat_natCast, ra, rb, r8, e5]
      simp only [Tok.cells, KA, KB, KD, reduceCtorEq, if_false, if_true, h', h1, h0', and_self, Bool.and_eq_true, Int.toNat_natCast, rb, r8, e5, ieq_dec, decide_true, show ((2 : Nat) : Int) = 2 from rfl, tokNe, Int.le_refl, show (0 : Int) < 2 by decide]
      rw [r5]
      simp only [Tok.cells, KA, KB, KD, reduceCtorEq, if_false, if_true, tokNe, fw_add1 i (by omega), e6]
    · have h' : ¬ (i : Int) < (ps.length : Int) := by omega
      simp only [KA, KB, KD, reduceCtorEq, if_false, if_true, h']
      exact ⟨H, rfl⟩
theorem chopped_ok (n : Nat) (hn : 1 ≤ n) {H : VH} (hM : Mx H) : vcall T ext promo n 53 [] H = some (.bool true, H) := call_max (tab := tab53) rfl (by kernel_rfl) n hn H hM
theorem lexParts_vm (n : Nat) (hn : 3001 ≤ n) {H : VH} (hH : H.Ok) {m : Int} (hmx : 0 < H.next ∧ H.cell 0 0 = some (.int .i64 m)) (a : Option (Nat × Nat)) (l : Nat) (c : Option Nat) (e : Nat) (hN : Nums H H.next a l) :
    ∃ H', vcall T ext promo n 9 [.slice a l c e] H = some (.bool true, H') := by
  obtain ⟨n, rfl⟩ : ∃ m, n = m + 1 := ⟨n - 1, by omega⟩
  have hM : Mx H := ⟨hmx.1, m, hmx.2⟩
  obtain ⟨o2, s2⟩ := start hH c e hN
  have M2 : Mx (H.lo.fresh [.slice a l c e, .int .i64 0]) := hM.lo.keep (lo_ok hH) (Keep.fresh (fun _ => False) H.lo _) (fun h => h)
  have hb0 : H.next ≠ 0 := Nat.ne_of_gt hM.1
  obtain ⟨v, ps, H7, e7, hps, hpo, R7, g7⟩ := parts_ok n (by omega) o2 M2 s2 (by omega) hb0
  obtain ⟨a8, c8, e8, rfl⟩ := g7.sl
  obtain ⟨gs, H8, l8, gap8, f8, R8, g8⟩ := lp_loop n (by omega) (H3 := H.lo) ps hps hpo (by omega) a8 c8 e8 ps n 0 [] [] H7 rfl (by omega) (by omega) (by simp) (by simp) R7 g7
  have hlo : (ones ps).length = ps.length := by simp [ones]
  obtain ⟨t1, t2, t3, t4⟩ := fl_its ps (ones ps) hpo (ones_gap ps)
  obtain ⟨u1, u2, u3, u4⟩ := fl_its ps gs hpo gap8
  obtain ⟨va, H9, e9, g9, k9⟩ := tokens_ok n (its ps (ones ps)) (by omega) (by omega) (by omega) (by omega) t1 t2 R8.ok R8.mx
  have M9 := R8.mx.keep R8.ok k9.keep (fun h => h)
  obtain ⟨vb, H10, e10, g10, k10⟩ := tokens_ok n (its ps gs) (by omega) (by omega) (by omega) (by omega) u1 u2 k9.ok M9
  have M10 := M9.keep k9.ok k10.keep (fun h => h)
  obtain ⟨qa, rfl, _, ca⟩ := g9.cells (by omega)
  obtain ⟨qb, rfl, _, cb⟩ := g10.cells (by omega)
  rw [its_len ps (ones ps) hlo] at e9
  rw [its_len ps gs l8] at e10
  have hqa : qa < H9.next := g9.atLt k9.ok qa ⟨_, _, _, _, rfl⟩
  have hqb : qb < H10.next := g10.atLt k10.ok qb ⟨_, _, _, _, rfl⟩
  have hE : ∃ H11, loopN (L9_1 (vcall T ext promo n) n a8 ps.length (some (qa, 0)) (ps.length + 1) (some (qb, 0)) (ps.length + 1)) n [.int .i64 0] H10 = some (.exit 2, [], H11) := by
    rcases Nat.eq_zero_or_pos ps.length with h0 | h0
    · obtain ⟨n, rfl⟩ : ∃ m, n = m + 1 := ⟨n - 1, by omega⟩
      rw [loopN_succ]
      unfold L9_1
      have h' : ¬ (0 : Int) < (ps.length : Int) := by omega
      simp only [KA, KB, KD, reduceCtorEq, if_false, if_true, h']
      exact ⟨_, rfl⟩
    · obtain ⟨q8, hq8, _, c8'⟩ := g8.cells h0
      have hlt8 : q8 < H8.next := g8.atLt R8.ok q8 ⟨_, _, _, _, hq8⟩
      simp only [AV.slice.injEq] at hq8
      obtain ⟨rfl, _, rfl, rfl⟩ := hq8
      exact cmp_loop n (by omega) ps (ones ps) gs hps hpo hlo l8 q8 qa qb H10 k10.ok (by have := k9.keep.next; have := k10.keep.next; omega) (by have := k10.keep.next; omega) hqb
        (fun o => by rw [keep_cell k10.keep k9.ok (by have := k9.keep.next; omega) (fun h => h) o, keep_cell k9.keep R8.ok hlt8 (fun h => h) o]; exact c8' o)
        (fun o => by rw [keep_cell k10.keep k9.ok hqa (fun h => h) o]; exact ca o) cb M10 n 0 H10 (by omega) (by omega) (Eff.refl k10.ok)
  obtain ⟨H11, e11⟩ := hE
  refine ⟨_, ok9 _ _ _ _ _ _ (r := (.bool true, leave H H11 (.bool true))) ?_⟩
  unfold F9
  have e7' : vcall T ext promo n 54 [.ptr (some (H.lo.next, 0))] (H.lo.fresh [.slice a l c e, .int .i64 0]) = some (.slice a8 ps.length c8 e8, H7) := e7
  have f8' : loopN (L9_0 (vcall T ext promo n) n H.lo a8 ps.length) n [.str (PS.of []), .str (PS.of []), .int .i64 0] H7 = some (.exit 0, [.str (PS.of (fl (its ps (ones ps)))), .str (PS.of (fl (its ps gs)))], H8) := f8
  have h1 : fwrap .i64 ((ps.length : Int) + 1) = ((ps.length + 1 : Nat) : Int) := fw_add1 ps.length (by omega)
  simp only [KA, KB, KD, reduceCtorEq, if_false, if_true, chopped_ok n (by omega) hM.lo, e7', f8', e9, e10, ieq_dec, decide_true, h1]
  rw [e11]
  simp only [KA, KB, KD, reduceCtorEq, if_false, if_true]
end Go.Vm.Tryd
