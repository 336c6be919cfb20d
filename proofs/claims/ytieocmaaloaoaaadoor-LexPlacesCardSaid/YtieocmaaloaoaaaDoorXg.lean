/- The tokens of a text. -/
import Derived.Test.YtieocmaaloaoaaaDoorXf
namespace Go.Vm.Tryd
set_option linter.unusedSectionVars false
set_option linter.unusedSimpArgs false
set_option linter.unusedVariables false
set_option maxRecDepth 10000
/-- A token's text, what stands behind it, and the token. -/
structure It where
  p : List UInt8
  g : List UInt8
  t : Tok
def fl : List It → List UInt8
  | [] => []
  | x :: l => x.p ++ (x.g ++ fl l)
def Good : List It → Prop
  | [] => True
  | x :: l => 0 < x.p.length ∧ TokAt (x.p ++ (x.g ++ fl l)) x.t x.p.length ∧ Bl (x.g ++ fl l) x.g.length ∧ Good l
/-- The cells of the tokens, each with its place; the last one is the text's end. -/
def toks : List It → Pos → List AV
  | [], p => Tok.zero.cells p.ln p.co
  | x :: l, p => x.t.cells p.ln p.co ++ toks l (p.go (x.p ++ x.g))
abbrev tyTok : Nat := 62
theorem sltTok : SlT 58 tyTok 9 := ⟨by kernel_rfl, ⟨Go.Proofs.Tryd.t62, by kernel_rfl, by kernel_rfl, by decide⟩, by kernel_rfl, by decide⟩
theorem tok_one (t : Tok) (ln co : Nat) : allOne (t.cells ln co) = true := rfl
theorem tok_len (t : Tok) (ln co : Nat) : (t.cells ln co).length = 9 := rfl
theorem plain_cells {H : VH} {q : Nat} {cs : List AV} (h : Plain H q cs) (n : Nat) (hn : n = cs.length) : H.cells q 0 n = some cs := cells_eq (fun i _ => by rw [Nat.zero_add, h.cell]) hn
/-- The block of a list. -/
def AtB (v : AV) (q : Nat) : Prop := ∃ o n c e, v = .slice (some (q, o)) n c e
theorem Grow.atLt {H : VH} {b e sz : Nat} {v : AV} {len : Nat} {cs : List AV} (h : Grow H b e sz v len cs) (hH : H.Ok) : ∀ q, AtB v q → q < H.next := by
  rintro q ⟨o, n, c, e', he⟩
  obtain ⟨_, h | ⟨q', e1, _, h2, _⟩⟩ := h
  · rw [h.1] at he; cases he
  · rw [e1] at he
    simp only [AV.slice.injEq, Option.some.injEq, Prod.mk.injEq] at he
    rw [← he.1.1]
    exact h2.lt hH
theorem Grow.keepQ {S : Nat → Prop} {H H' : VH} {b e sz : Nat} {v : AV} {len : Nat} {cs : List AV} (h : Grow H b e sz v len cs) (hH : H.Ok) (k : Keep S H H') (hs : ∀ q, AtB v q → b < q → ¬ S q) : Grow H' b e sz v len cs := by
  obtain ⟨hc, h | ⟨q, e1, h1, h2, h3⟩⟩ := h
  · exact ⟨hc, .inl h⟩
  · exact ⟨hc, .inr ⟨q, e1, h1, h2.keep hH k (hs q ⟨_, _, _, _, e1⟩ h1), h3⟩⟩
/-- The loop's head: blanks are skipped, a new token is laid. -/
theorem tok_start (n : Nat) (s : List UInt8) (hn : s.length + 300 ≤ n) (hl : s.length ≤ 16000) (b : Nat) (hb0 : b ≠ 0) (g r : List UInt8) (p : Pos) (v : AV) (k : Nat) (cs : List AV) {H : VH} (hd : s.drop p.at_ = g ++ r) (hbl : Bl (g ++ r) g.length) (hp : p.Ok) (hat : p.at_ ≤ s.length) (hH : H.Ok) (hM : Mx H) (hnx : b < H.next) (hs : Scan H b s p) (hg : Grow H b tyTok 9 v k cs) :
    ∃ H2 H4, vcall T ext promo n 97 [.ptr (some (b, 0))] H = some (.int .i64 0, H2) ∧ H2.cell b 2 = some (.int .i64 ((p.go g).ln : Int)) ∧ H2.cell b 3 = some (.int .i64 ((p.go g).co : Int)) ∧
      freeOf (.eff H2 (H2.fresh (Tok.zero.cells 0 0))) 0 9 [.idle, (.read [b] []), .idle, .idle, .idle, (.read [b] []), .idle, .idle, .idle] = true ∧
      (H2.fresh (Tok.zero.cells 0 0)).puts H2.next 0 (Tok.zero.cells (p.go g).ln (p.go g).co) = some H4 ∧ b < H2.next ∧ H2.next < H4.next ∧ H4.Ok ∧ Mx H4 ∧ Scan H4 b s (p.go g) ∧ Plain H4 H2.next (Tok.zero.cells (p.go g).ln (p.go g).co) ∧ Grow H4 b tyTok 9 v k cs ∧ Eff (fun y => b ≤ y) H H4 ∧ (p.go g).at_ ≤ s.length ∧ s.drop (p.go g).at_ = r ∧ (∀ q, AtB v q → q < H2.next) := by
  obtain ⟨H2, e2, s2, o2, d2⟩ := blank_ok n hb0 (tl := g ++ r) (by omega) (by omega) hbl (by simp) hd hp hat hH hM hs
  rw [List.take_left] at s2
  have hlen := congrArg List.length hd
  rw [List.length_drop, List.length_append] at hlen
  have p2 : Plain H2 b _ := s2
  have o3 := fresh_ok o2 (Tok.zero.cells 0 0)
  have k3 := Keep.fresh (fun _ => False) H2 (Tok.zero.cells 0 0)
  have hsame : allSame H2 (H2.fresh (Tok.zero.cells 0 0)) [b] = true := same_keep p2 o2 k3 (fun h => h)
  have q3 := fresh_plain o2 (Tok.zero.cells 0 0)
  have s3 := p2.keep o2 k3 (fun h => h)
  have hn2 := d2.eff.keep.next
  have hM2 : Mx H2 := hM.did hH d2 hb0
  have hM3 : Mx (H2.fresh (Tok.zero.cells 0 0)) := hM2.keep o2 k3 (fun h => h)
  obtain ⟨H4, e4, q4, d4⟩ := plain_puts0 (Tok.zero.cells (p.go g).ln (p.go g).co) 0 q3 o3 (by simp [tok_len]) rfl
  rw [show (Tok.zero.cells 0 0).take 0 ++ Tok.zero.cells (p.go g).ln (p.go g).co ++ (Tok.zero.cells 0 0).drop (0 + (Tok.zero.cells (p.go g).ln (p.go g).co).length) = Tok.zero.cells (p.go g).ln (p.go g).co from rfl] at q4
  have hn4 := d4.eff.keep.next
  simp only [fresh_next] at hn4
  have g2 := hg.keep hH d2.eff.keep (fun x e => .inl (by omega))
  have g4 : Grow H4 b tyTok 9 v k cs := by
    obtain ⟨hc, h | ⟨q, e1, h1, h2, h3⟩⟩ := g2
    · exact ⟨hc, .inl h⟩
    · have hq := h2.lt o2
      exact ⟨hc, .inr ⟨q, e1, h1, (h2.keep o2 k3 (fun h => h)).keep o3 d4.eff.keep (by omega), h3⟩⟩
  refine ⟨H2, H4, e2, p2.cell 2, p2.cell 3, by simp [freeOf, Tag.free, hsame], e4, by omega, by omega, d4.eff.ok, hM3.did o3 d4 (by omega), s3.keep o3 d4.eff.keep (show ¬ b = H2.next by omega), q4, g4, ?_, by rw [Pos.go_at]; omega, by rw [Pos.go_at, ← List.drop_drop, hd, List.drop_left], fun q hq => by have := hg.atLt hH q hq; omega⟩
  exact ((d2.eff.mono (S' := fun y => b ≤ y) fun y _ e => by omega).trans (Eff.fresh (fun y => b ≤ y) o2 _) fun x hx => .inl hx).trans (d4.eff.mono (S' := fun y => b ≤ y) fun y _ e => by omega) fun x hx => .inl hx
/-- The loop's end: the token is appended. -/
theorem tok_app {b : Nat} {v : AV} {k : Nat} {cs : List AV} {H : VH} (hH : H.Ok) (hM : Mx H) (hb0 : b ≠ 0) (hb : b < H.next) (hk : k < 200000) (hg : Grow H b tyTok 9 v k cs) (t : Tok) (ln co : Nat) :
    ∃ a c e H', vbuiltin T (H.fresh (t.cells ln co)) .append [58, 58] [v, .slice (some (H.next, 0)) 1 (some 1) 9] = some (.slice a (k + 1) c e, H') ∧ Grow H' b tyTok 9 (.slice a (k + 1) c e) (k + 1) (cs ++ t.cells ln co) ∧ H'.Ok ∧ Mx H' ∧ Eff (fun y => b ≤ y) H H' ∧ Keep (fun y => b < y) H H' ∧ H.next < H'.next := by
  have o1 := fresh_ok hH (t.cells ln co)
  have g1 := hg.keep hH (Keep.fresh (fun _ => False) H (t.cells ln co)) (fun _ h => h.elim)
  obtain ⟨v', H', a1, a2, a3, a4, a5⟩ := Grow.app sltTok g1 o1 (by simp only [fresh_next]; omega) (by omega) (p := H.next) (c := some 1) (es := 9) (new := t.cells ln co) (fresh_cells hH _ 0 9 (by simp [tok_len])) rfl rfl
  obtain ⟨a, c, e, rfl⟩ := a2.sl
  have kk : Keep (fun y => b < y) H H' := (Keep.fresh _ H _).trans a4.keep
  refine ⟨a, c, e, H', a1, a2, a3, hM.keep hH kk (by omega), (Eff.fresh (fun y => b ≤ y) hH _).trans (a4.mono (S' := fun y => b ≤ y) fun y _ e => Nat.le_of_lt e) fun x hx => .inl hx, kk, by simp only [fresh_next] at a5; omega⟩
theorem tokens_loop (n : Nat) (s : List UInt8) (hn : s.length + 300 ≤ n) (hl : s.length ≤ 16000) (H1 : VH) (hb0 : H1.next ≠ 0) :
    ∀ (l : List It) (g : List UInt8) (m k : Nat) (p : Pos) (v : AV) (cs : List AV) (H : VH), l.length < m → k + l.length < 100000 → s.drop p.at_ = g ++ fl l → Bl (g ++ fl l) g.length → Good l → p.Ok → p.at_ ≤ s.length → H.Ok → Mx H → H1.next < H.next → Scan H H1.next s p → Grow H H1.next tyTok 9 v k cs →
      ∃ v' H', loopN (L55_0 (vcall T ext promo n) n (PS.of s) H1) m [v] H = some (.ret, [v', .int .i64 0, .int .i64 0, .int .i64 0], H') ∧ Grow H' H1.next tyTok 9 v' (k + l.length + 1) (cs ++ toks l (p.go g)) ∧ Eff (fun y => H1.next ≤ y) H H' := by
  intro l
  induction l with
  | nil =>
    intro g m k p v cs H hm hk hd hbl hgood hp hat hH hM hnx hs hg
    obtain ⟨m, rfl⟩ : ∃ m', m = m' + 1 := ⟨m - 1, by omega⟩
    obtain ⟨H2, H4, e2, b2, b3, hfree, e4, n2, n4, o4, M4, s4, q4, g4, E4, hat4, hd4, hv4⟩ := tok_start n s hn hl H1.next hb0 g (fl []) p v k cs hd hbl hp hat hH hM hnx hs hg
    have hgo : (p.go g).at_ = s.length := by
      have := congrArg List.length hd4
      rw [List.length_drop] at this
      simp [fl] at this
      omega
    obtain ⟨wa, wc, we, H6, a1, a2, a3, a4, a5, _, _⟩ := tok_app o4 M4 hb0 (by omega) (by omega) g4 Tok.zero (p.go g).ln (p.go g).co
    refine ⟨_, H6, ?_, a2, E4.trans a5 fun x hx => .inl hx⟩
    obtain ⟨va, vc, ve, rfl⟩ := hg.sl
    rw [loopN_succ]
    unfold L55_0
    have b1 : H4.cell H1.next 1 = some (.int .i64 ((p.go g).at_ : Int)) := Plain.cell s4 1
    have r4 : H4.cells H2.next 0 9 = some (Tok.zero.cells (p.go g).ln (p.go g).co) := plain_cells q4 9 rfl
    have hfr : H2.fresh [.int .i64 0, .int .i64 0, .int .i64 0, .str (PS.of []), .bool false, .int .i64 0, .int .u64 0, .int .u64 0, .bool false] = H2.fresh (Tok.zero.cells 0 0) := rfl
    have e4' : (H2.fresh (Tok.zero.cells 0 0)).puts H2.next 0 [.int .i64 0, .int .i64 ((p.go g).ln : Int), .int .i64 ((p.go g).co : Int), .str (PS.of []), .bool false, .int .i64 0, .int .u64 0, .int .u64 0, .bool false] = some H4 := e4
    simp only [KA, KB, KD, reduceCtorEq, if_false, if_true, e2, ieq_dec, decide_true, b2, b3, hfr, hfree, e4', b1, of_len, hgo, r4]
    simp only [Tok.cells, Tok.zero, KA, KB, KD, reduceCtorEq, if_false, if_true]
    simp only [Tok.cells, Tok.zero] at a1
    rw [a1]
    simp only [KA, KB, KD, reduceCtorEq, if_false, if_true]
  | cons x l ih =>
    intro g m k p v cs H hm hk hd hbl hgood hp hat hH hM hnx hs hg
    obtain ⟨m, rfl⟩ : ∃ m', m = m' + 1 := ⟨m - 1, by omega⟩
    rw [List.length_cons] at hm hk
    obtain ⟨hx0, htok, hblx, hgl⟩ := hgood
    obtain ⟨H2, H4, e2, b2, b3, hfree, e4, n2, n4, o4, M4, s4, q4, g4, E4, hat4, hd4, hv4⟩ := tok_start n s hn hl H1.next hb0 g (fl (x :: l)) p v k cs hd hbl hp hat hH hM hnx hs hg
    have hd4' : s.drop (p.go g).at_ = x.p ++ (x.g ++ fl l) := hd4
    have hlen := congrArg List.length hd4'
    rw [List.length_drop, List.length_append] at hlen
    -- the token
    obtain ⟨H5, e5, q5, d5⟩ := htok n s H1.next H2.next (p.go g) (p.go g).ln (p.go g).co H4 (by omega) (by omega) (by omega) (by omega) hd4' hat4 o4 M4 s4 q4
    have s5 := s4.did o4 d5 (by omega)
    have M5 := M4.did o4 d5 (by omega)
    have hn5 := d5.eff.keep.next
    have g5 := g4.keepQ o4 d5.eff.keep (fun q hq _ e => by have := hv4 q hq; omega)
    -- it is skipped
    obtain ⟨H6, e6, s6, o6, d6⟩ := skip_ok n x.p (x.g ++ fl l) (by omega) (by omega) hd4' (Pos.Ok.go hp) d5.eff.ok s5
    have M6 := M5.did d5.eff.ok d6 hb0
    have hn6 := d6.eff.keep.next
    have g6 := g5.keepQ d5.eff.ok d6.eff.keep (fun q _ h e => by omega)
    have q6 := q5.keep d5.eff.ok d6.eff.keep (show ¬ H2.next = H1.next by omega)
    have r6 : H6.cells H2.next 0 9 = some (x.t.cells (p.go g).ln (p.go g).co) := plain_cells q6 9 rfl
    -- it is appended
    obtain ⟨wa, wc, we, H7, a1, a2, a3, a4, a5, a6, a7⟩ := tok_app o6 M6 hb0 (by omega) (by omega) g6 x.t (p.go g).ln (p.go g).co
    have s7 : Scan H7 H1.next s ((p.go g).go x.p) := Plain.keep s6 o6 a6 (by omega)
    have hat7 : ((p.go g).go x.p).at_ = (p.go g).at_ + x.p.length := Pos.go_at _ _
    obtain ⟨v', H', f1, f2, f3⟩ := ih x.g m (k + 1) ((p.go g).go x.p) (.slice wa (k + 1) wc we) (cs ++ x.t.cells (p.go g).ln (p.go g).co) H7 (by omega) (by omega) (by rw [hat7, ← List.drop_drop, hd4', List.drop_left]) hblx hgl (Pos.Ok.go (Pos.Ok.go hp)) (by omega) a3 a4 (by omega) s7 a2
    refine ⟨v', H', ?_, ?_, ?_⟩
    · obtain ⟨va, vc, ve, rfl⟩ := hg.sl
      rw [loopN_succ, ← f1]
      generalize loopN (L55_0 (vcall T ext promo n) n (PS.of s) H1) m = lp
      unfold L55_0
      have b1 : H4.cell H1.next 1 = some (.int .i64 ((p.go g).at_ : Int)) := Plain.cell s4 1
      have hne : ¬ (((p.go g).at_ : Nat) : Int) = (s.length : Int) := by omega
      have hfr : H2.fresh [.int .i64 0, .int .i64 0, .int .i64 0, .str (PS.of []), .bool false, .int .i64 0, .int .u64 0, .int .u64 0, .bool false] = H2.fresh (Tok.zero.cells 0 0) := rfl
      have e4' : (H2.fresh (Tok.zero.cells 0 0)).puts H2.next 0 [.int .i64 0, .int .i64 ((p.go g).ln : Int), .int .i64 ((p.go g).co : Int), .str (PS.of []), .bool false, .int .i64 0, .int .u64 0, .int .u64 0, .bool false] = some H4 := e4
      simp only [KA, KB, KD, reduceCtorEq, if_false, if_true, e2, ieq_dec, decide_true, b2, b3, hfr, hfree, e4', b1, of_len, hne, decide_false, e5, e6, r6]
      simp only [Tok.cells, KA, KB, KD, reduceCtorEq, if_false, if_true]
      simp only [Tok.cells] at a1
      rw [a1]
      simp only [KA, KB, KD, reduceCtorEq, if_false, if_true]
    · rw [show toks (x :: l) (p.go g) = x.t.cells (p.go g).ln (p.go g).co ++ toks l ((p.go g).go (x.p ++ x.g)) from rfl, Pos.go_app, ← List.append_assoc, List.length_cons, show k + (l.length + 1) + 1 = k + 1 + l.length + 1 by omega]
      exact f2
    · refine (((E4.trans (d5.eff.mono (S' := fun y => H1.next ≤ y) fun y _ e => by omega) fun x hx => .inl hx).trans (d6.eff.mono (S' := fun y => H1.next ≤ y) fun y _ e => by omega) fun x hx => .inl hx).trans a5 fun x hx => .inl hx).trans f3 fun x hx => .inl hx
theorem toks_len : ∀ (l : List It) (p : Pos), (toks l p).length = (l.length + 1) * 9
  | [], p => rfl
  | x :: l, p => by
    rw [toks, List.length_append, toks_len l, tok_len, List.length_cons]
    omega
def pos0 : Pos := ⟨0, 1, 1⟩
theorem tokens_ok (n : Nat) (l : List It) (hn : (fl l).length + 310 ≤ n) (hl : (fl l).length ≤ 16000) (hll : l.length < 10000) (hln : l.length + 5 ≤ n) (hst : Stop (fl l)) (hg : Good l) {H : VH} (hH : H.Ok) (hM : Mx H) :
    ∃ v' H', vcall T ext promo n 55 [.str (PS.of (fl l))] H = some (.tuple [v', .int .i64 0, .int .i64 0, .int .i64 0], H') ∧ Grow H' H.next tyTok 9 v' (l.length + 1) (toks l pos0) ∧ Eff (fun _ => False) H H' := by
  obtain ⟨n, rfl⟩ : ∃ m, n = m + 1 := ⟨n - 1, by omega⟩
  have o3 := fresh_ok (lo_ok hH) [.str (PS.of (fl l)), .int .i64 0, .int .i64 1, .int .i64 1]
  have q3 := fresh_plain (lo_ok hH) [.str (PS.of (fl l)), .int .i64 0, .int .i64 1, .int .i64 1]
  have M3 := hM.lo.keep (lo_ok hH) (Keep.fresh (fun _ => False) H.lo [.str (PS.of (fl l)), .int .i64 0, .int .i64 1, .int .i64 1]) (fun h => h)
  have h0 : H.next ≠ 0 := Nat.ne_of_gt hM.1
  obtain ⟨v', H4, e4, g4, E4⟩ := tokens_loop n (fl l) (by omega) hl H.lo h0 l [] n 0 pos0 (.slice none 0 (some 0) 0) [] _ (by omega) (by omega) rfl (.stop _ hst) hg ⟨by decide, by decide⟩ (Nat.zero_le _) o3 M3 (by simp) q3 (Grow.nil _ _ _ _)
  have hE : Eff (fun _ => False) H.lo H4 := (Eff.fresh (fun _ => False) (lo_ok hH) _).trans E4 fun x hx => .inr (by simpa using hx)
  rw [Nat.zero_add, List.nil_append] at g4
  obtain ⟨a, c, e, rfl⟩ := g4.sl
  have hlen : ¬ (16000 : Int) < ((fl l).length : Int) := by omega
  refine ⟨_, _, ok55 _ _ _ (r := (.tuple [.slice a (l.length + 1) c e, .int .i64 0, .int .i64 0, .int .i64 0], leave H H4 (.tuple [.slice a (l.length + 1) c e, .int .i64 0, .int .i64 0, .int .i64 0]))) ?_, ?_, hE.leave hH _⟩
  · unfold F55
    simp only [KA, KB, KD, reduceCtorEq, if_false, if_true, of_len, hlen]
    rw [e4]
    simp only [KA, KB, KD, reduceCtorEq, if_false, if_true]
  · obtain ⟨hc, ⟨h1, h2⟩ | ⟨q, h1, h2, h3, h4⟩⟩ := g4
    · omega
    · simp only [AV.slice.injEq] at h1
      obtain ⟨rfl, _, rfl, rfl⟩ := h1
      rw [leave_rest (by simp [flat, flats])]
      exact ⟨hc, .inr ⟨q, rfl, h2, h3.low _, h4⟩⟩
end Go.Vm.Tryd
