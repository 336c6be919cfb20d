/- Arrays of messages in the heap; sorted lists, each once. -/
import Derived.Test.YtieocmaaloaoaaaDoorFs
import Derived.Test.YtieocmaaloaoaaaDoorNb
import Derived.Sort.AssemblyPlain
namespace Go.Vm.Tryd
set_option linter.unusedSectionVars false
set_option linter.unusedSimpArgs false
set_option linter.unusedVariables false
set_option maxRecDepth 10000
/-! Arrays of messages in the heap: reading, exchanging, comparing. -/
section
open Go.Sort (swp)
/-- A message. -/
structure N where
  f : List UInt8
  ln : Int
  co : Int
  cd : Int
  t : List UInt8
  deriving DecidableEq, Inhabited
/-- Its cells. -/
def N.cells (x : N) : List AV := [.str (PS.of x.f), .int .i64 x.ln, .int .i64 x.co, .int .i64 x.cd, .str (PS.of x.t)]
theorem N.cells_len (x : N) : x.cells.length = 5 := rfl
def flat (l : List N) : List AV := l.flatMap N.cells
theorem flat_nil : flat [] = [] := rfl
theorem flat_cons (x : N) (l : List N) : flat (x :: l) = x.cells ++ flat l := rfl
theorem flat_app (l l' : List N) : flat (l ++ l') = flat l ++ flat l' := List.flatMap_append
theorem flat_len : ∀ l : List N, (flat l).length = l.length * 5
  | [] => rfl
  | x :: l => by rw [flat_cons, List.length_append, flat_len l, N.cells_len, List.length_cons]; omega
theorem flat_get : ∀ (l : List N) (i j : Nat), j < 5 → (flat l)[i * 5 + j]? = (l[i]?).bind fun x => x.cells[j]?
  | [], i, j, _ => by simp [flat]
  | x :: l, 0, j, h => by
    rw [flat_cons, List.getElem?_append_left (by rw [N.cells_len]; omega)]
    simp
  | x :: l, i + 1, j, h => by
    rw [flat_cons, List.getElem?_append_right (by rw [N.cells_len]; omega), N.cells_len, show (i + 1) * 5 + j - 5 = i * 5 + j by omega, flat_get l i j h]
    simp
def setAll (cs : List AV) (o : Nat) : List AV → List AV
  | [] => cs
  | v :: vs => setAll (cs.set o v) (o + 1) vs
theorem setAll_len : ∀ (vs cs : List AV) (o : Nat), (setAll cs o vs).length = cs.length
  | [], _, _ => rfl
  | v :: vs, cs, o => by rw [setAll, setAll_len vs]; simp
theorem setAll_get : ∀ (vs cs : List AV) (o k : Nat), o + vs.length ≤ cs.length → (setAll cs o vs)[k]? = if o ≤ k ∧ k < o + vs.length then vs[k - o]? else cs[k]?
  | [], cs, o, k, _ => by
    rw [setAll, if_neg (by simp)]
  | v :: vs, cs, o, k, h => by
    simp only [List.length_cons] at h ⊢
    rw [setAll, setAll_get vs _ _ _ (by simp; omega), List.getElem?_set]
    by_cases e : o = k
    · subst e
      rw [if_neg (by omega), if_pos rfl, if_pos (by omega), if_pos (by omega)]
      try simp
    · by_cases c : o + 1 ≤ k ∧ k < o + 1 + vs.length
      · rw [if_pos c, if_pos (by omega), show k - o = (k - (o + 1)) + 1 by omega]
        simp
      · rw [if_neg c, if_neg e, if_neg (by omega)]
theorem flat_set (l : List N) (i : Nat) (h : i < l.length) (y : N) : setAll (flat l) (0 + i * 5) y.cells = flat (l.set i y) := by
  apply List.ext_getElem?
  intro k
  have hl := flat_len l
  rw [setAll_get _ _ _ _ (by rw [N.cells_len]; omega), N.cells_len]
  have hk : k = (k / 5) * 5 + k % 5 := by omega
  have hm : k % 5 < 5 := by omega
  generalize k / 5 = q at hk
  generalize k % 5 = r at hk hm
  subst hk
  rw [flat_get _ _ _ hm, flat_get _ _ _ hm, List.getElem?_set]
  by_cases e : i = q
  · subst e
    rw [if_pos (by omega), if_pos rfl, if_pos h, show i * 5 + r - (0 + i * 5) = r by omega]
    rfl
  · rw [if_neg (by omega), if_neg e]
/-- What was done in a heap beside new blocks: block b alone may have been written. -/
structure Did (b : Nat) (H H' : VH) : Prop where
  eff : Eff (· = b) H H'
  same : b < H'.low → H'.row? b = H.row? b
theorem Did.refl {b : Nat} {H : VH} (h : H.Ok) : Did b H H := ⟨.refl h, fun _ => rfl⟩
theorem Did.trans {b : Nat} {H H1 H2 : VH} (h : Did b H H1) (k : Did b H1 H2) : Did b H H2 :=
  ⟨h.eff.trans k.eff fun x hx => .inl hx, fun hb => (k.same hb).trans (h.same (Nat.lt_of_lt_of_le hb k.eff.low))⟩
theorem Did.fresh {b : Nat} {H : VH} (h : H.Ok) (hb : b < H.next) (cs : List AV) : Did b H (H.fresh cs) :=
  ⟨.fresh _ h cs, fun _ => by unfold VH.row?; rw [fresh_get, if_neg (by omega)]⟩
theorem plain_ofRow {H H' : VH} {b : Nat} {cs : List AV} (h : Plain H' b cs) (hH : H.Ok) {S : Nat → Prop} (k : Keep S H H') (e : H'.row? b = H.row? b) : Plain H b cs := by
  obtain ⟨r, h1, h2, h3, h4, h5, h6⟩ := h.row
  rw [e] at h1
  exact ⟨r, h1, h2, h3, h4, h5, by rw [← keep_from k (hH.lin b r h1)]; exact h6⟩
theorem leave_cases (H H' : VH) (v : AV) : (leave H H' v = H ∧ H'.low = H.next) ∨ leave H H' v = { H' with low := min H.low H'.low } := by
  unfold leave
  split
  · rename_i h
    simp only [Bool.and_eq_true, Nat.beq_eq] at h
    first
      | exact .inl ⟨rfl, h.1⟩
      | exact .inl ⟨rfl, h.2⟩
      | exact .inl ⟨rfl, h.1.symm⟩
  · exact .inr rfl
theorem Did.leave {b : Nat} {H H' : VH} (hH : H.Ok) (hb : b < H.next) (h : Did b H.lo H') (v : AV) : Did b H (leave H H' v) := by
  refine ⟨h.eff.leave hH v, fun hl => ?_⟩
  rcases leave_cases H H' v with ⟨e, _⟩ | e
  · rw [e]
  · rw [e] at hl ⊢
    exact h.same (Nat.lt_of_lt_of_le hl (Nat.min_le_right _ _))
/-- An array in a block. -/
structure Arr (H : VH) (b : Nat) (d : Array N) : Prop where
  ok : H.Ok
  plain : Plain H b (flat d.toList)
theorem Arr.lt {H : VH} {b : Nat} {d : Array N} (h : Arr H b d) : b < H.next := h.plain.lt h.ok
theorem Arr.lo {H : VH} {b : Nat} {d : Array N} (h : Arr H b d) : Arr H.lo b d := ⟨lo_ok h.ok, h.plain.lo⟩
theorem Arr.fresh {H : VH} {b : Nat} {d : Array N} (h : Arr H b d) (cs : List AV) : Arr (H.fresh cs) b d :=
  ⟨fresh_ok h.ok cs, h.plain.keep h.ok (Keep.fresh (fun _ => False) H cs) fun h => h⟩
theorem Arr.leave {H H' : VH} {b : Nat} {d : Array N} (hH : H.Ok) (hb : b < H.next) (h : Arr H' b d) (k : Did b H.lo H') (v : AV) : Arr (leave H H' v) b d := by
  rcases leave_cases H H' v with ⟨e, hl⟩ | e
  · rw [e]
    exact ⟨hH, plain_ofRow h.plain hH k.eff.keep.from_lo (k.same (by rw [hl]; exact hb))⟩
  · rw [e]
    exact ⟨ok_low h.ok _, plain_low h.plain _⟩
theorem Arr.cells {H : VH} {b : Nat} {d : Array N} (h : Arr H b d) (i : Nat) (hi : i < d.size) : H.cells b (0 + i * 5) 5 = some d[i]!.cells := by
  refine cells_eq (fun j hj => ?_) rfl
  rw [h.plain.cell, Nat.zero_add, flat_get _ _ _ hj, Array.getElem?_toList, Array.getElem?_eq_getElem hi]
  simp [hi]
theorem Arr.rd {α : Type} {H : VH} {b : Nat} {d : Array N} (h : Arr H b d) (i L : Nat) (hi : i < d.size) (hL : d.size = L) (K : List AV → Option α) :
    (if (0 : Int) ≤ (i : Int) ∧ (i : Int) < (L : Int) then bindL (H.cells b (0 + i * 5) 5) K else none) = K d[i]!.cells := by
  rw [if_pos (by omega), h.cells i hi]
  rfl
theorem plain_puts : ∀ (vs : List AV) {H : VH} {b : Nat} {cs : List AV} (o : Nat), Plain H b cs → H.Ok → o + vs.length ≤ cs.length → allOne vs = true →
    ∃ H', H.puts b o vs = some H' ∧ Plain H' b (setAll cs o vs) ∧ Did b H H' ∧ (0 < vs.length → H'.low ≤ b)
  | [], H, b, cs, o, h, hH, _, _ => ⟨H, rfl, h, .refl hH, fun h => absurd h (Nat.lt_irrefl _)⟩
  | v :: vs, H, b, cs, o, h, hH, hl, ho => by
    simp only [List.length_cons] at hl
    have ho2 : v.one = true ∧ allOne vs = true := by
      change (v.one && allOne vs) = true at ho
      simpa using ho
    obtain ⟨H1, e1, p1, k1, o1, l1, n1⟩ := h.puts1 hH o (by omega) v ho2.1
    obtain ⟨H2, e2, p2, d2, l2⟩ := plain_puts vs (o + 1) p1 o1 (by simp; omega) ho2.2
    have hb := h.lt hH
    refine ⟨H2, ?_, p2, Did.trans ⟨.of_low k1 o1 l1 hb, fun hx => absurd hx (by omega)⟩ d2, fun _ => by have := d2.eff.low; omega⟩
    simp only [VH.puts] at e1 ⊢
    cases e : H.put b o v with
    | none => rw [e] at e1; cases e1
    | some H' =>
      rw [e] at e1
      simp only [Option.some.injEq] at e1
      subst e1
      exact e2
theorem N.cells_one (x : N) : allOne x.cells = true := rfl
theorem Arr.put {H : VH} {b : Nat} {d : Array N} (h : Arr H b d) (i : Nat) (hi : i < d.size) (y : N) :
    ∃ H', H.puts b (0 + i * 5) y.cells = some H' ∧ Arr H' b (d.setIfInBounds i y) ∧ Did b H H' := by
  obtain ⟨H', e, p, k, _⟩ := plain_puts y.cells (0 + i * 5) h.plain h.ok (by rw [flat_len, N.cells_len]; simp; omega) y.cells_one
  rw [flat_set _ _ (by simpa using hi)] at p
  refine ⟨H', e, ⟨k.eff.ok, ?_⟩, k⟩
  rw [Array.toList_setIfInBounds]
  exact p
theorem swp_size (d : Array N) (i j : Nat) : (swp d i j).size = d.size := by simp [swp]
/-- data[i], data[j] = data[j], data[i] -/
theorem Arr.swap {H : VH} {b : Nat} {d : Array N} (h : Arr H b d) (i j L : Nat) (hi : i < d.size) (hj : j < d.size) (hL : d.size = L) :
    ∃ H', (∀ {α : Type} (K : VH → Option α), (if (0 : Int) ≤ (i : Int) ∧ (i : Int) < (L : Int) then bindH (H.puts b (0 + i * 5) d[j]!.cells) fun H1 => if (0 : Int) ≤ (j : Int) ∧ (j : Int) < (L : Int) then bindH (H1.puts b (0 + j * 5) d[i]!.cells) K else none else none) = K H') ∧ Arr H' b (swp d i j) ∧ Did b H H' := by
  obtain ⟨H1, e1, a1, k1⟩ := h.put i hi d[j]!
  obtain ⟨H2, e2, a2, k2⟩ := a1.put j (by simpa using hj) d[i]!
  refine ⟨H2, fun K => ?_, a2, k1.trans k2⟩
  rw [if_pos (by omega), e1]
  show (if _ then _ else _) = _
  rw [if_pos (by omega), e2]
  rfl
theorem fw_add1 (i : Nat) (h : i < 9223372036854775807) : fwrap .i64 ((i : Int) + 1) = ((i + 1 : Nat) : Int) := fw_i64 (by omega) (by omega)
theorem fw_sub1 (i : Nat) (h1 : 1 ≤ i) (h : i < 9223372036854775807) : fwrap .i64 ((i : Int) - 1) = ((i - 1 : Nat) : Int) := by
  rw [fw_i64 (by omega) (by omega)]
  omega
theorem fw_addn (i j : Nat) (h : i + j < 9223372036854775807) : fwrap .i64 ((i : Int) + (j : Int)) = ((i + j : Nat) : Int) := fw_i64 (by omega) (by omega)
theorem fw_subn (i j : Nat) (h1 : j ≤ i) (h : i < 9223372036854775807) : fwrap .i64 ((i : Int) - (j : Int)) = ((i - j : Nat) : Int) := by
  rw [fw_i64 (by omega) (by omega)]
  omega
theorem fw_muln (i j : Nat) (h : i * j < 9223372036854775807) : fwrap .i64 ((i : Int) * (j : Int)) = ((i * j : Nat) : Int) := by
  have h1 : ((i * j : Nat) : Int) = (i : Int) * (j : Int) := by push_cast; rfl
  rw [← h1]
  exact fw_i64 (by omega) (by omega)

/-! Comparing. -/
open PS (lessL)
theorem lessL_irr : ∀ l : List Nat, lessL l l = false
  | [] => rfl
  | a :: l => by simp [lessL, lessL_irr l, blt_eq]
theorem lessL_trans : ∀ a b c : List Nat, lessL a b = true → lessL b c = true → lessL a c = true
  | [], b, c, h1, h2 => by
    cases c with
    | nil => cases b <;> simp [lessL] at h2
    | cons => rfl
  | x :: a, [], c, h1, h2 => by simp [lessL] at h1
  | x :: a, y :: b, [], h1, h2 => by simp [lessL] at h2
  | x :: a, y :: b, z :: c, h1, h2 => by
    simp only [lessL, blt_eq, Bool.or_eq_true, Bool.and_eq_true, decide_eq_true_eq, beq_iff_eq] at h1 h2 ⊢
    rcases h1 with h1 | ⟨rfl, h1⟩ <;> rcases h2 with h2 | ⟨rfl, h2⟩
    · exact .inl (by omega)
    · exact .inl h1
    · exact .inl h2
    · exact .inr ⟨rfl, lessL_trans a b c h1 h2⟩
theorem lessL_tri : ∀ a b : List Nat, lessL a b = false → lessL b a = false → a = b
  | [], [], _, _ => rfl
  | [], y :: b, h1, _ => by simp [lessL] at h1
  | x :: a, [], _, h2 => by simp [lessL] at h2
  | x :: a, y :: b, h1, h2 => by
    simp only [lessL, blt_eq, Bool.or_eq_false_iff, Bool.and_eq_false_iff, decide_eq_false_iff_not, beq_eq_false_iff_ne] at h1 h2
    have e : x = y := by omega
    subst e
    simp only [ne_eq, not_true_eq_false, false_or] at h1 h2
    rw [lessL_tri a b h1.2 h2.2]
theorem lessL_asym (a b : List Nat) (h : lessL a b = true) : lessL b a = false := by
  cases e : lessL b a with
  | false => rfl
  | true => exact absurd (lessL_trans a b a h e) (by rw [lessL_irr]; decide)
/-- Three-way comparisons. -/
structure Cm (α : Type) where
  c : α → α → Int
  eq : ∀ x y, c x y = 0 ↔ x = y
  rng : ∀ x y, c x y = -1 ∨ c x y = 0 ∨ c x y = 1
  anti : ∀ x y, c x y = - c y x
  tr : ∀ x y z, c x y < 0 → c y z < 0 → c x z < 0
def cmpS (x y : List UInt8) : Int := if (PS.of x).less (PS.of y) then -1 else if x = y then 0 else 1
def cmpI (x y : Int) : Int := if x < y then -1 else if y < x then 1 else 0
theorem bytes_inj {x y : List UInt8} (h : (PS.of x).bytes = (PS.of y).bytes) : x = y := by
  have hl : ∀ (s : PS) n i, (s.bytesFrom n i).length = n := by
    intro s n
    induction n with
    | zero => intro i; rfl
    | succ n ih => intro i; simp [PS.bytesFrom, ih]
  have hg : ∀ (s : PS) n i k, k < n → (s.bytesFrom n i)[k]? = some (s.byte (i + k)) := by
    intro s n
    induction n with
    | zero => intro i k h; omega
    | succ n ih =>
      intro i k h
      cases k with
      | zero => simp [PS.bytesFrom]
      | succ k =>
        simp only [PS.bytesFrom, List.getElem?_cons_succ]
        rw [ih (i + 1) k (by omega), show i + 1 + k = i + (k + 1) by omega]
  have h1 : x.length = y.length := by
    have := congrArg List.length h
    unfold PS.bytes at this
    rw [hl, hl] at this
    exact this
  apply List.ext_getElem h1
  intro i hi hi'
  have h2 := congrArg (·[i]?) h
  simp only [PS.bytes] at h2
  rw [hg _ _ _ _ (by simpa using hi), hg _ _ _ _ (by simpa using hi'), Nat.zero_add, PS.byte_of x i hi, PS.byte_of y i hi'] at h2
  simp only [Option.some.injEq] at h2
  exact UInt8.toNat_inj.1 h2
def CmS : Cm (List UInt8) where
  c := cmpS
  eq x y := by
    unfold cmpS
    split
    · rename_i h
      refine ⟨fun h => by omega, fun e => ?_⟩
      subst e
      rw [PS.less, lessL_irr] at h
      cases h
    · split
      · rename_i h; simp [h]
      · rename_i h; simp [h]
  rng x y := by unfold cmpS; split; · exact .inl rfl
                split; · exact .inr (.inl rfl)
                exact .inr (.inr rfl)
  anti x y := by
    unfold cmpS
    by_cases e : x = y
    · subst e
      have : (PS.of x).less (PS.of x) = false := lessL_irr _
      simp [this]
    · cases h1 : (PS.of x).less (PS.of y) with
      | true =>
        have h2 : (PS.of y).less (PS.of x) = false := lessL_asym _ _ h1
        have e2 : ¬ y = x := fun h => e h.symm
        simp [h2, e2]
      | false =>
        cases h2 : (PS.of y).less (PS.of x) with
        | true => simp [e]
        | false => exact absurd (bytes_inj (lessL_tri _ _ h1 h2)) e
  tr x y z h1 h2 := by
    have key : ∀ x y, cmpS x y < 0 → (PS.of x).less (PS.of y) = true := by
      intro x y h
      unfold cmpS at h
      split at h
      · assumption
      · split at h <;> omega
    have := lessL_trans _ _ _ (key x y h1) (key y z h2)
    have h3 : (PS.of x).less (PS.of z) = true := this
    unfold cmpS
    rw [if_pos h3]
    decide
def CmI : Cm Int where
  c := cmpI
  eq x y := by unfold cmpI; split <;> (try split) <;> omega
  rng x y := by unfold cmpI; split <;> (try split) <;> omega
  anti x y := by unfold cmpI; split <;> (try split) <;> (try split) <;> (try split) <;> omega
  tr x y z := by unfold cmpI; intro h1 h2; split at h1 <;> split at h2 <;> (try split at h1) <;> (try split at h2) <;> split <;> (try split) <;> omega
def orI (a b : Int) : Int := if a = 0 then b else a
/-- One comparison, and then another one. -/
def Cm.andThen {α β : Type} (A : Cm α) (B : Cm β) : Cm (α × β) where
  c x y := orI (A.c x.1 y.1) (B.c x.2 y.2)
  eq x y := by
    unfold orI
    split
    · rename_i h
      rw [B.eq, Prod.ext_iff, (A.eq _ _).1 h]
      simp
    · rename_i h
      refine ⟨fun e => absurd e h, fun e => ?_⟩
      subst e
      exact absurd ((A.eq _ _).2 rfl) h
  rng x y := by unfold orI; split; · exact B.rng _ _
                exact A.rng _ _
  anti x y := by
    unfold orI
    rw [A.anti, B.anti]
    split <;> split <;> omega
  tr x y z h1 h2 := by
    unfold orI at *
    by_cases e1 : A.c x.1 y.1 = 0
    · rw [if_pos e1] at h1
      have e1' := (A.eq _ _).1 e1
      rw [← e1'] at h2
      by_cases e2 : A.c x.1 z.1 = 0
      · rw [if_pos e2] at h2 ⊢
        exact B.tr _ _ _ h1 h2
      · rw [if_neg e2] at h2 ⊢
        exact h2
    · rw [if_neg e1] at h1
      by_cases e2 : A.c y.1 z.1 = 0
      · rw [if_pos e2] at h2
        have e2' := (A.eq _ _).1 e2
        rw [← e2', if_neg e1]
        exact h1
      · rw [if_neg e2] at h2
        have := A.tr _ _ _ h1 h2
        rw [if_neg (by omega)]
        exact this
def N.key (x : N) : List UInt8 × Int × Int × Int × List UInt8 := (x.f, x.ln, x.co, x.cd, x.t)
def CmN : Cm (List UInt8 × Int × Int × Int × List UInt8) := CmS.andThen (CmI.andThen (CmI.andThen (CmI.andThen CmS)))
def cmpN (x y : N) : Int := CmN.c x.key y.key
theorem cmpN_def (x y : N) : cmpN x y = orI (cmpS x.f y.f) (orI (cmpI x.ln y.ln) (orI (cmpI x.co y.co) (orI (cmpI x.cd y.cd) (cmpS x.t y.t)))) := rfl
theorem key_inj {x y : N} (h : x.key = y.key) : x = y := by
  cases x; cases y
  simp only [N.key, Prod.mk.injEq] at h
  obtain ⟨rfl, rfl, rfl, rfl, rfl⟩ := h
  rfl
theorem cmpN_eq (x y : N) : cmpN x y = 0 ↔ x = y := (CmN.eq _ _).trans ⟨key_inj, fun h => by rw [h]⟩
theorem cmpN_anti (x y : N) : cmpN x y = - cmpN y x := CmN.anti _ _
theorem cmpN_tr (x y z : N) (h1 : cmpN x y < 0) (h2 : cmpN y z < 0) : cmpN x z < 0 := CmN.tr _ _ _ h1 h2
def ltN (x y : N) : Bool := decide (cmpN x y < 0)
theorem swoN : Go.Sort.SWO ltN where
  irrefl x := decide_eq_false (by rw [(cmpN_eq x x).2 rfl]; decide)
  trans x y z h1 h2 := decide_eq_true (cmpN_tr x y z (of_decide_eq_true h1) (of_decide_eq_true h2))
  ntrans x y z h1 h2 := by
    have h1 := of_decide_eq_false h1
    have h2 := of_decide_eq_false h2
    refine decide_eq_false fun h3 => ?_
    by_cases e : cmpN y x < 0
    · exact h2 (cmpN_tr y x z e h3)
    · have : cmpN x y = 0 := by have := cmpN_anti x y; omega
      have := (cmpN_eq x y).1 this
      subst this
      exact h2 h3
theorem ltN_tri (x y : N) (h1 : ltN x y = false) (h2 : ltN y x = false) : x = y := by
  have h1 := of_decide_eq_false h1
  have h2 := of_decide_eq_false h2
  exact (cmpN_eq x y).1 (by have := cmpN_anti x y; omega)
end
/-! Sorted lists of messages, each once: the plain laws. -/
section
open Go.Sort
def compS (acc : List N) (x : N) : List N := if acc.getLast? = some x then acc else acc ++ [x]
/-- Of neighbours that are equal, one. -/
def compF (l : List N) : List N := l.foldl compS []
theorem compS_last (acc : List N) (x : N) : (compS acc x).getLast? = some x := by
  unfold compS
  split
  · assumption
  · simp
theorem compF_app (l : List N) (x : N) : compF (l ++ [x]) = compS (compF l) x := by simp [compF]
theorem snoc_ind {P : List N → Prop} (h0 : P []) (h1 : ∀ l x, P l → P (l ++ [x])) (l : List N) : P l := by
  rw [← List.reverse_reverse l]
  induction l.reverse with
  | nil => exact h0
  | cons x r ih => rw [List.reverse_cons]; exact h1 _ _ ih
theorem compF_last (l : List N) : (compF l).getLast? = l.getLast? := by
  induction l using snoc_ind with
  | h0 => rfl
  | h1 l x _ => rw [compF_app, compS_last]; simp
theorem compF_mem (l : List N) (y : N) : y ∈ compF l ↔ y ∈ l := by
  induction l using snoc_ind with
  | h0 => simp [compF]
  | h1 l x ih =>
    rw [compF_app]
    unfold compS
    split
    · rename_i h
      have hx : x ∈ compF l := List.mem_of_getLast? h
      simp only [List.mem_append, List.mem_singleton, ← ih]
      exact ⟨.inl, fun h => h.elim id fun e => e ▸ hx⟩
    · simp [ih]
theorem compF_len (l : List N) : (compF l).length ≤ l.length := by
  induction l using snoc_ind with
  | h0 => simp [compF]
  | h1 l x ih =>
    rw [compF_app]
    unfold compS
    split <;> simp <;> omega
theorem compF_nil {l : List N} (h : l ≠ []) : compF l ≠ [] := by
  intro e
  obtain ⟨x, hx⟩ := List.exists_mem_of_ne_nil l h
  have := (compF_mem l x).2 hx
  rw [e] at this
  cases this
/-- Increasing. -/
abbrev Inc (l : List N) : Prop := l.Pairwise fun x y => ltN x y = true
theorem compF_inc (l : List N) (h : l.Pairwise fun x y => ltN y x = false) : Inc (compF l) := by
  induction l using snoc_ind with
  | h0 => exact .nil
  | h1 l x ih =>
    rw [List.pairwise_append] at h
    have ih := ih h.1
    rw [compF_app]
    unfold compS
    split
    · exact ih
    · rename_i hn
      unfold Inc
      rw [List.pairwise_append]
      refine ⟨ih, List.pairwise_singleton _ _, fun y hy z hz => ?_⟩
      obtain rfl := List.mem_singleton.1 hz
      have hyl := (compF_mem l y).1 hy
      have h1 := h.2.2 y hyl z (List.mem_singleton.2 rfl)
      cases h2 : ltN y z with
      | true => rfl
      | false =>
        have := ltN_tri y z h2 h1
        subst this
        -- y stands in an increasing list, and its last element is not y: something greater stands behind it
        obtain ⟨w, hw⟩ : ∃ w, (compF l).getLast? = some w := by
          cases hg : (compF l).getLast? with
          | none => rw [List.getLast?_eq_none_iff.1 hg] at hy; cases hy
          | some w => exact ⟨w, rfl⟩
        have hwl : w ∈ l := (compF_mem l w).1 (List.mem_of_getLast? hw)
        have h3 := h.2.2 w hwl y (List.mem_singleton.2 rfl)
        have hne : w ≠ y := fun e => hn (by rw [hw, e])
        obtain ⟨ys, hys⟩ : ∃ ys, compF l = ys ++ [w] := List.getLast?_eq_some_iff.1 hw
        rw [hys] at hy ih
        unfold Inc at ih
        rw [List.pairwise_append] at ih
        rcases List.mem_append.1 hy with g | g
        · have := ih.2.2 y g w (List.mem_singleton.2 rfl)
          rw [this] at h3
          cases h3
        · exact absurd (List.mem_singleton.1 g).symm hne
theorem compF_id (l : List N) (h : Inc l) : compF l = l := by
  induction l using snoc_ind with
  | h0 => rfl
  | h1 l x ih =>
    unfold Inc at h
    rw [List.pairwise_append] at h
    rw [compF_app, ih h.1]
    unfold compS
    rw [if_neg]
    intro e
    have := h.2.2 x (List.mem_of_getLast? e) x (List.mem_singleton.2 rfl)
    rw [swoN.irrefl] at this
    cases this
def srtN (l : List N) : List N := l.mergeSort fun x y => !ltN y x
def outN (l : List N) : List N := (compF (srtN l)).take 20
theorem srt_of (d d' : Array N) (p : PermIn 0 d.size d d') (s : SortedIn ltN 0 d.size d') : d'.toList = srtN d.toList := sorted_unique_holds swoN ltN_tri d d' p s
theorem srtN_pair (l : List N) : (srtN l).Pairwise fun x y => ltN y x = false := by
  have := List.pairwise_mergeSort (le := fun x y => !ltN y x) (fun a b c h1 h2 => by
    simp only [Bool.not_eq_true'] at *
    exact swoN.ntrans _ _ _ h2 h1) (fun a b => by
    cases h : ltN b a with
    | false => rfl
    | true =>
      simp only [Bool.not_true, Bool.false_or, Bool.not_eq_true']
      cases h2 : ltN a b with
      | false => rfl
      | true => have := swoN.trans _ _ _ h h2; rw [swoN.irrefl] at this; cases this) l
  exact this.imp fun h => by simpa using h
theorem srtN_mem (l : List N) (x : N) : x ∈ srtN l ↔ x ∈ l := List.mem_mergeSort
theorem srtN_inc (l : List N) (h : Inc l) : srtN l = l := by
  unfold srtN
  refine List.mergeSort_of_pairwise (h.imp fun {a b} hh => ?_)
  simp only [Bool.not_eq_true']
  cases h2 : ltN b a with
  | false => rfl
  | true => have := swoN.trans _ _ _ hh h2; rw [swoN.irrefl] at this; cases this
theorem outN_inc (l : List N) : Inc (outN l) := (compF_inc _ (srtN_pair l)).sublist (List.take_sublist _ _)
theorem outN_mem (l : List N) (x : N) (h : x ∈ outN l) : x ∈ l := (srtN_mem l x).1 ((compF_mem _ x).1 (List.mem_of_mem_take h))
theorem outN_len (l : List N) : (outN l).length ≤ 20 := by unfold outN; rw [List.length_take]; omega
theorem outN_nil (l : List N) (h : l ≠ []) : outN l ≠ [] := by
  unfold outN
  have h1 : srtN l ≠ [] := fun e => by
    obtain ⟨x, hx⟩ := List.exists_mem_of_ne_nil l h
    have := (srtN_mem l x).2 hx
    rw [e] at this
    cases this
  have h2 := compF_nil h1
  intro e
  have := congrArg List.length e
  rw [List.length_take] at this
  have h3 := List.length_pos_iff.2 h2
  simp only [List.length_nil] at this
  omega
theorem outN_twice (l : List N) : outN (outN l) = outN l := by
  conv => lhs; rw [outN]
  rw [srtN_inc _ (outN_inc l), compF_id _ (outN_inc l), List.take_of_length_le (outN_len l)]
theorem outN_all (l : List N) (x : N) (hx : x ∈ l) (h : (outN l).length < 20) : x ∈ outN l := by
  have h1 : outN l = compF (srtN l) := by
    unfold outN at h ⊢
    rw [List.length_take] at h
    exact List.take_of_length_le (by omega)
  rw [h1, compF_mem, srtN_mem]
  exact hx
theorem outN_least (l : List N) (x w : N) (hx : x ∈ l) (hw : w ∈ outN l) (hlt : ltN x w = true) : x ∈ outN l := by
  have hm : x ∈ compF (srtN l) := by rw [compF_mem, srtN_mem]; exact hx
  have hi := compF_inc _ (srtN_pair l)
  unfold outN at *
  rw [← List.take_append_drop 20 (compF (srtN l))] at hm hi
  rcases List.mem_append.1 hm with g | g
  · exact g
  · unfold Inc at hi
    rw [List.pairwise_append] at hi
    have := hi.2.2 w hw x g
    have h2 := swoN.trans _ _ _ hlt this
    rw [swoN.irrefl] at h2
    cases h2
end
end Go.Vm.Tryd
