/- The preprocessor: the state of a run in a file; what a line does to it. -/
import Derived.Test.YtdpaokgemjfhlaaGreatDoorPs
namespace Go.Vm.Tryz
set_option linter.unusedSectionVars false
set_option linter.unusedSimpArgs false
set_option linter.unusedVariables false
set_option maxRecDepth 10000
/-! The preprocessor: the state of a run in a file; what a line does to it. -/
theorem RSt.grow {H : VH} {R mf : Nat} {c1 : AV} {rs : List Rw} {v q : AV} (h : RSt H R mf c1 (some rs) v q) : Grow H R tyO 3 v rs.length (rwC rs) := h.2.1
/-- The state of a run; L is the lineage of the list of open files. -/
structure OS (F : Nat → List UInt8) (m : Nat) (H : VH) (R mf : Nat) (c1 : AV) (L : Nat) (st : Option (List Rw)) (v q : AV) : Prop where
  ok : H.Ok
  mx : Mx H
  r0 : R ≠ 0
  mR : mf < R
  nl0 : NL H 0 L
  nlR : NL H R L
  run : RSt H R mf c1 st v q
  nlv : ∀ x, TipAt v x → NL H x L ∧ R < x
  map : ∃ c ver, H.map? mf = some (ents F m, c, ver)
theorem RSt.lt' {H : VH} {R mf : Nat} {c1 : AV} {st : Option (List Rw)} {v q : AV} (h : RSt H R mf c1 st v q) (hH : H.Ok) : R < H.next := h.lt hH
section
variable {F : Nat → List UInt8} {m : Nat} {H H' : VH} {R mf : Nat} {c1 : AV} {L : Nat} {st : Option (List Rw)} {v q : AV}
theorem NL.low {b L : Nat} (h : NL H b L) (k : Nat) : NL { H with low := k } b L := h
theorem OS.low (h : OS F m H R mf c1 L st v q) (k : Nat) : OS F m { H with low := k } R mf c1 L st v q :=
  ⟨ok_low h.ok k, ⟨h.mx.1, h.mx.2⟩, h.r0, h.mR, h.nl0, h.nlR, h.run.low k, h.nlv, h.map⟩
theorem OS.lo (h : OS F m H R mf c1 L st v q) : OS F m H.lo R mf c1 L st v q :=
  ⟨lo_ok h.ok, h.mx.lo, h.r0, h.mR, h.nl0, h.nlR, h.run.lo, h.nlv, h.map⟩
theorem OS.keep {S : Nat → Prop} (h : OS F m H R mf c1 L st v q) (k : Keep S H H') (hk : H'.Ok) (hs : ∀ x, S x → H.next ≤ x) : OS F m H' R mf c1 L st v q := by
  have hR := h.run.lt h.ok
  have hn : ∀ x, x < H.next → ¬ S x := fun x hx e => by have := hs x e; omega
  have h0 := h.mx.1
  have hv : ∀ x, TipAt v x → ¬ S x := fun x hx => hn x ((h.nlv x hx).1.lt h.ok)
  obtain ⟨c, ver, hm⟩ := h.map
  exact ⟨hk, h.mx.keep h.ok k (hn 0 h0), h.r0, h.mR, h.nl0.keep h.ok (Keep.toL k L) (hn 0 h0), h.nlR.keep h.ok (Keep.toL k L) (hn R hR), h.run.keep h.ok k (hn R hR) hv, fun x hx => ⟨(h.nlv x hx).1.keep h.ok (Keep.toL k L) (hv x hx), (h.nlv x hx).2⟩, c, ver, map?_keep hm (by have := h.mR; omega) k (hn mf (by have := h.mR; omega))⟩
/-- A row that is new is of another lineage, if no row of that lineage was touched. -/
theorem nl_new {S : Nat → Prop} (hH : H.Ok) (hs : Hs H H') (k : Keep S H H') (hS : ∀ x, S x → x < H.next → NL H x L) (hL : L < H.next) {x : Nat} (hx : H.next ≤ x) {r : Row} (hr : H'.row? x = some r) : NL H' x L := by
  refine ⟨r, hr, fun e => ?_⟩
  rcases (hs.lins (L := L) hH.get hL).new x r hr e with ⟨r1, h1, _⟩ | ⟨c, r1, r2, h1, h2, h3, h4, h5⟩
  · have := hH.get x _ (VH.row?_get h1)
    omega
  · have hc := hH.get c _ (VH.row?_get h1)
    have hn : ¬ S c := fun e => by
      obtain ⟨r3, g1, g2⟩ := hS c e hc
      rw [h1] at g1
      obtain rfl := Option.some.inj g1
      exact g2 h2
    rw [keep_row k hc hn, h1] at h4
    obtain rfl := Option.some.inj h4
    rw [h3] at h5
    cases h5
end
/-- The good rows that come behind. -/
def Ext (G : Rw → Prop) (st st' : Option (List Rw)) : Prop := st' = none ∨ ∃ rs rs', st = some rs ∧ st' = some (rs ++ rs') ∧ ∀ r ∈ rs', G r
theorem Ext.refl (G : Rw → Prop) (st : Option (List Rw)) : Ext G st st := by
  cases st with
  | none => exact .inl rfl
  | some rs => exact .inr ⟨rs, [], rfl, by rw [List.append_nil], fun _ h => by cases h⟩
theorem Ext.trans {G : Rw → Prop} {a b c : Option (List Rw)} (h : Ext G a b) (k : Ext G b c) : Ext G a c := by
  rcases k with k | ⟨r1, r2, k1, k2, k3⟩
  · exact .inl k
  · rcases h with h | ⟨s1, s2, h1, h2, h3⟩
    · rw [h] at k1
      cases k1
    · rw [h2] at k1
      obtain rfl := Option.some.inj k1
      refine .inr ⟨s1, s2 ++ r2, h1, by rw [k2, List.append_assoc], fun r hr => ?_⟩
      rcases List.mem_append.1 hr with hr | hr
      · exact h3 r hr
      · exact k3 r hr
/-- What a part of a run may touch. -/
structure Stp (L R : Nat) (v q v' q' : AV) (H H' : VH) : Prop where
  kp : KeepL L (fun y => y = R ∨ TipAt v y ∨ TipAt q y) H H'
  tv : ∀ x, TipAt v' x → TipAt v x ∨ H.next ≤ x
  tq : ∀ x, TipAt q' x → TipAt q x ∨ H.next ≤ x
theorem Stp.refl (L R : Nat) (v q : AV) (H : VH) : Stp L R v q v q H H := ⟨.refl _ _ _, fun _ h => .inl h, fun _ h => .inl h⟩
theorem Stp.trans {L R : Nat} {v q v1 q1 v2 q2 : AV} {a b c : VH} (h : Stp L R v q v1 q1 a b) (k : Stp L R v1 q1 v2 q2 b c) : Stp L R v q v2 q2 a c := by
  refine ⟨h.kp.trans k.kp fun x hx => ?_, fun x hx => ?_, fun x hx => ?_⟩
  · rcases hx with hx | hx | hx
    · exact .inl (.inl hx)
    · rcases h.tv x hx with g | g
      · exact .inl (.inr (.inl g))
      · exact .inr g
    · rcases h.tq x hx with g | g
      · exact .inl (.inr (.inr g))
      · exact .inr g
  · rcases k.tv x hx with g | g
    · exact h.tv x g
    · exact .inr (Nat.le_trans h.kp.next g)
  · rcases k.tq x hx with g | g
    · exact h.tq x g
    · exact .inr (Nat.le_trans h.kp.next g)
theorem Stp.of {L R : Nat} {v q : AV} {H H' : VH} {S : Nat → Prop} (k : Keep S H H') (hs : ∀ x, S x → H.next ≤ x) : Stp L R v q v q H H' :=
  ⟨(Keep.toL k L).mono fun x hx e => by have := hs x e; omega, fun _ h => .inl h, fun _ h => .inl h⟩
theorem Stp.low {L R : Nat} {v q v' q' : AV} {H H' : VH} (h : Stp L R v q v' q' H H') (m : Nat) : Stp L R v q v' q' H { H' with low := m } := ⟨h.kp.low m, h.tv, h.tq⟩
/-- A line is put out. -/
theorem OS.emit {F : Nat → List UInt8} {m : Nat} {H : VH} {R mf : Nat} {c1 : AV} {L : Nat} {rs : List Rw} {v q : AV} {ns : List (List UInt8)} (n : Nat) (hn : 1 ≤ n) (h : OS F m H R mf c1 L (some rs) v q) (ho : Opn H q ns L) (l : List UInt8) (hl : l.length < 1000) (f ln : Nat) (w : Bool) :
    ∃ v' H' st', vcall T ext promo n 56 [.ptr (some (R, 0)), .agg [.str (PS.of (fname f)), .int .i64 (ln : Int)], .str (PS.of l), .bool w] H = some (.tuple [], H') ∧
      OS F m H' R mf c1 L st' v' q ∧ Opn H' q ns L ∧ (st' = none ∨ st' = some (rs ++ [⟨l, f, ln, w⟩])) ∧ Stp L R v q v' q H H' := by
  obtain ⟨v', H', st', e, hr, hst, k, hv⟩ := emit2_ok n hn h.ok h.run l hl f ln w
  have hs : Hs H H' := vcall_hs T ext promo n _ _ _ _ _ e
  have hL : L < H.next := by
    obtain ⟨b, r, _, h1, h2, _⟩ := ho
    have := h.ok.lin b r h1
    omega
  have hS : ∀ x, (x = R ∨ TipAt v x) → NL H x L := fun x hx => by
    rcases hx with rfl | hx
    · exact h.nlR
    · exact (h.nlv x hx).1
  have h0 : ¬ (0 = R ∨ TipAt v 0) := fun e => by
    rcases e with e | e
    · exact h.r0 e.symm
    · have := (h.nlv 0 e).2; omega
  obtain ⟨c, ver, hm⟩ := h.map
  have hmf : ¬ (mf = R ∨ TipAt v mf) := fun e => by
    have := h.mR
    rcases e with e | e
    · omega
    · have := (h.nlv mf e).2; omega
  have hR := h.run.lt h.ok
  have hqn : ∀ x, TipAt q x → ¬ (x = R ∨ TipAt v x) := fun x hx e => by
    obtain ⟨r, g1, g2, _⟩ := ho.tip hx
    obtain ⟨r', k1, k2⟩ := hS x e
    rw [g1] at k1
    obtain rfl := Option.some.inj k1
    exact k2 g2
  refine ⟨v', H', st', e, ⟨k.ok, h.mx.keep h.ok k.keep h0, h.r0, h.mR, h.nl0.hs h.ok hL hs, h.nlR.hs h.ok hL hs, hr, ?_, c, ver, map?_keep hm (by have := h.mR; omega) k.keep hmf⟩, ho.keep h.ok k.keep hqn, hst.imp (fun x => x.1) id, ⟨(Keep.toL k.keep L).mono fun x _ e => e.elim .inl fun e => .inr (.inl e), hv, fun _ h => .inl h⟩⟩
  intro x hx
  rcases hv x hx with g | g
  · exact ⟨(h.nlv x g).1.hs h.ok hL hs, (h.nlv x g).2⟩
  · rcases hst with ⟨_, rfl⟩ | rfl
    · have := (h.nlv x hx).1.lt h.ok
      omega
    · obtain ⟨_, e1 | ⟨b, e1, e2, e3, _⟩⟩ := hr.grow
      · obtain ⟨_, _, _, _, e2⟩ := hx
        rw [e1.1] at e2
        cases e2
      · obtain ⟨_, _, _, _, e4⟩ := hx
        rw [e1] at e4
        simp only [AV.slice.injEq, Option.some.injEq, Prod.mk.injEq] at e4
        obtain rfl := e4.1.1
        obtain ⟨r, g1, _⟩ := e3.row
        exact ⟨nl_new h.ok hs k.keep (fun y hy _ => hS y hy) hL g g1, by omega⟩
/-! The preprocessor: files of lines; a file that includes others. -/
/-! Lines. -/
theorem splits_cut (c : UInt8) : ∀ (a b : List UInt8), c ∉ a → splits c (a ++ c :: b) = a :: splits c b
  | [], b, _ => by simp [splits]
  | x :: a, b, h => by
    have hx : ¬ x = c := fun e => h (e ▸ List.mem_cons_self)
    have ih := splits_cut c a b (fun e => h (List.mem_cons_of_mem _ e))
    show splits c (x :: (a ++ c :: b)) = _
    rw [splits, if_neg hx, ih]
theorem splits_ot2 : ∀ L : List (List UInt8), (∀ l ∈ L, (10 : UInt8) ∉ l) → splits 10 (ot L) = L ++ [[]]
  | [], _ => rfl
  | l :: L, h => by
    have : ot (l :: L) = l ++ 10 :: ot L := by simp [ot]
    rw [this, splits_cut 10 l _ (h l List.mem_cons_self), splits_ot2 L fun x hx => h x (List.mem_cons_of_mem _ hx)]
    rfl
/-- Lines with feeds between them. -/
def jn : List (List UInt8) → List UInt8
  | [] => []
  | [l] => l
  | l :: m :: L => l ++ 10 :: jn (m :: L)
theorem ot_jn : ∀ L : List (List UInt8), L ≠ [] → ot L = jn L ++ [10]
  | [], h => absurd rfl h
  | [l], _ => by simp [ot, jn]
  | l :: m :: L, _ => by
    have := ot_jn (m :: L) (by simp)
    have e : ot (l :: m :: L) = l ++ 10 :: ot (m :: L) := by simp [ot]
    rw [e, this]
    simp [jn]
theorem splits_jn : ∀ L : List (List UInt8), L ≠ [] → (∀ l ∈ L, (10 : UInt8) ∉ l) → splits 10 (jn L) = L
  | [], h, _ => absurd rfl h
  | [l], _, h => by
    have := splits_none 10 l (List.count_eq_zero.2 (h l List.mem_cons_self))
    exact this
  | l :: m :: L, _, h => by
    show splits 10 (l ++ 10 :: jn (m :: L)) = _
    rw [splits_cut 10 l _ (h l List.mem_cons_self), splits_jn (m :: L) (by simp) fun x hx => h x (List.mem_cons_of_mem _ hx)]
theorem chomp_ot (L : List (List UInt8)) (h : L ≠ []) : chomp (ot L) = jn L := by
  rw [ot_jn L h]
  unfold chomp
  have : (jn L ++ [10]).length - 1 = (jn L).length := by simp
  rw [this, List.drop_left, if_pos rfl, List.take_left]
theorem splits_file (L : List (List UInt8)) (h : L ≠ []) (hno : ∀ l ∈ L, (10 : UInt8) ∉ l) : splits 10 (chomp (ot L)) = L := by
  rw [chomp_ot L h, splits_jn L h hno]
inductive Ln where
  | txt (d : Nat)
  | inc (k : Nat)
def lineW : List UInt8 := [108, 105, 110, 101]
def Ln.text : Ln → List UInt8
  | .txt d => lineW ++ dec d
  | .inc k => incT k
def fileT (f : List Ln) : List UInt8 := ot (f.map Ln.text)
def LnOk (n i : Nat) : Ln → Prop
  | .txt d => d < 100
  | .inc k => i < k ∧ k < n
theorem inc_ok (k : Nat) (h1 : 1 ≤ k) (h2 : k ≤ 4) : (incT k).length = 13 ∧ (10 : UInt8) ∉ incT k := by
  refine ⟨rfl, ?_⟩
  revert h1 h2 k
  exact five (by decide) (by decide) (by decide) (by decide)
theorem txt_ok (d : Nat) (h : d < 100) : (lineW ++ dec d).length ≤ 6 ∧ 5 ≤ (lineW ++ dec d).length ∧ (10 : UInt8) ∉ lineW ++ dec d ∧ ∀ x ∈ lineW ++ dec d, x ≠ 96 ∧ x ≠ 47 := by
  obtain ⟨h1, h2, h3⟩ := dec_ok d (List.mem_range.2 h)
  have hx : ∀ x ∈ lineW ++ dec d, x ≠ 96 ∧ x ≠ 47 ∧ x ≠ 10 := fun x hx => by
    rcases List.mem_append.1 hx with hx | hx
    · have : ∀ y ∈ lineW, y ≠ 96 ∧ y ≠ 47 ∧ y ≠ 10 := by decide
      exact this x hx
    · obtain ⟨g1, g2⟩ := h3 x hx
      rw [UInt8.le_iff_toNat_le] at g1 g2
      have k1 : (48 : UInt8).toNat = 48 := rfl
      have k2 : (57 : UInt8).toNat = 57 := rfl
      refine ⟨fun e => ?_, fun e => ?_, fun e => ?_⟩
      · rw [e] at g2
        exact absurd g2 (by decide)
      · rw [e] at g1
        exact absurd g1 (by decide)
      · rw [e] at g1
        exact absurd g1 (by decide)
  have hw : lineW.length = 4 := rfl
  refine ⟨by rw [List.length_append]; omega, by rw [List.length_append]; omega, fun h => (hx 10 h).2.2 rfl, fun x h => ⟨(hx x h).1, (hx x h).2.1⟩⟩
theorem ln_ok {n i : Nat} (hn : n ≤ 5) {l : Ln} (h : LnOk n i l) : l.text.length ≤ 13 ∧ (10 : UInt8) ∉ l.text := by
  cases l with
  | txt d => obtain ⟨h1, _, h2, _⟩ := txt_ok d h; exact ⟨by show (lineW ++ dec d).length ≤ 13; omega, h2⟩
  | inc k => obtain ⟨h1, h2⟩ := inc_ok k (by have := h.1; omega) (by have := h.2; omega); exact ⟨by show (incT k).length ≤ 13; omega, h2⟩
theorem trimLeft2_ok (n : Nat) (hn : 1 ≤ n) (l : List UInt8) (hl : l.length < 100000) (hs : Lib.trimLeftS l [32, 9] = l) (H : VH) : vcall T ext promo n 55 [.str (PS.of l), .str (PS.of [32, 9])] H = some (.str (PS.of l), H) := by
  obtain ⟨n, rfl⟩ : ∃ m, n = m + 1 := ⟨n - 1, by omega⟩
  refine call_ext (g := fun _ => xCut Lib.trimLeftS) rfl ?_
  have h1 : (Nat.ble (PS.of l).len 9223372036854775807 && (Nat.blt (PS.of [32, 9]).len 4294967281 && allAscii (PS.of [32, 9]).bytes)) = true := by
    have : Nat.ble (PS.of l).len 9223372036854775807 = true := Nat.ble_eq_true_of_le (by rw [of_len]; omega)
    rw [this]
    rfl
  simp only [xCut, h1, bytes_back, hs]
/-- A block of the walk's own. -/
structure Own (H : VH) (L R : Nat) (v : AV) (b : Nat) (cs : List AV) : Prop where
  p : Plain H b cs
  nl : NL H b L
  nR : b ≠ R
  nv : ¬ TipAt v b
theorem Own.stp {H H' : VH} {L R b : Nat} {v q v' q' : AV} {cs : List AV} {ns : List (List UInt8)} (h : Own H L R v b cs) (hH : H.Ok) (ho : Opn H q ns L) (s : Stp L R v q v' q' H H') : Own H' L R v' b cs := by
  have hs : ¬ (b = R ∨ TipAt v b ∨ TipAt q b) := fun e => by
    rcases e with e | e | e
    · exact h.nR e
    · exact h.nv e
    · exact ho.ne h.nl e
  refine ⟨plain_keepL h.p hH h.nl s.kp hs, h.nl.keep hH s.kp hs, h.nR, fun e => ?_⟩
  rcases s.tv b e with g | g
  · exact h.nv g
  · have := h.nl.lt hH
    omega
theorem Own.low {H : VH} {L R b : Nat} {v : AV} {cs : List AV} (h : Own H L R v b cs) (m : Nat) : Own { H with low := m } L R v b cs := ⟨plain_low h.p m, h.nl, h.nR, h.nv⟩
theorem Own.lo {H : VH} {L R b : Nat} {v : AV} {cs : List AV} (h : Own H L R v b cs) : Own H.lo L R v b cs := ⟨h.p.lo, h.nl, h.nR, h.nv⟩
/-- A line that was put out comes from a file. -/
def GoodR (n : Nat) (fs : Nat → List Ln) (r : Rw) : Prop :=
  r.f < n ∧ 1 ≤ r.ln ∧ ∃ ln, (fs r.f)[r.ln - 1]? = some ln ∧ match ln with
    | .txt d => r.l = (Ln.txt d).text ∧ r.w = true
    | .inc _ => r.l = [] ∧ r.w = false
/-- What reading a file does. -/
def FileC (n nf : Nat) (fs : Nat → List Ln) (i : Nat) : Prop :=
  ∀ (H : VH) (R mf : Nat) (c1 : AV) (L : Nat) (st : Option (List Rw)) (v q : AV) (ns : List (List UInt8)), OS (fun j => fileT (fs j)) nf H R mf c1 L st v q → Opn H q ns L → ns.length ≤ i → (∀ s ∈ ns, ∃ j, j < i ∧ s = fname j) →
    ∃ v' q' st' H', vcall T ext promo n 28 [.ptr (some (R, 0)), .str (PS.of (fname i))] H = some (.tuple [], H') ∧
      OS (fun j => fileT (fs j)) nf H' R mf c1 L st' v' q' ∧ Opn H' q' ns L ∧ Stp L R v q v' q' H H' ∧ Ext (GoodR nf fs) st st' ∧ H'.low ≤ R
/-! The preprocessor: the loop over the lines of a file that includes others. -/
/-- The lines of a file, in the heap. -/
def LnsAt (H : VH) (L R : Nat) (v : AV) (a : Option (Nat × Nat)) (ls : List (List UInt8)) : Prop := ls = [] ∨ ∃ A, a = some (A, 0) ∧ Own H L R v A (strCells ls)
theorem LnsAt.stp {H H' : VH} {L R : Nat} {v q v' q' : AV} {a : Option (Nat × Nat)} {ls ns : List (List UInt8)} (h : LnsAt H L R v a ls) (hH : H.Ok) (ho : Opn H q ns L) (s : Stp L R v q v' q' H H') : LnsAt H' L R v' a ls := by
  rcases h with h | ⟨A, e, h⟩
  · exact .inl h
  · exact .inr ⟨A, e, h.stp hH ho s⟩
theorem fnames_no {i k : Nat} {ns : List (List UInt8)} (hk : i < k) (hk4 : k < 10) (hns : ∀ s ∈ ns, ∃ j, j < i ∧ s = fname j) : fname k ∉ ns ++ [fname i] := fun h => by
  rcases List.mem_append.1 h with h | h
  · obtain ⟨j, h1, h2⟩ := hns _ h
    have := fname_inj k hk4 j (by omega) h2
    omega
  · have := fname_inj k hk4 i (by omega) (List.mem_singleton.1 h)
    omega
/-- What is known behind a line. -/
structure LI (nf : Nat) (fs : Nat → List Ln) (H0 H : VH) (R mf : Nat) (c1 : AV) (L C : Nat) (a : Option (Nat × Nat)) (ls ns : List (List UInt8)) (st0 st : Option (List Rw)) (v0 q0 v q : AV) : Prop where
  os : OS (fun j => fileT (fs j)) nf H R mf c1 L st v q
  opn : Opn H q ns L
  cd : Own H L R v C [.slice none 0 (some 0) 0]
  ln : LnsAt H L R v a ls
  stp : Stp L R v0 q0 v q H0 H
  ext : Ext (GoodR nf fs) st0 st
theorem LI.next {nf : Nat} {fs : Nat → List Ln} {H0 H H' : VH} {R mf : Nat} {c1 : AV} {L C : Nat} {a : Option (Nat × Nat)} {ls ns : List (List UInt8)} {st0 st st' : Option (List Rw)} {v0 q0 v q v' q' : AV}
    (h : LI nf fs H0 H R mf c1 L C a ls ns st0 st v0 q0 v q) (os : OS (fun j => fileT (fs j)) nf H' R mf c1 L st' v' q') (opn : Opn H' q' ns L) (s : Stp L R v q v' q' H H') (e : Ext (GoodR nf fs) st st') : LI nf fs H0 H' R mf c1 L C a ls ns st0 st' v0 q0 v' q' :=
  ⟨os, opn, h.cd.stp h.os.ok h.opn s, h.ln.stp h.os.ok h.opn s, h.stp.trans s, h.ext.trans e⟩
theorem LI.eff {nf : Nat} {fs : Nat → List Ln} {H0 H H' : VH} {R mf : Nat} {c1 : AV} {L C : Nat} {a : Option (Nat × Nat)} {ls ns : List (List UInt8)} {st0 st : Option (List Rw)} {v0 q0 v q : AV} {S : Nat → Prop}
    (h : LI nf fs H0 H R mf c1 L C a ls ns st0 st v0 q0 v q) (k : Keep S H H') (hk : H'.Ok) (hs : ∀ x, S x → H.next ≤ x) : LI nf fs H0 H' R mf c1 L C a ls ns st0 st v0 q0 v q :=
  h.next (h.os.keep k hk hs) (h.opn.keep h.os.ok k fun x hx e => by
    obtain ⟨r, g, _⟩ := h.opn.tip hx
    have := h.os.ok.get x _ (VH.row?_get g)
    have := hs x e
    omega) (.of k hs) (.refl _ _)
theorem file_loop2 (n nf i : Nat) (hn : 2000 ≤ n) (hi : i < nf) (hnf : nf ≤ 5) (fs : Nat → List Ln) (hfs : ∀ j, j < nf → (fs j).length ≤ 6 ∧ ∀ l ∈ fs j, LnOk nf j l) (hfile : ∀ k, i < k → k < nf → FileC (n - 1) nf fs k)
    (H0 H18 : VH) (R mf : Nat) (c1 : AV) (L : Nat) (a : Option (Nat × Nat)) (ns : List (List UInt8)) (hl : ns.length ≤ i) (hns : ∀ s ∈ ns, ∃ j, j < i ∧ s = fname j) (st0 : Option (List Rw)) (v0 q0 : AV) :
    ∀ (m j : Nat) (H : VH) (st : Option (List Rw)) (v q : AV), j ≤ (fs i).length → (fs i).length - j < m → LI nf fs H0 H R mf c1 L H18.next a ((fs i).map Ln.text) (ns ++ [fname i]) st0 st v0 q0 v q →
      ∃ H' st' v' q', loopN (L28_0 (vcall T ext promo n) n (some (R, 0)) (PS.of (fname i)) H18 a (fs i).length) m [.bool false, .int .i64 (j : Int)] H = some (.exit 0, [], H') ∧
        LI nf fs H0 H' R mf c1 L H18.next a ((fs i).map Ln.text) (ns ++ [fname i]) st0 st' v0 q0 v' q' := by
  obtain ⟨hlen, hgood⟩ := hfs i hi
  intro m
  induction m with
  | zero => intro j H st v q _ h; omega
  | succ m ih =>
    intro j H st v q hj hm hI
    rw [loopN_succ]
    generalize hlp : loopN (L28_0 (vcall T ext promo n) n (some (R, 0)) (PS.of (fname i)) H18 a (fs i).length) m = lp at ih ⊢
    unfold L28_0
    simp only [KA, KB, KD, reduceCtorEq, if_false, if_true, Bool.and_eq_true]
    by_cases h : j < (fs i).length
    · rw [if_pos (by omega)]
      obtain ⟨A, rfl, hA⟩ : ∃ A, a = some (A, 0) ∧ Own H L R v A (strCells ((fs i).map Ln.text)) := by
        rcases hI.ln with e | e
        · have := congrArg List.length e
          rw [List.length_map, List.length_nil] at this
          omega
        · exact e
      have rA : H.cell A (0 + (j : Int).toNat * 1) = some (.str (PS.of ((fs i)[j]).text)) := by
        rw [hA.p.cell, Int.toNat_natCast, Nat.zero_add, Nat.mul_one, strCells, List.getElem?_map, List.getElem?_map, List.getElem?_eq_getElem h]
        rfl
      obtain ⟨r0, r7, r8, _⟩ := hI.os.run.cells
      simp only [KA, KB, KD, reduceCtorEq, if_false, if_true]
      rw [if_pos (by omega), rA]
      simp only [KA, KB, KD, reduceCtorEq, if_false, if_true, r8]
      cases st with
      | none =>
        simp only [Option.isNone_none, KA, KB, KD, reduceCtorEq, if_false, if_true]
        exact ⟨H, none, v, q, rfl, hI⟩
      | some rs =>
        simp only [Option.isNone_some, KA, KB, KD, reduceCtorEq, if_false, if_true]
        have hlok := hgood _ (List.getElem_mem h)
        obtain ⟨hl13, _⟩ := ln_ok hnf hlok
        have f1 : fwrap .i64 ((j : Int) + 1) = ((j + 1 : Nat) : Int) := fw_add1 j (by omega)
        have f0 : ∀ k : Nat, fwrap .i64 ((k : Int) - (k : Int)) = 0 := fun k => by rw [Int.sub_self]; rfl
        have hc : H.cell H18.next 0 = some (.slice none 0 (some 0) 0) := hI.cd.p.cell 0
        obtain ⟨H1, e1, p1, k1⟩ := dirs_ok n (by omega) hI.os.ok
        have hI1 := hI.eff k1.keep k1.ok (fun _ h => h.elim)
        generalize hln : (fs i)[j] = l at *
        cases l with
        | txt d =>
          obtain ⟨t1, t2, t3, t4⟩ := txt_ok d hlok
          have htrim : Lib.trimLeftS (Ln.txt d).text [32, 9] = (Ln.txt d).text := by
            show List.dropWhile _ (108 :: _) = _
            rfl
          have e2 := search_ok n (by omega) p1
          have e3 := text2_ok n (Ln.txt d).text (by omega) (by omega) t4 (some (R, 0)) (PS.of (fname i)) ((j + 1 : Nat) : Int) k1.ok hI1.os.mx
          obtain ⟨v', H2, st', e4, os2, op2, hst, s2⟩ := hI1.os.emit n (by omega) hI1.opn (Ln.txt d).text (by omega) i (j + 1) true
          have hx : Ext (GoodR nf fs) (some rs) st' := by
            rcases hst with e | e
            · exact .inl e
            · refine .inr ⟨rs, _, rfl, e, fun r hr => ?_⟩
              rw [List.mem_singleton] at hr
              subst hr
              exact ⟨hi, by show 1 ≤ j + 1; omega, .txt d, by show (fs i)[j + 1 - 1]? = _; rw [Nat.add_sub_cancel, List.getElem?_eq_getElem h, hln], rfl, rfl⟩
          have hI2 := hI1.next os2 op2 s2 hx
          obtain ⟨H', st'', v'', q'', e5, hI5⟩ := ih (j + 1) H2 st' v' q (by omega) (by omega) hI2
          refine ⟨H', st'', v'', q'', ?_, hI5⟩
          have hb : ieq (((PS.of (Ln.txt d).text).byte ((0 : Nat) : Int).toNat : Nat) : Int) 96 = false := by
            rw [byte_int _ 0 (by show 0 < (lineW ++ dec d).length; omega), ieq_dec]
            rfl
          have hb' : ieq (((PS.of (Ln.txt d).text).byte (0 : Int).toNat : Nat) : Int) 96 = false := hb
          have hlt : (0 : Int) < ((Ln.txt d).text.length : Int) := by show (0 : Int) < ((lineW ++ dec d).length : Int); omega
          rw [trimLeft2_ok n (by omega) _ (by omega) htrim]
          simp only [KA, KB, KD, reduceCtorEq, if_false, if_true, of_len, f0, f1]
          rw [if_pos hlt, if_pos ⟨by omega, hlt⟩, hb']
          simp only [KA, KB, KD, reduceCtorEq, if_false, if_true, hc, e1, e2, e3, e4, str_eq, decide_true, ieq_dec]
          rw [if_pos (show ((0 : Nat) : Int) = 0 from rfl)]
          simp only [KA, KB, KD, reduceCtorEq, if_false, if_true, e1, e2, e3, e4, f1, str_eq, decide_true]
          exact e5
        | inc k =>
          obtain ⟨hk1, hk2⟩ : i < k ∧ k < nf := hlok
          obtain ⟨g1, _⟩ := inc_ok k (by omega) (by omega)
          have htrim : Lib.trimLeftS (Ln.inc k).text [32, 9] = (Ln.inc k).text := rfl
          have e2 := searchInc_ok n (by omega) p1
          obtain ⟨v2, H2, st2, e3, os2, op2, hst, s2⟩ := hI1.os.emit n (by omega) hI1.opn [] (by simp) i (j + 1) false
          have hx : Ext (GoodR nf fs) (some rs) st2 := by
            rcases hst with e | e
            · exact .inl e
            · refine .inr ⟨rs, _, rfl, e, fun r hr => ?_⟩
              rw [List.mem_singleton] at hr
              subst hr
              exact ⟨hi, by show 1 ≤ j + 1; omega, .inc k, by show (fs i)[j + 1 - 1]? = _; rw [Nat.add_sub_cancel, List.getElem?_eq_getElem h, hln], rfl, rfl⟩
          have hI2 := hI1.next os2 op2 s2 hx
          have hc2 : H2.cell H18.next 0 = some (.slice none 0 (some 0) 0) := hI2.cd.p.cell 0
          have e4 := condition_ok n (by omega) (some (R, 0)) (PS.of (fname i)) ((j + 1 : Nat) : Int) 1 (PS.of ([32, 34] ++ fname k ++ [34])) hc2
          obtain ⟨v3, q3, st3, H3, e5, os3, op3, s3, x3, low3⟩ := hfile k hk1 hk2 H2.lo R mf c1 L st2 v2 q (ns ++ [fname i]) os2.lo op2.lo (by simp; omega) (fun s hs => by
            rcases List.mem_append.1 hs with hs | hs
            · obtain ⟨y, y1, y2⟩ := hns s hs
              exact ⟨y, by omega, y2⟩
            · exact ⟨i, hk1, List.mem_singleton.1 hs⟩)
          have hlow : H3.low < H2.next := by have := os2.run.lt os2.ok; omega
          obtain ⟨c, ver, hmap⟩ := os2.map
          obtain ⟨q0', q7', _, _⟩ := os2.run.cells
          have e6 := directive_ok (n - 1) (by omega) (PS.of (fname i)) ((j + 1 : Nat) : Int) 1 (by omega) (by omega) (by omega) hk2 q0' q7' hmap op2 (by simp; omega) (fnames_no hk1 (by omega) hns) e5
          rw [show n - 1 + 1 = n by omega, leave_eff hlow] at e6
          have hI3 := hI2.next (H' := { H3 with low := min H2.low H3.low }) (os3.low _) (op3.low _) ⟨⟨s3.kp.next, s3.kp.get, s3.kp.wg⟩, s3.tv, s3.tq⟩ x3
          obtain ⟨H', st'', v'', q'', e7, hI7⟩ := ih (j + 1) _ st3 v3 q3 (by omega) (by omega) hI3
          refine ⟨H', st'', v'', q'', ?_, hI7⟩
          have hb' : ieq (((PS.of (Ln.inc k).text).byte (0 : Int).toNat : Nat) : Int) 96 = true := by
            have : (((PS.of (Ln.inc k).text).byte ((0 : Nat) : Int).toNat : Nat) : Int) = _ := byte_int _ 0 (by show 0 < (incT k).length; omega)
            rw [show (0 : Int).toNat = ((0 : Nat) : Int).toNat from rfl, this, ieq_dec]
            rfl
          have hlt : (0 : Int) < ((Ln.inc k).text.length : Int) := by show (0 : Int) < ((incT k).length : Int); omega
          have sl1 : ∀ H : VH, vslice T H 9 (.v (.str (PS.of (Ln.inc k).text))) (some (.int .i64 1)) none = some (.str (PS.of (incW ++ [32, 34] ++ fname k ++ [34]))) := fun H => slStrF H (incT k) 1 (by omega)
          have sl2 : ∀ H : VH, vslice T H 9 (.v (.str (PS.of (incW ++ [32, 34] ++ fname k ++ [34])))) none (some (.int .i64 7)) = some (.str (PS.of incW)) := fun H => slStrT H (incW ++ [32, 34] ++ fname k ++ [34]) 7 (by show 7 ≤ 12; omega)
          have sl3 : ∀ H : VH, vslice T H 9 (.v (.str (PS.of (Ln.inc k).text))) (some (.int .i64 8)) none = some (.str (PS.of ([32, 34] ++ fname k ++ [34]))) := fun H => slStrF H (incT k) 8 (by omega)
          rw [trimLeft2_ok n (by omega) _ (by omega) htrim]
          simp only [KA, KB, KD, reduceCtorEq, if_false, if_true, of_len, f0, f1]
          rw [if_pos hlt, if_pos ⟨by omega, hlt⟩, hb']
          simp only [KA, KB, KD, reduceCtorEq, if_false, if_true, show fwrap .i64 (0 + 1) = 1 from rfl]
          rw [sl1]
          simp only [KA, KB, KD, reduceCtorEq, if_false, if_true]
          rw [nameLen_ok n (by omega) k (by omega) (by omega)]
          simp only [KA, KB, KD, reduceCtorEq, if_false, if_true]
          rw [sl2]
          simp only [KA, KB, KD, reduceCtorEq, if_false, if_true, hc, ieq_dec]
          rw [if_pos (show ((0 : Nat) : Int) = 0 from rfl)]
          simp only [KA, KB, KD, reduceCtorEq, if_false, if_true, e1, e2, of_len, show fwrap .i64 (1 + ((incW.length : Nat) : Int)) = 8 from rfl]
          rw [sl3]
          simp only [KA, KB, KD, reduceCtorEq, if_false, if_true, e3, e4, e6]
          exact e7
    · rw [if_neg (by omega)]
      have : j = (fs i).length := by omega
      subst this
      exact ⟨H, st, v, q, rfl, hI⟩
/-! The preprocessor: a file that includes others. -/
theorem Stp.from_lo {L R : Nat} {v q v' q' : AV} {H H' : VH} (h : Stp L R v q v' q' H.lo H') : Stp L R v q v' q' H H' := ⟨⟨h.kp.next, h.kp.get, h.kp.wg⟩, h.tv, h.tq⟩
theorem RSt.keepL {L : Nat} {S : Nat → Prop} {H H' : VH} {R mf : Nat} {c1 : AV} {st : Option (List Rw)} {v q : AV} (h : RSt H R mf c1 st v q) (hH : H.Ok) (nlR : NL H R L) (nlv : ∀ x, TipAt v x → NL H x L) (k : KeepL L S H H') (hS : ∀ b, NL H b L → ¬ S b) : RSt H' R mf c1 st v q := by
  cases st with
  | some rs => exact ⟨plain_keepL h.1 hH nlR k (hS _ nlR), grow_keepL h.2.1 hH nlv k (fun x hx => hS x (nlv x hx)), h.2.2⟩
  | none => obtain ⟨t, z, h⟩ := h; exact ⟨t, z, plain_keepL h hH nlR k (hS _ nlR)⟩
theorem OS.keepL {F : Nat → List UInt8} {m : Nat} {H H' : VH} {R mf : Nat} {c1 : AV} {L : Nat} {st : Option (List Rw)} {v q : AV} {S : Nat → Prop} (h : OS F m H R mf c1 L st v q) (k : KeepL L S H H') (hk : H'.Ok) (hS : ∀ b, NL H b L → ¬ S b) (hm : ¬ S mf) : OS F m H' R mf c1 L st v q := by
  obtain ⟨c, ver, hmap⟩ := h.map
  have hR := h.run.lt h.ok
  have := h.mR
  exact ⟨hk, mx_keepL h.mx h.ok h.nl0 k (hS _ h.nl0), h.r0, h.mR, h.nl0.keep h.ok k (hS _ h.nl0), h.nlR.keep h.ok k (hS _ h.nlR), h.run.keepL h.ok h.nlR (fun x hx => (h.nlv x hx).1) k hS, fun x hx => ⟨(h.nlv x hx).1.keep h.ok k (hS _ (h.nlv x hx).1), (h.nlv x hx).2⟩, c, ver, map?_keepL hmap (by omega) k hm⟩
theorem OS.setQ {F : Nat → List UInt8} {m : Nat} {H : VH} {R mf : Nat} {c1 : AV} {L : Nat} {st : Option (List Rw)} {v q : AV} (h : OS F m H R mf c1 L st v q) (hL : L < H.next) (q' : AV) (hq : q'.one = true) :
    ∃ H', H.puts R (0 + 7) [q'] = some H' ∧ OS F m H' R mf c1 L st v q' ∧ Eff (· = R) H H' ∧ H'.next = H.next ∧ H'.low = min H.low R := by
  obtain ⟨H', e, hr, k, hn, hl⟩ := h.run.setQ h.ok (fun x hx => by have := (h.nlv x hx).2; omega) q' hq
  have hs : Hs H H' := Hs.puts e
  obtain ⟨c, ver, hmap⟩ := h.map
  have hR := h.run.lt h.ok
  have hmR := h.mR
  have hr0 := h.r0
  exact ⟨H', e, ⟨k.ok, h.mx.keep h.ok k.keep (fun e => hr0 e.symm), h.r0, h.mR, h.nl0.hs h.ok hL hs, h.nlR.hs h.ok hL hs, hr, fun x hx => ⟨(h.nlv x hx).1.hs h.ok hL hs, (h.nlv x hx).2⟩, c, ver, map?_keep hmap (by omega) k.keep (by omega)⟩, k, hn, hl⟩
/-- A name can be put behind the open files. -/
def CanOpen (H : VH) (q : AV) (ns : List (List UInt8)) (s : List UInt8) (L mf : Nat) : Prop :=
  ∃ q1 H3, vbuiltin T (H.lo.fresh [.str (PS.of s)]) .append [50, 50] [q, .slice (some (H.next, 0)) 1 (some 1) 1] = some (q1, H3) ∧ Opn H3 q1 (ns ++ [s]) L ∧ H3.Ok ∧ KeepL L (TipAt q) (H.lo.fresh [.str (PS.of s)]) H3 ∧ (∀ x, TipAt q1 x → H.next + 1 ≤ x) ∧ (∀ b, NL (H.lo.fresh [.str (PS.of s)]) b L → ¬ TipAt q b) ∧ ¬ TipAt q mf ∧ q1.one = true
theorem Opn.lin {H : VH} {q : AV} {ns : List (List UInt8)} {L : Nat} (h : Opn H q ns L) (hH : H.Ok) : L < H.next := by
  obtain ⟨b, r, _, h1, h2, _⟩ := h
  have := hH.lin b r h1
  omega
theorem Opn.can {H : VH} {q : AV} {ns : List (List UInt8)} {L mf : Nat} (h : Opn H q ns L) (hH : H.Ok) (hl : ns.length < 1000) (s : List UInt8) {x : List ME × Nat × Nat} (hm : H.map? mf = some x) : CanOpen H q ns s L mf := by
  have o2 := fresh_ok (lo_ok hH) [.str (PS.of s)]
  have h2 : Opn (H.lo.fresh [.str (PS.of s)]) q ns L := h.lo.keep (lo_ok hH) (Keep.fresh (fun _ => False) H.lo _) (fun _ _ e => e)
  obtain ⟨q', H', a1, a2, a3, a4, a5, a6, a7, a8⟩ := h2.app o2 hl (p := H.next) (c := some 1) (es := 1) (s := s) (fresh_cells (lo_ok hH) _ 0 1 (by simp))
  refine ⟨q', H', a1, a2, a3, a4, fun x hx => by have := a5 x hx; simp only [fresh_next] at this; rw [this]; exact Nat.le_refl _, fun b nb => h2.ne nb, fun e => ?_, a8⟩
  obtain ⟨r, g, _⟩ := h.tip e
  unfold VH.map? at hm
  rw [VH.row?_get g] at hm
  cases hm
theorem file_ok3 (n nf i : Nat) (hn : 2005 ≤ n) (hi : i < nf) (hnf : nf ≤ 5) (fs : Nat → List Ln) (hfs : ∀ j, j < nf → (fs j).length ≤ 6 ∧ ∀ l ∈ fs j, LnOk nf j l) (hfile : ∀ k, i < k → k < nf → FileC (n - 1) nf fs k)
    {H : VH} {R mf : Nat} {c1 : AV} {L : Nat} {st : Option (List Rw)} {v q : AV} {ns : List (List UInt8)} (os : OS (fun j => fileT (fs j)) nf H R mf c1 L st v q) (hq : ∃ a k c e, q = .slice a k c e) (hl : ns.length ≤ i) (hns : ∀ s ∈ ns, ∃ j, j < i ∧ s = fname j) (hcan : CanOpen H q ns (fname i) L mf) :
    ∃ v' q' st' H', vcall T ext promo (n + 1) 28 [.ptr (some (R, 0)), .str (PS.of (fname i))] H = some (.tuple [], H') ∧
      OS (fun j => fileT (fs j)) nf H' R mf c1 L st' v' q' ∧ Opn H' q' ns L ∧ Stp L R v q v' q' H H' ∧ Ext (GoodR nf fs) st st' ∧ H'.low ≤ R := by
  obtain ⟨qa, qk, qc, qe, rfl⟩ := hq
  obtain ⟨q1, H3, a1, a2, a3, a4, a5, a6, a7, a8⟩ := hcan
  have hRn := os.run.lt os.ok
  obtain ⟨r0, r7, r8, _⟩ := os.run.cells
  -- the name is appended
  have K2 : Keep (fun _ => False) H.lo (H.lo.fresh [.str (PS.of (fname i))]) := Keep.fresh _ _ _
  have os2 := os.lo.keep K2 (fresh_ok (lo_ok os.ok) _) (fun _ h => h.elim)
  have S2 : Stp L R v (.slice qa qk qc qe) v (.slice qa qk qc qe) H (H.lo.fresh [.str (PS.of (fname i))]) := (Stp.of K2 (fun _ h => h.elim)).from_lo
  have os3 := os2.keepL a4 a3 a6 a7
  have S3 : Stp L R v (.slice qa qk qc qe) v q1 (H.lo.fresh [.str (PS.of (fname i))]) H3 := ⟨a4.mono fun x _ e => .inr (.inr e), fun _ h => .inl h, fun x hx => .inr (by have := a5 x hx; simp only [fresh_next]; exact this)⟩
  have hL3 := a2.lin a3
  obtain ⟨H4, e4, os4, k4, n4, l4⟩ := os3.setQ hL3 q1 a8
  have S4 : Stp L R v q1 v q1 H3 H4 := ⟨(Keep.toL k4.keep L).mono fun x _ e => .inl e, fun _ h => .inl h, fun _ h => .inl h⟩
  have op4 : Opn H4 q1 (ns ++ [fname i]) L := a2.keep a3 k4.keep fun x hx e => by
    subst e
    exact a2.ne os3.nlR hx
  -- no condition is open
  have o5 := fresh_ok os4.ok [.slice none 0 (some 0) 0]
  have K5 : Keep (fun _ => False) H4 (H4.fresh [.slice none 0 (some 0) 0]) := Keep.fresh _ _ _
  have os5 := os4.keep K5 o5 (fun _ h => h.elim)
  have op5 := op4.keep os4.ok K5 (fun _ _ e => e)
  have S5 : Stp L R v q1 v q1 H4 (H4.fresh [.slice none 0 (some 0) 0]) := .of K5 (fun _ h => h.elim)
  have hR4 := os4.run.lt os4.ok
  have hL4 := op4.lin os4.ok
  have cd5 : Own (H4.fresh [.slice none 0 (some 0) 0]) L R v H4.next [.slice none 0 (some 0) 0] := ⟨fresh_plain os4.ok _, ⟨_, by unfold VH.row?; rw [fresh_get, if_pos rfl], by show H4.next ≠ L; omega⟩, by omega, fun e => by have := (os4.nlv _ e).1.lt os4.ok; omega⟩
  -- the lines
  obtain ⟨hlen, hgood⟩ := hfs i hi
  have h10 : ∀ l ∈ (fs i).map Ln.text, (10 : UInt8) ∉ l := fun l hl => by
    obtain ⟨x, x1, rfl⟩ := List.mem_map.1 hl
    exact (ln_ok hnf (hgood x x1)).2
  obtain ⟨a, la, lc, H6, e6, hla, k6, ln6⟩ : ∃ a c e H6, vcall T ext promo n 54 [.str (PS.of (fileT (fs i)))] (H4.fresh [.slice none 0 (some 0) 0]) = some (.slice a (fs i).length c e, H6) ∧ True ∧ Eff (fun _ => False) (H4.fresh [.slice none 0 (some 0) 0]) H6 ∧ LnsAt H6 L R v a ((fs i).map Ln.text) := by
    by_cases h0 : fs i = []
    · refine ⟨none, some 0, 0, H4.fresh [.slice none 0 (some 0) 0], ?_, trivial, .refl o5, .inl (by rw [h0]; rfl)⟩
      rw [h0]
      exact lines0_ok n (by omega) _
    · have hne : (fs i).map Ln.text ≠ [] := by simpa using h0
      have hle : ∀ (l : List Ln), (∀ x ∈ l, LnOk nf i x) → (ot (l.map Ln.text)).length ≤ 14 * l.length := by
        intro l
        induction l with
        | nil => intro _; exact Nat.le_refl _
        | cons x l ih =>
          intro hx
          have g := (ln_ok hnf (hx x List.mem_cons_self)).1
          have g2 := ih fun y hy => hx y (List.mem_cons_of_mem _ hy)
          have : ot ((x :: l).map Ln.text) = (x.text ++ [10]) ++ ot (l.map Ln.text) := by simp [ot]
          rw [this, List.length_append, List.length_append, List.length_singleton, List.length_cons]
          omega
      have hft := hle (fs i) hgood
      have hne2 : fileT (fs i) ≠ [] := by
        show ot ((fs i).map Ln.text) ≠ []
        rw [ot_jn _ hne]
        simp
      obtain ⟨H6, e6, p6, k6⟩ := lines_ok n (fileT (fs i)) (by show (ot ((fs i).map Ln.text)).length + 70 ≤ n; omega) (by show (ot ((fs i).map Ln.text)).length < 100000; omega) hne2 o5 os5.mx
      have hsp : splits 10 (chomp (fileT (fs i))) = (fs i).map Ln.text := splits_file _ hne h10
      have hcount : (chomp (fileT (fs i))).count 10 + 1 = (fs i).length := by rw [← splits_len, hsp, List.length_map]
      rw [hsp] at p6
      rw [hcount] at e6
      refine ⟨_, _, _, H6, e6, trivial, k6, .inr ⟨_, rfl, p6, ?_, by show H4.next + 1 ≠ R; omega, fun e => by have := (os4.nlv _ e).1.lt os4.ok; simp only [fresh_next] at this; omega⟩⟩
      obtain ⟨r, hr, _⟩ := p6.row
      exact nl_new o5 (vcall_hs T ext promo n _ _ _ _ _ e6) k6.keep (fun _ h => h.elim) (by show L < H4.next + 1; omega) (Nat.le_refl _) hr
  have os6 := os5.keep k6.keep k6.ok (fun _ h => h.elim)
  have op6 := op5.keep o5 k6.keep (fun _ _ e => e)
  have S6 : Stp L R v q1 v q1 (H4.fresh [.slice none 0 (some 0) 0]) H6 := .of k6.keep (fun _ h => h.elim)
  have cd6 := cd5.stp o5 op5 S6
  have I6 : LI nf fs H6 H6 R mf c1 L H4.next a ((fs i).map Ln.text) (ns ++ [fname i]) st st v q1 v q1 := ⟨os6, op6, cd6, ln6, .refl _ _ _ _ _, .refl _ _⟩
  obtain ⟨H7, st7, v7, q7, e7, I7⟩ := file_loop2 n nf i (by omega) hi hnf fs hfs hfile H6 H4 R mf c1 L a ns hl hns st v q1 n 0 H6 st v q1 (Nat.zero_le _) (by omega) I6
  obtain ⟨b, rfl, op7⟩ := I7.opn.pop
  obtain ⟨H8, e8, os8, k8, n8, l8⟩ := I7.os.setQ (I7.opn.lin I7.os.ok) (.slice (some (b, 0)) ns.length none 1) rfl
  have S8 : Stp L R v7 (.slice (some (b, 0)) (ns.length + 1) none 1) v7 (.slice (some (b, 0)) ns.length none 1) H7 H8 := ⟨(Keep.toL k8.keep L).mono fun x _ e => .inl e, fun _ h => .inl h, fun x ⟨_, _, _, _, e⟩ => .inl ⟨0, ns.length + 1, none, 1, by
    simp only [AV.slice.injEq, Option.some.injEq, Prod.mk.injEq] at e
    rw [e.1.1]⟩⟩
  have op8 : Opn H8 (.slice (some (b, 0)) ns.length none 1) ns L := op7.keep I7.os.ok k8.keep fun x hx e => by
    subst e
    exact op7.ne I7.os.nlR hx
  have hlow : H8.low < H.next := by
    have : H8.low ≤ R := by rw [l8]; exact Nat.min_le_right _ _
    omega
  have S : Stp L R v (.slice qa qk qc qe) v7 (.slice (some (b, 0)) ns.length none 1) H H8 := (((S2.trans S3).trans (S4.trans S5)).trans (S6.trans I7.stp)).trans S8
  refine ⟨v7, .slice (some (b, 0)) ns.length none 1, st7, leave H H8 (.tuple []), ok28 _ _ _ _ ?_, ?_, ?_, ?_, I7.ext, ?_⟩
  rotate_left
  · rw [leave_eff hlow]
    exact os8.low _
  · rw [leave_eff hlow]
    exact op8.low _
  · rw [leave_eff hlow]
    exact S.low _
  · rw [leave_eff hlow]
    show min H.low H8.low ≤ R
    rw [l8]
    omega
  · unfold F28
    obtain ⟨q1a, q1k, q1c, q1e, rfl⟩ : ∃ a k c e, q1 = .slice a k c e := by
      obtain ⟨_, e, _⟩ := a2.cell
      exact ⟨_, _, _, _, e⟩
    have r7' : H.lo.cell R (0 + 7) = some (.slice qa qk qc qe) := r7
    have a1' : vbuiltin T (H.lo.fresh [.str (PS.of (fname i))]) .append [50, 50] [.slice qa qk qc qe, .slice (some (H.lo.next, 0)) 1 (some 1) 1] = some (.slice q1a q1k q1c q1e, H3) := a1
    have e4' : H3.puts R (0 + 7) [.slice q1a q1k q1c q1e] = some H4 := e4
    obtain ⟨s0, s7, _, _⟩ := os5.run.cells
    have s0' : (H4.fresh [.slice none 0 (some 0) 0]).cell R 0 = some (.map (some mf)) := s0
    obtain ⟨cc, ver, hmap⟩ := os5.map
    have lk := lookE hmap (by omega) hi false
    have rc : H7.cell H4.next 0 = some (.slice none 0 (some 0) 0) := I7.cd.p.cell 0
    obtain ⟨_, t7, _, _⟩ := I7.os.run.cells
    have e8' : H7.puts R (0 + 7) [.slice (some (b, 0)) ns.length none 1] = some H8 := e8
    have e7' : loopN (L28_0 (vcall T ext promo n) n (some (R, 0)) (PS.of (fname i)) H4 a (fs i).length) n [.bool false, .int .i64 0] H6 = some (.exit 0, [], H7) := e7
    have fl : fwrap .i64 (((ns.length + 1 : Nat) : Int) - 1) = (ns.length : Int) := by rw [fw_sub1 (ns.length + 1) (by omega) (by omega), Nat.add_sub_cancel]
    simp only [KA, KB, KD, reduceCtorEq, if_false, if_true, r7', a1', e4', s0', lk, e6, e7', rc]
    obtain ⟨n, rfl⟩ : ∃ m, n = m + 1 := ⟨n - 1, by omega⟩
    rw [loopN_succ]
    unfold L28_1
    simp only [KA, KB, KD, reduceCtorEq, if_false, if_true]
    rw [if_neg (by omega)]
    simp only [KA, KB, KD, reduceCtorEq, if_false, if_true, t7, fl]
    rw [cutOpen]
    simp only [KA, KB, KD, reduceCtorEq, if_false, if_true, e8']
theorem fileC_all (nf : Nat) (hnf : nf ≤ 5) (fs : Nat → List Ln) (hfs : ∀ j, j < nf → (fs j).length ≤ 6 ∧ ∀ l ∈ fs j, LnOk nf j l) : ∀ (d i n : Nat), nf - i ≤ d → i < nf → 2010 + 10 * d ≤ n → FileC n nf fs i
  | 0, i, n, h, hi, _ => by omega
  | d + 1, i, n, h, hi, hn => by
    intro H R mf c1 L st v q ns os op hl hns
    obtain ⟨n, rfl⟩ : ∃ m, n = m + 1 := ⟨n - 1, by omega⟩
    obtain ⟨c, ver, hm⟩ := os.map
    obtain ⟨_, e, _⟩ := op.cell
    exact file_ok3 n nf i (by omega) hi hnf fs hfs (fun k hk hk2 => fileC_all nf hnf fs hfs d k (n - 1) (by omega) hk2 (by omega)) os ⟨_, _, _, _, e⟩ hl hns (op.can os.ok (by omega) (fname i) hm)
/-! The preprocessor: Run with files that include each other. -/
theorem len0_ok (n : Nat) (hn : 1 ≤ n) (H : VH) : vcall T ext promo n 50 [.int .u64 0] H = some (.int .i64 0, H) := by
  obtain ⟨n, rfl⟩ : ∃ m, n = m + 1 := ⟨n - 1, by omega⟩
  exact call_ext (g := fun _ => xTab tab50) rfl rfl
theorem insert0_ok (n : Nat) (hn : 2 ≤ n) (a : Option (Nat × Nat)) (c : Option Nat) (e : Nat) (H : VH) : vcall T ext promo n 74 [.slice a 0 c e, .int .i64 0, .int .i64 0] H = some (.tuple [], H) := by
  obtain ⟨n, rfl⟩ : ∃ m, n = m + 2 := ⟨n - 2, by omega⟩
  apply ok74
  unfold F74
  simp only [KA, KB, KD, reduceCtorEq, if_false, if_true]
  rw [show fwrap .i64 (0 + 1) = 1 from rfl, loopN_succ]
  unfold L74_0
  simp only [KA, KB, KD, reduceCtorEq, if_false, if_true]
  rw [if_neg (by omega)]
  simp only [KA, KB, KD, reduceCtorEq, if_false, if_true]
  rw [leave_flat rfl rfl]
theorem pdq0_ok (n : Nat) (hn : 4 ≤ n) (a : Option (Nat × Nat)) (c : Option Nat) (e : Nat) (x : Int) (H : VH) : vcall T ext promo n 49 [.slice a 0 c e, .int .i64 0, .int .i64 0, .int .i64 x] H = some (.tuple [], H) := by
  obtain ⟨n, rfl⟩ : ∃ m, n = m + 2 := ⟨n - 2, by omega⟩
  apply ok49
  unfold F49
  simp only [letH_mk]
  rw [loopN_succ]
  unfold L49_0
  simp only [KA, KB, KD, reduceCtorEq, if_false, if_true]
  rw [show fwrap .i64 (0 - 0) = 0 from rfl, if_pos (by omega), insert0_ok _ (by omega)]
  simp only [KA, KB, KD, reduceCtorEq, if_false, if_true]
  rw [leave_flat rfl rfl]
theorem sort0_ok (n : Nat) (hn : 6 ≤ n) (a : Option (Nat × Nat)) (c : Option Nat) (e : Nat) (H : VH) : vcall T ext promo n 25 [.slice a 0 c e] H = some (.tuple [], H) := by
  obtain ⟨n, rfl⟩ : ∃ m, n = m + 1 := ⟨n - 1, by omega⟩
  apply ok25
  unfold F25
  simp only [KA, KB, KD, reduceCtorEq, if_false, if_true]
  rw [show fwrap .u64 (((0 : Nat) : Int)) = 0 from rfl, len0_ok n (by omega)]
  simp only [KA, KB, KD, reduceCtorEq, if_false, if_true]
  rw [show (((0 : Nat) : Int)) = 0 from rfl, pdq0_ok n (by omega)]
  simp only [KA, KB, KD, reduceCtorEq, if_false, if_true]
  rw [leave_flat rfl rfl]
theorem lenNil (H : VH) : vbuiltin T H .len [34] [.map none] = some (.int .i64 0, H) := by
  show vlen T H [34] (.map none) = _
  unfold vlen
  simp only [undMap, ments]
  rfl
theorem rangeNil (H : VH) : vrange T H 34 (.map none) = some (.ptr (some (H.next, 0)), H.newMap [⟨.undef, .map none, 0⟩] 0) := by
  unfold vrange
  rw [undMap]
theorem nextNil {H : VH} {it : Nat} {c v : Nat} (hi : H.get it = some (.map [⟨.undef, .map none, 0⟩] c v)) : vnext H (.ptr (some (it, 0))) = some (none, H) := by
  have h1 : H.iter? it = some (.map none, 0, [], c, v) := by unfold VH.iter?; rw [hi]
  simp only [vnext, h1]
theorem mkStr0 (H : VH) : vmakeSlice T H 50 (.int .i64 0) (.int .i64 0) = some (.slice (some (H.next, 0)) 0 (some 0) 1, H.fresh []) := by kernel_rfl
/-- The first file. -/
theorem canFirst {H : VH} (hH : H.Ok) (s : List UInt8) (mf : Nat) : CanOpen H (.slice none 0 (some 0) 0) [] s (H.next + 1) mf := by
  have o2 := fresh_ok (lo_ok hH) [.str (PS.of s)]
  have hnt : ∀ x, ¬ TipAt (.slice none 0 (some 0) 0) x := fun x ⟨_, _, _, _, e⟩ => by cases e
  have happ : vbuiltin T (H.lo.fresh [.str (PS.of s)]) .append [50, 50] [.slice none 0 (some 0) 0, .slice (some (H.next, 0)) 1 (some 1) 1] = some (.slice (some (H.next + 1, 0)) 1 none 1, (H.lo.fresh [.str (PS.of s)]).freshT [.str (PS.of s)] 9) :=
    app_slt sltS (H := H.lo.fresh [.str (PS.of s)]) (v := .slice none 0 (some 0) 0) (x := .slice (some (H.next, 0)) 1 (some 1) 1) (len := 0) (n := 1) (new := [.str (PS.of s)]) rfl rfl (by omega) (by omega) (fresh_cells (lo_ok hH) _ 0 1 (by simp)) rfl
  have hw : (H.lo.fresh [.str (PS.of s)]).wg.get (H.next + 1) = none := by
    cases e : (H.lo.fresh [.str (PS.of s)]).wg.get (H.next + 1) with
    | none => rfl
    | some g =>
      have := o2.wg _ g e
      simp only [fresh_next, lo_next] at this
      omega
  refine ⟨_, _, happ, ⟨H.next + 1, { n := 1, t := Tr.ofList [.str (PS.of s)], live := true, lin := H.next + 1, gen := 0, ver := 0, ety := some 9 }, rfl, ?_, rfl, rfl, ?_, Nat.le_refl _, fun i hi => Tr.get_ofList _ _⟩, freshT_ok o2 _ _, Keep.toL (Keep.freshT _ _ _ _) _, fun x ⟨_, _, _, _, e⟩ => ?_, fun b _ => hnt b, hnt mf, rfl⟩
  · unfold VH.row?
    rw [freshT_get, if_pos (show H.next + 1 = (H.lo.fresh [.str (PS.of s)]).next from rfl)]
    rfl
  · have hw' : ((H.lo.fresh [.str (PS.of s)]).freshT [.str (PS.of s)] 9).wg.get (H.next + 1) = none := hw
    unfold VH.from_
    rw [hw']
    exact Nat.le_refl _
  · simp only [AV.slice.injEq, Option.some.injEq, Prod.mk.injEq] at e
    omega
/-- What Run returns. -/
def RunV (H : VH) (nf : Nat) (fs : Nat → List Ln) (t : List UInt8) (v : AV) (code : Int) : Prop :=
  (t = [] ∧ v = .slice none 0 (some 0) 0 ∧ code = 3) ∨ ∃ g rs, t = rwT rs ∧ code = 0 ∧ Grow H g tyO 3 v rs.length (rwC rs) ∧ (rwT rs).length ≤ 16000 ∧ ∀ r ∈ rs, GoodR nf fs r
theorem run2_ok (n : Nat) (hn : 3000 ≤ n) {H : VH} {mf nf c ver : Nat} (hH : H.Ok) (hM : Mx H) (h1 : 1 ≤ nf) (hnf : nf ≤ 5) (fs : Nat → List Ln) (hfs : ∀ j, j < nf → (fs j).length ≤ 6 ∧ ∀ l ∈ fs j, LnOk nf j l)
    (hm : H.map? mf = some (ents (fun j => fileT (fs j)) nf, c, ver)) (hmn : mf < H.next) :
    ∃ t va vk vc ve code H', vcall T ext promo n 9 [.map (some mf), .str (PS.of (fname 0)), .map none] H = some (.tuple [.agg [.str (PS.of t), .slice va vk vc ve], .slice none 0 (some 0) 0, .int .i64 code], H') ∧
      RunV H' nf fs t (.slice va vk vc ve) code ∧ H'.Ok ∧ Mx H' ∧ ∃ c ver, H'.map? mf = some (ents (fun j => fileT (fs j)) nf, c, ver) := by
  obtain ⟨n, rfl⟩ : ∃ m, n = m + 1 := ⟨n - 1, by omega⟩
  -- the macros' map
  have o2 := newMap_ok (lo_ok hH) [] 0
  have k2 := newMap_keep (lo_ok hH) (fun _ => False) [] 0
  have hm2 := map?_keep (S := fun _ => False) (H := H.lo) hm hmn k2 (fun h => h)
  have M2 := hM.lo.keep (lo_ok hH) k2 (fun h => h)
  -- the run
  generalize hobj : obj mf (.map (some H.next)) (PS.of []) (.slice none 0 (some 0) 0) 0 (.slice none 0 (some 0) 0) false = ob
  have o3 := fresh_ok o2 ob
  have k3 := Keep.fresh (fun _ => False) (H.lo.newMap) ob
  have p3 := fresh_plain o2 ob
  have hR : (H.lo.newMap).next = H.next + 1 := rfl
  rw [hR] at p3
  have hm3 := map?_keep hm2 (by show mf < H.next + 1; omega) k3 (fun h => h)
  have M3 := M2.keep o2 k3 (fun h => h)
  -- the names, none
  have o4 := fresh_ok o3 ([] : List AV)
  have k4 := Keep.fresh (fun _ => False) (H.lo.newMap.fresh ob) ([] : List AV)
  have p4 := p3.keep o3 k4 (fun h => h)
  have hm4 := map?_keep hm3 (by show mf < H.next + 2; omega) k4 (fun h => h)
  have M4 := M3.keep o3 k4 (fun h => h)
  have n4 : ((H.lo.newMap.fresh ob).fresh ([] : List AV)).next = H.next + 3 := rfl
  generalize hH4 : (H.lo.newMap.fresh ob).fresh ([] : List AV) = H4 at *
  -- the iterator
  have o5 := newMap_ok o4 [⟨.undef, .map none, 0⟩] 0
  have k5 := newMap_keep o4 (fun _ => False) [⟨.undef, .map none, 0⟩] 0
  have p5 := p4.keep o4 k5 (fun h => h)
  have hm5 := map?_keep hm4 (by omega) k5 (fun h => h)
  have M5 := M4.keep o4 k5 (fun h => h)
  have n5 : (H4.newMap [⟨.undef, .map none, 0⟩] 0).next = H.next + 4 := by show H4.next + 1 = _; omega
  have i5 : (H4.newMap [⟨.undef, .map none, 0⟩] 0).get (H.next + 3) = some (.map [⟨.undef, .map none, 0⟩] 0 0) := by rw [newMap_get, n4, if_pos rfl]
  generalize hH5 : H4.newMap [⟨.undef, .map none, 0⟩] 0 = H5 at *
  -- the first file
  have hnt : ∀ x, ¬ TipAt (.slice none 0 (some 0) 0) x := fun x ⟨_, _, _, _, e⟩ => by cases e
  have os : OS (fun j => fileT (fs j)) nf H5 (H.next + 1) mf (.map (some H.next)) (H5.next + 1) (some []) (.slice none 0 (some 0) 0) (.slice none 0 (some 0) 0) := by
    obtain ⟨hx0, mx, hmx⟩ := M5
    have nl0 : NL H5 0 (H5.next + 1) := by
      unfold VH.cell at hmx
      cases hr : H5.row? 0 with
      | none => rw [hr] at hmx; cases hmx
      | some r => exact nl_old o5 hr (by omega)
    have nlR : NL H5 (H.next + 1) (H5.next + 1) := by
      obtain ⟨r, hr, _⟩ := p5.row
      exact nl_old o5 hr (by omega)
    refine ⟨o5, ⟨hx0, mx, hmx⟩, by omega, by omega, nl0, nlR, ⟨?_, Grow.nil _ _ _ _, by show 0 ≤ 16000; omega⟩, fun x hx => absurd hx (hnt x), _, _, hm5⟩
    have e : obj mf (.map (some H.next)) (PS.of (rwT [])) (.slice none 0 (some 0) 0) ((rwT []).length : Int) (.slice none 0 (some 0) 0) false = ob := hobj
    rw [e]
    exact p5
  obtain ⟨v', q', st', H6, e6, os6, _, s6, x6, l6⟩ := file_ok3 (n - 1) nf 0 (by omega) h1 hnf fs hfs (fun k _ hk => fileC_all nf hnf fs hfs 5 k (n - 1 - 1) (by omega) hk (by omega)) (ns := []) os ⟨_, _, _, _, rfl⟩ (Nat.le_refl _) (fun s hs => by cases hs) (canFirst o5 (fname 0) mf)
  rw [show n - 1 + 1 = n by omega] at e6
  obtain ⟨c6, ver6, hm6⟩ := os6.map
  obtain ⟨_, _, r8, _⟩ := os6.run.cells
  have lk := lookE (H := H.lo) hm (by omega) h1 true
  have len4 : vbuiltin T (H.lo.newMap.fresh ob) .len [34] [.map none] = _ := lenNil _
  have hlow : H6.low ≤ H.next + 1 := l6
  have back : ∀ v : AV, (leave H H6 v = H ∧ flat v = true) ∨ leave H H6 v = { H6 with low := min H.low H6.low } := fun v => by
    rcases leave_cases H H6 v with ⟨e, _⟩ | e
    · cases hf : flat v with
      | true => exact .inl ⟨e, rfl⟩
      | false => exact .inr (leave_rest hf)
    · exact .inr e
  have fin : ∀ v : AV, (leave H H6 v).Ok ∧ Mx (leave H H6 v) ∧ ∃ c ver, (leave H H6 v).map? mf = some (ents (fun j => fileT (fs j)) nf, c, ver) := fun v => by
    rcases back v with ⟨e, _⟩ | e
    · rw [e]
      exact ⟨hH, hM, _, _, hm⟩
    · rw [e]
      exact ⟨ok_low os6.ok _, ⟨os6.mx.1, os6.mx.2⟩, _, _, hm6⟩
  have e3 : H.lo.newMap.fresh [.map (some mf), .map (some H.lo.next), .str (PS.of []), .slice none 0 (some 0) 0, .int .i64 0, .slice none 0 (some 0) 0, .int .i64 0, .slice none 0 (some 0) 0, .bool false] = H.lo.newMap.fresh ob := by rw [← hobj]; rfl
  cases st' with
  | none =>
    refine ⟨[], none, 0, some 0, 0, 3, leave H H6 (.tuple [.agg [.str (PS.of []), .slice none 0 (some 0) 0], .slice none 0 (some 0) 0, .int .i64 3]), ok9 _ _ _ _ _ ?_, .inl ⟨rfl, rfl, rfl⟩, fin _⟩
    unfold F9
    simp only [letH_mk]
    rw [lk]
    simp only [KA, KB, KD, reduceCtorEq, if_false, if_true]
    rw [noteFile0_ok n (by omega)]
    simp only [KA, KB, KD, reduceCtorEq, if_false, if_true]
    rw [mk1 _ _ _ undMacros]
    simp only [KA, KB, KD, reduceCtorEq, if_false, if_true]
    rw [e3, len4]
    simp only [KA, KB, KD, reduceCtorEq, if_false, if_true]
    rw [mkStr0, hH4]
    simp only [KA, KB, KD, reduceCtorEq, if_false, if_true]
    rw [rangeNil, hH5]
    simp only [KA, KB, KD, reduceCtorEq, if_false, if_true, n4]
    obtain ⟨n, rfl⟩ : ∃ m, n = m + 2 := ⟨n - 2, by omega⟩
    rw [loopN_succ]
    unfold L9_0
    simp only [KA, KB, KD, reduceCtorEq, if_false, if_true]
    rw [nextNil i5]
    simp only [KA, KB, KD, reduceCtorEq, if_false, if_true, bindN]
    rw [sort0_ok _ (by omega)]
    simp only [KA, KB, KD, reduceCtorEq, if_false, if_true]
    rw [loopN_succ]
    unfold L9_1
    simp only [KA, KB, KD, reduceCtorEq, if_false, if_true]
    rw [if_neg (by omega)]
    have r8' : H6.cell (H.next + 1) 8 = some (.bool true) := by simpa using r8
    simp only [KA, KB, KD, reduceCtorEq, if_false, if_true, hR, e6, r8']
  | some rs =>
    obtain ⟨p6, g6, sz6⟩ := os6.run
    obtain ⟨va, vk, vc, ve, rfl⟩ : ∃ a k c e, v' = .slice a k c e := by
      rcases g6 with ⟨_, h | ⟨q, h, _⟩⟩
      · exact ⟨_, _, _, _, h.1⟩
      · exact ⟨_, _, _, _, h⟩
    have good : ∀ r ∈ rs, GoodR nf fs r := by
      rcases x6 with x6 | ⟨a1, a2, b1, b2, b3⟩
      · cases x6
      · obtain rfl := Option.some.inj b1
        rw [List.nil_append] at b2
        obtain rfl := Option.some.inj b2
        exact b3
    refine ⟨rwT rs, va, vk, vc, ve, 0, leave H H6 (.tuple [.agg [.str (PS.of (rwT rs)), .slice va vk vc ve], .slice none 0 (some 0) 0, .int .i64 0]), ok9 _ _ _ _ _ ?_, .inr ⟨H.next + 1, rs, rfl, rfl, ?_, sz6, good⟩, fin _⟩
    · unfold F9
      simp only [letH_mk]
      rw [lk]
      simp only [KA, KB, KD, reduceCtorEq, if_false, if_true]
      rw [noteFile0_ok n (by omega)]
      simp only [KA, KB, KD, reduceCtorEq, if_false, if_true]
      rw [mk1 _ _ _ undMacros]
      simp only [KA, KB, KD, reduceCtorEq, if_false, if_true]
      rw [e3, len4]
      simp only [KA, KB, KD, reduceCtorEq, if_false, if_true]
      rw [mkStr0, hH4]
      simp only [KA, KB, KD, reduceCtorEq, if_false, if_true]
      rw [rangeNil, hH5]
      simp only [KA, KB, KD, reduceCtorEq, if_false, if_true, n4]
      obtain ⟨n, rfl⟩ : ∃ m, n = m + 2 := ⟨n - 2, by omega⟩
      rw [loopN_succ]
      unfold L9_0
      simp only [KA, KB, KD, reduceCtorEq, if_false, if_true]
      rw [nextNil i5]
      simp only [KA, KB, KD, reduceCtorEq, if_false, if_true, bindN]
      rw [sort0_ok _ (by omega)]
      simp only [KA, KB, KD, reduceCtorEq, if_false, if_true]
      rw [loopN_succ]
      unfold L9_1
      simp only [KA, KB, KD, reduceCtorEq, if_false, if_true]
      rw [if_neg (by omega)]
      have gR8 : H6.cell (H.next + 1) 8 = some (.bool false) := p6.cell 8
      have gR5 : H6.cell (H.next + 1) 5 = some (.slice none 0 (some 0) 0) := p6.cell 5
      have gR2 : H6.cells (H.next + 1) 2 2 = some [.str (PS.of (rwT rs)), .slice va vk vc ve] := cells_eq (cs := [.str (PS.of (rwT rs)), .slice va vk vc ve]) (fun i hi => by
        have := p6.cell (2 + i)
        rw [this]
        match i with
        | 0 => rfl
        | 1 => rfl
        | j + 2 => omega) rfl
      simp only [KA, KB, KD, reduceCtorEq, if_false, if_true, hR, e6, gR8, gR5]
      rw [if_neg (by omega), gR2]
      simp only [KA, KB, KD, reduceCtorEq, if_false, if_true]
    · rcases back (.tuple [.agg [.str (PS.of (rwT rs)), .slice va vk vc ve], .slice none 0 (some 0) 0, .int .i64 0]) with ⟨e, hf⟩ | e
      · rw [e]
        rcases g6 with ⟨hc, h | ⟨q, h, _⟩⟩
        · exact ⟨hc, .inl h⟩
        · rw [h] at hf
          cases hf
      · rw [e]
        exact g6.low _
end Go.Vm.Tryz
