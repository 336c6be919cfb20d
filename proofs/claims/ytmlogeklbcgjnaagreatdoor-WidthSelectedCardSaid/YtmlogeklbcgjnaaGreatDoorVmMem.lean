/- The heap related to the model's memory. -/
import Derived.Test.YtmlogeklbcgjnaaGreatDoorVmLem
import Derived.Below
import Derived.Laws.Cells
/-! The relation between the abstract machine's values and memory and the model's. -/
namespace Go.Vm
set_option linter.unusedSimpArgs false
set_option linter.unusedVariables false
set_option linter.unusedSectionVars false

/-- Where a block of the abstract heap lies: the block; where in it its first cell lies; how many cells that block has. -/
structure Pl where
  rb : Nat
  base : Nat
  size : Nat
/-- Where blocks lie; which of memory's blocks are never written; which of these hold known cells. -/
structure Rho where
  m : Nat → Option Pl
  q : Nat → Prop
  fz : Nat → Option (Array Value)
instance : CoeFun Rho (fun _ => Nat → Option Pl) := ⟨Rho.m⟩

mutual
def VR (ρ : Rho) : AV → Value → Prop
  | .undef, _ => True
  | .bool b, v => v = .bool b
  | .int k n, v => v = .int k n
  | .str s, v => ∃ b : ByteArray, v = .string b ∧ s = PS.of b.data.toList
  | .ptr none, v => v = .pointer none
  | .ptr (some (b, o)), v => ∃ pl, At ρ b pl ∧ v = .pointer (some ⟨pl.rb, pl.base + o, none⟩)
  | .slice none n c _, v => v = .slice none 0 0 ∧ n = 0 ∧ c = some 0
  | .slice (some (b, o)) n c e, v => ∃ pl ro rc, At ρ b pl ∧ v = .slice (some ⟨pl.rb, ro, none⟩) n rc ∧ n ≤ rc ∧ (∀ c', c = some c' → rc = c') ∧ (rc ≠ 0 → ro = pl.base + o) ∧ ro + rc * e ≤ pl.size
  | .map none, v => v = .map none
  | .map (some b), v => ∃ pl, ρ b = some pl ∧ v = .map (some pl.rb)
  | .func f fs cs, v => ∃ a b, v = .func (.func f) a b ∧ VRs ρ fs a.toList ∧ VRs ρ cs b.toList
  | .nilFunc, v => v = .nilFunc
  | .iface t x, v => ∃ u, v = .iface t u ∧ VR ρ x u
  | .nilIface, v => v = .nilIface
  | .agg cs, v => ∃ a, v = .agg a ∧ VRs ρ cs a.toList ∧ (∀ u ∈ a.toList, u.oneCell' = true)
  | .tuple cs, v => ∃ a, v = .tuple a ∧ VRs ρ cs a.toList
def VRs (ρ : Rho) : List AV → List Value → Prop
  | [], vs => vs = []
  | a :: as, vs => ∃ u us, vs = u :: us ∧ VR ρ a u ∧ VRs ρ as us
/-- Where a block lies. -/
def At (ρ : Rho) : Bk → Pl → Prop
  | .blk n, pl => ρ n = some pl
  | .pur cs, pl => ∃ us vs : List Value, ∃ c : Array Value, ρ.fz pl.rb = some c ∧ c.size = pl.size ∧ c.toList.drop pl.base = us ++ vs ∧ VRs ρ cs us ∧ (∀ u ∈ us, u.oneCell' = true)
end

structure Rho.le (ρ ρ' : Rho) : Prop where
  m : ∀ b pl, ρ b = some pl → ρ' b = some pl
  q : ∀ k, ρ.q k → ρ'.q k
  fz : ∀ k us, ρ.fz k = some us → ρ'.fz k = some us
instance {ρ ρ' : Rho} : CoeFun (ρ.le ρ') (fun _ => ∀ b pl, ρ b = some pl → ρ' b = some pl) := ⟨Rho.le.m⟩
theorem Rho.le.refl (ρ : Rho) : ρ.le ρ := ⟨fun _ _ h => h, fun _ h => h, fun _ _ h => h⟩
theorem Rho.le.trans {a b c : Rho} (h : a.le b) (k : b.le c) : a.le c := ⟨fun x y e => k x y (h x y e), fun x e => k.q x (h.q x e), fun x y e => k.fz x y (h.fz x y e)⟩

mutual
theorem VR.mono {ρ ρ' : Rho} (h : ρ.le ρ') : ∀ (a : AV) (v : Value), VR ρ a v → VR ρ' a v
  | .undef, _, _ => trivial
  | .bool _, _, e => e
  | .int _ _, _, e => e
  | .str _, _, e => e
  | .ptr none, _, e => e
  | .ptr (some (b, _)), _, ⟨pl, e, r⟩ => ⟨pl, At.mono h b pl e, r⟩
  | .slice none _ _ _, _, e => e
  | .slice (some (b, _)) _ _ _, _, ⟨pl, ro, rc, e, r⟩ => ⟨pl, ro, rc, At.mono h b pl e, r⟩
  | .map none, _, e => e
  | .map (some _), _, ⟨pl, e, r⟩ => ⟨pl, h _ _ e, r⟩
  | .func _ fs cs, _, ⟨a, b, e, r, s⟩ => ⟨a, b, e, VRs.mono h fs _ r, VRs.mono h cs _ s⟩
  | .nilFunc, _, e => e
  | .iface _ x, _, ⟨u, e, r⟩ => ⟨u, e, VR.mono h x _ r⟩
  | .nilIface, _, e => e
  | .agg cs, _, ⟨a, e, r, s⟩ => ⟨a, e, VRs.mono h cs _ r, s⟩
  | .tuple cs, _, ⟨a, e, r⟩ => ⟨a, e, VRs.mono h cs _ r⟩
theorem VRs.mono {ρ ρ' : Rho} (h : ρ.le ρ') : ∀ (as : List AV) (vs : List Value), VRs ρ as vs → VRs ρ' as vs
  | [], _, e => e
  | a :: as, _, ⟨u, us, e, r, s⟩ => ⟨u, us, e, VR.mono h a u r, VRs.mono h as us s⟩
theorem At.mono {ρ ρ' : Rho} (h : ρ.le ρ') : ∀ (b : Bk) (pl : Pl), At ρ b pl → At ρ' b pl
  | .blk _, _, e => h _ _ e
  | .pur cs, _, ⟨us, vs, c, e1, e2, e3, e4, e5⟩ => ⟨us, vs, c, h.fz _ _ e1, e2, e3, VRs.mono h cs us e4, e5⟩
end

theorem VRs.length {ρ : Rho} : ∀ {as : List AV} {vs : List Value}, VRs ρ as vs → vs.length = as.length
  | [], _, e => by rw [e]; rfl
  | _ :: _, _, ⟨_, _, e, _, s⟩ => by rw [e, List.length_cons, List.length_cons, VRs.length s]
theorem VRs.get {ρ : Rho} : ∀ {as : List AV} {vs : List Value}, VRs ρ as vs → ∀ {i : Nat} {a : AV}, as[i]? = some a → ∃ v, vs[i]? = some v ∧ VR ρ a v
  | [], _, _, i, a, h => by simp at h
  | b :: as, _, ⟨u, us, e, r, s⟩, 0, a, h => by simp at h; subst h; exact ⟨u, by rw [e]; rfl, r⟩
  | b :: as, _, ⟨u, us, e, r, s⟩, i + 1, a, h => by
    obtain ⟨v, h1, h2⟩ := VRs.get s (i := i) (by simpa using h)
    exact ⟨v, by rw [e]; simpa using h1, h2⟩
theorem VRs.of_get {ρ : Rho} : ∀ {as : List AV} {vs : List Value}, vs.length = as.length → (∀ (i : Nat) (a : AV) (v : Value), as[i]? = some a → vs[i]? = some v → VR ρ a v) → VRs ρ as vs
  | [], vs, hl, _ => List.eq_nil_of_length_eq_zero hl
  | a :: as, [], hl, _ => by simp at hl
  | a :: as, v :: vs, hl, h => ⟨v, vs, rfl, h 0 a v rfl rfl, VRs.of_get (by simpa using hl) fun i a v h1 h2 => h (i + 1) a v (by simpa using h1) (by simpa using h2)⟩
theorem VRs.append {ρ : Rho} : ∀ {as bs : List AV} {us vs : List Value}, VRs ρ as us → VRs ρ bs vs → VRs ρ (as ++ bs) (us ++ vs)
  | [], _, _, _, e, h => by rw [e]; exact h
  | _ :: _, _, _, _, ⟨u, us, e, r, s⟩, h => by rw [e]; exact ⟨u, _, rfl, r, VRs.append s h⟩
theorem VRs.drop {ρ : Rho} : ∀ {as : List AV} {vs : List Value} (n : Nat), VRs ρ as vs → VRs ρ (as.drop n) (vs.drop n)
  | _, _, 0, h => h
  | [], _, _ + 1, e => by rw [e]; simp [VRs]
  | _ :: _, _, n + 1, ⟨u, us, e, r, s⟩ => by rw [e]; exact VRs.drop n s
theorem VRs.take {ρ : Rho} : ∀ {as : List AV} {vs : List Value} (n : Nat), VRs ρ as vs → VRs ρ (as.take n) (vs.take n)
  | _, _, 0, h => by simp [VRs]
  | [], _, _ + 1, e => by rw [e]; simp [VRs]
  | _ :: _, _, n + 1, ⟨u, us, e, r, s⟩ => by rw [e]; exact ⟨u, _, rfl, r, VRs.take n s⟩

theorem VR.one {ρ : Rho} {a : AV} {v : Value} (h : VR ρ a v) (h1 : a.one = true) : v.oneCell' = true := by
  cases a with
  | bool b => rw [show v = _ from h]; rfl
  | int k n => rw [show v = _ from h]; rfl
  | str s => obtain ⟨b, e, _⟩ := h; rw [e]; rfl
  | ptr a => cases a with
    | none => rw [show v = _ from h]; rfl
    | some a => obtain ⟨pl, _, e⟩ := h; rw [e]; rfl
  | slice a n c e => cases a with
    | none => rw [show v = _ from h.1]; rfl
    | some a => obtain ⟨pl, ro, rc, _, e, _⟩ := h; rw [e]; rfl
  | map r => cases r with
    | none => rw [show v = _ from h]; rfl
    | some b => obtain ⟨pl, _, e⟩ := h; rw [e]; rfl
  | func f fs cs => obtain ⟨a, b, e, _⟩ := h; rw [e]; rfl
  | nilFunc => rw [show v = _ from h]; rfl
  | iface t x => obtain ⟨u, e, _⟩ := h; rw [e]; rfl
  | nilIface => rw [show v = _ from h]; rfl
  | agg cs => simp [AV.one] at h1
  | tuple cs => simp [AV.one] at h1
  | undef => simp [AV.one] at h1

theorem allOne_mem : ∀ {l : List AV}, allOne l = true → ∀ a ∈ l, a.one = true
  | [], _, _, h => by cases h
  | b :: l, h, a, hm => by
    simp only [allOne, Bool.and_eq_true] at h
    rcases List.mem_cons.1 hm with rfl | hm
    · exact h.1
    · exact allOne_mem h.2 a hm
theorem VRs.one {ρ : Rho} : ∀ {as : List AV} {vs : List Value}, VRs ρ as vs → allOne as = true → ∀ u ∈ vs, u.oneCell' = true
  | [], _, e, _ => by rw [e]; simp
  | a :: as, _, ⟨u, us, e, r, s⟩, h => by
    simp only [allOne, Bool.and_eq_true] at h
    rw [e]
    intro w hw
    rcases List.mem_cons.1 hw with rfl | hw
    · exact r.one h.1
    · exact VRs.one s h.2 w hw

/-- The cells of a value. -/
theorem VR.cells {ρ : Rho} {a : AV} {v : Value} (h : VR ρ a v) (h1 : allOne a.cells = true) : VRs ρ a.cells v.cells.toList := by
  have plain : ∀ {a : AV} {v : Value}, VR ρ a v → a.one = true → VRs ρ [a] v.cells.toList := by
    intro a v h h1
    have ho := h.one h1
    have e : v.cells = #[v] := by cases v <;> first | rfl | simp [Value.oneCell'] at ho
    rw [e]
    exact ⟨v, [], rfl, h, rfl⟩
  cases a with
  | agg cs => obtain ⟨a, e, r, _⟩ := h; rw [e]; exact r
  | undef => simp [AV.cells, allOne, AV.one] at h1
  | tuple cs => simp [AV.cells, allOne, AV.one] at h1
  | _ => exact plain h rfl

/-! ## Memory -/
/-- What a cell holds. -/
def CR (ρ : Rho) (a : AV) (u : Value) : Prop := VR ρ a u ∧ u.oneCell' = true
theorem CR.mono {ρ ρ' : Rho} {a : AV} {u : Value} (h : CR ρ a u) (hr : ρ.le ρ') : CR ρ' a u := ⟨h.1.mono hr, h.2⟩

/-- What a row of the abstract heap says of memory. -/
def RowR (ρ : Rho) (H : VH) (r : Row) (pl : Pl) (w : World) : Prop :=
  ∃ c et fz, w.heap[pl.rb]? = some (.cells c et fz) ∧ c.size = pl.size ∧ pl.base + r.n ≤ pl.size ∧
    (r.live = true → (∀ i, i < pl.size → ¬ (fz.1 ≤ i ∧ i < fz.2)) ∧ ¬ ρ.q pl.rb) ∧
    (H.readable r = true → ∀ i a, i < r.n → r.t.get i = some a → ∃ u, c[pl.base + i]? = some u ∧ CR ρ a u)

/-- The entries of a map. -/
def MR (ρ : Rho) : List ME → List MapEntry → Prop
  | [], vs => vs = []
  | e :: es, vs => ∃ u us, vs = u :: us ∧ VR ρ e.k u.key ∧ VR ρ e.v u.val ∧ u.born = e.born ∧ MR ρ es us
theorem MR.mono {ρ ρ' : Rho} (h : ρ.le ρ') : ∀ {es : List ME} {vs : List MapEntry}, MR ρ es vs → MR ρ' es vs
  | [], _, e => e
  | _ :: _, _, ⟨u, us, e, h1, h2, h3, h4⟩ => ⟨u, us, e, VR.mono h _ _ h1, VR.mono h _ _ h2, h3, MR.mono h h4⟩
theorem MR.length {ρ : Rho} : ∀ {es : List ME} {vs : List MapEntry}, MR ρ es vs → vs.length = es.length
  | [], _, e => by subst e; rfl
  | _ :: _, _, ⟨u, us, e, _, _, _, h4⟩ => by subst e; simp [MR.length h4]
theorem MR.append {ρ : Rho} : ∀ {es fs : List ME} {vs us : List MapEntry}, MR ρ es vs → MR ρ fs us → MR ρ (es ++ fs) (vs ++ us)
  | [], _, _, _, e, h => by subst e; exact h
  | _ :: _, _, _, _, ⟨u, us, e, h1, h2, h3, h4⟩, h => by subst e; exact ⟨u, _, rfl, h1, h2, h3, MR.append h4 h⟩
theorem isIt_iter (m : AV) (s : Nat) (seen : List ME) : isIt (⟨.undef, m, s⟩ :: seen) = true := rfl
def isM : Obj → Prop
  | .map _ _ => True
  | .mapIter _ _ _ _ => True
  | _ => False
/-- What a map's or an iterator's block is in memory. -/
def OR (ρ : Rho) (es : List ME) (c : Nat) (o : Obj) : Prop :=
  (isIt es = false ∧ ∃ a, o = .map a c ∧ MR ρ es a.toList) ∨ ∃ m s seen um, es = ⟨.undef, m, s⟩ :: seen ∧ VR ρ m (.map um) ∧ o = .mapIter um s (seen.map ME.born).toArray c
theorem OR.mono {ρ ρ' : Rho} (h : ρ.le ρ') {es : List ME} {c : Nat} {o : Obj} : OR ρ es c o → OR ρ' es c o
  | .inl ⟨q, a, e, r⟩ => .inl ⟨q, a, e, r.mono h⟩
  | .inr ⟨m, s, seen, um, e1, e2, e3⟩ => .inr ⟨m, s, seen, um, e1, VR.mono h _ _ e2, e3⟩
theorem OR.isM {ρ : Rho} {es : List ME} {c : Nat} {o : Obj} (h : OR ρ es c o) : isM o := by
  rcases h with ⟨_, a, e, _⟩ | ⟨_, _, _, um, _, _, e⟩ <;> rw [e] <;> trivial
theorem OR.map {ρ : Rho} {es : List ME} {c : Nat} {o : Obj} (h : OR ρ es c o) (q : isIt es = false) : ∃ a, o = .map a c ∧ MR ρ es a.toList := by
  rcases h with ⟨_, h⟩ | ⟨m, s, seen, um, e, _, _⟩
  · exact h
  · rw [e, isIt_iter] at q
    cases q
theorem OR.iter {ρ : Rho} {m : AV} {s : Nat} {seen : List ME} {c : Nat} {o : Obj} (h : OR ρ (⟨.undef, m, s⟩ :: seen) c o) : ∃ um, VR ρ m (.map um) ∧ o = .mapIter um s (seen.map ME.born).toArray c := by
  rcases h with ⟨q, _⟩ | ⟨m', s', seen', um, e, h1, h2⟩
  · rw [isIt_iter] at q
    cases q
  · cases e
    exact ⟨um, h1, h2⟩
/-- The maps of the abstract heap: each is alone in its block. -/
def MapsR (ρ : Rho) (H : VH) (w : World) : Prop :=
  ∀ b pl es c v, ρ b = some pl → H.get b = some (.map es c v) → (¬ ρ.q pl.rb ∧ pl.base = 0) ∧ (∃ o, w.heap[pl.rb]? = some o ∧ OR ρ es c o) ∧ ∀ b' pl', ρ b' = some pl' → pl'.rb = pl.rb → b' = b
theorem MapsR.step {ρ ρ' : Rho} {H H' : VH} {w w' : World} (h : MapsR ρ H w) (hle : ρ.le ρ') (hq : ∀ b pl, ρ b = some pl → ρ'.q pl.rb → ρ.q pl.rb) (hg : ∀ b pl es c v, ρ' b = some pl → H'.get b = some (.map es c v) → ρ b = some pl ∧ H.get b = some (.map es c v))
    (hw : ∀ b pl o, ρ b = some pl → isM o → w.heap[pl.rb]? = some o → w'.heap[pl.rb]? = some o)
    (hn : ∀ b pl, ρ' b = some pl → ρ b = some pl ∨ ∀ o, isM o → w.heap[pl.rb]? ≠ some o) : MapsR ρ' H' w' := by
  intro b pl es c v hb he
  obtain ⟨h1, h2⟩ := hg b pl es c v hb he
  obtain ⟨q, ⟨a, h3, h4⟩, h5⟩ := h b pl es c v h1 h2
  refine ⟨⟨fun e => q.1 (hq b pl h1 e), q.2⟩, ⟨a, hw b pl a h1 h4.isM h3, h4.mono hle⟩, fun b' pl' hb' e => ?_⟩
  rcases hn b' pl' hb' with g | g
  · exact h5 b' pl' g e
  · rw [e] at g
    exact absurd h3 (g a h4.isM)
theorem MapsR.same {ρ : Rho} {H H' : VH} {w w' : World} (h : MapsR ρ H w) (hg : ∀ b es c v, H'.get b = some (.map es c v) → H.get b = some (.map es c v))
    (hw : ∀ b pl o, ρ b = some pl → isM o → w.heap[pl.rb]? = some o → w'.heap[pl.rb]? = some o) : MapsR ρ H' w' :=
  h.step (.refl ρ) (fun _ _ _ e => e) (fun b _ es c v hb he => ⟨hb, hg b es c v he⟩) hw (fun _ _ hb => .inl hb)
theorem MapsR.none {ρ : Rho} {H : VH} {w : World} (h : ∀ b es c v, H.get b ≠ some (.map es c v)) : MapsR ρ H w := fun b pl es c v _ he => absurd he (h b es c v)
structure RelH (ρ : Rho) (G : Nat → Prop) (H : VH) (w : World) : Prop where
  has : ∀ b pl, ρ b = some pl → ¬ G pl.rb ∧ pl.rb < w.heap.size ∧ ∃ x, H.get b = some x
  g : ∀ k, G k → k < w.heap.size
  row : ∀ b pl r, ρ b = some pl → H.row? b = some r → RowR ρ H r pl w
  sep : ∀ b b' pl pl' r, ρ b = some pl → ρ b' = some pl' → pl.rb = pl'.rb → H.row? b = some r → r.live = true → b' ≠ b →
    ∃ r', H.row? b' = some r' ∧ r'.lin = r.lin ∧ r'.gen < r.gen ∧ (H.readable r' = true → pl'.base + r'.n ≤ pl.base + r.n)
  lin : ∀ b r, H.row? b = some r → r.lin < H.next
  wgl : ∀ l g, H.wg.get l = some g → l < H.next
  lt : ∀ b x, H.get b = some x → b < H.next
  ety : ∀ b pl r e, ρ b = some pl → H.row? b = some r → r.ety = some e → pl.base = 0 ∧ ∃ c fz, w.heap[pl.rb]? = some (.cells c e fz)
  map : MapsR ρ H w
  qlt : ∀ k, ρ.q k → k < w.heap.size
  fz : ∀ k c, ρ.fz k = some c → ρ.q k ∧ ¬ G k ∧ ∃ et f, w.heap[k]? = some (.cells c et f)

theorem VH.row?_get {H : VH} {b : Nat} {r : Row} (h : H.row? b = some r) : H.get b = some (.row r) := by
  unfold VH.row? at h
  split at h
  · simp only [Option.some.injEq] at h; subst h; assumption
  · cases h
theorem VH.row?_of {H : VH} {b : Nat} {r : Row} (h : H.get b = some (.row r)) : H.row? b = some r := by simp [VH.row?, h]

end Go.Vm
/-! The abstract heap against memory: reading, writing, new blocks, appends. -/
namespace Go.Vm
set_option linter.unusedSimpArgs false
set_option linter.unusedVariables false
set_option linter.unusedSectionVars false

/-! ## Steps of the heap -/
inductive Hs : VH → VH → Prop where
  | refl (H : VH) : Hs H H
  | trans {a b c : VH} : Hs a b → Hs b c → Hs a c
  | put {H H' : VH} {b o : Nat} {v : AV} : H.putN b o v = some H' → Hs H H'
  | mk (H : VH) (n : Nat) (t : Tr AV) (e : Option Nat) : Hs H (H.alloc (.row { n := n, t := t, live := true, lin := H.next, gen := 0, ver := 0, ety := e }))
  | dead {H : VH} {b : Nat} {r : Row} : H.row? b = some r → r.live = true → Hs H (H.dead b r)
  | grow {H : VH} {b : Nat} {r : Row} (q : Bool) (n : Nat) (t : Tr AV) (e : Option Nat) : H.row? b = some r → r.live = true → Hs H ((H.cutIf q r.lin (r.gen + 1)).grow b r n t e)
  | newMap (H : VH) (es : List ME) (c : Nat) : Hs H (H.newMap es c)
  | setMap {H : VH} {b : Nat} {es : List ME} {c v : Nat} (es' : List ME) (c' : Nat) : H.get b = some (.map es c v) → Hs H (H.setMap b es' c' v)
  | call {H H' : VH} (v : AV) : Hs { H with low := H.next } H' → Hs H (leave H H' v)

theorem Hs.fresh (H : VH) (cs : List AV) : Hs H (H.fresh cs) := .mk _ _ _ _
theorem Hs.freshT (H : VH) (cs : List AV) (e : Nat) : Hs H (H.freshT cs e) := .mk _ _ _ _
theorem Hs.freshE (H : VH) (cs : List AV) (e : Option Nat) : Hs H (H.freshE cs e) := by
  cases e with
  | none => exact .fresh _ _
  | some e => exact .freshT _ _ _
theorem Hs.blank (H : VH) (e : Nat) : Hs H (H.blank e) := .mk _ _ _ _
theorem Hs.puts : ∀ {vs : List AV} {H H' : VH} {b : Bk} {o : Nat}, H.puts b o vs = some H' → Hs H H'
  | [], H, H', _, _, h => by simp only [VH.puts, Option.some.injEq] at h; subst h; exact .refl _
  | v :: vs, H, H', b, o, h => by
    simp only [VH.puts] at h
    split at h
    · rename_i H1 h1
      cases b with
      | blk b => exact .trans (.put (show H.putN b o v = some H1 from h1)) (Hs.puts h)
      | pur cs => cases h1
    · cases h

/-! ## What is kept -/
structure Post (ρ ρ' : Rho) (B : Nat → Prop) (w w' : World) : Prop where
  le : ρ.le ρ'
  os : w'.os = w.os
  tape : w'.tape = w.tape
  output : w'.output = w.output
  size : w.heap.size ≤ w'.heap.size
  frame : ∀ k, k < w.heap.size → (∀ b pl, ρ b = some pl → pl.rb = k → ρ.q k) → ¬ B k → w'.heap[k]? = w.heap[k]?
  fresh : ∀ b pl, ρ' b = some pl → w.heap.size ≤ pl.rb ∨ ∃ b0 p0, ρ b0 = some p0 ∧ p0.rb = pl.rb
  /-- what is never written from now on was known of, or is new -/
  qs : ∀ k, ρ'.q k → ρ.q k ∨ w.heap.size ≤ k ∨ ∃ b pl, ρ b = some pl ∧ pl.rb = k
theorem Post.refl (ρ : Rho) (B : Nat → Prop) (w : World) : Post ρ ρ B w w :=
  ⟨.refl ρ, rfl, rfl, rfl, Nat.le_refl _, fun _ _ _ _ => rfl, fun b pl h => .inr ⟨b, pl, h, rfl⟩, fun _ e => .inl e⟩
theorem Post.trans {ρ ρ' ρ'' : Rho} {B : Nat → Prop} {w w' w'' : World} (h : Post ρ ρ' B w w') (k : Post ρ' ρ'' B w' w'') : Post ρ ρ'' B w w'' where
  le := h.le.trans k.le
  os := k.os.trans h.os
  tape := k.tape.trans h.tape
  output := k.output.trans h.output
  size := Nat.le_trans h.size k.size
  frame := fun i hi hn hb => by
    refine (k.frame i (Nat.lt_of_lt_of_le hi h.size) (fun b pl e e2 => ?_) hb).trans (h.frame i hi hn hb)
    rcases h.fresh b pl e with h1 | ⟨b0, p0, h1, h2⟩
    · omega
    · exact h.le.q _ (hn b0 p0 h1 (h2.trans e2))
  fresh := fun b pl e => by
    rcases k.fresh b pl e with h1 | ⟨b0, p0, h1, h2⟩
    · exact .inl (Nat.le_trans h.size h1)
    · rcases h.fresh b0 p0 h1 with h3 | ⟨b1, p1, h3, h4⟩
      · exact .inl (by omega)
      · exact .inr ⟨b1, p1, h3, h4.trans h2⟩
  qs := fun i e => by
    rcases k.qs i e with h1 | h1 | ⟨b, pl, h1, h2⟩
    · exact h.qs i h1
    · exact .inr (.inl (Nat.le_trans h.size h1))
    · rcases h.fresh b pl h1 with h3 | ⟨b0, p0, h3, h4⟩
      · exact .inr (.inl (by omega))
      · exact .inr (.inr ⟨b0, p0, h3, h4.trans h2⟩)
theorem Post.mono {ρ ρ' : Rho} {B C : Nat → Prop} {w w' : World} (h : Post ρ ρ' B w w') (hb : ∀ k, B k → C k) : Post ρ ρ' C w w' :=
  ⟨h.le, h.os, h.tape, h.output, h.size, fun k hk hn hc => h.frame k hk hn fun b => hc (hb k b), h.fresh, h.qs⟩

/-! ## Reading -/
section
variable {ρ : Rho} {G : Nat → Prop} {H : VH} {w : World}

theorem VRs.nth {ρ : Rho} {cs : List AV} {us : List Value} (h : VRs ρ cs us) {o : Nat} {a : AV} (ha : cs[o]? = some a) : ∃ u, us[o]? = some u ∧ VR ρ a u := h.get ha
theorem cell_readN (h : RelH ρ G H w) {b o : Nat} {a : AV} {pl : Pl} (hb : ρ b = some pl) (hc : H.cellN b o = some a) :
    ∃ u, w.cell? ⟨pl.rb, pl.base + o, none⟩ = some u ∧ CR ρ a u := by
  unfold VH.cellN at hc
  split at hc
  · rename_i r hr
    split at hc
    · rename_i hrd
      split at hc
      · rename_i hlt
        obtain ⟨c, et, fz, h1, h2, h3, h4, h5⟩ := h.row b pl r hb hr
        obtain ⟨u, hu, hv⟩ := h5 hrd o a (by simpa [Nat.blt_eq] using hlt) hc
        exact ⟨u, by simp [World.cell?, h1, hu], hv⟩
      · cases hc
    · cases hc
  · cases hc

theorem cell_read (h : RelH ρ G H w) {b : Bk} {o : Nat} {a : AV} {pl : Pl} (hb : At ρ b pl) (hc : H.cell b o = some a) :
    ∃ u, w.cell? ⟨pl.rb, pl.base + o, none⟩ = some u ∧ CR ρ a u := by
  cases b with
  | blk b => exact cell_readN h hb hc
  | pur cs =>
    obtain ⟨us, vs, c, e1, e2, e3, e4, e5⟩ := hb
    obtain ⟨u, hu, hv⟩ := e4.get (show cs[o]? = some a from hc)
    obtain ⟨_, _, et, f, hw⟩ := h.fz _ _ e1
    refine ⟨u, ?_, hv, e5 u (List.mem_of_getElem? hu)⟩
    have hlt : o < us.length := (List.getElem?_eq_some_iff.1 hu).1
    have : (c.toList.drop pl.base)[o]? = some u := by rw [e3, List.getElem?_append_left hlt]; exact hu
    rw [List.getElem?_drop] at this
    unfold World.cell?
    rw [hw]
    simpa using this

theorem cells_read (h : RelH ρ G H w) {b : Bk} {pl : Pl} (hb : At ρ b pl) : ∀ {n o : Nat} {as : List AV}, H.cells b o n = some as →
    ∃ us : List Value, us.length = n ∧ VRs ρ as us ∧ (∀ u ∈ us, u.oneCell' = true) ∧ ∀ j u, us[j]? = some u → w.cell? ⟨pl.rb, pl.base + o + j, none⟩ = some u
  | 0, o, as, hc => by
    simp only [VH.cells, Option.some.injEq] at hc
    subst hc
    exact ⟨[], rfl, rfl, fun u hu => by simp at hu, fun j u e => by simp at e⟩
  | n + 1, o, as, hc => by
    simp only [VH.cells] at hc
    split at hc
    · rename_i v vs h1 h2
      simp only [Option.some.injEq] at hc
      subst hc
      obtain ⟨u, hu, hv⟩ := cell_read h hb h1
      obtain ⟨us, hl, hr, ho, hg⟩ := cells_read h hb h2
      refine ⟨u :: us, by simp [hl], ⟨u, us, rfl, hv.1, hr⟩, fun x hx => ?_, fun j x e => ?_⟩
      · rcases List.mem_cons.1 hx with rfl | hx
        · exact hv.2
        · exact ho x hx
      cases j with
      | zero => simp at e; subst e; simpa using hu
      | succ j =>
        have := hg j x (by simpa using e)
        rw [show pl.base + o + (j + 1) = pl.base + (o + 1) + j by omega]
        exact this
    · cases hc

theorem addr_add (b o j : Nat) : (⟨b, o, none⟩ : Addr).add j = ⟨b, o + j, none⟩ := by
  unfold Addr.add
  split
  · rename_i e; subst e; rfl
  · rfl

theorem run_cells {P : Program} (h : RelH ρ G H w) {b : Bk} {n o : Nat} {pl : Pl} {as : List AV} (hb : At ρ b pl) (hc : H.cells b o n = some as) :
    ∃ us : List Value, us.length = n ∧ VRs ρ as us ∧ (∀ u ∈ us, u.oneCell' = true) ∧ (loadCells ⟨pl.rb, pl.base + o, none⟩ n).run P w = .ok us.toArray w := by
  obtain ⟨us, hl, hr, ho, hg⟩ := cells_read h hb hc
  refine ⟨us, hl, hr, ho, ?_⟩
  rw [← hl]
  exact run_loadCells_list w _ us fun j v e => by rw [addr_add]; exact hg j v e
end

/-! ## What is never written -/
theorem RelH.qlt' {ρ : Rho} {G : Nat → Prop} {H : VH} {w w' : World} (h : RelH ρ G H w) (hs : w.heap.size ≤ w'.heap.size) : ∀ k, ρ.q k → k < w'.heap.size := fun k e => Nat.lt_of_lt_of_le (h.qlt k e) hs
theorem RelH.fz' {ρ : Rho} {G : Nat → Prop} {H : VH} {w w' : World} (h : RelH ρ G H w) (hw : ∀ k, ρ.q k → w'.heap[k]? = w.heap[k]?) : ∀ k c, ρ.fz k = some c → ρ.q k ∧ ¬ G k ∧ ∃ et f, w'.heap[k]? = some (.cells c et f) := fun k c e => by
  obtain ⟨h1, h2, et, f, h3⟩ := h.fz k c e
  exact ⟨h1, h2, et, f, (hw k h1).trans h3⟩
/-! ## Writing -/
theorem setCell_size (w : World) (a : Addr) (v : Value) : (w.setCell a v).heap.size = w.heap.size := by simp [World.setCell]
theorem heap_setCell (w : World) (b o : Nat) (v : Value) (k : Nat) :
    (w.setCell ⟨b, o, none⟩ v).heap[k]? = if k = b then (match w.heap[b]? with | some (.cells c e f) => some (.cells (c.setIfInBounds o v) e f) | x => x) else w.heap[k]? := by
  simp only [World.setCell, Array.getElem?_modify]
  by_cases h : k = b
  · subst h
    simp only [if_true]
    cases w.heap[k]? with
    | none => rfl
    | some x => cases x <;> simp
  · rw [if_neg (Ne.symm h), if_neg h]

theorem from_cut (H : VH) (lin gen l : Nat) : (H.cut lin gen).from_ l = if l = lin then max (H.from_ l) gen else H.from_ l := by
  unfold VH.cut
  split
  · rename_i h
    split
    · rename_i e; subst e
      have := Nat.le_of_ble_eq_true h
      omega
    · rfl
  · rename_i h
    have h' : ¬ gen ≤ H.from_ lin := fun c => by rw [Nat.ble_eq_true_of_le c] at h; cases h
    unfold VH.from_
    simp only [Tr.get_set]
    split
    · rename_i e; subst e
      unfold VH.from_ at h'
      simp only [Option.getD_some]
      omega
    · rfl
theorem get_cut (H : VH) (lin gen b : Nat) : (H.cut lin gen).get b = H.get b := by unfold VH.cut; split <;> rfl
theorem row?_cut (H : VH) (lin gen b : Nat) : (H.cut lin gen).row? b = H.row? b := by unfold VH.row?; rw [get_cut]
theorem next_cut (H : VH) (lin gen : Nat) : (H.cut lin gen).next = H.next := by unfold VH.cut; split <;> rfl
theorem low_cut (H : VH) (lin gen : Nat) : (H.cut lin gen).low = H.low := by unfold VH.cut; split <;> rfl
theorem get_vset (H : VH) (b : Nat) (x : Blk) (k : Nat) : (H.set b x).get k = if k = b then some x else H.get k := by simp [VH.set, VH.get, Tr.get_set]
theorem row?_vset (H : VH) (b : Nat) (r : Row) (k : Nat) : (H.set b (.row r)).row? k = if k = b then some r else H.row? k := by
  unfold VH.row?
  rw [get_vset]
  by_cases h : k = b
  · rw [if_pos h, if_pos h]
  · rw [if_neg h, if_neg h]
theorem from_vset (H : VH) (b : Nat) (x : Blk) (l : Nat) : (H.set b x).from_ l = H.from_ l := rfl
theorem get_valloc (H : VH) (x : Blk) (k : Nat) : (H.alloc x).get k = if k = H.next then some x else H.get k := by simp [VH.alloc, VH.get, Tr.get_set]
theorem row?_valloc (H : VH) (r : Row) (k : Nat) : (H.alloc (.row r)).row? k = if k = H.next then some r else H.row? k := by
  unfold VH.row?
  rw [get_valloc]
  by_cases h : k = H.next
  · rw [if_pos h, if_pos h]
  · rw [if_neg h, if_neg h]
theorem from_valloc (H : VH) (x : Blk) (l : Nat) : (H.alloc x).from_ l = H.from_ l := rfl
theorem readable_iff (H : VH) (r : Row) : H.readable r = true ↔ H.from_ r.lin ≤ r.gen := by
  unfold VH.readable
  exact ⟨Nat.le_of_ble_eq_true, Nat.ble_eq_true_of_le⟩

theorem wgl_cut {H : VH} {lin gen : Nat} (hl : lin < H.next) (h : ∀ l g, H.wg.get l = some g → l < H.next) : ∀ l g, (H.cut lin gen).wg.get l = some g → l < H.next := by
  intro l g e
  unfold VH.cut at e
  split at e
  · exact h l g e
  · simp only [Tr.get_set] at e
    split at e
    · rename_i e2; subst e2; exact hl
    · exact h l g e

theorem put_spec {H H' : VH} {b o : Nat} {v : AV} (h : H.putN b o v = some H') :
    ∃ r, H.row? b = some r ∧ v.one = true ∧ o < r.n ∧ r.live = true ∧ H' = (H.cut r.lin r.gen).set b (.row { r with t := r.t.set o v, ver := r.ver + 1 }) := by
  unfold VH.putN at h
  split at h
  · rename_i r hr
    split at h
    · rename_i hc
      simp only [Bool.and_eq_true, Nat.blt_eq] at hc
      simp only [Option.some.injEq] at h
      exact ⟨r, hr, hc.1.1, hc.1.2, hc.2, h.symm⟩
    · cases h
  · cases h

theorem setCell_ety {w : World} {k : Nat} {e : TypeId} (a : Addr) (v : Value) (h : ∃ c fz, w.heap[k]? = some (.cells c e fz)) : ∃ c fz, (w.setCell a v).heap[k]? = some (.cells c e fz) := by
  obtain ⟨c, fz, h⟩ := h
  simp only [World.setCell, Array.getElem?_modify]
  by_cases e : a.block = k
  · rw [if_pos e, h]
    cases a.spot <;> exact ⟨_, _, rfl⟩
  · rw [if_neg e]
    exact ⟨c, fz, h⟩
theorem setCell_map (w : World) (b o : Nat) (v : Value) (k : Nat) (x : Obj) (m : isM x) (h : w.heap[k]? = some x) : (w.setCell ⟨b, o, none⟩ v).heap[k]? = some x := by
  rw [heap_setCell]
  split
  · rename_i e
    subst e
    rw [h]
    cases x <;> first | rfl | exact m.elim
  · exact h
theorem put_simN {ρ : Rho} {G : Nat → Prop} {H H' : VH} {w : World} (h : RelH ρ G H w) {b o : Nat} {a : AV} {u : Value} {pl : Pl} (hb : ρ b = some pl) (hv : VR ρ a u) (hp : H.putN b o a = some H') :
    RelH ρ G H' (w.setCell ⟨pl.rb, pl.base + o, none⟩ u) ∧ (∃ x, w.cell? ⟨pl.rb, pl.base + o, none⟩ = some x) ∧ w.frozen? ⟨pl.rb, pl.base + o, none⟩ = false ∧ u.oneCell' = true := by
  obtain ⟨r, hr, h1, hlt, hlive, rfl⟩ := put_spec hp
  obtain ⟨c, et, fz, e1, e2, e3, e4, e5⟩ := h.row b pl r hb hr
  have hin : pl.base + o < c.size := by omega
  have hrow : ∀ k, ((H.cut r.lin r.gen).set b (.row { r with t := r.t.set o a, ver := r.ver + 1 })).row? k = if k = b then some { r with t := r.t.set o a, ver := r.ver + 1 } else H.row? k := by
    intro k; rw [row?_vset, row?_cut]
  have hfrom : ∀ l, ((H.cut r.lin r.gen).set b (.row { r with t := r.t.set o a, ver := r.ver + 1 })).from_ l = if l = r.lin then max (H.from_ l) r.gen else H.from_ l := by
    intro l; rw [from_vset, from_cut]
  refine ⟨?_, ⟨c[pl.base + o], by simp [World.cell?, e1, hin]⟩, ?_, hv.one h1⟩
  · refine ⟨fun k pk hk => ?_, fun k hk => by rw [setCell_size]; exact h.g k hk, fun k pk rk hk hrk => ?_, fun k k' pk pk' rk hk hk' hrb hrk hlk hne => ?_, fun k rk hrk => ?_, ?_, fun k x hk => ?_, fun k pk rk e hk hrk he => ?_, h.map.same (fun k es cc vv e => ?_) (fun k pk x _ m e => setCell_map _ _ _ _ _ _ m e), h.qlt' (by rw [setCell_size]; exact Nat.le_refl _), h.fz' fun k hk => by rw [heap_setCell, if_neg (fun e : k = pl.rb => (e4 hlive).2 (e ▸ hk))]⟩
    · obtain ⟨g1, g3, x, g2⟩ := h.has k pk hk
      refine ⟨g1, by rw [setCell_size]; exact g3, ?_⟩
      rw [get_vset, get_cut]
      split
      · exact ⟨_, rfl⟩
      · exact ⟨x, g2⟩
    · rw [hrow] at hrk
      split at hrk
      · rename_i ek
        subst ek
        simp only [Option.some.injEq] at hrk
        subst hrk
        obtain rfl : pk = pl := by rw [hb] at hk; exact (Option.some.inj hk).symm
        refine ⟨c.setIfInBounds (pk.base + o) u, et, fz, ?_, by simpa using e2, e3, fun hl => e4 hl, fun hrd i x hi hx => ?_⟩
        · rw [heap_setCell, if_pos rfl, e1]
        · have hrd0 : H.readable r = true := by
            rw [readable_iff] at hrd ⊢
            rw [hfrom] at hrd
            simp only [if_true] at hrd
            have : H.from_ r.lin ≤ r.gen := by omega
            exact this
          simp only [Tr.get_set] at hx
          split at hx
          · rename_i e; subst e
            simp only [Option.some.injEq] at hx
            subst hx
            exact ⟨u, by rw [Array.getElem?_setIfInBounds]; simp [hin], hv, hv.one h1⟩
          · rename_i e
            obtain ⟨y, hy, hyv⟩ := e5 hrd0 i x hi hx
            exact ⟨y, by rw [Array.getElem?_setIfInBounds_ne (by omega)]; exact hy, hyv⟩
      · rename_i ek
        obtain ⟨c', et', fz', f1, f2, f3, f4, f5⟩ := h.row k pk rk hk hrk
        by_cases erb : pk.rb = pl.rb
        · obtain ⟨r', g1, g2, g3, _⟩ := h.sep b k pl pk r hb hk erb.symm hr hlive ek
          rw [hrk] at g1
          obtain rfl := Option.some.inj g1
          have : c' = c ∧ et' = et ∧ fz' = fz := by
            rw [erb, e1] at f1
            simp only [Option.some.injEq, Obj.cells.injEq] at f1
            exact ⟨f1.1.symm, f1.2.1.symm, f1.2.2.symm⟩
          obtain ⟨rfl, rfl, rfl⟩ := this
          refine ⟨c'.setIfInBounds (pl.base + o) u, et', fz', ?_, by simpa using f2, f3, fun hl => f4 hl, fun hrd => ?_⟩
          · rw [heap_setCell, if_pos erb, e1]
          · exfalso
            rw [readable_iff, hfrom, if_pos g2] at hrd
            omega
        · refine ⟨c', et', fz', ?_, f2, f3, f4, fun hrd => f5 ?_⟩
          · rw [heap_setCell, if_neg erb]; exact f1
          · rw [readable_iff] at hrd ⊢
            rw [hfrom] at hrd
            split at hrd <;> omega
    · rw [hrow] at hrk
      have key : ∀ rr, H.row? k = some rr → rr.live = true → rr.lin = rk.lin → rr.gen = rk.gen → rr.n = rk.n → ∃ r', ((H.cut r.lin r.gen).set b (.row { r with t := r.t.set o a, ver := r.ver + 1 })).row? k' = some r' ∧ r'.lin = rk.lin ∧ r'.gen < rk.gen ∧ (((H.cut r.lin r.gen).set b (.row { r with t := r.t.set o a, ver := r.ver + 1 })).readable r' = true → pk'.base + r'.n ≤ pk.base + rk.n) := by
        intro rr h1 h2 h3 h4 h5
        obtain ⟨r', g1, g2, g3, g4⟩ := h.sep k k' pk pk' rr hk hk' hrb h1 h2 hne
        have mono : ∀ q : Row, ((H.cut r.lin r.gen).set b (.row { r with t := r.t.set o a, ver := r.ver + 1 })).readable q = true → H.readable q = true := by
          intro q hq
          rw [readable_iff] at hq ⊢
          rw [hfrom] at hq
          split at hq <;> omega
        rw [hrow]
        split
        · rename_i e
          subst e
          rw [hr] at g1
          obtain rfl := Option.some.inj g1
          refine ⟨_, rfl, by rw [← h3]; exact g2, by rw [← h4]; exact g3, fun hq => ?_⟩
          rw [← h5]
          exact g4 (mono r (by rw [readable_iff] at hq ⊢; exact hq))
        · exact ⟨r', g1, by rw [← h3]; exact g2, by rw [← h4]; exact g3, fun hq => by rw [← h5]; exact g4 (mono r' hq)⟩
      split at hrk
      · rename_i e
        subst e
        simp only [Option.some.injEq] at hrk
        subst hrk
        exact key r hr hlive rfl rfl rfl
      · exact key rk hrk hlk rfl rfl rfl
    · rw [hrow] at hrk
      show rk.lin < (H.cut r.lin r.gen).next
      rw [next_cut]
      split at hrk
      · simp only [Option.some.injEq] at hrk
        subst hrk
        exact h.lin b r hr
      · exact h.lin k rk hrk
    · intro l g e
      show l < (H.cut r.lin r.gen).next
      rw [next_cut]
      exact wgl_cut (h.lin b r hr) h.wgl l g e
    · show k < (H.cut r.lin r.gen).next
      rw [next_cut]
      rw [get_vset, get_cut] at hk
      split at hk
      · rename_i e; subst e
        exact h.lt k _ (VH.row?_get hr)
      · exact h.lt k x hk
    · rw [hrow] at hrk
      split at hrk
      · rename_i ek
        subst ek
        obtain rfl := Option.some.inj hrk
        obtain ⟨g1, g2⟩ := h.ety k pk r e hk hr he
        exact ⟨g1, setCell_ety _ _ g2⟩
      · obtain ⟨g1, g2⟩ := h.ety k pk rk e hk hrk he
        exact ⟨g1, setCell_ety _ _ g2⟩
    · rw [get_vset, get_cut] at e
      split at e
      · cases e
      · exact e
  · have := (e4 hlive).1 (pl.base + o) (by omega)
    simp only [World.frozen?, e1]
    simp only [Bool.and_eq_false_iff, decide_eq_false_iff_not]
    omega

theorem put_sim {ρ : Rho} {G : Nat → Prop} {H H' : VH} {w : World} (h : RelH ρ G H w) {b : Bk} {o : Nat} {a : AV} {u : Value} {pl : Pl} (hb : At ρ b pl) (hv : VR ρ a u) (hp : H.put b o a = some H') :
    RelH ρ G H' (w.setCell ⟨pl.rb, pl.base + o, none⟩ u) ∧ (∃ x, w.cell? ⟨pl.rb, pl.base + o, none⟩ = some x) ∧ w.frozen? ⟨pl.rb, pl.base + o, none⟩ = false ∧ u.oneCell' = true := by
  cases b with
  | blk b => exact put_simN h hb hv hp
  | pur cs => cases hp
/-- A row of cells written one by one. -/
def storesW (w : World) (b : Nat) : Nat → List Value → World
  | _, [] => w
  | o, v :: vs => storesW (w.setCell ⟨b, o, none⟩ v) b (o + 1) vs

theorem setCell_os (w : World) (a : Addr) (v : Value) : (w.setCell a v).os = w.os := rfl
theorem cell?_setCell_of (w : World) (b o o' : Nat) (v : Value) {x : Value} (h : w.cell? ⟨b, o', none⟩ = some x) : ∃ y, (w.setCell ⟨b, o, none⟩ v).cell? ⟨b, o', none⟩ = some y := by
  simp only [World.cell?, heap_setCell, if_true]
  simp only [World.cell?] at h
  split at h
  · rename_i c e f hh
    rw [hh]
    simp only [Option.isSome_none, Bool.false_eq_true, if_false] at h ⊢
    have hlt : o' < c.size := by
      rw [Array.getElem?_eq_some_iff] at h
      exact h.1
    exact ⟨_, Array.getElem?_eq_getElem (by simpa using hlt)⟩
  · cases h
theorem frozen?_setCell_of (w : World) (b o o' : Nat) (v : Value) : (w.setCell ⟨b, o, none⟩ v).frozen? ⟨b, o', none⟩ = w.frozen? ⟨b, o', none⟩ := by
  simp only [World.frozen?, heap_setCell, if_true]
  cases w.heap[b]? with
  | none => rfl
  | some x => cases x <;> rfl
theorem run_storeCells {P : Program} (b o : Nat) : ∀ (vs : List Value) (i : Nat) (w : World), (∀ j, j < vs.length → ∃ x, w.cell? ⟨b, o + i + j, none⟩ = some x) → (∀ j, j < vs.length → w.frozen? ⟨b, o + i + j, none⟩ = false) → (∀ v ∈ vs, v.oneCell' = true) →
    (storeCells ⟨b, o, none⟩ vs i).run P w = .ok () (storesW w b (o + i) vs)
  | [], i, w, _, _, _ => by simp [storeCells, storesW]
  | v :: vs, i, w, hc, hf, h1 => by
    obtain ⟨x, hx⟩ := hc 0 (by simp)
    have hfz := hf 0 (by simp)
    simp only [Nat.add_zero] at hx hfz
    have ih := run_storeCells (P := P) b o vs (i + 1) (w.setCell ⟨b, o + i, none⟩ v) (fun j hj => by
      obtain ⟨y, hy⟩ := hc (j + 1) (by simpa using hj)
      rw [show o + (i + 1) + j = o + i + (j + 1) by omega]
      exact cell?_setCell_of w b (o + i) _ v hy) (fun j hj => by
      rw [frozen?_setCell_of, show o + (i + 1) + j = o + i + (j + 1) by omega]
      exact hf (j + 1) (by simpa using hj)) (fun u hu => h1 u (List.mem_cons_of_mem _ hu))
    simp only [storeCells, Sem.run_bind, addr_add, run_store P w _ v _ (h1 v (List.mem_cons_self ..)), hx, hfz, Bool.false_eq_true, if_false, Result.andThen, ih, storesW]
    rw [show o + (i + 1) = o + i + 1 by omega]

theorem heap_storesW (b : Nat) : ∀ (vs : List Value) (o : Nat) (w : World) (k : Nat), k ≠ b → (storesW w b o vs).heap[k]? = w.heap[k]?
  | [], _, _, _, _ => rfl
  | v :: vs, o, w, k, h => by rw [storesW, heap_storesW b vs _ _ k h, heap_setCell, if_neg h]
theorem size_storesW (b : Nat) : ∀ (vs : List Value) (o : Nat) (w : World), (storesW w b o vs).heap.size = w.heap.size
  | [], _, _ => rfl
  | v :: vs, o, w => by rw [storesW, size_storesW b vs, setCell_size]
theorem rest_storesW (b : Nat) : ∀ (vs : List Value) (o : Nat) (w : World), (storesW w b o vs).os = w.os ∧ (storesW w b o vs).tape = w.tape ∧ (storesW w b o vs).output = w.output
  | [], _, _ => ⟨rfl, rfl, rfl⟩
  | v :: vs, o, w => by rw [storesW]; exact rest_storesW b vs _ _
theorem row_storesW (b : Nat) : ∀ (vs : List Value) (o : Nat) (w : World) (c : Array Value) (e : TypeId) (f : Nat × Nat), w.heap[b]? = some (.cells c e f) → o + vs.length ≤ c.size →
    ∃ c', (storesW w b o vs).heap[b]? = some (.cells c' e f) ∧ c'.size = c.size ∧ ∀ i, c'[i]? = if o ≤ i ∧ i < o + vs.length then vs[i - o]? else c[i]?
  | [], o, w, c, e, f, h, _ => ⟨c, h, rfl, fun i => by rw [if_neg (by simp only [List.length_nil]; omega)]⟩
  | v :: vs, o, w, c, e, f, h, hl => by
    simp only [List.length_cons] at hl
    have h1 : (w.setCell ⟨b, o, none⟩ v).heap[b]? = some (.cells (c.setIfInBounds o v) e f) := by rw [heap_setCell, if_pos rfl, h]
    obtain ⟨c', e1, e2, e3⟩ := row_storesW b vs (o + 1) _ _ e f h1 (by simp; omega)
    refine ⟨c', e1, by simpa using e2, fun i => ?_⟩
    rw [e3 i]
    simp only [List.length_cons]
    by_cases hi : o + 1 ≤ i ∧ i < o + 1 + vs.length
    · rw [if_pos hi, if_pos (by omega), show i - o = (i - (o + 1)) + 1 by omega]; simp
    · rw [if_neg hi]
      by_cases ei : i = o
      · subst ei
        rw [if_pos (by omega)]
        simp [Array.getElem?_setIfInBounds]; omega
      · rw [if_neg (by omega), Array.getElem?_setIfInBounds_ne (by omega)]

theorem puts_sim {ρ : Rho} {G : Nat → Prop} : ∀ {as : List AV} {us : List Value} {H H' : VH} {w : World} {b : Bk} {o : Nat} {pl : Pl}, RelH ρ G H w → At ρ b pl → VRs ρ as us → H.puts b o as = some H' →
    RelH ρ G H' (storesW w pl.rb (pl.base + o) us) ∧ (∀ j, j < us.length → ∃ x, w.cell? ⟨pl.rb, pl.base + o + j, none⟩ = some x) ∧ (∀ j, j < us.length → w.frozen? ⟨pl.rb, pl.base + o + j, none⟩ = false) ∧ (∀ v ∈ us, v.oneCell' = true)
  | [], us, H, H', w, b, o, pl, h, hb, hv, hp => by
    rw [show us = [] from hv]
    simp only [VH.puts, Option.some.injEq] at hp
    subst hp
    exact ⟨h, fun j hj => by simp at hj, fun j hj => by simp at hj, fun v hv => by simp at hv⟩
  | a :: as, us, H, H', w, b, o, pl, h, hb, ⟨u, us', e, hu, hus⟩, hp => by
    subst e
    simp only [VH.puts] at hp
    split at hp
    · rename_i H1 h1
      obtain ⟨g1, ⟨x, g2⟩, g3, g4⟩ := put_sim h hb hu h1
      obtain ⟨k1, k2, k3, k4⟩ := puts_sim g1 hb hus hp
      refine ⟨?_, fun j hj => ?_, fun j hj => ?_, fun v hv => ?_⟩
      · rw [storesW, Nat.add_assoc]; exact k1
      · cases j with
        | zero => exact ⟨x, g2⟩
        | succ j =>
          obtain ⟨y, hy⟩ := k2 j (by simpa using hj)
          rw [show pl.base + o + (j + 1) = pl.base + (o + 1) + j by omega]
          simp only [World.cell?, heap_setCell, if_true] at hy ⊢
          cases hh : w.heap[pl.rb]? with
          | none => rw [hh] at hy; simp at hy
          | some ob =>
            rw [hh] at hy
            cases ob with
            | cells c e f =>
              simp only [Option.isSome_none, Bool.false_eq_true, if_false] at hy ⊢
              rw [Array.getElem?_eq_some_iff] at hy
              obtain ⟨hlt, _⟩ := hy
              exact ⟨_, Array.getElem?_eq_getElem (by simpa using hlt)⟩
            | _ => simp at hy
      · cases j with
        | zero => exact g3
        | succ j =>
          have := k3 j (by simpa using hj)
          rw [frozen?_setCell_of] at this
          rw [show pl.base + o + (j + 1) = pl.base + (o + 1) + j by omega]
          exact this
      · rcases List.mem_cons.1 hv with rfl | hv
        · exact g4
        · exact k4 v hv
    · cases hp

theorem run_puts {P : Program} {ρ : Rho} {G : Nat → Prop} {as : List AV} {us : List Value} {H H' : VH} {w : World} {b : Bk} {o : Nat} {pl : Pl} (h : RelH ρ G H w) (hb : At ρ b pl) (hv : VRs ρ as us) (hp : H.puts b o as = some H') :
    (storeCells ⟨pl.rb, pl.base + o, none⟩ us).run P w = .ok () (storesW w pl.rb (pl.base + o) us) ∧ RelH ρ G H' (storesW w pl.rb (pl.base + o) us) := by
  obtain ⟨k1, k2, k3, k4⟩ := puts_sim h hb hv hp
  exact ⟨run_storeCells pl.rb (pl.base + o) us 0 w (by simpa using k2) (by simpa using k3) k4, k1⟩

theorem post_stores {ρ : Rho} {B : Nat → Prop} {w : World} {b o : Nat} {pl : Pl} (hb : ρ b = some pl) (hq : ¬ ρ.q pl.rb) (us : List Value) : Post ρ ρ B w (storesW w pl.rb o us) where
  le := .refl ρ
  os := (rest_storesW _ _ _ _).1
  tape := (rest_storesW _ _ _ _).2.1
  output := (rest_storesW _ _ _ _).2.2
  size := by rw [size_storesW]; exact Nat.le_refl _
  frame := fun k _ hn _ => heap_storesW _ _ _ _ _ (fun e => hq (by have := hn b pl hb e.symm; rwa [e] at this))
  fresh := fun b pl h => .inr ⟨b, pl, h, rfl⟩
  qs := fun _ e => .inl e

theorem live_quiet {ρ : Rho} {G : Nat → Prop} {H : VH} {w : World} (h : RelH ρ G H w) {b : Nat} {pl : Pl} {r : Row} (hb : ρ b = some pl) (hr : H.row? b = some r) (hl : r.live = true) : ¬ ρ.q pl.rb := by
  obtain ⟨c, et, fz, e1, e2, e3, e4, e5⟩ := h.row b pl r hb hr
  exact (e4 hl).2
theorem post_puts {ρ : Rho} {G : Nat → Prop} {B : Nat → Prop} {H H' : VH} {w : World} {b : Bk} {o o' : Nat} {pl : Pl} {as : List AV} {us : List Value} (h : RelH ρ G H w) (hb : At ρ b pl) (hv : VRs ρ as us) (hp : H.puts b o as = some H') : Post ρ ρ B w (storesW w pl.rb o' us) := by
  cases as with
  | nil =>
    obtain rfl : us = [] := hv
    exact .refl _ _ _
  | cons a as =>
    simp only [VH.puts] at hp
    split at hp
    · rename_i H1 h1
      cases b with
      | pur cs => cases h1
      | blk b =>
        obtain ⟨r, hr, _, _, hl, _⟩ := put_spec h1
        exact post_stores hb (live_quiet h hb hr hl) us
    · cases hp

/-! ## New blocks -/
def Rho.set (ρ : Rho) (b : Nat) (pl : Pl) : Rho := { ρ with m := fun k => if k = b then some pl else ρ k }
theorem Rho.set_same (ρ : Rho) (b : Nat) (pl : Pl) : ρ.set b pl b = some pl := by simp [Rho.set]
theorem Rho.set_ne (ρ : Rho) {b k : Nat} (pl : Pl) (h : k ≠ b) : ρ.set b pl k = ρ k := by simp [Rho.set, h]
theorem Rho.le_set {ρ : Rho} {b : Nat} (pl : Pl) (h : ρ b = none) : ρ.le (ρ.set b pl) where
  m := fun k p e => by
    rw [Rho.set_ne]
    · exact e
    · rintro rfl; rw [h] at e; cases e
  q := fun _ e => e
  fz := fun _ _ e => e
theorem RelH.none_next {ρ : Rho} {G : Nat → Prop} {H : VH} {w : World} (h : RelH ρ G H w) {b : Nat} (hb : H.next ≤ b) : ρ b = none := by
  cases e : ρ b with
  | none => rfl
  | some pl =>
    obtain ⟨_, _, x, hx⟩ := h.has b pl e
    have := h.lt b x hx
    omega
theorem RowR.mono {ρ ρ' : Rho} {H H' : VH} {r : Row} {pl : Pl} {w w' : World} (h : RowR ρ H r pl w) (hr : ρ.le ρ') (hq : ρ'.q pl.rb → ρ.q pl.rb) (hrd : H'.readable r = true → H.readable r = true) (hw : w'.heap[pl.rb]? = w.heap[pl.rb]?) : RowR ρ' H' r pl w' := by
  obtain ⟨c, et, fz, e1, e2, e3, e4, e5⟩ := h
  exact ⟨c, et, fz, hw.trans e1, e2, e3, fun hl => ⟨(e4 hl).1, fun e => (e4 hl).2 (hq e)⟩, fun hd i a hi ha => by
    obtain ⟨u, hu, hv⟩ := e5 (hrd hd) i a hi ha
    exact ⟨u, hu, hv.mono hr⟩⟩
theorem RowR.lt {ρ : Rho} {H : VH} {r : Row} {pl : Pl} {w : World} (h : RowR ρ H r pl w) : pl.rb < w.heap.size := by
  obtain ⟨c, et, fz, e1, _⟩ := h
  exact (Array.getElem?_eq_some_iff.1 e1).1

theorem RelH.of_heap {ρ : Rho} {G : Nat → Prop} {H : VH} {w w' : World} (h : RelH ρ G H w) (e : w'.heap = w.heap) : RelH ρ G H w' where
  has := by rw [e]; exact h.has
  g := by rw [e]; exact h.g
  row := fun b pl r hb hr => (h.row b pl r hb hr).mono (.refl ρ) (fun e => e) id (by rw [e])
  sep := h.sep
  lin := h.lin
  wgl := h.wgl
  lt := h.lt
  ety := by rw [e]; exact h.ety
  map := h.map.same (fun _ _ _ _ g => g) (fun _ _ _ _ _ g => by rw [e]; exact g)
  qlt := by rw [e]; exact h.qlt
  fz := by rw [e]; exact h.fz
/-- Memory may grow, and what the abstract heap doesn't know of may turn. -/
theorem RelH.grown {ρ : Rho} {G : Nat → Prop} {H : VH} {w w' : World} (h : RelH ρ G H w) (hs : w.heap.size ≤ w'.heap.size) (e : ∀ b pl, ρ b = some pl → w'.heap[pl.rb]? = w.heap[pl.rb]?) (eq : ∀ k, ρ.q k → w'.heap[k]? = w.heap[k]?) : RelH ρ G H w' where
  has := fun b pl hb => let ⟨h1, h2, h3⟩ := h.has b pl hb; ⟨h1, Nat.lt_of_lt_of_le h2 hs, h3⟩
  g := fun k hk => Nat.lt_of_lt_of_le (h.g k hk) hs
  row := fun b pl r hb hr => (h.row b pl r hb hr).mono (.refl ρ) (fun e => e) id (e b pl hb)
  sep := h.sep
  lin := h.lin
  wgl := h.wgl
  lt := h.lt
  ety := fun b pl r x hb hr he => ⟨(h.ety b pl r x hb hr he).1, by rw [e b pl hb]; exact (h.ety b pl r x hb hr he).2⟩
  map := h.map.same (fun _ _ _ _ g => g) (fun b pl _ hb _ g => by rw [e b pl hb]; exact g)
  qlt := h.qlt' hs
  fz := h.fz' eq
theorem RelH.low {ρ : Rho} {G : Nat → Prop} {H : VH} {w : World} (h : RelH ρ G H w) (l : Nat) : RelH ρ G { H with low := l } w :=
  ⟨h.has, h.g, fun b pl r hb hr => h.row b pl r hb hr, h.sep, h.lin, h.wgl, h.lt, h.ety, h.map, h.qlt, h.fz⟩
theorem RelH.set_none {ρ : Rho} {G : Nat → Prop} {H : VH} {w : World} (h : RelH ρ G H w) : ρ H.next = none := h.none_next (Nat.le_refl _)

theorem heap_walloc (w : World) (o : Obj) (k : Nat) : (w.alloc o).heap[k]? = if k = w.heap.size then some o else w.heap[k]? := by
  show (w.heap.push o)[k]? = _
  rw [Array.getElem?_push]
theorem size_walloc (w : World) (o : Obj) : (w.alloc o).heap.size = w.heap.size + 1 := by
  show (w.heap.push o).size = _
  simp

theorem alloc_sim {ρ : Rho} {G : Nat → Prop} {H : VH} {w : World} (h : RelH ρ G H w) (rw_ : Row) (c : Array Value) (et : TypeId) (fz : Nat × Nat) (hl : rw_.lin ≤ H.next)
    (hn : rw_.n ≤ c.size) (hfz : ∀ i, i < c.size → ¬ (fz.1 ≤ i ∧ i < fz.2)) (hc : ∀ i a, i < rw_.n → rw_.t.get i = some a → ∃ u, c[i]? = some u ∧ CR ρ a u) (hety : ∀ e, rw_.ety = some e → et = e) :
    RelH (ρ.set H.next ⟨w.heap.size, 0, c.size⟩) G (H.alloc (.row rw_)) (w.alloc (.cells c et fz)) := by
  have hnone := h.set_none
  have hle : ρ.le (ρ.set H.next ⟨w.heap.size, 0, c.size⟩) := Rho.le_set _ hnone
  have old : ∀ b pl, b ≠ H.next → ρ.set H.next ⟨w.heap.size, 0, c.size⟩ b = some pl → ρ b = some pl := fun b pl hne e => by rwa [Rho.set_ne _ _ hne] at e
  have hw : ∀ b pl, ρ b = some pl → (w.alloc (.cells c et fz)).heap[pl.rb]? = w.heap[pl.rb]? := fun b pl hb => by
    rw [heap_walloc, if_neg (by have := (h.has b pl hb).2.1; omega)]
  refine ⟨fun b pl hb => ?_, fun k hk => ?_, fun b pl r hb hr => ?_, fun b b' pl pl' r hb hb' hrb hr hlv hne => ?_, fun b r hr => ?_, fun l g e => ?_, fun b x hx => ?_, fun b pl r x hb hr he => ?_, h.map.step hle (fun _ _ _ e => e) (fun b pl es cc v hb he => ?_) (fun b pl _ hb _ e => (hw b pl hb).trans e) (fun b pl hb => ?_), h.qlt' (by rw [size_walloc]; exact Nat.le_succ _), h.fz' (w' := w.alloc (.cells c et fz)) fun k hk => by rw [heap_walloc, if_neg (by have := h.qlt k hk; omega)]⟩
  · by_cases e : b = H.next
    · subst e
      rw [Rho.set_same] at hb
      obtain rfl := Option.some.inj hb
      refine ⟨fun hg => ?_, by rw [size_walloc]; exact Nat.lt_succ_self _, ?_⟩
      · have := h.g _ hg; exact Nat.lt_irrefl _ this
      · rw [get_valloc, if_pos rfl]; exact ⟨_, rfl⟩
    · obtain ⟨h1, h2, x, h3⟩ := h.has b pl (old b pl e hb)
      refine ⟨h1, by rw [size_walloc]; omega, x, ?_⟩
      rw [get_valloc, if_neg e]; exact h3
  · rw [size_walloc]; have := h.g k hk; omega
  · by_cases e : b = H.next
    · subst e
      rw [Rho.set_same] at hb
      obtain rfl := Option.some.inj hb
      rw [row?_valloc, if_pos rfl] at hr
      obtain rfl := Option.some.inj hr
      refine ⟨c, et, fz, by rw [heap_walloc, if_pos rfl], rfl, by simpa using hn, fun _ => ⟨hfz, fun e => Nat.lt_irrefl _ (h.qlt _ e)⟩, fun _ i a hi ha => ?_⟩
      obtain ⟨u, hu, hv⟩ := hc i a hi ha
      exact ⟨u, by simpa using hu, hv.mono hle⟩
    · rw [row?_valloc, if_neg e] at hr
      exact (h.row b pl r (old b pl e hb) hr).mono hle (fun e => e) id (hw b pl (old b pl e hb))
  · by_cases e : b = H.next
    · subst e
      rw [Rho.set_same] at hb
      obtain rfl := Option.some.inj hb
      have := (h.has b' pl' (old b' pl' hne hb')).2.1
      simp only at hrb
      omega
    · by_cases e' : b' = H.next
      · subst e'
        rw [Rho.set_same] at hb'
        obtain rfl := Option.some.inj hb'
        have := (h.has b pl (old b pl e hb)).2.1
        simp only at hrb
        omega
      · rw [row?_valloc, if_neg e] at hr
        obtain ⟨r', h1, h2⟩ := h.sep b b' pl pl' r (old b pl e hb) (old b' pl' e' hb') hrb hr hlv hne
        exact ⟨r', by rw [row?_valloc, if_neg e']; exact h1, h2⟩
  · show r.lin < H.next + 1
    rw [row?_valloc] at hr
    split at hr
    · obtain rfl := Option.some.inj hr; omega
    · have := h.lin b r hr; omega
  · show l < H.next + 1
    have := h.wgl l g e; omega
  · show b < H.next + 1
    rw [get_valloc] at hx
    split at hx
    · omega
    · have := h.lt b x hx; omega
  · by_cases e : b = H.next
    · subst e
      rw [Rho.set_same] at hb
      obtain rfl := Option.some.inj hb
      rw [row?_valloc, if_pos rfl] at hr
      obtain rfl := Option.some.inj hr
      exact ⟨rfl, c, fz, by rw [heap_walloc, if_pos rfl, hety x he]⟩
    · rw [row?_valloc, if_neg e] at hr
      obtain ⟨g1, g2⟩ := h.ety b pl r x (old b pl e hb) hr he
      exact ⟨g1, by rw [hw b pl (old b pl e hb)]; exact g2⟩
  · rw [get_valloc] at he
    split at he
    · cases he
    · rename_i e
      exact ⟨old b pl e hb, he⟩
  · by_cases e : b = H.next
    · subst e
      rw [Rho.set_same] at hb
      obtain rfl := Option.some.inj hb
      right
      intro a cc g
      have := (Array.getElem?_eq_some_iff.1 g).1
      simp only at this
      omega
    · exact .inl (old b pl e hb)

theorem post_alloc {ρ : Rho} {G : Nat → Prop} {B : Nat → Prop} {H : VH} {w : World} (h : RelH ρ G H w) (o : Obj) (n s : Nat) (hn : H.next ≤ n) : Post ρ (ρ.set n ⟨w.heap.size, 0, s⟩) B w (w.alloc o) where
  le := Rho.le_set _ (h.none_next hn)
  os := rfl
  tape := rfl
  output := rfl
  size := by rw [size_walloc]; omega
  frame := fun k hk _ _ => by rw [heap_walloc, if_neg (by omega)]
  qs := fun _ e => .inl e
  fresh := fun b pl hb => by
    by_cases e : b = n
    · subst e
      rw [Rho.set_same] at hb
      obtain rfl := Option.some.inj hb
      exact .inl (Nat.le_refl _)
    · rw [Rho.set_ne _ _ e] at hb
      exact .inr ⟨b, pl, hb, rfl⟩

theorem fresh_sim {ρ : Rho} {G : Nat → Prop} {H : VH} {w : World} (h : RelH ρ G H w) (cs : List AV) (c : Array Value) (et : TypeId) (fz : Nat × Nat)
    (hfz : ∀ i, i < c.size → ¬ (fz.1 ≤ i ∧ i < fz.2)) (us rest : List Value) (hc : c.toList = us ++ rest) (hv : VRs ρ cs us) (h1 : ∀ u ∈ us, u.oneCell' = true) :
    RelH (ρ.set H.next ⟨w.heap.size, 0, c.size⟩) G (H.fresh cs) (w.alloc (.cells c et fz)) := by
  have hl := hv.length
  have hs : c.size = us.length + rest.length := by rw [← Array.length_toList, hc, List.length_append]
  refine alloc_sim h _ c et fz (Nat.le_refl _) (show cs.length ≤ c.size by omega) hfz (fun i a hi ha => ?_) (fun e he => by cases he)
  simp only at hi ha
  rw [Tr.get_ofList] at ha
  obtain ⟨v, h3, h2⟩ := hv.get ha
  refine ⟨v, ?_, h2, h1 v (List.mem_of_getElem? h3)⟩
  rw [← Array.getElem?_toList, hc, List.getElem?_append_left (by omega)]
  exact h3

theorem freshT_sim {ρ : Rho} {G : Nat → Prop} {H : VH} {w : World} (h : RelH ρ G H w) (cs : List AV) (c : Array Value) (et : TypeId) (fz : Nat × Nat)
    (hfz : ∀ i, i < c.size → ¬ (fz.1 ≤ i ∧ i < fz.2)) (us rest : List Value) (hc : c.toList = us ++ rest) (hv : VRs ρ cs us) (h1 : ∀ u ∈ us, u.oneCell' = true) :
    RelH (ρ.set H.next ⟨w.heap.size, 0, c.size⟩) G (H.freshT cs et) (w.alloc (.cells c et fz)) := by
  have hl := hv.length
  have hs : c.size = us.length + rest.length := by rw [← Array.length_toList, hc, List.length_append]
  refine alloc_sim h _ c et fz (Nat.le_refl _) (show cs.length ≤ c.size by omega) hfz (fun i a hi ha => ?_) (fun e he => Option.some.inj he)
  simp only at hi ha
  rw [Tr.get_ofList] at ha
  obtain ⟨v, h3, h2⟩ := hv.get ha
  refine ⟨v, ?_, h2, h1 v (List.mem_of_getElem? h3)⟩
  rw [← Array.getElem?_toList, hc, List.getElem?_append_left (by omega)]
  exact h3
theorem freshE_sim {ρ : Rho} {G : Nat → Prop} {H : VH} {w : World} (h : RelH ρ G H w) (cs : List AV) (c : Array Value) (et : TypeId) (fz : Nat × Nat) (e : Option Nat) (he : ∀ x, e = some x → et = x)
    (hfz : ∀ i, i < c.size → ¬ (fz.1 ≤ i ∧ i < fz.2)) (us rest : List Value) (hc : c.toList = us ++ rest) (hv : VRs ρ cs us) (h1 : ∀ u ∈ us, u.oneCell' = true) :
    RelH (ρ.set H.next ⟨w.heap.size, 0, c.size⟩) G (H.freshE cs e) (w.alloc (.cells c et fz)) := by
  cases e with
  | none => exact fresh_sim h cs c et fz hfz us rest hc hv h1
  | some x =>
    obtain rfl := he x rfl
    exact freshT_sim h cs c et fz hfz us rest hc hv h1
/-- A new row of whatever cells. -/
theorem blank_sim {ρ : Rho} {G : Nat → Prop} {H : VH} {w : World} (h : RelH ρ G H w) (c : Array Value) (et : TypeId) :
    RelH (ρ.set H.next ⟨w.heap.size, 0, c.size⟩) G (H.blank et) (w.alloc (.cells c et (0, 0))) :=
  alloc_sim h _ c et (0, 0) (Nat.le_refl _) (Nat.zero_le _) (fun i _ => by simp) (fun i a _ ha => by
    have : (Tr.leaf : Tr AV).get i = some a := ha
    rw [Tr.get_leaf] at this
    cases this) (fun e he => Option.some.inj he)

/-- Cells that are never written. -/
def Rho.lit (ρ : Rho) (k : Nat) (c : Array Value) : Rho := { m := ρ.m, q := fun j => ρ.q j ∨ j = k, fz := fun j => if j = k then some c else ρ.fz j }
theorem Rho.le_lit {ρ : Rho} {k : Nat} (c : Array Value) (h : ρ.fz k = none) : ρ.le (ρ.lit k c) where
  m := fun _ _ e => e
  q := fun _ e => .inl e
  fz := fun j us e => by
    show (if j = k then some c else ρ.fz j) = some us
    rw [if_neg (by rintro rfl; rw [h] at e; cases e)]
    exact e
theorem RelH.fz_next {ρ : Rho} {G : Nat → Prop} {H : VH} {w : World} (h : RelH ρ G H w) : ρ.fz w.heap.size = none := by
  cases e : ρ.fz w.heap.size with
  | none => rfl
  | some c => exact absurd (h.qlt _ (h.fz _ c e).1) (Nat.lt_irrefl _)
theorem lit_sim {ρ : Rho} {G : Nat → Prop} {H : VH} {w : World} (h : RelH ρ G H w) (c : Array Value) (et : TypeId) (f : Nat × Nat) : RelH (ρ.lit w.heap.size c) G H (w.alloc (.cells c et f)) := by
  have hle : ρ.le (ρ.lit w.heap.size c) := Rho.le_lit c h.fz_next
  have hlt : ∀ b pl, ρ b = some pl → pl.rb < w.heap.size := fun b pl hb => (h.has b pl hb).2.1
  have hq : ∀ b pl, ρ b = some pl → (ρ.lit w.heap.size c).q pl.rb → ρ.q pl.rb := fun b pl hb e => e.elim id fun e => absurd (hlt b pl hb) (by omega)
  have hw : ∀ k, k < w.heap.size → (w.alloc (.cells c et f)).heap[k]? = w.heap[k]? := fun k hk => by rw [heap_walloc, if_neg (by omega)]
  refine ⟨fun b pl hb => ?_, fun k hk => ?_, fun b pl r hb hr => ?_, h.sep, h.lin, h.wgl, h.lt, fun b pl r x hb hr he => ?_, h.map.step hle hq (fun b _ es c v hb he => ⟨hb, he⟩) (fun b pl _ hb _ e => (hw _ (hlt b pl hb)).trans e) (fun b pl hb => .inl hb), fun k hk => ?_, fun k c' e => ?_⟩
  · obtain ⟨h1, h2, h3⟩ := h.has b pl hb
    exact ⟨h1, by rw [size_walloc]; omega, h3⟩
  · rw [size_walloc]; have := h.g k hk; omega
  · exact (h.row b pl r hb hr).mono hle (hq b pl hb) id (hw _ (hlt b pl hb))
  · obtain ⟨g1, g2⟩ := h.ety b pl r x hb hr he
    exact ⟨g1, by rw [hw _ (hlt b pl hb)]; exact g2⟩
  · rw [size_walloc]
    rcases hk with hk | hk
    · have := h.qlt k hk; omega
    · omega
  · have e' : (if k = w.heap.size then some c else ρ.fz k) = some c' := e
    split at e'
    · rename_i ek
      obtain rfl := Option.some.inj e'
      subst ek
      exact ⟨.inr rfl, fun g => Nat.lt_irrefl _ (h.g _ g), et, f, by rw [heap_walloc, if_pos rfl]⟩
    · obtain ⟨h1, h2, et', f', h3⟩ := h.fz k c' e'
      exact ⟨.inl h1, h2, et', f', (hw k (h.qlt k h1)).trans h3⟩
theorem post_lit {ρ : Rho} {G : Nat → Prop} {B : Nat → Prop} {H : VH} {w : World} (h : RelH ρ G H w) (c : Array Value) (o : Obj) : Post ρ (ρ.lit w.heap.size c) B w (w.alloc o) where
  le := Rho.le_lit c h.fz_next
  os := rfl
  tape := rfl
  output := rfl
  size := by rw [size_walloc]; omega
  frame := fun k hk _ _ => by rw [heap_walloc, if_neg (by omega)]
  fresh := fun b pl hb => .inr ⟨b, pl, hb, rfl⟩
  qs := fun k e => e.elim .inl fun e => .inr (.inl (by omega))
theorem lit_at {ρ : Rho} {k : Nat} {c : Array Value} {cs : List AV} (h : ρ.fz k = none) (hv : VRs ρ cs c.toList) (h1 : ∀ u ∈ c.toList, u.oneCell' = true) : At (ρ.lit k c) (.pur cs) ⟨k, 0, c.size⟩ :=
  ⟨c.toList, [], c, by show (if k = k then some c else ρ.fz k) = some c; rw [if_pos rfl], rfl, by simp, VRs.mono (Rho.le_lit c h) _ _ hv, h1⟩
/-- A row that is done with. -/
theorem retire_sim {ρ : Rho} {G : Nat → Prop} {H : VH} {w : World} (h : RelH ρ G H w) {b : Nat} {r : Row} (hr : H.row? b = some r) (q : Bool) :
    RelH ρ G ((H.cutIf q r.lin (r.gen + 1)).set b (.row { r with live := false })) w := by
  have hrow : ∀ k, ((H.cutIf q r.lin (r.gen + 1)).set b (.row { r with live := false })).row? k = if k = b then some { r with live := false } else H.row? k := by
    intro k; cases q <;> simp only [VH.cutIf, row?_vset, row?_cut]
  have hget : ∀ k, ((H.cutIf q r.lin (r.gen + 1)).set b (.row { r with live := false })).get k = if k = b then some (.row { r with live := false }) else H.get k := by
    intro k; cases q <;> simp only [VH.cutIf, get_vset, get_cut]
  have hrd : ∀ p, ((H.cutIf q r.lin (r.gen + 1)).set b (.row { r with live := false })).readable p = true → H.readable p = true := by
    intro p hp
    rw [readable_iff, from_vset] at hp
    rw [readable_iff]
    cases q
    · simp only [VH.cutIf, from_cut] at hp
      split at hp <;> omega
    · exact hp
  have hnext : ((H.cutIf q r.lin (r.gen + 1)).set b (.row { r with live := false })).next = H.next := by
    cases q
    · exact next_cut _ _ _
    · rfl
  refine ⟨fun k pk hk => ?_, h.g, fun k pk rk hk hrk => ?_, fun k k' pk pk' rk hk hk' hrb hrk hlk hne => ?_, fun k rk hrk => ?_, fun l g e => ?_, fun k x hk => ?_, fun k pk rk e hk hrk he => ?_, h.map.same (fun k es cc vv e => ?_) (fun _ _ _ _ _ e => e), h.qlt, h.fz⟩
  · obtain ⟨h1, h2, x, h3⟩ := h.has k pk hk
    refine ⟨h1, h2, ?_⟩
    rw [hget]
    split
    · exact ⟨_, rfl⟩
    · exact ⟨x, h3⟩
  · rw [hrow] at hrk
    split at hrk
    · rename_i e; subst e
      obtain rfl := Option.some.inj hrk
      obtain ⟨c, et, fz, e1, e2, e3, e4, e5⟩ := h.row k pk r hk hr
      exact ⟨c, et, fz, e1, e2, e3, fun hl => by simp at hl, fun hd => e5 (hrd r (by rw [readable_iff] at hd ⊢; exact hd))⟩
    · exact (h.row k pk rk hk hrk).mono (.refl ρ) (fun e => e) (hrd rk) rfl
  · rw [hrow] at hrk
    split at hrk
    · obtain rfl := Option.some.inj hrk; simp at hlk
    · obtain ⟨r', g1, g2, g3, g4⟩ := h.sep k k' pk pk' rk hk hk' hrb hrk hlk hne
      rw [hrow]
      split
      · rename_i e; subst e
        rw [hr] at g1
        obtain rfl := Option.some.inj g1
        exact ⟨_, rfl, g2, g3, fun hd => g4 (hrd _ (by rw [readable_iff] at hd ⊢; exact hd))⟩
      · exact ⟨r', g1, g2, g3, fun hd => g4 (hrd _ hd)⟩
  · rw [hnext]
    rw [hrow] at hrk
    split at hrk
    · obtain rfl := Option.some.inj hrk; exact h.lin b r hr
    · exact h.lin k rk hrk
  · rw [hnext]
    cases q
    · exact wgl_cut (h.lin b r hr) h.wgl l g e
    · exact h.wgl l g e
  · rw [hnext]
    rw [hget] at hk
    split at hk
    · rename_i e; subst e; exact h.lt k _ (VH.row?_get hr)
    · exact h.lt k x hk
  · rw [hrow] at hrk
    split at hrk
    · rename_i ek; subst ek
      obtain rfl := Option.some.inj hrk
      exact h.ety k pk r e hk hr he
    · exact h.ety k pk rk e hk hrk he
  · rw [hget] at e
    split at e
    · cases e
    · exact e

/-- A block that holds no live row may be frozen. -/
theorem frozen_sim {ρ : Rho} {G : Nat → Prop} {H : VH} {w w' : World} (h : RelH ρ G H w) (k : Nat) (hdead : ∀ b pl r, ρ b = some pl → pl.rb = k → H.row? b = some r → r.live = false) (hs : w'.heap.size = w.heap.size)
    (hne : ∀ j, j ≠ k → w'.heap[j]? = w.heap[j]?) (hk : ∀ c e fz, w.heap[k]? = some (.cells c e fz) → ∃ fz', w'.heap[k]? = some (.cells c e fz')) (hkm : ∀ x, isM x → w.heap[k]? = some x → w'.heap[k]? = some x) : RelH ρ G H w' where
  qlt := h.qlt' (by rw [hs]; exact Nat.le_refl _)
  fz := fun j c e => by
    obtain ⟨h1, h2, et, f, h3⟩ := h.fz j c e
    by_cases ej : j = k
    · subst ej
      obtain ⟨f', h4⟩ := hk c et f h3
      exact ⟨h1, h2, et, f', h4⟩
    · exact ⟨h1, h2, et, f, (hne j ej).trans h3⟩
  has := fun b pl hb => let ⟨h1, h2, h3⟩ := h.has b pl hb; ⟨h1, by rw [hs]; exact h2, h3⟩
  g := fun j hj => by rw [hs]; exact h.g j hj
  row := fun b pl r hb hr => by
    by_cases e : pl.rb = k
    · obtain ⟨c, et, fz, e1, e2, e3, e4, e5⟩ := h.row b pl r hb hr
      rw [e] at e1
      obtain ⟨fz', e6⟩ := hk c et fz e1
      refine ⟨c, et, fz', by rw [e]; exact e6, e2, e3, fun hl => ?_, e5⟩
      rw [hdead b pl r hb e hr] at hl
      cases hl
    · exact (h.row b pl r hb hr).mono (.refl ρ) (fun e => e) id (hne _ e)
  sep := h.sep
  lin := h.lin
  wgl := h.wgl
  lt := h.lt
  ety := fun b pl r x hb hr he => by
    obtain ⟨g1, c, fz, g2⟩ := h.ety b pl r x hb hr he
    by_cases e : pl.rb = k
    · rw [e] at g2 ⊢
      obtain ⟨fz', g3⟩ := hk c x fz g2
      exact ⟨g1, c, fz', g3⟩
    · exact ⟨g1, c, fz, by rw [hne _ e]; exact g2⟩
  map := h.map.same (fun _ _ _ _ g => g) (fun b pl a _ c g => by
    by_cases e : pl.rb = k
    · rw [e] at g ⊢
      exact hkm a c g
    · rw [hne _ e]; exact g)
/-- Bytes that a string shares: the row is done with. -/
theorem dead_sim {ρ : Rho} {G : Nat → Prop} {H : VH} {w : World} (h : RelH ρ G H w) {b : Nat} {r : Row} {pl : Pl} (hb : ρ b = some pl) (hr : H.row? b = some r) (hl : r.live = true) (o n : Nat) :
    RelH ρ G (H.dead b r) (w.freeze ⟨pl.rb, o, none⟩ n) ∧ Post ρ ρ (fun _ => False) w (w.freeze ⟨pl.rb, o, none⟩ n) := by
  have h2 : RelH ρ G (H.dead b r) w := retire_sim h hr true
  have hrow : ∀ k, (H.dead b r).row? k = if k = b then some { r with live := false } else H.row? k := fun k => row?_vset _ _ _ _
  have hsz : (w.freeze ⟨pl.rb, o, none⟩ n).heap.size = w.heap.size := by
    unfold World.freeze
    split
    · rfl
    · simp
  have hne : ∀ j, j ≠ pl.rb → (w.freeze ⟨pl.rb, o, none⟩ n).heap[j]? = w.heap[j]? := fun j hj => by
    unfold World.freeze
    split
    · rfl
    · simp only [Array.getElem?_modify, if_neg (Ne.symm hj)]
  refine ⟨frozen_sim h2 pl.rb (fun k pk rk hk erb hrk => ?_) hsz hne (fun c e fz hc => ?_) (fun a c hc => by
    unfold World.freeze
    split
    · exact hc
    · simp only [Array.getElem?_modify, if_true, hc]
      cases a <;> first | rfl | exact c.elim), ⟨.refl _, ?_, ?_, ?_, by rw [hsz]; exact Nat.le_refl _, fun j hj hq _ => ?_, fun x px hx => .inr ⟨x, px, hx, rfl⟩, fun _ e => .inl e⟩⟩
  · rw [hrow] at hrk
    split at hrk
    · obtain rfl := Option.some.inj hrk; rfl
    · rename_i ek
      cases hlk : rk.live with
      | false => rfl
      | true =>
        exfalso
        obtain ⟨r1, a1, a2, a3, _⟩ := h.sep b k pl pk r hb hk erb.symm hr hl ek
        obtain ⟨r2, b1, b2, b3, _⟩ := h.sep k b pk pl rk hk hb erb hrk hlk (Ne.symm ek)
        rw [hrk] at a1
        obtain rfl := Option.some.inj a1
        rw [hr] at b1
        obtain rfl := Option.some.inj b1
        omega
  · unfold World.freeze
    split
    · exact ⟨fz, hc⟩
    · simp only [Array.getElem?_modify, if_true, hc]
      exact ⟨_, rfl⟩
  · unfold World.freeze; split <;> rfl
  · unfold World.freeze; split <;> rfl
  · unfold World.freeze; split <;> rfl
  · refine hne j fun e => ?_
    obtain ⟨c, et, fz, e1, e2, e3, e4, e5⟩ := h.row b pl r hb hr
    have h1 := hq b pl hb e.symm
    rw [e] at h1
    exact (e4 hl).2 h1

theorem storesW_map (b : Nat) : ∀ (vs : List Value) (o : Nat) (w : World) (k : Nat) (x : Obj), isM x → w.heap[k]? = some x → (storesW w b o vs).heap[k]? = some x
  | [], _, _, _, _, _, h => h
  | v :: vs, o, w, k, x, m, h => storesW_map b vs _ _ k x m (setCell_map _ _ _ _ _ _ m h)
/-- An append that writes in place: the new row lies in the old one's block. -/
theorem place_sim {ρ : Rho} {G : Nat → Prop} {H : VH} {w : World} (h : RelH ρ G H w) {b o : Nat} {r : Row} {pl : Pl} (hb : ρ b = some pl) (hr : H.row? b = some r) (hlive : r.live = true) (q : Bool)
    (k m : Nat) (t0 : Tr AV) (new : List AV) (us : List Value) (hus : VRs ρ new us) (hone : ∀ u ∈ us, u.oneCell' = true) (hm : m = us.length) (hq : q = true → o + k = r.n) (hk : o + k ≤ r.n) (hsz : pl.base + o + k + m ≤ pl.size)
    (ht0 : ∀ i, i < k → t0.get i = r.t.get (o + i)) (hrd : H.readable r = true) (ge : Option Nat) (hge : ∀ e, ge = some e → o = 0 ∧ r.ety = some e) :
    RelH (ρ.set H.next ⟨pl.rb, pl.base + o, pl.size⟩) G ((H.cutIf q r.lin (r.gen + 1)).grow b r (k + m) (Tr.setList t0 k new) ge) (storesW w pl.rb (pl.base + o + k) us) := by
  have hnone := h.set_none
  have hle : ρ.le (ρ.set H.next ⟨pl.rb, pl.base + o, pl.size⟩) := Rho.le_set _ hnone
  have h2 := retire_sim h hr q
  have hlen := hus.length
  obtain ⟨c, et, fz, e1, e2, e3, e4, e5⟩ := h.row b pl r hb hr
  obtain ⟨c', f1, f2, f3⟩ := row_storesW pl.rb us (pl.base + o + k) w c et fz e1 (by omega)
  have hne : b ≠ H.next := by have := h.lt b _ (VH.row?_get hr); omega
  have old : ∀ x p, x ≠ H.next → ρ.set H.next ⟨pl.rb, pl.base + o, pl.size⟩ x = some p → ρ x = some p := fun x p hx e => by rwa [Rho.set_ne _ _ hx] at e
  generalize hH1 : (H.cutIf q r.lin (r.gen + 1)).set b (.row { r with live := false }) = H1 at h2
  have hn1 : H1.next = H.next := by
    rw [← hH1]
    cases q
    · exact next_cut _ _ _
    · rfl
  have hgrow : (H.cutIf q r.lin (r.gen + 1)).grow b r (k + m) (Tr.setList t0 k new) ge = H1.alloc (.row { n := k + m, t := Tr.setList t0 k new, live := true, lin := r.lin, gen := r.gen + 1, ver := 0, ety := ge }) := by
    rw [← hH1]; rfl
  have hrow1 : ∀ x, H1.row? x = if x = b then some { r with live := false } else H.row? x := by
    intro x; rw [← hH1]; cases q <;> simp only [VH.cutIf, row?_vset, row?_cut]
  have hfrom1 : ∀ l, H1.from_ l = if q = false ∧ l = r.lin then max (H.from_ l) (r.gen + 1) else H.from_ l := by
    intro l; rw [← hH1]
    cases q
    · simp only [VH.cutIf, from_vset, from_cut, true_and]
    · simp [VH.cutIf, from_vset]
  rw [hgrow]
  -- no live row of the old heap but b lies in this block
  have alone : ∀ x px rx, ρ x = some px → px.rb = pl.rb → H1.row? x = some rx → rx.live = true → False := by
    intro x px rx hx hrb hrx hlx
    rw [hrow1] at hrx
    split at hrx
    · obtain rfl := Option.some.inj hrx; simp at hlx
    · rename_i hxb
      obtain ⟨r1, a1, a2, a3, _⟩ := h.sep b x pl px r hb hx hrb.symm hr hlive hxb
      obtain ⟨r2, b1, b2, b3, _⟩ := h.sep x b px pl rx hx hb hrb hrx hlx (Ne.symm hxb)
      rw [hrx] at a1
      obtain rfl := Option.some.inj a1
      rw [hr] at b1
      obtain rfl := Option.some.inj b1
      omega
  -- what lies in this block and can still be read ends ahead of what is written
  have ends : ∀ x px rx, ρ x = some px → px.rb = pl.rb → H1.row? x = some rx → H1.readable rx = true → px.base + rx.n ≤ pl.base + o + k := by
    intro x px rx hx hrb hrx hdx
    rw [readable_iff, hfrom1] at hdx
    rw [hrow1] at hrx
    have hlast : rx.lin = r.lin ∧ rx.gen ≤ r.gen ∧ (H.readable rx = true → px.base + rx.n ≤ pl.base + r.n) := by
      split at hrx
      · rename_i e; subst e
        obtain rfl := Option.some.inj hrx
        obtain rfl : px = pl := by rw [hb] at hx; exact (Option.some.inj hx).symm
        exact ⟨rfl, Nat.le_refl _, fun _ => Nat.le_refl _⟩
      · rename_i hxb
        obtain ⟨r1, a1, a2, a3, a4⟩ := h.sep b x pl px r hb hx hrb.symm hr hlive hxb
        rw [hrx] at a1
        obtain rfl := Option.some.inj a1
        exact ⟨a2, by omega, a4⟩
    obtain ⟨l1, l2, l3⟩ := hlast
    cases q
    · rw [if_pos ⟨rfl, l1⟩] at hdx
      omega
    · rw [if_neg (by simp)] at hdx
      have := l3 ((readable_iff _ _).2 hdx)
      have := hq rfl
      omega
  refine ⟨fun x px hx => ?_, fun x hx => ?_, fun x px rx hx hrx => ?_, fun x x' px px' rx hx hx' hrb hrx hlx hnx => ?_, fun x rx hrx => ?_, fun l g e => ?_, fun x y hx => ?_, fun x px rx ex hx hrx he => ?_, h2.map.step hle (fun _ _ _ e => e) (fun x px es cc v hx he => ?_) (fun x px _ _ m e => storesW_map _ _ _ _ _ _ m e) (fun x px hx => ?_), h2.qlt' (by rw [size_storesW]; exact Nat.le_refl _), h2.fz' fun j hj => heap_storesW _ _ _ _ _ fun e => (e4 hlive).2 (e ▸ hj)⟩
  · rw [size_storesW]
    by_cases e : x = H.next
    · subst e
      rw [Rho.set_same] at hx
      obtain rfl := Option.some.inj hx
      obtain ⟨a1, a2, _⟩ := h.has b pl hb
      refine ⟨a1, a2, ?_⟩
      rw [get_valloc, if_pos hn1.symm]; exact ⟨_, rfl⟩
    · obtain ⟨a1, a2, y, a3⟩ := h2.has x px (old x px e hx)
      refine ⟨a1, a2, y, ?_⟩
      rw [get_valloc, if_neg (by rw [hn1]; exact e)]; exact a3
  · rw [size_storesW]; exact h.g x hx
  · by_cases e : x = H.next
    · subst e
      rw [Rho.set_same] at hx
      obtain rfl := Option.some.inj hx
      rw [row?_valloc, if_pos hn1.symm] at hrx
      obtain rfl := Option.some.inj hrx
      refine ⟨c', et, fz, f1, by simp only; omega, by simp only; omega, fun _ => ⟨(e4 hlive).1, (e4 hlive).2⟩, fun _ i a hi ha => ?_⟩
      simp only at hi ha ⊢
      rw [f3]
      rw [Tr.get_setList] at ha
      by_cases hik : k ≤ i ∧ i < k + new.length
      · rw [if_pos hik] at ha
        obtain ⟨u, hu, hv⟩ := hus.get ha
        rw [if_pos (by omega), show pl.base + o + i - (pl.base + o + k) = i - k by omega]
        exact ⟨u, hu, hv.mono hle, hone u (List.mem_of_getElem? hu)⟩
      · rw [if_neg hik] at ha
        rw [if_neg (by omega)]
        have hik' : i < k := by omega
        rw [ht0 i hik'] at ha
        obtain ⟨u, hu, hv⟩ := e5 hrd (o + i) a (by omega) ha
        exact ⟨u, by rw [← Nat.add_assoc] at hu; exact hu, hv.mono hle⟩
    · rw [row?_valloc, if_neg (by rw [hn1]; exact e)] at hrx
      have hx0 := old x px e hx
      by_cases erb : px.rb = pl.rb
      · obtain ⟨d, dt, df, d1, d2, d3, d4, d5⟩ := h2.row x px rx hx0 hrx
        rw [erb, e1] at d1
        simp only [Option.some.injEq, Obj.cells.injEq] at d1
        obtain ⟨rfl, rfl, rfl⟩ := d1
        refine ⟨c', et, fz, by rw [erb]; exact f1, by omega, d3, d4, fun hd i a hi ha => ?_⟩
        obtain ⟨u, hu, hv⟩ := d5 hd i a hi ha
        have := ends x px rx hx0 erb hrx hd
        exact ⟨u, by rw [f3, if_neg (by omega)]; exact hu, hv.mono hle⟩
      · exact (h2.row x px rx hx0 hrx).mono hle (fun e => e) id (heap_storesW _ _ _ _ _ erb)
  · by_cases e : x = H.next
    · subst e
      rw [Rho.set_same] at hx
      obtain rfl := Option.some.inj hx
      rw [row?_valloc, if_pos hn1.symm] at hrx
      obtain rfl := Option.some.inj hrx
      have hx0 := old x' px' hnx hx'
      simp only at hrb
      rw [row?_valloc, if_neg (by rw [hn1]; exact hnx)]
      by_cases exb : x' = b
      · subst exb
        obtain rfl : px' = pl := by rw [hb] at hx0; exact (Option.some.inj hx0).symm
        refine ⟨{ r with live := false }, by rw [hrow1, if_pos rfl], rfl, Nat.lt_succ_self _, fun hd => ?_⟩
        have := ends x' px' _ hx0 rfl (by rw [hrow1, if_pos rfl]) (by rw [readable_iff] at hd ⊢; exact hd)
        simp only at this ⊢
        omega
      · obtain ⟨r1, a1, a2, a3, a4⟩ := h.sep b x' pl px' r hb hx0 hrb hr hlive exb
        refine ⟨r1, by rw [hrow1, if_neg exb]; exact a1, a2, by simp only; omega, fun hd => ?_⟩
        have := ends x' px' r1 hx0 hrb.symm (by rw [hrow1, if_neg exb]; exact a1) (by rw [readable_iff] at hd ⊢; exact hd)
        simp only
        omega
    · rw [row?_valloc, if_neg (by rw [hn1]; exact e)] at hrx
      have hx0 := old x px e hx
      by_cases e' : x' = H.next
      · subst e'
        rw [Rho.set_same] at hx'
        obtain rfl := Option.some.inj hx'
        exact (alone x px rx hx0 hrb hrx hlx).elim
      · obtain ⟨r', a1, a2, a3, a4⟩ := h2.sep x x' px px' rx hx0 (old x' px' e' hx') hrb hrx hlx hnx
        exact ⟨r', by rw [row?_valloc, if_neg (by rw [hn1]; exact e')]; exact a1, a2, a3, fun hd => a4 (by rw [readable_iff] at hd ⊢; exact hd)⟩
  · show rx.lin < H1.next + 1
    rw [row?_valloc] at hrx
    split at hrx
    · obtain rfl := Option.some.inj hrx
      have := h.lin b r hr
      simp only
      omega
    · have := h2.lin x rx hrx; omega
  · show l < H1.next + 1
    have := h2.wgl l g e; omega
  · show x < H1.next + 1
    rw [get_valloc] at hx
    split at hx
    · omega
    · have := h2.lt x y hx; omega
  · have stores : ∀ {k : Nat} {y : TypeId} (vs : List Value) (j : Nat) (w : World), (∃ c fz, w.heap[k]? = some (.cells c y fz)) → ∃ c fz, (storesW w pl.rb j vs).heap[k]? = some (.cells c y fz) := by
      intro k y vs
      induction vs with
      | nil => exact fun j w h => h
      | cons v vs ih => exact fun j w h => ih (j + 1) _ (setCell_ety _ _ h)
    by_cases e : x = H.next
    · subst e
      rw [Rho.set_same] at hx
      obtain rfl := Option.some.inj hx
      rw [row?_valloc, if_pos hn1.symm] at hrx
      obtain rfl := Option.some.inj hrx
      obtain ⟨g1, g2⟩ := hge ex he
      obtain ⟨g3, g4⟩ := h.ety b pl r ex hb hr g2
      exact ⟨by simp only; omega, stores _ _ _ g4⟩
    · rw [row?_valloc, if_neg (by rw [hn1]; exact e)] at hrx
      obtain ⟨g3, g4⟩ := h2.ety x px rx ex (old x px e hx) hrx he
      exact ⟨g3, stores _ _ _ g4⟩
  · rw [get_valloc] at he
    split at he
    · cases he
    · rename_i e
      exact ⟨old x px (by rw [← hn1]; exact e) hx, he⟩
  · by_cases e : x = H.next
    · subst e
      rw [Rho.set_same] at hx
      obtain rfl := Option.some.inj hx
      right
      intro a cc g
      simp only at g
      rw [e1] at g
      obtain rfl := Option.some.inj g
      exact cc
    · exact .inl (old x px e hx)

theorem post_place {ρ : Rho} {G : Nat → Prop} {B : Nat → Prop} {H : VH} {w : World} (h : RelH ρ G H w) {b : Nat} {pl : Pl} (hb : ρ b = some pl) (hq : ¬ ρ.q pl.rb) (o k : Nat) (us : List Value) : Post ρ (ρ.set H.next ⟨pl.rb, o, pl.size⟩) B w (storesW w pl.rb k us) where
  le := Rho.le_set _ h.set_none
  qs := fun _ e => .inl e
  os := (rest_storesW _ _ _ _).1
  tape := (rest_storesW _ _ _ _).2.1
  output := (rest_storesW _ _ _ _).2.2
  size := by rw [size_storesW]; exact Nat.le_refl _
  frame := fun k _ hn _ => heap_storesW _ _ _ _ _ (fun e => hq (by have := hn b pl hb e.symm; rwa [e] at this))
  fresh := fun x px hx => by
    by_cases e : x = H.next
    · subst e
      rw [Rho.set_same] at hx
      obtain rfl := Option.some.inj hx
      exact .inr ⟨b, pl, hb, rfl⟩
    · rw [Rho.set_ne _ _ e] at hx
      exact .inr ⟨x, px, hx, rfl⟩

/-- An append that copies: the new row lies in a new block. -/
theorem copy_sim {ρ : Rho} {G : Nat → Prop} {H : VH} {w : World} (h : RelH ρ G H w) {b o : Nat} {r : Row} {pl : Pl} (hb : ρ b = some pl) (hr : H.row? b = some r) (q : Bool)
    (k m : Nat) (t0 : Tr AV) (new : List AV) (olds us rest : List Value) (hol : olds.length = k) (hus : VRs ρ new us) (hone : ∀ u ∈ us, u.oneCell' = true) (hm : m = us.length) (hk : o + k ≤ r.n) (hold : ∀ i u, olds[i]? = some u → w.cell? ⟨pl.rb, pl.base + o + i, none⟩ = some u)
    (ht0 : ∀ i, i < k → t0.get i = r.t.get (o + i)) (hrd : H.readable r = true) (et : TypeId) (c : Array Value) (hc : c.toList = olds ++ us ++ rest) (ge : Option Nat) (hge : ∀ e, ge = some e → et = e) :
    RelH (ρ.set H.next ⟨w.heap.size, 0, c.size⟩) G ((H.cutIf q r.lin (r.gen + 1)).grow b r (k + m) (Tr.setList t0 k new) ge) (w.alloc (.cells c et (0, 0))) := by
  have h2 := retire_sim h hr q
  have hlen := hus.length
  have hs : c.size = olds.length + us.length + rest.length := by rw [← Array.length_toList, hc]; simp [Nat.add_assoc]
  obtain ⟨d, et', fz, e1, e2, e3, e4, e5⟩ := h.row b pl r hb hr
  generalize hH1 : (H.cutIf q r.lin (r.gen + 1)).set b (.row { r with live := false }) = H1 at h2
  have hn1 : H1.next = H.next := by
    rw [← hH1]
    cases q
    · exact next_cut _ _ _
    · rfl
  have hgrow : (H.cutIf q r.lin (r.gen + 1)).grow b r (k + m) (Tr.setList t0 k new) ge = H1.alloc (.row { n := k + m, t := Tr.setList t0 k new, live := true, lin := r.lin, gen := r.gen + 1, ver := 0, ety := ge }) := by
    rw [← hH1]; rfl
  rw [hgrow, ← hn1]
  refine alloc_sim h2 _ c et (0, 0) (by rw [hn1]; exact Nat.le_of_lt (h.lin b r hr)) (by simp only; omega) (fun i _ => by simp) (fun i a hi ha => ?_) hge
  simp only at hi ha
  rw [Tr.get_setList] at ha
  rw [← Array.getElem?_toList, hc, List.append_assoc]
  by_cases hik : k ≤ i ∧ i < k + new.length
  · rw [if_pos hik] at ha
    obtain ⟨u, hu, hv⟩ := hus.get ha
    refine ⟨u, ?_, hv, hone u (List.mem_of_getElem? hu)⟩
    rw [List.getElem?_append_right (by omega), List.getElem?_append_left (by omega), hol]
    exact hu
  · rw [if_neg hik] at ha
    have hik' : i < k := by omega
    rw [ht0 i hik'] at ha
    obtain ⟨u, hu, hv⟩ := e5 hrd (o + i) a (by omega) ha
    refine ⟨u, ?_, hv⟩
    rw [List.getElem?_append_left (by omega)]
    have hx : olds[i]? = some olds[i] := List.getElem?_eq_getElem (by omega)
    have hy := hold i _ hx
    simp only [World.cell?, e1] at hy
    simp only [Option.isSome_none, Bool.false_eq_true, if_false] at hy
    rw [Nat.add_assoc] at hy
    rw [hx, ← hy, hu]

end Go.Vm
