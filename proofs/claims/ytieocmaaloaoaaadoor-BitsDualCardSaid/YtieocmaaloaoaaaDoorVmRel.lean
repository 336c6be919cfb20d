/- The relation between the abstract machine's values and memory and the model's. -/
import Derived.Test.YtieocmaaloaoaaaDoorVmLem
import Derived.Below
import Derived.Laws.Cells
namespace Go.Vm
set_option linter.unusedSimpArgs false
set_option linter.unusedVariables false
set_option linter.unusedSectionVars false

/-- Where a block of the abstract heap lies: the block; where in it its first cell lies; how many cells that block has. -/
structure Pl where
  rb : Nat
  base : Nat
  size : Nat
  /-- the block is never written -/
  quiet : Bool
abbrev Rho := Nat → Option Pl

mutual
def VR (ρ : Rho) : AV → Value → Prop
  | .undef, _ => True
  | .bool b, v => v = .bool b
  | .int k n, v => v = .int k n
  | .str s, v => ∃ b : ByteArray, v = .string b ∧ s = PS.of b.data.toList
  | .ptr none, v => v = .pointer none
  | .ptr (some a), v => ∃ pl, ρ a.1 = some pl ∧ v = .pointer (some ⟨pl.rb, pl.base + a.2, none⟩)
  | .slice none n c _, v => v = .slice none 0 0 ∧ n = 0 ∧ c = some 0
  | .slice (some a) n c e, v => ∃ pl ro rc, ρ a.1 = some pl ∧ v = .slice (some ⟨pl.rb, ro, none⟩) n rc ∧ n ≤ rc ∧ (∀ c', c = some c' → rc = c') ∧ (rc ≠ 0 → ro = pl.base + a.2) ∧ ro + rc * e ≤ pl.size
  | .map none, v => v = .map none
  | .map (some b), v => ∃ pl, ρ b = some pl ∧ v = .map (some pl.rb)
  | .func f fs cs, v => ∃ a b, v = .func (.func f) a b ∧ VRs ρ fs a.toList ∧ VRs ρ cs b.toList
  | .nilFunc, v => v = .nilFunc
  | .iface t x, v => ∃ u, v = .iface t u ∧ VR ρ x u
  | .nilIface, v => v = .nilIface
  | .agg cs, v => ∃ a, v = .agg a ∧ VRs ρ cs a.toList ∧ (∀ u ∈ a.toList, u.oneCell' = true)
  | .tuple cs, v => ∃ a, v = .tuple a ∧ VRs ρ cs a.toList
def VRs (ρ : Rho) : List AV → List Value → Prop
  | [], vs => vs = []
  | a :: as, vs => ∃ u us, vs = u :: us ∧ VR ρ a u ∧ VRs ρ as us
end

def Rho.le (ρ ρ' : Rho) : Prop := ∀ b pl, ρ b = some pl → ρ' b = some pl
theorem Rho.le.refl (ρ : Rho) : ρ.le ρ := fun _ _ h => h
theorem Rho.le.trans {a b c : Rho} (h : a.le b) (k : b.le c) : a.le c := fun x y e => k x y (h x y e)

mutual
theorem VR.mono {ρ ρ' : Rho} (h : ρ.le ρ') : ∀ (a : AV) (v : Value), VR ρ a v → VR ρ' a v
  | .undef, _, _ => trivial
  | .bool _, _, e => e
  | .int _ _, _, e => e
  | .str _, _, e => e
  | .ptr none, _, e => e
  | .ptr (some _), _, ⟨pl, e, r⟩ => ⟨pl, h _ _ e, r⟩
  | .slice none _ _ _, _, e => e
  | .slice (some _) _ _ _, _, ⟨pl, ro, rc, e, r⟩ => ⟨pl, ro, rc, h _ _ e, r⟩
  | .map none, _, e => e
  | .map (some _), _, ⟨pl, e, r⟩ => ⟨pl, h _ _ e, r⟩
  | .func _ fs cs, _, ⟨a, b, e, r, s⟩ => ⟨a, b, e, VRs.mono h fs _ r, VRs.mono h cs _ s⟩
  | .nilFunc, _, e => e
  | .iface _ x, _, ⟨u, e, r⟩ => ⟨u, e, VR.mono h x _ r⟩
  | .nilIface, _, e => e
  | .agg cs, _, ⟨a, e, r, s⟩ => ⟨a, e, VRs.mono h cs _ r, s⟩
  | .tuple cs, _, ⟨a, e, r⟩ => ⟨a, e, VRs.mono h cs _ r⟩
theorem VRs.mono {ρ ρ' : Rho} (h : ρ.le ρ') : ∀ (as : List AV) (vs : List Value), VRs ρ as vs → VRs ρ' as vs
  | [], _, e => e
  | a :: as, _, ⟨u, us, e, r, s⟩ => ⟨u, us, e, VR.mono h a u r, VRs.mono h as us s⟩
end

theorem VRs.length {ρ : Rho} : ∀ {as : List AV} {vs : List Value}, VRs ρ as vs → vs.length = as.length
  | [], _, e => by rw [e]; rfl
  | _ :: _, _, ⟨_, _, e, _, s⟩ => by rw [e, List.length_cons, List.length_cons, VRs.length s]
theorem VRs.get {ρ : Rho} : ∀ {as : List AV} {vs : List Value}, VRs ρ as vs → ∀ {i : Nat} {a : AV}, as[i]? = some a → ∃ v, vs[i]? = some v ∧ VR ρ a v
  | [], _, _, i, a, h => by simp at h
  | b :: as, _, ⟨u, us, e, r, s⟩, 0, a, h => by simp at h; subst h; exact ⟨u, by rw [e]; rfl, r⟩
  | b :: as, _, ⟨u, us, e, r, s⟩, i + 1, a, h => by
    obtain ⟨v, h1, h2⟩ := VRs.get s (i := i) (by simpa using h)
    exact ⟨v, by rw [e]; simpa using h1, h2⟩
theorem VRs.of_get {ρ : Rho} : ∀ {as : List AV} {vs : List Value}, vs.length = as.length → (∀ (i : Nat) (a : AV) (v : Value), as[i]? = some a → vs[i]? = some v → VR ρ a v) → VRs ρ as vs
  | [], vs, hl, _ => List.eq_nil_of_length_eq_zero hl
  | a :: as, [], hl, _ => by simp at hl
  | a :: as, v :: vs, hl, h => ⟨v, vs, rfl, h 0 a v rfl rfl, VRs.of_get (by simpa using hl) fun i a v h1 h2 => h (i + 1) a v (by simpa using h1) (by simpa using h2)⟩
theorem VRs.append {ρ : Rho} : ∀ {as bs : List AV} {us vs : List Value}, VRs ρ as us → VRs ρ bs vs → VRs ρ (as ++ bs) (us ++ vs)
  | [], _, _, _, e, h => by rw [e]; exact h
  | _ :: _, _, _, _, ⟨u, us, e, r, s⟩, h => by rw [e]; exact ⟨u, _, rfl, r, VRs.append s h⟩
theorem VRs.drop {ρ : Rho} : ∀ {as : List AV} {vs : List Value} (n : Nat), VRs ρ as vs → VRs ρ (as.drop n) (vs.drop n)
  | _, _, 0, h => h
  | [], _, _ + 1, e => by rw [e]; simp [VRs]
  | _ :: _, _, n + 1, ⟨u, us, e, r, s⟩ => by rw [e]; exact VRs.drop n s
theorem VRs.take {ρ : Rho} : ∀ {as : List AV} {vs : List Value} (n : Nat), VRs ρ as vs → VRs ρ (as.take n) (vs.take n)
  | _, _, 0, h => by simp [VRs]
  | [], _, _ + 1, e => by rw [e]; simp [VRs]
  | _ :: _, _, n + 1, ⟨u, us, e, r, s⟩ => by rw [e]; exact ⟨u, _, rfl, r, VRs.take n s⟩

theorem VR.one {ρ : Rho} {a : AV} {v : Value} (h : VR ρ a v) (h1 : a.one = true) : v.oneCell' = true := by
  cases a with
  | bool b => rw [show v = _ from h]; rfl
  | int k n => rw [show v = _ from h]; rfl
  | str s => obtain ⟨b, e, _⟩ := h; rw [e]; rfl
  | ptr a => cases a with
    | none => rw [show v = _ from h]; rfl
    | some a => obtain ⟨pl, _, e⟩ := h; rw [e]; rfl
  | slice a n c e => cases a with
    | none => rw [show v = _ from h.1]; rfl
    | some a => obtain ⟨pl, ro, rc, _, e, _⟩ := h; rw [e]; rfl
  | map r => cases r with
    | none => rw [show v = _ from h]; rfl
    | some b => obtain ⟨pl, _, e⟩ := h; rw [e]; rfl
  | func f fs cs => obtain ⟨a, b, e, _⟩ := h; rw [e]; rfl
  | nilFunc => rw [show v = _ from h]; rfl
  | iface t x => obtain ⟨u, e, _⟩ := h; rw [e]; rfl
  | nilIface => rw [show v = _ from h]; rfl
  | agg cs => simp [AV.one] at h1
  | tuple cs => simp [AV.one] at h1
  | undef => simp [AV.one] at h1

theorem allOne_mem : ∀ {l : List AV}, allOne l = true → ∀ a ∈ l, a.one = true
  | [], _, _, h => by cases h
  | b :: l, h, a, hm => by
    simp only [allOne, Bool.and_eq_true] at h
    rcases List.mem_cons.1 hm with rfl | hm
    · exact h.1
    · exact allOne_mem h.2 a hm
theorem VRs.one {ρ : Rho} : ∀ {as : List AV} {vs : List Value}, VRs ρ as vs → allOne as = true → ∀ u ∈ vs, u.oneCell' = true
  | [], _, e, _ => by rw [e]; simp
  | a :: as, _, ⟨u, us, e, r, s⟩, h => by
    simp only [allOne, Bool.and_eq_true] at h
    rw [e]
    intro w hw
    rcases List.mem_cons.1 hw with rfl | hw
    · exact r.one h.1
    · exact VRs.one s h.2 w hw

/-- The cells of a value. -/
theorem VR.cells {ρ : Rho} {a : AV} {v : Value} (h : VR ρ a v) (h1 : allOne a.cells = true) : VRs ρ a.cells v.cells.toList := by
  have plain : ∀ {a : AV} {v : Value}, VR ρ a v → a.one = true → VRs ρ [a] v.cells.toList := by
    intro a v h h1
    have ho := h.one h1
    have e : v.cells = #[v] := by cases v <;> first | rfl | simp [Value.oneCell'] at ho
    rw [e]
    exact ⟨v, [], rfl, h, rfl⟩
  cases a with
  | agg cs => obtain ⟨a, e, r, _⟩ := h; rw [e]; exact r
  | undef => simp [AV.cells, allOne, AV.one] at h1
  | tuple cs => simp [AV.cells, allOne, AV.one] at h1
  | _ => exact plain h rfl

/-! ## Memory -/
/-- What a cell holds. -/
def CR (ρ : Rho) (a : AV) (u : Value) : Prop := VR ρ a u ∧ u.oneCell' = true
theorem CR.mono {ρ ρ' : Rho} {a : AV} {u : Value} (h : CR ρ a u) (hr : ρ.le ρ') : CR ρ' a u := ⟨h.1.mono hr, h.2⟩

/-- What a row of the abstract heap says of memory. -/
def RowR (ρ : Rho) (H : VH) (r : Row) (pl : Pl) (w : World) : Prop :=
  ∃ c et fz, w.heap[pl.rb]? = some (.cells c et fz) ∧ c.size = pl.size ∧ pl.base + r.n ≤ pl.size ∧
    (r.live = true → (∀ i, i < pl.size → ¬ (fz.1 ≤ i ∧ i < fz.2)) ∧ pl.quiet = false) ∧
    (H.readable r = true → ∀ i a, i < r.n → r.t.get i = some a → ∃ u, c[pl.base + i]? = some u ∧ CR ρ a u)

structure RelH (ρ : Rho) (G : Nat → Prop) (H : VH) (w : World) : Prop where
  has : ∀ b pl, ρ b = some pl → ¬ G pl.rb ∧ pl.rb < w.heap.size ∧ ∃ x, H.get b = some x
  g : ∀ k, G k → k < w.heap.size
  row : ∀ b pl r, ρ b = some pl → H.row? b = some r → RowR ρ H r pl w
  sep : ∀ b b' pl pl' r, ρ b = some pl → ρ b' = some pl' → pl.rb = pl'.rb → H.row? b = some r → r.live = true → b' ≠ b →
    ∃ r', H.row? b' = some r' ∧ r'.lin = r.lin ∧ r'.gen < r.gen ∧ (H.readable r' = true → pl'.base + r'.n ≤ pl.base + r.n)
  lin : ∀ b r, H.row? b = some r → r.lin < H.next
  wgl : ∀ l g, H.wg.get l = some g → l < H.next
  lt : ∀ b x, H.get b = some x → b < H.next

theorem VH.row?_get {H : VH} {b : Nat} {r : Row} (h : H.row? b = some r) : H.get b = some (.row r) := by
  unfold VH.row? at h
  split at h
  · simp only [Option.some.injEq] at h; subst h; assumption
  · cases h
theorem VH.row?_of {H : VH} {b : Nat} {r : Row} (h : H.get b = some (.row r)) : H.row? b = some r := by simp [VH.row?, h]

end Go.Vm
