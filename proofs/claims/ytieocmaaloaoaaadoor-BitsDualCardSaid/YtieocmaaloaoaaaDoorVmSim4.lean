/- The abstract machine's arithmetic and comparisons against the model's. -/
import Derived.Test.YtieocmaaloaoaaaDoorVmSim3
import Derived.Laws.StructEq
namespace Go.Vm
set_option linter.unusedSimpArgs false
set_option linter.unusedVariables false
set_option linter.unusedSectionVars false

theorem ofInt_toNat (k : IntKind) (x : Int) : (BitVec.ofInt k.bits x).toNat = nmod x (modOf k) := by
  have h := nmod_eq x (modOf k) (modOf_pos k)
  rw [BitVec.toNat_ofInt]
  have e : ((2 ^ k.bits : Nat) : Int) = (modOf k : Int) := by rw [modOf_nat]
  rw [e, ← h]
  simp

theorem vbits_ok {op : BinOp} {k : IntKind} {x y : Int} {v : AV} (h : vbits op k x y = some v) (P : Program) (w : World) : ∃ n, v = .int k n ∧ (Op.intBits op k x y).run P w = .ok (.int k n) w := by
  unfold vbits at h
  have hn : (BitVec.ofInt k.bits x &&& ~~~ BitVec.ofInt k.bits y).toNat = Nat.land (nmod x (modOf k)) (modOf k - 1 - nmod y (modOf k)) := by
    rw [BitVec.toNat_and, BitVec.toNat_not, ofInt_toNat, ofInt_toNat, ← modOf_nat]; rfl
  split at h <;> first
    | (obtain rfl := Option.some.inj h
       refine ⟨_, rfl, ?_⟩
       rw [fwrap_eq]
       first
         | (simp only [Op.intBits, Sem.run_pure, BitVec.toNat_and, ofInt_toNat]; rfl)
         | (simp only [Op.intBits, Sem.run_pure, BitVec.toNat_or, ofInt_toNat]; rfl)
         | (simp only [Op.intBits, Sem.run_pure, BitVec.toNat_xor, ofInt_toNat]; rfl)
         | (simp only [Op.intBits, Sem.run_pure, hn]; rfl))
    | cases h

theorem vcmp_ok {op : BinOp} {x y : Int} {v : AV} (h : vcmp op x y = some v) (P : Program) (w : World) : ∃ b, v = .bool b ∧ (Op.intCmp op x y).run P w = .ok (.bool b) w := by
  unfold vcmp at h
  split at h <;> first
    | (obtain rfl := Option.some.inj h
       refine ⟨_, rfl, ?_⟩
       first
         | (simp only [Op.intCmp, Sem.run_pure, ieq_eq]; done)
         | (simp only [Op.intCmp, Sem.run_pure, ieq_eq, bne]; done)
         | (simp only [Op.intCmp, Sem.run_pure, ilt_eq]; done)
         | (simp only [Op.intCmp, Sem.run_pure, ile_eq]; done)
         | (simp only [Op.intCmp, Sem.run_pure, ilt_eq, gt_iff_lt]; done)
         | (simp only [Op.intCmp, Sem.run_pure, ile_eq, ge_iff_le]; done))
    | cases h

theorem varith_ok {op : BinOp} {k k' : IntKind} {x y : Int} {v : AV} (h : varith op k x k' y = some v) (P : Program) (w : World) (t : TypeId) : ∃ u, (∀ ρ, VR ρ v u) ∧ (binOp op t (.int k x) (.int k' y)).run P w = .ok u w := by
  unfold varith at h
  split at h
  · split at h
    · cases h
    · rename_i hb
      obtain rfl := Option.some.inj h
      rw [ilt_eq] at hb
      have hb' : ¬ y < 0 := by simpa using hb
      exact ⟨_, fun ρ => rfl, by simp only [binOp, Op.shift, hb', if_false, fwrap_eq, ishl_eq]; rfl⟩
  · split at h
    · cases h
    · rename_i hb
      obtain rfl := Option.some.inj h
      rw [ilt_eq] at hb
      have hb' : ¬ y < 0 := by simpa using hb
      exact ⟨_, fun ρ => rfl, by simp only [binOp, Op.shift, hb', if_false, ishr_eq]; rfl⟩
  · rename_i n1 n2
    rw [kindEq_eq] at h
    split at h
    · rename_i hk
      have hk' : k = k' := by simpa using hk
      subst hk'
      split at h
      · obtain rfl := Option.some.inj h
        exact ⟨_, fun ρ => rfl, by simp only [binOp, ne_eq, not_true, if_false, Op.intArith, fwrap_eq]; rfl⟩
      · obtain rfl := Option.some.inj h
        exact ⟨_, fun ρ => rfl, by simp only [binOp, ne_eq, not_true, if_false, Op.intArith, fwrap_eq]; rfl⟩
      · obtain rfl := Option.some.inj h
        exact ⟨_, fun ρ => rfl, by simp only [binOp, ne_eq, not_true, if_false, Op.intArith, fwrap_eq]; rfl⟩
      · split at h
        · cases h
        · rename_i hb
          obtain rfl := Option.some.inj h
          rw [ieq_eq] at hb
          have hb' : ¬ y = 0 := by simpa using hb
          exact ⟨_, fun ρ => rfl, by simp only [binOp, ne_eq, not_true, if_false, Op.intDiv, hb', fwrap_eq]; rfl⟩
      · split at h
        · cases h
        · rename_i hb
          obtain rfl := Option.some.inj h
          rw [ieq_eq] at hb
          have hb' : ¬ y = 0 := by simpa using hb
          exact ⟨_, fun ρ => rfl, by simp only [binOp, ne_eq, not_true, if_false, Op.intDiv, hb']; rfl⟩
      · obtain ⟨n, rfl, e⟩ := vbits_ok h P w
        exact ⟨_, fun ρ => rfl, by simp only [binOp, ne_eq, not_true, if_false]; exact e⟩
      · obtain ⟨n, rfl, e⟩ := vbits_ok h P w
        exact ⟨_, fun ρ => rfl, by simp only [binOp, ne_eq, not_true, if_false]; exact e⟩
      · obtain ⟨n, rfl, e⟩ := vbits_ok h P w
        exact ⟨_, fun ρ => rfl, by simp only [binOp, ne_eq, not_true, if_false]; exact e⟩
      · obtain ⟨n, rfl, e⟩ := vbits_ok h P w
        exact ⟨_, fun ρ => rfl, by simp only [binOp, ne_eq, not_true, if_false]; exact e⟩
      · obtain ⟨b, rfl, e⟩ := vcmp_ok h P w
        refine ⟨_, fun ρ => rfl, ?_⟩
        cases op <;> first
          | (simp only [binOp, ne_eq, not_true, if_false]; exact e)
          | (exfalso; simp_all; done)
          | (simp only [vcmp] at h; cases h)
    · cases h

theorem strings_eq (a b : ByteArray) : (a.toList == b.toList) = (PS.of a.data.toList).eq (PS.of b.data.toList) := by
  rw [PS.eq_of, ByteArray.toList_eq, ByteArray.toList_eq]
theorem strings_lt (a b : ByteArray) : Op.bytesLess a.toList b.toList = (PS.of a.data.toList).less (PS.of b.data.toList) := by
  rw [PS.less_of, ByteArray.toList_eq, ByteArray.toList_eq]

theorem vstrOp_ok {op : BinOp} {x y : ByteArray} {v : AV} (h : vstrOp op (PS.of x.data.toList) (PS.of y.data.toList) = some v) (P : Program) (w : World) : ∃ u, (∀ ρ, VR ρ v u) ∧ (Op.stringOp op x y).run P w = .ok u w := by
  unfold vstrOp at h
  split at h
  · split at h
    · rename_i hb
      have hb' := Nat.le_of_ble_eq_true hb
      obtain rfl := Option.some.inj h
      refine ⟨.string (x ++ y), fun ρ => ⟨_, rfl, ?_⟩, ?_⟩
      · rw [PS.cat_of]; congr 1
      · have hl : (PS.of x.data.toList).len + (PS.of y.data.toList).len = x.size + y.size := rfl
        have hc : ¬ (((x.size + y.size : Nat) : Int) > IntKind.i64.max) := by
          have e : IntKind.i64.max = 9223372036854775807 := by decide
          rw [e]; omega
        simp only [Op.stringOp, hc, if_false, Sem.run_pure]
    · cases h
  all_goals first
    | (obtain rfl := Option.some.inj h; exact ⟨_, fun ρ => rfl, by simp only [Op.stringOp, Sem.run_pure, strings_eq, strings_lt]⟩)
    | cases h

section
variable {T : Tb} {P : Program} (hT : TbOk T P)
include hT

mutual
theorem veq_ok {ρ : Rho} (w : World) : ∀ (f t d : Nat) (x y : AV) (u v : Value) (b : Bool), f ≤ d → VR ρ x u → VR ρ y v → veq T f t x y = some b → (Op.equalIn d t u v).run P w = .ok b w
  | 0, _, _, _, _, _, _, _, _, _, _, h => by simp [veq] at h
  | f + 1, t, 0, _, _, _, _, _, hd, _, _, _ => by omega
  | f + 1, t, d + 1, x, y, u, v, b, hd, hx, hy, h => by
    simp only [veq] at h
    split at h
    · rename_i p q hu
      obtain rfl := Option.some.inj h
      rw [show u = _ from hx, show v = _ from hy]
      simp [Op.equalIn, run_und hT hu w]
    · rename_i kk k p k' q hu
      rw [kindEq_eq] at h
      split at h
      · rename_i hk
        have hk' : k = k' := by simpa using hk
        subst hk'
        obtain rfl := Option.some.inj h
        rw [show u = _ from hx, show v = _ from hy, ieq_eq]
        simp [Op.equalIn, run_und hT hu w]
      · cases h
    · rename_i p q hu
      obtain rfl := Option.some.inj h
      obtain ⟨b1, rfl, rfl⟩ := hx
      obtain ⟨b2, rfl, rfl⟩ := hy
      rw [← strings_eq, ← beq_toListBytes]
      simp [Op.equalIn, run_und hT hu w]
    · rename_i e q hu
      obtain rfl := Option.some.inj h
      rw [show u = _ from hx]
      cases q with
      | none => rw [show v = _ from hy]; simp [Op.equalIn, run_und hT hu w]
      | some q => obtain ⟨pl, _, rfl⟩ := hy; simp [Op.equalIn, run_und hT hu w]
    · rename_i e p hu
      obtain rfl := Option.some.inj h
      obtain ⟨pl, _, rfl⟩ := hx
      rw [show v = _ from hy]
      simp [Op.equalIn, run_und hT hu w]
    · rename_i m hu
      obtain rfl := Option.some.inj h
      rw [show u = _ from hx, show v = _ from hy]
      simp [Op.equalIn, run_und hT hu w]
    · rename_i m t' z hu
      obtain rfl := Option.some.inj h
      rw [show u = _ from hx]
      obtain ⟨v', rfl, _⟩ := hy
      simp [Op.equalIn, run_und hT hu w]
    · rename_i m t' z hu
      obtain rfl := Option.some.inj h
      rw [show v = _ from hy]
      obtain ⟨v', rfl, _⟩ := hx
      simp [Op.equalIn, run_und hT hu w]
    · rename_i fields xs ys hu
      split at h
      · rename_i he
        obtain ⟨vx, rfl, hx1, hx2⟩ := hx
        obtain ⟨vy, rfl, hy1, hy2⟩ := hy
        have hf : P.fieldsOf t = fields := by simp [Program.fieldsOf, und_ok hT hu]
        rw [run_equalIn_struct w d t vx vy (by rw [hf]; exact und_ok hT hu) (hT.eq t he).1, hf]
        exact veqFields_ok w f d fields.toList xs ys vx vy b (by omega) hx1 hy1 hx2 hy2 h
      · cases h
    · rename_i e n1 c1 s1 q n2 c2 s2 hu
      obtain rfl := Option.some.inj h
      rw [show u = _ from hx.1]
      cases q with
      | none => rw [show v = _ from hy.1]; simp [Op.equalIn, run_und hT hu w]
      | some q => obtain ⟨pl, ro, rc, _, rfl, _⟩ := hy; simp [Op.equalIn, run_und hT hu w]
    · rename_i e p n1 c1 s1 n2 c2 s2 hu
      obtain rfl := Option.some.inj h
      obtain ⟨pl, ro, rc, _, rfl, _⟩ := hx
      rw [show v = _ from hy.1]
      simp [Op.equalIn, run_und hT hu w]
    · rename_i k e q hu
      obtain rfl := Option.some.inj h
      rw [show u = _ from hx]
      cases q with
      | none => rw [show v = _ from hy]; simp [Op.equalIn, run_und hT hu w]
      | some q => obtain ⟨pl, _, rfl⟩ := hy; simp [Op.equalIn, run_und hT hu w]
    · rename_i k e p hu
      obtain rfl := Option.some.inj h
      obtain ⟨pl, _, rfl⟩ := hx
      rw [show v = _ from hy]
      simp [Op.equalIn, run_und hT hu w]
    · rename_i p1 p2 p3 hu
      obtain rfl := Option.some.inj h
      rw [show u = _ from hx, show v = _ from hy]
      simp [Op.equalIn, run_und hT hu w]
    · rename_i p1 p2 p3 f1 f2 f3 hu
      obtain rfl := Option.some.inj h
      rw [show u = _ from hx]
      obtain ⟨_, _, rfl, _⟩ := hy
      simp [Op.equalIn, run_und hT hu w]
    · rename_i p1 p2 p3 f1 f2 f3 hu
      obtain rfl := Option.some.inj h
      rw [show v = _ from hy]
      obtain ⟨_, _, rfl, _⟩ := hx
      simp [Op.equalIn, run_und hT hu w]
    · cases h
theorem veqFields_ok {ρ : Rho} (w : World) : ∀ (f d : Nat) (fs : List Field) (xs ys : List AV) (vx vy : Array Value) (b : Bool), f ≤ d + 1 → VRs ρ xs vx.toList → VRs ρ ys vy.toList → (∀ u ∈ vx.toList, u.oneCell' = true) → (∀ u ∈ vy.toList, u.oneCell' = true) → veqFields T f fs xs ys = some b → (Op.eqFields d vx vy fs).run P w = .ok b w
  | 0, _, _, _, _, _, _, _, _, _, _, _, _, h => by simp [veqFields] at h
  | f + 1, d, [], xs, ys, vx, vy, b, hd, hx, hy, h1, h2, h => by
    simp only [veqFields, Option.some.injEq] at h
    subst h
    rfl
  | f + 1, d, fd :: fs, xs, ys, vx, vy, b, hd, hx, hy, h1, h2, h => by
    simp only [veqFields] at h
    split at h
    · rename_i hn
      have hn' : ¬ (fd.name ≠ "_") := by simpa using hn
      simp only [Op.eqFields, hn', if_false]
      exact veqFields_ok w f d fs xs ys vx vy b (by omega) hx hy h1 h2 h
    · rename_i hn
      have hn' : fd.name ≠ "_" := by simpa using hn
      simp only [Op.eqFields, hn', ne_eq, not_false_eq_true, if_true]
      split at h
      · rename_i n hs
        obtain ⟨s1, s2⟩ := run_shape' hT hs w
        split at h
        · have hp : ∀ (vz : Array Value), (part fd.type vz fd.offset).run P w = .ok (.agg (vz.extract fd.offset (fd.offset + n))) w := fun vz => by simp [part, s1, s2]
          have hr : ∀ (zs : List AV) (vz : Array Value), VRs ρ zs vz.toList → (∀ u ∈ vz.toList, u.oneCell' = true) → VR ρ (.agg ((zs.drop fd.offset).take n)) (.agg (vz.extract fd.offset (fd.offset + n))) := fun zs vz hz hz1 => by
            have e : (vz.extract fd.offset (fd.offset + n)).toList = (vz.toList.drop fd.offset).take n := by rw [Array.toList_extract, List.extract_eq_take_drop, Nat.add_sub_cancel_left]
            exact ⟨_, rfl, by rw [e]; exact (hz.drop _).take n, by rw [e]; exact mem_drop_take hz1⟩
          simp only [Sem.run_bind, hp, Result.andThen]
          split at h
          · rename_i he
            have hq := veq_ok w f fd.type d _ _ _ _ true (by omega) (hr xs vx hx h1) (hr ys vy hy h2) he
            rw [hq]
            simp only [Bool.not_true, Bool.false_eq_true, if_false]
            exact veqFields_ok w f d fs xs ys vx vy b (by omega) hx hy h1 h2 h
          · rename_i hne
            cases b with
            | true => exact (hne h).elim
            | false =>
              have hq := veq_ok w f fd.type d _ _ _ _ false (by omega) (hr xs vx hx h1) (hr ys vy hy h2) h
              rw [hq]
              simp
        · cases h
      · rename_i n hs
        obtain ⟨s1, s2⟩ := run_shape' hT hs w
        split at h
        · rename_i p q hp hq
          obtain ⟨u, hu, hux⟩ := hx.get hp
          obtain ⟨v, hv, hvy⟩ := hy.get hq
          rw [Array.getElem?_toList] at hu hv
          have e1 : (part fd.type vx fd.offset).run P w = .ok u w := by simp [part, s1, hu]
          have e2 : (part fd.type vy fd.offset).run P w = .ok v w := by simp [part, s1, hv]
          simp only [Sem.run_bind, e1, e2, Result.andThen]
          split at h
          · rename_i he
            have hq := veq_ok w f fd.type d _ _ _ _ true (by omega) hux hvy he
            rw [hq]
            simp only [Bool.not_true, Bool.false_eq_true, if_false]
            exact veqFields_ok w f d fs xs ys vx vy b (by omega) hx hy h1 h2 h
          · rename_i hne
            cases b with
            | true => exact (hne h).elim
            | false =>
              have hq := veq_ok w f fd.type d _ _ _ _ false (by omega) hux hvy h
              rw [hq]
              simp
        · cases h
      · cases h
end
theorem veq_agg {f t : Nat} {cs ds : List AV} {b : Bool} (h : veq T f t (.agg cs) (.agg ds) = some b) : T.eqOk t = true := by
  cases f with
  | zero => simp [veq] at h
  | succ f =>
    cases he : T.eqOk t with
    | true => rfl
    | false =>
      exfalso
      simp only [veq] at h
      cases hu : T.und t with
      | none => rw [hu] at h; cases h
      | some d => rw [hu] at h; cases d <;> first | cases h | (simp only [he] at h; cases h)
omit hT in
theorem veq_undef1 (f t : Nat) (q : AV) : veq T f t .undef q = none := by
  cases f with
  | zero => simp [veq]
  | succ f =>
    simp only [veq]
    cases T.und t with
    | none => rfl
    | some d => cases d <;> rfl
omit hT in
theorem veq_undef2 (f t : Nat) (p : AV) : veq T f t p .undef = none := by
  cases f with
  | zero => simp [veq]
  | succ f =>
    simp only [veq]
    cases T.und t with
    | none => rfl
    | some d =>
      cases p with
      | ptr a => cases a <;> cases d <;> rfl
      | slice a _ _ _ => cases a <;> cases d <;> rfl
      | map a => cases a <;> cases d <;> rfl
      | _ => cases d <;> rfl
omit hT in
theorem veq_def {f t : Nat} {p q : AV} {b : Bool} (h : veq T f t p q = some b) : p ≠ .undef ∧ q ≠ .undef := by
  refine ⟨fun e => ?_, fun e => ?_⟩
  · subst e; rw [veq_undef1] at h; cases h
  · subst e; rw [veq_undef2] at h; cases h
def Shape (p : AV) : Value → Prop
  | .int k n => p = .int k n
  | .string _ => ∃ s, p = .str s
  | .float .. => False
  | .complex .. => False
  | .nilIface => p = .nilIface
  | .agg _ => ∃ cs, p = .agg cs
  | _ => True
omit hT in
theorem VR.shape {ρ : Rho} {p : AV} {v : Value} (h : VR ρ p v) (hd : p ≠ .undef) : Shape p v := by
  cases p with
  | undef => exact (hd rfl).elim
  | bool b => obtain rfl : v = _ := h; trivial
  | int k n => obtain rfl : v = _ := h; exact rfl
  | str s => obtain ⟨_, rfl, _⟩ := h; exact ⟨s, rfl⟩
  | ptr a => cases a with
    | none => obtain rfl : v = _ := h; trivial
    | some a => obtain ⟨_, _, rfl⟩ := h; trivial
  | slice a n c s => cases a with
    | none => obtain ⟨rfl, _⟩ := h; trivial
    | some a => obtain ⟨_, _, _, _, rfl, _⟩ := h; trivial
  | map a => cases a with
    | none => obtain rfl : v = _ := h; trivial
    | some a => obtain ⟨_, _, rfl⟩ := h; trivial
  | func f a c => obtain ⟨_, _, rfl, _⟩ := h; trivial
  | nilFunc => obtain rfl : v = _ := h; trivial
  | iface t x => obtain ⟨_, rfl, _⟩ := h; trivial
  | nilIface => obtain rfl : v = _ := h; exact rfl
  | agg cs => obtain ⟨_, rfl, _⟩ := h; exact ⟨cs, rfl⟩
  | tuple cs => obtain ⟨_, rfl, _⟩ := h; trivial
theorem run_guard {x y : Operand} {op : BinOp} {t f : Nat} {p q : AV} {u v : Value} {b : Bool} {ρ : Rho} (hp : VR ρ p u) (hq : VR ρ q v) (hn : nilOk x y p q = true) (he : veq T f t p q = some b) (w : World) : (eqGuard op t x y u v).run P w = .ok () w := by
  obtain ⟨d1, d2⟩ := veq_def he
  by_cases hnn : u = .nilIface ∧ v = .nilIface
  · obtain ⟨rfl, rfl⟩ := hnn
    obtain rfl : p = .nilIface := hp.shape d1
    obtain rfl : q = .nilIface := hq.shape d2
    have hc : ((match x with | .const _ => true | _ => false) || (match y with | .const _ => true | _ => false)) = true := by
      cases x <;> cases y <;> first | rfl | simp [nilOk] at hn
    cases op <;> simp [eqGuard, hc] <;> (cases x <;> cases y <;> simp at hc ⊢)
  · by_cases haa : ∃ a c, u = .agg a ∧ v = .agg c
    · obtain ⟨a, c, rfl, rfl⟩ := haa
      obtain ⟨cs, rfl⟩ : ∃ cs, p = .agg cs := hp.shape d1
      obtain ⟨ds, rfl⟩ : ∃ cs, q = .agg cs := hq.shape d2
      exact run_eqGuard_agg w op t x y a c (hT.eq t (veq_agg hT he)).2
    · cases u <;> cases v <;> first
        | (exact (hnn ⟨rfl, rfl⟩).elim)
        | (exact (haa ⟨_, _, rfl, rfl⟩).elim)
        | (cases op <;> simp [eqGuard])
end

section
variable {ρ : Rho} {G : Nat → Prop} {n0 : Nat} {lam : Nat → Option Nat} {fr : Fr} {a : Act} {w : World}
variable {T : Tb} {P : Program} (hT : TbOk T P) {H : VH} (hF : RelF ρ G n0 lam fr a.tmps w) (hH : RelH ρ G H w) {o : Oper} {promo : Nat → Bool} {r : RV} {fr' : Fr} {H' : VH}

include hT hF hH in
theorem sim_bin {op : BinOp} {t t' : Nat} {x y : Operand} (ho : o.op = .binOp op t x y t') (h : oBin T fr H op t x y = some (r, fr', H')) : Sim P o ρ G n0 lam fr a w H r fr' H' := by
  unfold oBin at h
  split at h
  · rename_i p q hp hq
    split at h
    · rename_i hnil
      obtain ⟨v, hx, rfl, rfl, rfl⟩ := outV_spec h
      clear h
      have hpv := eva_rel hF hp
      have hqv := eva_rel hF hq
      have done : ∀ u, VR ρ v u → (eqGuard op t x y (a.eval x) (a.eval y)).run P w = .ok () w → (binOp op t (a.eval x) (a.eval y)).run P w = .ok u w → Sim P o ρ G n0 lam fr' a w H' (.v v) fr' H' := fun u h1 h2 h3 =>
        ⟨u, w, ρ, lam, .value (by simp [execOp, ho, h2, h3]), .quietA hF hH h1⟩
      unfold vbinOp at hx
      split at hx
      · rename_i k m k' n
        obtain ⟨u, h1, h2⟩ := varith_ok hx P w t
        have e1 : a.eval x = .int k m := hpv
        have e2 : a.eval y = .int k' n := hqv
        exact done u (h1 ρ) (by rw [e1, e2]; cases op <;> simp [eqGuard]) (by rw [e1, e2]; exact h2)
      · rename_i s1 s2
        obtain ⟨b1, e1, rfl⟩ := hpv
        obtain ⟨b2, e2, rfl⟩ := hqv
        obtain ⟨u, h1, h2⟩ := vstrOp_ok hx P w
        exact done u (h1 ρ) (by rw [e1, e2]; cases op <;> simp [eqGuard]) (by rw [e1, e2]; cases op <;> exact h2)
      · rename_i n1 n2
        have go : ∀ b, veq T 60 t p q = some b → (Op.equal t (a.eval x) (a.eval y)).run P w = .ok b w := fun b he => veq_ok hT w 60 t Op.maxDepth p q _ _ b (by decide) hpv hqv he
        have eql : ∀ b, veq T 60 t p q = some b → (binOp .eql t (a.eval x) (a.eval y)).run P w = .ok (.bool b) w ∧ (binOp .neq t (a.eval x) (a.eval y)).run P w = .ok (.bool !b) w := by
          intro b he
          have hg := go b he
          obtain ⟨d1, d2⟩ := veq_def he
          have s1 := hpv.shape d1
          have s2 := hqv.shape d2
          generalize a.eval x = u at *
          generalize a.eval y = v at *
          cases u <;> cases v <;> first
            | (exact s1.elim)
            | (exact s2.elim)
            | (exact (n1 _ _ _ _ s1 s2).elim)
            | (obtain ⟨z1, s1⟩ := s1; obtain ⟨z2, s2⟩ := s2; exact (n2 _ _ s1 s2).elim)
            | (simp only [binOp, Sem.run_bind, hg, Result.andThen, Sem.run_pure, and_self]; done)
        split at hx
        · simp only [Option.map_eq_some_iff] at hx
          obtain ⟨b, he, rfl⟩ := hx
          exact done (.bool b) rfl (run_guard hT hpv hqv hnil he w) (eql b he).1
        · simp only [Option.map_eq_some_iff] at hx
          obtain ⟨b, he, rfl⟩ := hx
          exact done (.bool !b) rfl (run_guard hT hpv hqv hnil he w) (eql b he).2
        · cases hx
    · cases h
  · cases h

include hF hH in
theorem sim_un {op : UnOp} {t : Nat} {x : Operand} (ho : o.op = .unOp op t x) (h : oUn fr H op x = some (r, fr', H')) : Sim P o ρ G n0 lam fr a w H r fr' H' := by
  unfold oUn at h
  split at h
  · rename_i p hp
    obtain ⟨v, hx, rfl, rfl, rfl⟩ := outV_spec h
    clear h
    have hpv := eva_rel hF hp
    have done : ∀ u, VR ρ v u → (Op.unary op (a.eval x)).run P w = .ok u w → Sim P o ρ G n0 lam fr' a w H' (.v v) fr' H' := fun u h1 h2 =>
      ⟨u, w, ρ, lam, .value (by simp [execOp, ho, h2]), .quietA hF hH h1⟩
    unfold vunOp at hx
    split at hx
    · rename_i k n
      obtain rfl := Option.some.inj hx
      have e1 : a.eval x = .int k n := hpv
      exact done _ rfl (by rw [e1]; simp [Op.unary, Op.intArith, fwrap_eq])
    · rename_i k n
      obtain ⟨m, rfl, e⟩ := vbits_ok hx P w
      have e1 : a.eval x = .int k n := hpv
      exact done _ rfl (by rw [e1]; simp only [Op.unary]; exact e)
    · rename_i b
      obtain rfl := Option.some.inj hx
      have e1 : a.eval x = .bool b := hpv
      exact done _ rfl (by rw [e1]; simp [Op.unary])
    · cases hx
  · cases h
end
end Go.Vm
