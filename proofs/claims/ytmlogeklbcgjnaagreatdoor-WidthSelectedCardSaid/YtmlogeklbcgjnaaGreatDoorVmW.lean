/- The second machine: the abstract machine in continuations, with frames of live values alone, so that on a frame of symbolic values it reduces to a plain function. -/
import Derived.Test.YtmlogeklbcgjnaaGreatDoorVmLem
namespace Go.Vm
set_option linter.unusedSimpArgs false
set_option linter.unusedVariables false
set_option linter.unusedSectionVars false

namespace Tr
variable {α : Type}
noncomputable def putF (f : Nat) : Tr α → Nat → Option α → Tr α :=
  Nat.rec (motive := fun _ => Tr α → Nat → Option α → Tr α) (fun t _ _ => t)
    (fun _ ih t k x => Nat.rec (.node t.left x t.right) (fun k _ => Nat.rec (.node (ih t.left (k / 2) x) t.val t.right) (fun _ _ => .node t.left t.val (ih t.right (k / 2) x)) (k % 2)) k) f
noncomputable def del (t : Tr α) (k : Nat) : Tr α := putF (k + 1) t k none
theorem putF_zero (f : Nat) (t : Tr α) (x : Option α) : putF (f + 1) t 0 x = .node t.left x t.right := rfl
theorem putF_succ (f : Nat) (t : Tr α) (k : Nat) (x : Option α) : putF (f + 1) t (k + 1) x = if k % 2 = 0 then .node (putF f t.left (k / 2) x) t.val t.right else .node t.left t.val (putF f t.right (k / 2) x) := by
  have h : k % 2 = 0 ∨ k % 2 = 1 := by omega
  show (Nat.rec (Tr.node (putF f t.left (k / 2) x) t.val t.right) (fun _ _ => .node t.left t.val (putF f t.right (k / 2) x)) (k % 2) : Tr α) = _
  rcases h with h | h <;> rw [h] <;> rfl
theorem get_putF : ∀ (f : Nat) (t : Tr α) (k : Nat) (x : Option α) (j : Nat), k < f → (putF f t k x).get j = if j = k then x else t.get j
  | 0, _, _, _, _, h => absurd h (Nat.not_lt_zero _)
  | f + 1, t, 0, x, 0, _ => by rw [putF_zero, get_node_zero, if_pos rfl]
  | f + 1, t, 0, x, j + 1, _ => by rw [putF_zero, get_node_succ, get_succ t j, if_neg (Nat.succ_ne_zero j)]
  | f + 1, t, k + 1, x, 0, _ => by
    rw [putF_succ, get_zero t, if_neg (show ¬ (0 = k + 1) by omega)]
    split <;> rw [get_node_zero]
  | f + 1, t, k + 1, x, j + 1, h => by
    have ih := fun (t : Tr α) => get_putF f t (k / 2) x (j / 2) (by omega)
    have e : (j + 1 = k + 1) = (j = k) := by simp
    simp only [e]
    rw [putF_succ, get_succ t j]
    by_cases hk : k % 2 = 0 <;> by_cases hj : j % 2 = 0
    · rw [if_pos hk, get_node_succ, if_pos hj, if_pos hj, ih, same hk hj]
    · rw [if_pos hk, get_node_succ, if_neg hj, if_neg hj, if_neg (by omega)]
    · rw [if_neg hk, get_node_succ, if_pos hj, if_pos hj, if_neg (by omega)]
    · rw [if_neg hk, get_node_succ, if_neg hj, if_neg hj, ih]
      by_cases e : j = k
      · subst e; simp
      · rw [if_neg e, if_neg (by omega)]
theorem get_del (t : Tr α) (k j : Nat) : (t.del k).get j = if j = k then none else t.get j := get_putF _ t k none j (Nat.lt_succ_self k)
/-- Those values alone that a test lets stay. -/
def filtV (p : α → Bool) : Option α → Option α
  | some x => match p x with | true => some x | false => none
  | none => none
theorem filtV_some {p : α → Bool} {v : Option α} {x : α} (h : filtV p v = some x) : v = some x ∧ p x = true := by
  cases v with
  | none => cases h
  | some y =>
    simp only [filtV] at h
    split at h
    · rename_i e
      obtain rfl := Option.some.inj h
      exact ⟨rfl, e⟩
    · cases h
noncomputable def filt (p : α → Bool) (t : Tr α) : Tr α :=
  Tr.rec (motive := fun _ => Tr α) .leaf (fun _ v _ l r => .node l (filtV p v) r) t
theorem get_filt (p : α → Bool) : ∀ (t : Tr α) (k : Nat) (x : α), (t.filt p).get k = some x → t.get k = some x ∧ p x = true
  | .leaf, k, x, h => by cases k <;> cases h
  | .node l v r, 0, x, h => filtV_some (show filtV p v = some x from h)
  | .node l v r, k + 1, x, h => by
    have h' : (Tr.node (l.filt p) (filtV p v) (r.filt p)).get (k + 1) = some x := h
    rw [get_node_succ] at h'
    rw [get_node_succ]
    split at h'
    · rename_i e
      rw [if_pos e]
      exact get_filt p l _ x h'
    · rename_i e
      rw [if_neg e]
      exact get_filt p r _ x h'
noncomputable def dels (t : Tr α) (ks : List Nat) : Tr α := List.rec (motive := fun _ => Tr α → Tr α) (fun t => t) (fun k _ ih t => ih (t.del k)) ks t
theorem get_dels : ∀ (ks : List Nat) (t : Tr α) (j : Nat), (t.dels ks).get j = if j ∈ ks then none else t.get j
  | [], t, j => by simp [dels]
  | k :: ks, t, j => by
    have : (t.dels (k :: ks)) = (t.del k).dels ks := rfl
    rw [this, get_dels ks, get_del]
    by_cases h1 : j ∈ ks
    · simp [h1]
    · by_cases h2 : j = k <;> simp [h1, h2]
end Tr

/-- What a temporary holds: a value, or a place in a box of the frame. -/
inductive WV where
  | v (a : AV)
  | loc (d off : Nat)
/-- A frame: the live values alone. -/
structure WF where
  regs : Tr WV
  loc : Tr (List AV)
  nt : Nat
  gl : Nat → Bool
  /-- boxes that must not be changed now -/
  frz : List Nat
noncomputable def memB (d : Nat) (l : List Nat) : Bool := List.rec false (fun x _ ih => Nat.beq d x || ih) l
theorem memB_mem : ∀ {l : List Nat} {d : Nat}, memB d l = true → d ∈ l
  | a :: l, d, h => by
    have h' : (Nat.beq d a || memB d l) = true := h
    simp only [Bool.or_eq_true, Nat.beq_eq] at h'
    rcases h' with rfl | h'
    · exact List.mem_cons_self
    · exact List.mem_cons_of_mem _ (memB_mem h')
def WV.isNot (d : Nat) : WV → Bool
  | .v _ => true
  | .loc e _ => !Nat.beq e d
namespace WF
noncomputable def ev (f : WF) : Operand → Option WV
  | .tmp t => f.regs.get t
  | .const v => match ofValue v with | some a => some (.v a) | none => none
  | .global g => match f.gl g with | true => some (.v (.ptr (some (g, 0)))) | false => none
  | .func g => some (.v (.func g [] []))
noncomputable def eva (f : WF) (x : Operand) : Option AV :=
  match f.ev x with
  | some (.v a) => some a
  | _ => none
noncomputable def evas (f : WF) : List Operand → Option (List AV)
  | [] => some []
  | x :: xs =>
    match f.eva x, f.evas xs with
    | some a, some as => some (a :: as)
    | _, _ => none
noncomputable def put (f : WF) (d : Option Nat) (r : WV) : WF :=
  match d with
  | some d =>
    match Nat.blt d f.nt with
    | true => { f with regs := f.regs.set d r }
    | false => f
  | none => f
noncomputable def box (f : WF) (d : Nat) (cs : List AV) : WF := { f with regs := f.regs.filt (WV.isNot d), loc := f.loc.set d cs }
end WF

/-! The words that a reduced function is made of. -/
section
variable {α : Type}
def bindV (o : Option AV) (k : AV → Option α) : Option α := match o with | some v => k v | none => none
def bindL (o : Option (List AV)) (k : List AV → Option α) : Option α := match o with | some v => k v | none => none
def bindH (o : Option VH) (k : VH → Option α) : Option α := match o with | some v => k v | none => none
def bindC (o : Option (AV × VH)) (k : AV → VH → Option α) : Option α := match o with | some (v, H) => k v H | none => none
def bindJ (o : Option (Ex × List AV × VH)) (k : Ex → List AV → VH → Option α) : Option α := match o with | some (e, l, H) => k e l H | none => none
def condT (b : Bool) (k : Option α) : Option α := match b with | true => k | false => none
def selC (b : Bool) (x y : Option α) : Option α := match b with | true => x | false => y
def sel {β : Type} (b : Bool) (x y : β) : β := match b with | true => x | false => y
def asB (v : AV) (k : Bool → Option α) : Option α := match v with | .bool b => k b | _ => none
def asI (kd : IntKind) (v : AV) (k : Int → Option α) : Option α := match v with | .int k' n => condT (decide (kd = k')) (k n) | _ => none
def asS (v : AV) (k : PS → Option α) : Option α := match v with | .str s => k s | _ => none
def asP (v : AV) (k : Option (Bk × Nat) → Option α) : Option α := match v with | .ptr p => k p | _ => none
def asSl (v : AV) (k : Option (Bk × Nat) → Nat → Option Nat → Nat → Option α) : Option α := match v with | .slice a n c e => k a n c e | _ => none
def asM (v : AV) (k : Option Nat → Option α) : Option α := match v with | .map m => k m | _ => none
def asA (v : AV) (k : List AV → Option α) : Option α := match v with | .agg l => k l | _ => none
def asTu (v : AV) (k : List AV → Option α) : Option α := match v with | .tuple l => k l | _ => none
def asFn (v : AV) (k : Nat → List AV → List AV → Option α) : Option α := match v with | .func f a b => k f a b | _ => none
def asSome (a : Option (Bk × Nat)) (k : Bk → Nat → Option α) : Option α := match a with | some (b, o) => k b o | none => none
def unc (l : List AV) (k : AV → List AV → Option α) : Option α := match l with | a :: l => k a l | [] => none
def endL (l : List AV) (k : Option α) : Option α := match l with | [] => k | _ :: _ => none
def uI (l : List AV) (k : Int → List AV → Option α) : Option α := unc l fun a l => asI .i64 a fun n => k n l
def uU (l : List AV) (k : Int → List AV → Option α) : Option α := unc l fun a l => asI .u64 a fun n => k n l
def uB (l : List AV) (k : Bool → List AV → Option α) : Option α := unc l fun a l => asB a fun b => k b l
def uS (l : List AV) (k : PS → List AV → Option α) : Option α := unc l fun a l => asS a fun s => k s l
def uL (l : List AV) (k : Option (Bk × Nat) → Nat → Option Nat → Nat → List AV → Option α) : Option α := unc l fun a l => asSl a fun p n c e => k p n c e l
def letH (H : VH) (k : VH → Option α) : Option α := k H
def letN (n : Int) (k : Int → Option α) : Option α := k n
def letB (n : Bool) (k : Bool → Option α) : Option α := k n
def letS (n : PS) (k : PS → Option α) : Option α := k n
def caseEx (e x : Ex) (a b : Option α) : Option α :=
  match e with
  | .normal => match x with | .normal => a | .ret => b | .exit _ => b
  | .ret => match x with | .normal => b | .ret => a | .exit _ => b
  | .exit i => match x with | .normal => b | .ret => b | .exit j => match Nat.beq i j with | true => a | false => b

noncomputable def castOne (z v : AV) (k : AV → Option α) : Option α :=
  match z with
  | .bool _ => asB v fun b => k (.bool b)
  | .int kd _ => asI kd v fun n => k (.int kd n)
  | .str _ => asS v fun s => k (.str s)
  | .ptr _ => asP v fun p => k (.ptr p)
  | .slice _ _ _ _ => asSl v fun a n c e => k (.slice a n c e)
  | .map _ => asM v fun m => k (.map m)
  | _ => k v
noncomputable def castL (zs : List AV) : List AV → (List AV → Option α) → Option α :=
  List.rec (motive := fun _ => List AV → (List AV → Option α) → Option α) (fun l k => endL l (k [])) (fun z _ ih l k => unc l fun a l => castOne z a fun a => ih l fun l => k (a :: l)) zs
noncomputable def castZ (z v : AV) (k : AV → Option α) : Option α :=
  match z with
  | .agg zs => asA v fun l => castL zs l fun l => k (.agg l)
  | z => castOne z v k
noncomputable def castTL (zs : List AV) : List AV → (List AV → Option α) → Option α :=
  List.rec (motive := fun _ => List AV → (List AV → Option α) → Option α) (fun l k => endL l (k [])) (fun z _ ih l k => unc l fun a l => castZ z a fun a => ih l fun l => k (a :: l)) zs
noncomputable def castT (z v : AV) (k : AV → Option α) : Option α :=
  match z with
  | .tuple zs => asTu v fun l => castTL zs l fun l => k (.tuple l)
  | z => castZ z v k
noncomputable def castM (z : Option AV) (v : AV) (k : AV → Option α) : Option α :=
  match z with
  | some z => castT z v k
  | none => k v
end

noncomputable def zts (T : Tb) : List Nat → Option (List AV) :=
  List.rec (some []) (fun t _ ih => match zeroOf T t, ih with | some z, some zs => some (z :: zs) | _, _ => none)
/-- The shape of a type's values. -/
noncomputable def zt (T : Tb) (t : Nat) : Option AV :=
  match T.info t with
  | some i =>
    match i.desc with
    | .tuple ts => match ts.toList with | [] => none | t :: l => (zts T (t :: l)).map .tuple
    | _ => zeroOf T t
  | none => none

section
variable {α : Type} (T : Tb) (callF : Nat → List AV → VH → Option (AV × VH)) (promo : Nat → Bool)
/-- What follows an operation: the value, the frame ahead of its taking, the heap. -/
abbrev Kop (α : Type) := WV → WF → VH → Option α

noncomputable def bindW (o : Option WV) (k : WV → Option α) : Option α := match o with | some v => k v | none => none
noncomputable def wMove (f : WF) (H : VH) (x : Operand) (k : Kop α) : Option α := bindW (f.ev x) fun w => k w f H
noncomputable def wPick (ty : Nat) (f : WF) (H : VH) (c a b : Operand) (k : Kop α) : Option α :=
  match f.eva c with
  | some (.bool c) =>
    match zt T ty, f.ev a, f.ev b with
    | some (.bool _), some (.v (.bool x)), some (.v (.bool y)) => k (.v (.bool (sel c x y))) f H
    | some (.int kd _), some (.v (.int k1 x)), some (.v (.int k2 y)) => condT (kindEq kd k1 && kindEq kd k2) (k (.v (.int kd (sel c x y))) f H)
    | some (.str _), some (.v (.str x)), some (.v (.str y)) => k (.v (.str (sel c x y))) f H
    | _, ra, rb => selC c (bindW ra fun w => k w f H) (bindW rb fun w => k w f H)
  | _ => none
noncomputable def wBox (dst : Option Nat) (f : WF) (H : VH) (cs : List AV) (e : Option Nat) (k : Kop α) : Option α :=
  match dst with
  | some d => condT (allOne cs) (match promo d with
    | true => condT (!memB d f.frz) (k (.loc d 0) (f.box d cs) H)
    | false => k (.v (.ptr (some (H.next, 0)))) f (H.freshE cs e))
  | none => none
noncomputable def wAlloc (dst : Option Nat) (f : WF) (H : VH) (t : Nat) (k : Kop α) : Option α :=
  match zeroOf T t with
  | some z => wBox promo dst f H z.cells (T.boxE t) k
  | none => none
noncomputable def wBoxV (dst : Option Nat) (f : WF) (H : VH) (t : Nat) (x : Operand) (k : Kop α) : Option α :=
  match f.eva x with
  | some v => wBox promo dst f H v.cells (T.boxE t) k
  | none => none
noncomputable def wparts (f : WF) : List (Nat × Operand) → Option (List (Nat × AV))
  | [] => some []
  | (i, x) :: rest =>
    match f.eva x, wparts f rest with
    | some a, some as => some ((i, a) :: as)
    | _, _ => none
/-- A frame for the first machine's functions that only read values. -/
noncomputable def wbuild (t : Nat) (ps : List (Nat × AV)) : Option AV :=
  match zeroOf T t with
  | some z =>
    match T.und t with
    | some (.struct fields) =>
      (vfill (fun i => match fields[i]? with | some f => (sizeOfT T f.type).map fun s => (f.offset, s) | none => none) z.cells ps).map .agg
    | some (.array _ elem) =>
      match sizeOfT T elem with
      | some s => (vfill (fun i => some (i * s, s)) z.cells ps).map .agg
      | none => none
    | _ => none
  | none => none
noncomputable def wBuild (f : WF) (H : VH) (t : Nat) (ps : List (Nat × Operand)) (k : Kop α) : Option α :=
  match wparts f ps with
  | some ps => bindV (wbuild T t ps) fun v => k (.v v) f H
  | none => none
noncomputable def wbuildSlice (t : Nat) (len : Nat) (ps : List (Nat × AV)) : Option (Nat × List AV) :=
  match T.und t with
  | some (.slice elem) =>
    match sizeOfT T elem, zeroOf T elem with
    | some s, some z =>
      match Nat.ble (len * s) 16777216 && Nat.blt 0 s && z.cells.length == s && allOne z.cells with
      | true =>
        match vfill (fun i => some (i * s, s)) (repl z.cells len) ps with
        | some cs => some (s, cs)
        | none => none
      | false => none
    | _, _ => none
  | _ => none
noncomputable def wBuildSlice (q : Bool) (f : WF) (H : VH) (t len : Nat) (ps : List (Nat × Operand)) (k : Kop α) : Option α :=
  match wparts f ps with
  | some ps =>
    match wbuildSlice T t len ps with
    | some (s, cs) =>
      match q with
      | true => k (.v (.slice (some (.pur cs, 0)) len (some len) s)) f H
      | false => k (.v (.slice (some (H.next, 0)) len (some len) s)) f (H.fresh cs)
    | none => none
  | none => none
noncomputable def wLoad (ty : Nat) (f : WF) (H : VH) (t : Nat) (a : Operand) (k : Kop α) : Option α :=
  match shapeOf T t, f.ev a with
  | some (true, n), some (.v (.ptr (some (b, o)))) => bindL (H.cells b o n) fun l => castM (zt T ty) (.agg l) fun v => k (.v v) f H
  | some (true, n), some (.loc d off) =>
    match f.loc.get d with
    | some cs => condT (Nat.ble (off + n) cs.length) (k (.v (.agg ((cs.drop off).take n))) f H)
    | none => none
  | some (false, _), some (.v (.ptr (some (b, o)))) => bindV (H.cell b o) fun v => castM (zt T ty) v fun v => k (.v v) f H
  | some (false, _), some (.loc d off) =>
    match f.loc.get d with
    | some cs => bindV cs[off]? fun v => k (.v v) f H
    | none => none
  | _, _ => none
noncomputable def wStore (f : WF) (H : VH) (t : Nat) (a x : Operand) (k : Kop α) : Option α :=
  match sizeOfT T t, f.ev a, f.eva x with
  | some n, some r, some v => condT (v.cells.length == n && allOne v.cells) (match r with
    | .v (.ptr (some (b, o))) => bindH (H.puts b o v.cells) fun H' => k (.v (.tuple [])) f H'
    | .loc d off =>
      match f.loc.get d with
      | some cs => condT (Nat.ble (off + n) cs.length && !memB d f.frz) (k (.v (.tuple [])) { f with loc := f.loc.set d (cs.take off ++ v.cells ++ cs.drop (off + n)) } H)
      | none => none
    | _ => none)
  | _, _, _ => none
noncomputable def wNil (f : WF) (H : VH) (x : Operand) (k : Kop α) : Option α :=
  match f.ev x with
  | some (.v (.ptr p)) => asSome p fun b o => k (.v (.ptr (some (b, o)))) f H
  | some (.v v) => asFn v fun i a b => k (.v (.func i a b)) f H
  | some (.loc d o) =>
    match f.loc.get d with
    | some _ => k (.loc d o) f H
    | none => none
  | none => none
noncomputable def wBin (ty : Nat) (f : WF) (H : VH) (op : BinOp) (t : Nat) (x y : Operand) (k : Kop α) : Option α :=
  match f.eva x, f.eva y with
  | some a, some b => condT (nilOk x y a b) (bindV (vbinOp T op t a b) fun v => castM (zt T ty) v fun v => k (.v v) f H)
  | _, _ => none
noncomputable def wUn (f : WF) (H : VH) (op : UnOp) (x : Operand) (k : Kop α) : Option α :=
  match f.eva x with
  | some a => bindV (vunOp op a) fun v => k (.v v) f H
  | none => none
noncomputable def wConv (ty : Nat) (f : WF) (H : VH) (s d : Nat) (x : Operand) (k : Kop α) : Option α :=
  match f.eva x with
  | some a => bindC (vconvert T H s d a) fun v H' => castM (zt T ty) v fun v => k (.v v) f H'
  | none => none
noncomputable def wIface (f : WF) (H : VH) (t : Nat) (x : Operand) (k : Kop α) : Option α :=
  match T.und t, f.eva x with
  | some (.interface _), _ => none
  | some _, some a => k (.v (.iface t a)) f H
  | _, _ => none
noncomputable def wFunc (f : WF) (H : VH) (fn : Fn) (first cap : Array Operand) (k : Kop α) : Option α :=
  match fn, f.evas first.toList, f.evas cap.toList with
  | .func g, some a, some b => k (.v (.func g a b)) f H
  | _, _, _ => none
noncomputable def wMakeSlice (ty : Nat) (f : WF) (H : VH) (t : Nat) (l c : Operand) (k : Kop α) : Option α :=
  match f.eva l, f.eva c with
  | some a, some b => bindC (vmakeSlice T H t a b) fun v H' => castM (zt T ty) v fun v => k (.v v) f H'
  | _, _ => none
noncomputable def woptEv (f : WF) : Option Operand → Option (Option AV)
  | none => some none
  | some x =>
    match f.eva x with
    | some a => some (some a)
    | none => none
noncomputable def wSlice (ty : Nat) (f : WF) (H : VH) (t : Nat) (x : Operand) (lo hi : Option Operand) (k : Kop α) : Option α :=
  match f.eva x, woptEv f lo, woptEv f hi with
  | some r, some a, some b => bindV (vslice T H t (.v r) a b) fun v => castM (zt T ty) v fun v => k (.v v) f H
  | _, _, _ => none
noncomputable def wFieldAddr (f : WF) (H : VH) (t : Nat) (x : Operand) (i : Nat) (k : Kop α) : Option α :=
  match T.und t with
  | some (.struct fields) =>
    match fields[i]? with
    | some fd =>
      match sizeOfT T fd.type with
      | some (_ + 1) =>
        match f.ev x with
        | some (.v (.ptr (some (b, o)))) => k (.v (.ptr (some (b, o + fd.offset)))) f H
        | some (.loc d off) =>
          match f.loc.get d with
          | some _ => k (.loc d (off + fd.offset)) f H
          | none => none
        | _ => none
      | _ => none
    | none => none
  | _ => none
noncomputable def wField (f : WF) (H : VH) (t : Nat) (x : Operand) (i : Nat) (k : Kop α) : Option α :=
  match f.eva x with
  | some a => bindV (vfield T t a i) fun v => k (.v v) f H
  | none => none
noncomputable def wIndexAddr (f : WF) (H : VH) (t : Nat) (x i : Operand) (k : Kop α) : Option α :=
  match T.und t, f.ev x, f.eva i with
  | some (.array len elem), some (.v (.ptr (some (b, o)))), some (.int _ n) =>
    match sizeOfT T elem with
    | some s => condT (ile 0 n && ilt n len) (k (.v (.ptr (some (b, o + n.toNat * s)))) f H)
    | none => none
  | some (.array len elem), some (.loc d off), some (.int _ n) =>
    match sizeOfT T elem, f.loc.get d with
    | some s, some _ => condT (ile 0 n && ilt n len) (k (.loc d (off + n.toNat * s)) f H)
    | _, _ => none
  | some (.slice elem), some (.v (.slice a len _ _)), some (.int _ n) =>
    match sizeOfT T elem with
    | some s => asSome a fun b o => condT (ile 0 n && ilt n len) (k (.v (.ptr (some (b, o + n.toNat * s)))) f H)
    | none => none
  | _, _, _ => none
noncomputable def wIndex (ty : Nat) (f : WF) (H : VH) (t : Nat) (x i : Operand) (k : Kop α) : Option α :=
  match T.und t, f.eva x, f.eva i with
  | some .string, some (.str s), some (.int _ n) => condT (ile 0 n && ilt n s.len) (k (.v (.int .u8 (s.byte n.toNat))) f H)
  | some (.array _ _), some a, some (.int _ n) => bindV (vindex T t a n) fun v => castM (zt T ty) v fun v => k (.v v) f H
  | _, _, _ => none
noncomputable def wExtract (ty : Nat) (f : WF) (H : VH) (x : Operand) (i : Nat) (k : Kop α) : Option α :=
  match f.eva x with
  | some (.tuple vs) => bindV vs[i]? fun v => castM (zt T ty) v fun v => k (.v v) f H
  | _ => none
noncomputable def wLookup (ty : Nat) (f : WF) (H : VH) (t : Nat) (x i : Operand) (ok : Bool) (k : Kop α) : Option α :=
  match f.eva x, f.eva i with
  | some m, some a => bindV (vlookup T H t m a ok) fun v => castM (zt T ty) v fun v => k (.v v) f H
  | _, _ => none
noncomputable def wMapUpdate (f : WF) (H : VH) (t : Nat) (x i y : Operand) (k : Kop α) : Option α :=
  match f.eva x, f.eva i, f.eva y with
  | some m, some a, some v => bindH (vmapUpdate T H t m a v) fun H' => k (.v (.tuple [])) f H'
  | _, _, _ => none
noncomputable def wMapEntry (f : WF) (H : VH) (t : Nat) (x i : Operand) (k : Kop α) : Option α :=
  match f.eva x, f.eva i with
  | some m, some a => bindC (vmapEntry T H t m a) fun v H' => k (.v v) f H'
  | _, _ => none
noncomputable def wEntryStore (f : WF) (H : VH) (x i y : Operand) (k : Kop α) : Option α :=
  match f.eva x, f.eva i, f.eva y with
  | some m, some a, some v => bindH (ventryStore H m a v) fun H' => k (.v (.tuple [])) f H'
  | _, _, _ => none
noncomputable def wMakeMap (ty : Nat) (f : WF) (H : VH) (t : Nat) (r : Option Operand) (k : Kop α) : Option α :=
  match woptEv f r with
  | some r => bindC (vmakeMap T H t r) fun v H' => castM (zt T ty) v fun v => k (.v v) f H'
  | none => none
noncomputable def bindN (o : Option (Option (AV × AV) × VH)) (a : VH → Option α) (b : AV → AV → VH → Option α) : Option α :=
  match o with
  | some (none, H) => a H
  | some (some (k, v), H) => b k v H
  | none => none
noncomputable def wRange (f : WF) (H : VH) (t : Nat) (x : Operand) (k : Kop α) : Option α :=
  match f.eva x with
  | some m => bindC (vrange T H t m) fun v H' => asP v fun p => k (.v (.ptr p)) f H'
  | none => none
noncomputable def wNext (ty : Nat) (f : WF) (H : VH) (x : Operand) (str : Bool) (k : Kop α) : Option α :=
  match str, f.eva x with
  | false, some m => bindN (vnext H m) (fun H' => k (.v (.tuple [.bool false])) f H') fun a b H' => castM (zt T ty) (.tuple [.bool true, a, b]) fun v => k (.v v) f H'
  | _, _ => none
noncomputable def wEntry (ty : Nat) (f : WF) (H : VH) (x : Operand) (k : Kop α) : Option α :=
  match f.eva x with
  | some m => bindC (entryV H m) fun v H' => asTu v fun l => unc l fun a l => unc l fun b l => endL l (k (.v (.tuple [a, b])) f H')
  | none => none
noncomputable def wop (o : Oper) (f : WF) (H : VH) (k : Kop α) : Option α :=
  match o.op with
  | .move x => wMove f H x k
  | .assign x => wMove f H x k
  | .pick c a b => wPick T o.type f H c a b k
  | .alloc t => wAlloc T promo o.dst f H t k
  | .box t x => wBoxV T promo o.dst f H t x k
  | .build t ps => wBuild T f H t ps.toList k
  | .buildSlice t n ps => wBuildSlice T (litQ promo o.dst) f H t n ps.toList k
  | .load t a => wLoad T o.type f H t a k
  | .store t a x => wStore T f H t a x k
  | .nilCheck x => wNil f H x k
  | .binOp op t x y _ => wBin T o.type f H op t x y k
  | .unOp op _ x => wUn f H op x k
  | .convert s d x => wConv T o.type f H s d x k
  | .makeInterface t x => wIface T f H t x k
  | .makeFunc fn first cap => wFunc f H fn first cap k
  | .makeSlice t l c => wMakeSlice T o.type f H t l c k
  | .slice t x lo hi none => wSlice T o.type f H t x lo hi k
  | .fieldAddr t x i => wFieldAddr T f H t x i k
  | .field t x i => wField T f H t x i k
  | .indexAddr t x i => wIndexAddr T f H t x i k
  | .index t x i => wIndex T o.type f H t x i k
  | .extract x i => wExtract T o.type f H x i k
  | .makeMap t r => wMakeMap T o.type f H t r k
  | .lookup t x i ok => wLookup T o.type f H t x i ok k
  | .mapUpdate t m i v => wMapUpdate T f H t m i v k
  | .mapEntry t m i => wMapEntry T f H t m i k
  | .entryStore _ m st v => wEntryStore f H m st v k
  | .insert t m i v => wMapUpdate T f H t m i v k
  | .range t x => wRange T f H t x k
  | .next x str => wNext T o.type f H x str k
  | .entry x => wEntry o.type f H x k
  | _ => none
noncomputable def wCall (q : Bool) (ty : Nat) (c : Call) (f : WF) (H : VH) (k : Kop α) : Option α :=
  match f.evas c.args.toList with
  | none => none
  | some args =>
    match c.callee with
    | .builtin b => bindC (vbuiltin T (frzSrc q b args H).2 b c.argTypes.toList (frzSrc q b args H).1) fun v H' => castM (zt T ty) v fun v => k (.v v) f H'
    | .value g =>
      match f.eva g with
      | some v => asFn v fun i first cap => bindC (callF i (first ++ args ++ cap) H) fun v H' => castM (zt T ty) v fun v => k (.v v) f H'
      | none => none
    | .invoke _ _ => none
noncomputable def wstep (o : Oper) (f : WF) (H : VH) (k : Kop α) : Option α :=
  match o.op with
  | .call c => wCall T callF (litQ promo o.dst) o.type c f H k
  | _ => wop T promo o f H k

/-! Regions. -/
noncomputable def wtagAddr (r : Option WV) : Tag :=
  match r with
  | some (.v (.ptr (some (b, _)))) => .read (bkl b) []
  | some (.loc d _) => .read [] [d]
  | _ => .idle
noncomputable def wtagRes (r : WV) : Tag :=
  match r with
  | .loc d _ => .read [] [d]
  | .v _ => .idle
noncomputable def wtagStore (r : Option WV) (H H' : VH) : Tag :=
  match r with
  | some (.loc d _) => .loc d
  | _ => .eff H H'
noncomputable def wtagCall (c : Call) (f : WF) (H H' : VH) : Tag :=
  match c.callee with
  | .builtin .len => tagLen (f.evas c.args.toList)
  | .builtin .cap => .idle
  | .builtin .min => .idle
  | .builtin .max => .idle
  | _ => .eff H H'
noncomputable def wtag (o : Oper) (f : WF) (H H' : VH) (r : WV) : Tag :=
  match o.op with
  | .move _ => wtagRes r
  | .assign _ => wtagRes r
  | .pick _ _ _ => wtagRes r
  | .nilCheck _ => wtagRes r
  | .fieldAddr _ _ _ => wtagRes r
  | .indexAddr _ _ _ => wtagRes r
  | .alloc _ => tagBox promo o.dst H H'
  | .box _ _ => tagBox promo o.dst H H'
  | .load _ a => wtagAddr (f.ev a)
  | .store _ a _ => wtagStore (f.ev a) H H'
  | .convert _ _ x => tagConv (f.eva x) H H'
  | .slice _ x _ _ _ => wtagAddr (f.ev x)
  | .build _ _ => .idle
  | .buildSlice _ _ _ => tagLit (litQ promo o.dst) H H'
  | .binOp _ _ _ _ _ => .idle
  | .unOp _ _ _ => .idle
  | .makeInterface _ _ => .idle
  | .makeFunc _ _ _ => .idle
  | .field _ _ _ => .idle
  | .index _ _ _ => .idle
  | .extract _ _ => .idle
  | .lookup _ x _ _ => tagMap (f.eva x)
  | .call c => wtagCall c f H H'
  | _ => .eff H H'
/-- The guard: 'yes' and 'no' with the frame in which the guard's register is known. -/
noncomputable def wguard (ops : Array Oper) (o : Oper) (f : WF) (yes no : WF → Option α) : Option α :=
  match o.guard with
  | none => yes f
  | some (j, want) =>
    match (ops[j]?).bind (·.dst) with
    | none => no f
    | some d =>
      match f.regs.get d with
      | some (.v (.bool b)) =>
        match want with
        | true => selC b (yes { f with regs := f.regs.set d (.v (.bool true)) }) (no { f with regs := f.regs.set d (.v (.bool false)) })
        | false => selC b (no { f with regs := f.regs.set d (.v (.bool true)) }) (yes { f with regs := f.regs.set d (.v (.bool false)) })
      | some (.v (.tuple [])) => no f
      | _ => none
noncomputable def wopsCons (ops : Array Oper) (o : Oper) (ih : (WF → VH → Option α) → WF → VH → Option α) (k : WF → VH → Option α) (f : WF) (H : VH) : Option α :=
  wguard ops o f (fun f => wstep T callF promo o f H fun r f H => ih k (f.put o.dst r) H) (fun f => ih k (f.put o.dst (.v (.tuple []))) H)
noncomputable def wops (ops : Array Oper) (os : List Oper) : (WF → VH → Option α) → WF → VH → Option α :=
  List.rec (motive := fun _ => (WF → VH → Option α) → WF → VH → Option α) (fun k f H => k f H) (fun o _ ih => wopsCons T callF promo ops o ih) os
noncomputable def wopsConsT (ops : Array Oper) (bef : Array Nat) (o : Oper) (ih : Nat → List Tag → (WF → VH → Option α) → WF → VH → Option α) (n : Nat) (ts : List Tag) (k : WF → VH → Option α) (f : WF) (H : VH) : Option α :=
  wguard ops o f (fun f => wstep T callF promo o f H fun r f' H' => condT (freeOf (wtag promo o f H H' r) (bef.getD n 0) n ts) (ih (n + 1) (wtag promo o f H H' r :: ts) k (f'.put o.dst r) H'))
    (fun f => ih (n + 1) (.idle :: ts) k (f.put o.dst (.v (.tuple []))) H)
noncomputable def wopsT (ops : Array Oper) (bef : Array Nat) (os : List Oper) : Nat → List Tag → (WF → VH → Option α) → WF → VH → Option α :=
  List.rec (motive := fun _ => Nat → List Tag → (WF → VH → Option α) → WF → VH → Option α) (fun _ _ k f H => k f H) (fun o _ ih => wopsConsT T callF promo ops bef o ih) os

/-! Code. -/
structure Jn where
  regs : List (Nat × Nat)
  boxes : List (Nat × Nat)
  locs : List (Nat × Nat × Nat)
inductive Ann where
  | nil
  | one (a : Ann)
  | two (a b : Ann)
  | join (keep : List Nat) (js : List (Ex × Jn)) (a : Ann)
  | loop (keep : List Nat) (h : Jn) (js : List (Ex × Jn)) (a : Ann)
def Ann.left : Ann → Ann
  | .two a _ => a
  | .one a => a
  | _ => .nil
def Ann.right : Ann → Ann
  | .two _ b => b
  | _ => .nil
abbrev R := Ex × List AV × VH

noncomputable def assignedOps (os : List Oper) : List Nat := List.rec [] (fun o _ ih => match o.dst with | some d => d :: ih | none => ih) os
noncomputable def assigned (c : Code) : List Nat :=
  Code.rec (motive := fun _ => List Nat) [] (fun _ ops _ => assignedOps ops.toList) (fun _ _ a b => a ++ b) (fun _ _ _ a b => a ++ b) (fun _ _ c => c) (fun _ c => c) (fun _ _ _ _ _ _ => []) (fun _ => []) (fun _ _ => []) (fun _ => []) (fun _ => []) [] (fun _ => []) c

def exEq : Ex → Ex → Bool
  | .normal, .normal => true
  | .ret, .ret => true
  | .exit i, .exit j => Nat.beq i j
  | _, _ => false
noncomputable def memP (d : Nat) (l : List (Nat × Nat)) : Bool := List.rec false (fun x _ ih => Nat.beq d x.1 || ih) l
noncomputable def keepW (as : List Nat) (keep : List Nat) (boxes : List (Nat × Nat)) : WV → Bool
  | .v _ => true
  | .loc d _ => (memP d boxes || memB d keep) && !memB d as
noncomputable def keepLoc (f : WF) (keep : List Nat) : Tr (List AV) :=
  List.rec .leaf (fun d _ ih => match f.loc.get d with | some cs => ih.set d cs | none => ih) keep
noncomputable def base (as : List Nat) (keep : List Nat) (j : Jn) (f : WF) : WF := { f with regs := (f.regs.dels as).filt (keepW as keep j.boxes), loc := keepLoc f keep }
noncomputable def WF.freeze (f : WF) (keep : List Nat) : WF := { f with frz := keep ++ f.frz }
noncomputable def colRegs (f : WF) (rest : List AV) (l : List (Nat × Nat)) : Option (List AV) :=
  List.rec (some rest) (fun p _ ih => match f.eva (.tmp p.1), ih with | some a, some as => some (a :: as) | _, _ => none) l
noncomputable def colBoxes (f : WF) (l : List (Nat × Nat)) : Option (List AV) :=
  List.rec (some []) (fun p _ ih => match f.loc.get p.1, ih with | some cs, some as => some (.agg cs :: as) | _, _ => none) l
noncomputable def colLocs (f : WF) (l : List (Nat × Nat × Nat)) : Bool :=
  List.rec true (fun p _ ih => match f.regs.get p.1 with | some (.loc d off) => Nat.beq d p.2.1 && Nat.beq off p.2.2 && ih | _ => false) l
noncomputable def collect (f : WF) (j : Jn) : Option (List AV) :=
  match colLocs f j.locs with
  | true => match colBoxes f j.boxes with
    | some bs => colRegs f bs j.regs
    | none => none
  | false => none
noncomputable def rbRegs (l : List (Nat × Nat)) : (WF → List AV → Option α) → WF → List AV → Option α :=
  List.rec (motive := fun _ => (WF → List AV → Option α) → WF → List AV → Option α) (fun k f vs => k f vs) (fun p _ ih k f vs => unc vs fun a vs => castM (zt T p.2) a fun a => ih k { f with regs := f.regs.set p.1 (.v a) } vs) l
noncomputable def castBox (z : Option AV) (l : List AV) (k : List AV → Option α) : Option α :=
  match z with
  | some z => castL z.cells l k
  | none => k l
noncomputable def rbBoxes (l : List (Nat × Nat)) : (WF → Option α) → WF → List AV → Option α :=
  List.rec (motive := fun _ => (WF → Option α) → WF → List AV → Option α) (fun k f vs => endL vs (k f)) (fun p _ ih k f vs => unc vs fun a vs => asA a fun cs => castBox (zeroOf T p.2) cs fun cs => ih k { f with loc := f.loc.set p.1 cs } vs) l
noncomputable def rbLocs (l : List (Nat × Nat × Nat)) : (WF → Option α) → WF → Option α :=
  List.rec (motive := fun _ => (WF → Option α) → WF → Option α) (fun k f => k f) (fun p _ ih k f => ih k { f with regs := f.regs.set p.1 (.loc p.2.1 p.2.2) }) l
noncomputable def rebuild (as keep : List Nat) (f : WF) (j : Jn) (vs : List AV) (k : WF → Option α) : Option α :=
  rbRegs T j.regs (fun f vs => rbBoxes T j.boxes (fun f => rbLocs j.locs k f) f vs) (base as keep j f) vs
noncomputable def leaveJ (js : List (Ex × Jn)) (ex : Ex) (f : WF) (H : VH) : Option R :=
  List.rec none (fun p _ ih => match exEq p.1 ex with | true => bindL (collect f p.2) fun vs => some (ex, vs, H) | false => ih) js
noncomputable def enterJ (as keep : List Nat) (js : List (Ex × Jn)) (K : Ex → WF → VH → Option α) (f : WF) (ex : Ex) (vs : List AV) (H : VH) : Option α :=
  List.rec none (fun p _ ih => caseEx p.1 ex (rebuild T as keep f p.2 vs fun f => K p.1 f H) ih) js
abbrev KC (α : Type) := Ex → WF → VH → Option α
abbrev WRun := (α : Type) → Ann → KC α → WF → VH → Option α
noncomputable def wjoin (as keep : List Nat) (js : List (Ex × Jn)) (run : KC R → WF → VH → Option R) (K : KC α) (f : WF) (H : VH) : Option α :=
  bindJ (run (leaveJ js) (f.freeze keep) H) (enterJ T as keep js K f)
noncomputable def loopN (B : (List AV → VH → Option R) → List AV → VH → Option R) (n : Nat) : List AV → VH → Option R :=
  Nat.rec (motive := fun _ => List AV → VH → Option R) (fun _ _ => none) (fun _ ih => B ih) n
noncomputable def onBody (h : Jn) (js : List (Ex × Jn)) (ih : List AV → VH → Option R) : KC R := fun ex f H =>
  match ex with
  | .normal => bindL (collect f h) fun vs => ih vs H
  | .ret => leaveJ js .ret f H
  | .exit i => leaveJ js (.exit i) f H
noncomputable def wbody (as keep : List Nat) (h : Jn) (js : List (Ex × Jn)) (run : KC R → WF → VH → Option R) (f : WF) (ih : List AV → VH → Option R) (vs : List AV) (H : VH) : Option R :=
  rebuild T as keep f h vs fun f => run (onBody h js ih) (f.freeze keep) H
noncomputable def wloop (as keep : List Nat) (h : Jn) (js : List (Ex × Jn)) (run : KC R → WF → VH → Option R) (n : Nat) (K : KC α) (f : WF) (H : VH) : Option α :=
  bindL (collect f h) fun vs => bindJ (loopN (wbody T as keep h js run f) n vs H) (enterJ T as keep js K f)
/-- A piece of code: joined, if its note says so. -/
noncomputable def viaJ (as : Unit → List Nat) (core : WRun) : WRun := fun _ ann K f H =>
  match ann with
  | .join keep js a => wjoin T (as ()) keep js (core R a) K f H
  | ann => core _ ann K f H
noncomputable def kSeq {α : Type} (run : WF → VH → Option α) (K : KC α) : KC α := fun ex f H =>
  match ex with
  | .normal => run f H
  | .ret => K .ret f H
  | .exit i => K (.exit i) f H
noncomputable def kBlock {α : Type} (id : Nat) (K : KC α) : KC α := fun ex f H =>
  match ex with
  | .normal => K .normal f H
  | .ret => K .ret f H
  | .exit i => match Nat.beq i id with | true => K .normal f H | false => K (.exit i) f H
noncomputable def wRegion (ops : Array Oper) (draw : Bool) : WRun := fun _ _ K f H =>
  match draw with
  | true => wopsT T callF promo ops (Region.before ops) ops.toList 0 [] (K .normal) f H
  | false => wops T callF promo ops ops.toList (K .normal) f H
noncomputable def wCond {α : Type} (c : Operand) (a b : WF → VH → Option α) (f : WF) (H : VH) : Option α :=
  match f.eva c with
  | some (.bool e) => selC e (a f H) (b f H)
  | _ => none
noncomputable def wLoop (c : Code) (run : WRun) (n : Nat) : WRun := fun _ ann K f H =>
  match ann with
  | .loop keep h js a => wloop T (assigned c) keep h js (run R a) n K f H
  | _ => none
noncomputable def wc (n : Nat) (c : Code) : WRun :=
  Code.rec (motive := fun _ => WRun) (fun _ _ K f H => K .normal f H)
    (fun id ops d => viaJ T (fun _ => assigned (.region id ops d)) (wRegion T callF promo ops d))
    (fun a b ra rb => viaJ T (fun _ => assigned (.seq a b)) fun α ann K f H => ra α ann.left (kSeq (rb α ann.right K) K) f H)
    (fun x a b ra rb => viaJ T (fun _ => assigned (.cond x a b)) fun α ann K f H => wCond x (ra α ann.left K) (rb α ann.right K) f H)
    (fun id c r => viaJ T (fun _ => assigned (.block id c)) fun α ann K f H => r α ann.left (kBlock id K) f H)
    (fun c r => wLoop T c r n)
    (fun _ _ _ _ _ _ _ _ _ _ _ => none) (fun id _ _ K f H => K (.exit id) f H) (fun _ _ _ _ _ _ _ => none) (fun _ _ _ K f H => K .normal f H) (fun _ _ _ _ _ _ => none) (fun _ _ K f H => K .ret f H) (fun _ _ _ _ _ _ => none) c

noncomputable def wresults (f : WF) (H : VH) (rs : List ResultVar) : (List AV → Option α) → Option α :=
  List.rec (motive := fun _ => (List AV → Option α) → Option α) (fun k => k [])
    (fun r _ ih k =>
      match r with
      | .tmp t => bindV (f.eva (.tmp t)) fun a => ih fun as => k (a :: as)
      | .cell t ty => wLoad T ty f H ty (.tmp t) fun w _ _ => match w with | .v a => ih fun as => k (a :: as) | .loc _ _ => none) rs
noncomputable def enterWF (gl : Nat → Bool) (nt : Nat) (args : List AV) : WF := { regs := Tr.ofListFrom .leaf 0 (args.map .v), loc := .leaf, nt := nt, gl := gl, frz := [] }
noncomputable def wEnd (q : Bool) (fn : Func) (H : VH) : KC (AV × VH) := fun ex f H' =>
  match ex with
  | .normal => wresults T f H' fn.results.toList fun vs => some (back q H H' (oneOf vs))
  | .ret => wresults T f H' fn.results.toList fun vs => some (back q H H' (oneOf vs))
  | .exit _ => none
/-- A call's body. -/
noncomputable def wfun (n : Nat) (ann : Ann) (fn : Func) (args : List AV) (H : VH) : Option (AV × VH) :=
  match fn.body with
  | none => none
  | some c =>
    match Nat.ble args.length fn.ntmps with
    | true => wc T callF promo n c _ ann (wEnd T (promo fn.ntmps) fn H) (enterWF T.gl fn.ntmps args) { H with low := H.next }
    | false => none
end
end Go.Vm
