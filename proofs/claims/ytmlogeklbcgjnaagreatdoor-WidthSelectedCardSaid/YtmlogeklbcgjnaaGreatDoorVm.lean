/- The abstract machine: a deterministic machine over the model's own code. Its heap has numbers for blocks; a slice that came of an append lies in a new block. -/
import Derived.Calls
namespace Go.Vm
set_option linter.unusedSimpArgs false
set_option linter.unusedVariables false
set_option linter.unusedSectionVars false

/-- Tries: a map from numbers. -/
inductive Tr (α : Type) where
  | leaf
  | node (l : Tr α) (v : Option α) (r : Tr α)

namespace Tr
variable {α : Type}
noncomputable def get (t : Tr α) : Nat → Option α :=
  Tr.rec (motive := fun _ => Nat → Option α) (fun _ => none) (fun _ v _ l r k => Nat.rec v (fun k _ => Nat.rec (l (k / 2)) (fun _ _ => r (k / 2)) (k % 2)) k) t
def left : Tr α → Tr α
  | .leaf => .leaf
  | .node l _ _ => l
def right : Tr α → Tr α
  | .leaf => .leaf
  | .node _ _ r => r
def val : Tr α → Option α
  | .leaf => none
  | .node _ v _ => v
noncomputable def setF (f : Nat) : Tr α → Nat → α → Tr α :=
  Nat.rec (motive := fun _ => Tr α → Nat → α → Tr α) (fun t _ _ => t)
    (fun _ ih t k x => Nat.rec (.node t.left (some x) t.right) (fun k _ => Nat.rec (.node (ih t.left (k / 2) x) t.val t.right) (fun _ _ => .node t.left t.val (ih t.right (k / 2) x)) (k % 2)) k) f
noncomputable def set (t : Tr α) (k : Nat) (x : α) : Tr α := setF (k + 1) t k x
/-- A node for each number below n, no value. -/
noncomputable def roomF (f : Nat) : Nat → Tr α :=
  Nat.rec (motive := fun _ => Nat → Tr α) (fun _ => .leaf) (fun _ ih n => Nat.rec .leaf (fun m _ => .node (ih ((m + 1) / 2)) none (ih (m / 2))) n) f
noncomputable def room (n : Nat) : Tr α := roomF 20 n
noncomputable def ofListFrom (t : Tr α) : Nat → List α → Tr α
  | _, [] => t
  | k, x :: xs => ofListFrom (t.set k x) (k + 1) xs
noncomputable def ofList (xs : List α) : Tr α := ofListFrom .leaf 0 xs
end Tr

/-- A string: its length, and its bytes as one number, the first byte lowest. -/
structure PS where
  len : Nat
  val : Nat


namespace PS
def valOf : List UInt8 → Nat
  | [] => 0
  | b :: l => b.toNat + 256 * valOf l
def of (l : List UInt8) : PS := ⟨l.length, valOf l⟩
def byte (s : PS) (i : Nat) : Nat := s.val / 256 ^ i % 256
def ext (s : PS) (l h : Nat) : PS := ⟨h - l, s.val / 256 ^ l % 256 ^ (h - l)⟩
def cat (a b : PS) : PS := ⟨a.len + b.len, a.val + b.val * 256 ^ a.len⟩
def eq (a b : PS) : Bool := a.len == b.len && a.val == b.val
def bytesFrom (s : PS) : Nat → Nat → List Nat
  | 0, _ => []
  | n + 1, i => s.byte i :: bytesFrom s n (i + 1)
def bytes (s : PS) : List Nat := s.bytesFrom s.len 0
def lessL : List Nat → List Nat → Bool
  | _, [] => false
  | [], _ :: _ => true
  | a :: x, b :: y => Nat.blt a b || (a == b && lessL x y)
def less (a b : PS) : Bool := lessL a.bytes b.bytes
end PS

/-! Whole numbers, for quick reckoning. -/
def two64 : Nat := 18446744073709551616
def modOf : IntKind → Nat
  | .i8 | .u8 => 256
  | .i16 | .u16 => 65536
  | .i32 | .u32 => 4294967296
  | .i64 | .u64 => 18446744073709551616
def halfOf : IntKind → Nat
  | .i8 => 128
  | .i16 => 32768
  | .i32 => 2147483648
  | .i64 => 9223372036854775808
  | k => modOf k
def nmod (n : Int) (M : Nat) : Nat :=
  match n with
  | .ofNat a => a % M
  | .negSucc a => M - 1 - a % M
def fwrap (k : IntKind) (n : Int) : Int :=
  match Nat.blt (nmod n (modOf k)) (halfOf k) with
  | true => .ofNat (nmod n (modOf k))
  | false => .negSucc (modOf k - 1 - nmod n (modOf k))
def ilt : Int → Int → Bool
  | .ofNat a, .ofNat b => Nat.blt a b
  | .negSucc _, .ofNat _ => true
  | .ofNat _, .negSucc _ => false
  | .negSucc a, .negSucc b => Nat.blt b a
def ile (a b : Int) : Bool := !ilt b a
def ieq : Int → Int → Bool
  | .ofNat a, .ofNat b => Nat.beq a b
  | .negSucc a, .negSucc b => Nat.beq a b
  | _, _ => false
def ishr (a : Int) (n : Nat) : Int :=
  match a with
  | .ofNat a => .ofNat (a / 2 ^ n)
  | .negSucc a => .negSucc (a / 2 ^ n)
def ishl (a : Int) (n : Nat) : Int := a * Int.ofNat (2 ^ n)

mutual
inductive AV where
  | bool (b : Bool)
  | int (k : IntKind) (n : Int)
  | str (s : PS)
  | ptr (a : Option (Bk × Nat))
  /-- block and cell; length; capacity, if it is known; cells of an element -/
  | slice (a : Option (Bk × Nat)) (len : Nat) (cap : Option Nat) (esz : Nat)
  | map (r : Option Nat)
  | func (f : Nat) (first captured : List AV)
  | nilFunc
  | iface (t : Nat) (v : AV)
  | nilIface
  | agg (cs : List AV)
  | tuple (vs : List AV)
  | undef
/-- A block: one of the heap, or one that is never written, with its cells. -/
inductive Bk where
  | blk (n : Nat)
  | pur (cs : List AV)
end
instance : Coe Nat Bk := ⟨.blk⟩


/-- One cell's value. -/
def AV.one : AV → Bool
  | .agg _ | .tuple _ | .undef => false
  | _ => true

def AV.cells : AV → List AV
  | .agg cs => cs
  | v => [v]

/-- A constant of the program. -/
def ofValue : Value → Option AV
  | .bool b => some (.bool b)
  | .int k n => some (.int k n)
  | .string s => some (.str (PS.of s.data.toList))
  | .pointer none => some (.ptr none)
  | .slice none 0 0 => some (.slice none 0 (some 0) 0)
  | .map none => some (.map none)
  | .nilFunc => some .nilFunc
  | .nilIface => some .nilIface
  | .agg cs => (go cs.toList).map .agg
  | _ => none
where
  go : List Value → Option (List AV)
    | [] => some []
    | v :: vs => match one v, go vs with
      | some a, some as => some (a :: as)
      | _, _ => none
  one : Value → Option AV
    | .bool b => some (.bool b)
    | .int k n => some (.int k n)
    | .string s => some (.str (PS.of s.data.toList))
    | .pointer none => some (.ptr none)
    | .slice none 0 0 => some (.slice none 0 (some 0) 0)
    | .map none => some (.map none)
    | .nilFunc => some .nilFunc
    | .nilIface => some .nilIface
    | _ => none

/-- A row of cells: how many; the cells; whether it may be written; the lineage and the place in it (an append that may have written in place goes on the lineage); how often it was written. -/
structure Row where
  n : Nat
  t : Tr AV
  live : Bool
  lin : Nat
  gen : Nat
  ver : Nat
  /-- the type of the block's elements, if it is known and the row begins where the block begins -/
  ety : Option Nat := none

/-- An entry of a map: its key, its value, its number. -/
structure ME where
  k : AV
  v : AV
  born : Nat

/-- Entries that stand for an iterator over a map: the map, and the number from which on entries are new; the numbers that came up. -/
def isIt : List ME → Bool
  | ⟨.undef, _, _⟩ :: _ => true
  | _ => false
inductive Blk where
  | row (r : Row)
  /-- a map: its entries, the next entry's number, how often it was changed -/
  | map (es : List ME) (clock ver : Nat)
  /-- a block that is not looked into -/
  | dark

/-- The heap: the next number; the blocks; of each lineage, the place from which on rows may be read; the least block that was changed since the call began. -/
structure VH where
  next : Nat
  t : Tr Blk
  wg : Tr Nat
  low : Nat

namespace VH
noncomputable def get (H : VH) (b : Nat) : Option Blk := H.t.get b
noncomputable def set (H : VH) (b : Nat) (x : Blk) : VH := { H with t := H.t.set b x, low := min H.low b }
noncomputable def alloc (H : VH) (x : Blk) : VH := { H with next := H.next + 1, t := H.t.set H.next x }
noncomputable def row? (H : VH) (b : Nat) : Option Row :=
  match H.get b with
  | some (.row r) => some r
  | _ => none
noncomputable def from_ (H : VH) (lin : Nat) : Nat := (H.wg.get lin).getD 0
noncomputable def readable (H : VH) (r : Row) : Bool := Nat.ble (H.from_ r.lin) r.gen
noncomputable def cut (H : VH) (lin gen : Nat) : VH :=
  match Nat.ble gen (H.from_ lin) with
  | true => H
  | false => { H with wg := H.wg.set lin gen }
noncomputable def cellN (H : VH) (b o : Nat) : Option AV :=
  match H.row? b with
  | some r => if H.readable r then (if Nat.blt o r.n then r.t.get o else none) else none
  | none => none
noncomputable def cell (H : VH) (b : Bk) (o : Nat) : Option AV :=
  match b with
  | .blk b => H.cellN b o
  | .pur cs => cs[o]?
noncomputable def cells (H : VH) (b : Bk) (o : Nat) : Nat → Option (List AV)
  | 0 => some []
  | n + 1 =>
    match H.cell b o, H.cells b (o + 1) n with
    | some v, some vs => some (v :: vs)
    | _, _ => none
noncomputable def putN (H : VH) (b o : Nat) (v : AV) : Option VH :=
  match H.row? b with
  | some r =>
    if v.one && Nat.blt o r.n && r.live then some ((H.cut r.lin r.gen).set b (.row { r with t := r.t.set o v, ver := r.ver + 1 })) else none
  | none => none
noncomputable def put (H : VH) (b : Bk) (o : Nat) (v : AV) : Option VH :=
  match b with
  | .blk b => H.putN b o v
  | .pur _ => none
noncomputable def puts (H : VH) (b : Bk) (o : Nat) : List AV → Option VH
  | [] => some H
  | v :: vs =>
    match H.put b o v with
    | some H' => H'.puts b (o + 1) vs
    | none => none
/-- Whether what may be read of a block is the same in two heaps. -/
noncomputable def same (H H' : VH) (b : Nat) : Bool :=
  match H.get b, H'.get b with
  | some (.row r), some (.row r') => r.ver == r'.ver && H.readable r && H'.readable r'
  | some (.map _ _ v), some (.map _ _ v') => v == v'
  | _, _ => false
/-- The map of a block: its entries, the next number, how often it was changed. -/
noncomputable def map? (H : VH) (b : Nat) : Option (List ME × Nat × Nat) :=
  match H.get b with
  | some (.map es c v) => match isIt es with | true => none | false => some (es, c, v)
  | _ => none
/-- An iterator: its map, the number from which on entries are new, the numbers that came up, the last number seen, how often it was changed. -/
noncomputable def iter? (H : VH) (b : Nat) : Option (AV × Nat × List ME × Nat × Nat) :=
  match H.get b with
  | some (.map (⟨.undef, m, s⟩ :: seen) c v) => some (m, s, seen, c, v)
  | _ => none
noncomputable def newMap (H : VH) (es : List ME := []) (c : Nat := 0) : VH := H.alloc (.map es c 0)
noncomputable def setMap (H : VH) (b : Nat) (es : List ME) (c v : Nat) : VH := H.set b (.map es c (v + 1))
/-- The lineage is cut, unless the append goes on at the row's end. -/
noncomputable def cutIf (H : VH) (q : Bool) (lin gen : Nat) : VH :=
  match q with
  | true => H
  | false => H.cut lin gen
/-- A row that an append makes of another one (r, of block b), which is done with. -/
noncomputable def grow (H : VH) (b : Nat) (r : Row) (n : Nat) (t : Tr AV) (e : Option Nat) : VH :=
  (H.set b (.row { r with live := false })).alloc (.row { n, t, live := true, lin := r.lin, gen := r.gen + 1, ver := 0, ety := e })
/-- A row that is done with. -/
noncomputable def dead (H : VH) (b : Nat) (r : Row) : VH := H.set b (.row { r with live := false })
/-- A new row. -/
noncomputable def fresh (H : VH) (cells : List AV) : VH := H.alloc (.row { n := cells.length, t := Tr.ofList cells, live := true, lin := H.next, gen := 0, ver := 0 })
/-- A new row of elements of a known type. -/
noncomputable def freshT (H : VH) (cells : List AV) (e : Nat) : VH := H.alloc (.row { n := cells.length, t := Tr.ofList cells, live := true, lin := H.next, gen := 0, ver := 0, ety := some e })
noncomputable def freshE (H : VH) (cells : List AV) (e : Option Nat) : VH :=
  match e with
  | none => H.fresh cells
  | some e => H.freshT cells e
/-- A new row of whatever cells: none of them is known. -/
noncomputable def blank (H : VH) (e : Nat) : VH := H.alloc (.row { n := 0, t := .leaf, live := true, lin := H.next, gen := 0, ver := 0, ety := some e })
end VH

/-- What a function without a body answers: a value; or a slice of so many new elements of a type, of one cell each, whatever they hold. -/
inductive XR where
  | val (v : AV)
  | room (n e : Nat)

/-- The program's tables, for quick look-ups: the types, the functions, the struct types that may be compared. -/
structure Tb where
  ty : Tr TypeInfo
  fn : Tr Func
  eqOk : Nat → Bool
  gl : Nat → Bool
  /-- in a block of the first type lies at this place a variable of the last type -/
  lies : List (Nat × Nat × Nat)
namespace Tb
noncomputable def typed (T : Tb) (t : Nat) : Bool := List.rec (motive := fun _ => Bool) false (fun p _ ih => match Nat.beq p.1 t with | true => true | false => ih) T.lies
noncomputable def liesB (T : Tb) (t o u : Nat) : Bool := List.rec (motive := fun _ => Bool) false (fun p _ ih => match Nat.beq p.1 t && (Nat.beq p.2.1 o && Nat.beq p.2.2 u) with | true => true | false => ih) T.lies
/-- A new box's type, where it matters. -/
noncomputable def boxE (T : Tb) (t : Nat) : Option Nat := match T.typed t with | true => some t | false => none
noncomputable def info (T : Tb) (t : Nat) : Option TypeInfo := T.ty.get t
noncomputable def und (T : Tb) (t : Nat) : Option TypeDesc :=
  match T.ty.get t with
  | some i =>
    match i.desc with
    | .named _ u =>
      match T.ty.get u with
      | some j => some j.desc
      | none => none
    | d => some d
  | none => none
end Tb

/-- What a temporary holds: a value, or a place in a box of the frame's own. -/
inductive RV where
  | v (a : AV)
  | loc (d ep off : Nat)

structure LC where
  ep : Nat
  cells : List AV

structure Fr where
  regs : Tr RV
  loc : Tr LC
  nt : Nat
  gl : Nat → Bool

namespace Fr
noncomputable def ev (fr : Fr) : Operand → Option RV
  | .tmp t => some ((fr.regs.get t).getD (.v .undef))
  | .const v => (ofValue v).map .v
  | .global g =>
    match fr.gl g with
    | true => some (.v (.ptr (some (g, 0))))
    | false => none
  | .func f => some (.v (.func f [] []))
noncomputable def eva (fr : Fr) (x : Operand) : Option AV :=
  match fr.ev x with
  | some (.v a) => some a
  | _ => none
noncomputable def evas (fr : Fr) : List Operand → Option (List AV)
  | [] => some []
  | x :: xs =>
    match fr.eva x, fr.evas xs with
    | some a, some as => some (a :: as)
    | _, _ => none
noncomputable def put (fr : Fr) (d : Option Nat) (r : RV) : Fr :=
  match d with
  | some d =>
    match Nat.blt d fr.nt with
    | true => { fr with regs := fr.regs.set d r }
    | false => fr
  | none => fr
/-- The next box of a name: how many there were. -/
noncomputable def nextEp (fr : Fr) (d : Nat) : Nat :=
  match fr.loc.get d with
  | some c => c.ep + 1
  | none => 0
noncomputable def box (fr : Fr) (d : Nat) (cs : List AV) : Fr := { fr with loc := fr.loc.set d ⟨fr.nextEp d, cs⟩ }
noncomputable def locCells (fr : Fr) (d ep : Nat) : Option (List AV) :=
  match fr.loc.get d with
  | some c => if c.ep == ep then some c.cells else none
  | none => none
end Fr

end Go.Vm
