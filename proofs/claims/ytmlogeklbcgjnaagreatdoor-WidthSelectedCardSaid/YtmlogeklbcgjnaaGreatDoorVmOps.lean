/- The abstract machine's operations, regions, code and calls. -/
import Derived.Test.YtmlogeklbcgjnaaGreatDoorVm
namespace Go.Vm
set_option linter.unusedSimpArgs false
set_option linter.unusedVariables false
set_option linter.unusedSectionVars false

section
variable (T : Tb)

/-- A type's size in cells, and whether it is a struct or an array. -/
noncomputable def shapeOf (t : Nat) : Option (Bool × Nat) :=
  match T.info t, T.und t with
  | some i, some (.struct _) => some (true, i.size)
  | some i, some (.array _ _) => some (true, i.size)
  | some i, some _ => some (false, i.size)
  | _, _ => none
noncomputable def sizeOfT (t : Nat) : Option Nat := (T.info t).map (·.size)
noncomputable def zeroOf (t : Nat) : Option AV :=
  match T.info t with
  | some i => i.zero.bind ofValue
  | none => none

noncomputable def allOne : List AV → Bool
  | [] => true
  | v :: vs => v.one && allOne vs

noncomputable def vload (fr : Fr) (H : VH) (t : Nat) (r : RV) : Option AV :=
  match shapeOf T t with
  | some (true, n) =>
    match r with
    | .v (.ptr (some (b, o))) => (H.cells b o n).map .agg
    | .loc d ep off =>
      match fr.locCells d ep with
      | some cs => if Nat.ble (off + n) cs.length then some (.agg ((cs.drop off).take n)) else none
      | none => none
    | _ => none
  | some (false, _) =>
    match r with
    | .v (.ptr (some (b, o))) => H.cell b o
    | .loc d ep off =>
      match fr.locCells d ep with
      | some cs => cs[off]?
      | none => none
    | _ => none
  | none => none

noncomputable def vstore (fr : Fr) (H : VH) (t : Nat) (r : RV) (v : AV) : Option (Fr × VH) :=
  match sizeOfT T t with
  | some n =>
    if v.cells.length == n && allOne v.cells then
      match r with
      | .v (.ptr (some (b, o))) => (H.puts b o v.cells).map fun H' => (fr, H')
      | .loc d ep off =>
        match fr.locCells d ep with
        | some cs =>
          if Nat.ble (off + n) cs.length then some ({ fr with loc := fr.loc.set d ⟨ep, cs.take off ++ v.cells ++ cs.drop (off + n)⟩ }, H) else none
        | none => none
      | _ => none
    else none
  | none => none

/-- The cells of a value built out of parts. -/
noncomputable def vfill (place : Nat → Option (Nat × Nat)) (cells : List AV) : List (Nat × AV) → Option (List AV)
  | [] => some cells
  | (i, v) :: rest =>
    match place i with
    | none => none
    | some (off, size) =>
      if v.cells.length == size && Nat.ble (off + size) cells.length && allOne v.cells then
        vfill place (cells.take off ++ v.cells ++ cells.drop (off + size)) rest
      else none

noncomputable def parts (fr : Fr) : List (Nat × Operand) → Option (List (Nat × AV))
  | [] => some []
  | (i, x) :: rest =>
    match fr.eva x, parts fr rest with
    | some a, some as => some ((i, a) :: as)
    | _, _ => none

noncomputable def repl (z : List AV) : Nat → List AV
  | 0 => []
  | n + 1 => z ++ repl z n

noncomputable def vbuild (fr : Fr) (t : Nat) (ps : List (Nat × Operand)) : Option AV :=
  match zeroOf T t, parts fr ps with
  | some z, some ps =>
    match T.und t with
    | some (.struct fields) =>
      (vfill (fun i => match fields[i]? with | some f => (sizeOfT T f.type).map fun s => (f.offset, s) | none => none) z.cells ps).map .agg
    | some (.array _ elem) =>
      match sizeOfT T elem with
      | some s => (vfill (fun i => some (i * s, s)) z.cells ps).map .agg
      | none => none
    | _ => none
  | _, _ => none

/-- A slice of new cells: a row of the heap, or cells that are never written. -/
noncomputable def litOf (q : Bool) (H : VH) (len s : Nat) (cs : List AV) : AV × VH :=
  match q with
  | true => (.slice (some (.pur cs, 0)) len (some len) s, H)
  | false => (.slice (some (H.next, 0)) len (some len) s, H.fresh cs)
noncomputable def litQ (promo : Nat → Bool) (dst : Option Nat) : Bool :=
  match dst with
  | some d => promo d
  | none => false
noncomputable def vbuildSlice (q : Bool) (fr : Fr) (H : VH) (t : Nat) (len : Nat) (ps : List (Nat × Operand)) : Option (AV × VH) :=
  match T.und t with
  | some (.slice elem) =>
    match sizeOfT T elem, zeroOf T elem, parts fr ps with
    | some s, some z, some ps =>
      if Nat.ble (len * s) 16777216 && Nat.blt 0 s && z.cells.length == s && allOne z.cells then
        match vfill (fun i => some (i * s, s)) (repl z.cells len) ps with
        | some cs => some (litOf q H len s cs)
        | none => none
      else none
    | _, _, _ => none
  | _ => none

noncomputable def intIx : AV → Option Int
  | .int _ n => some n
  | _ => none

noncomputable def vfieldAddr (t : Nat) (r : RV) (f : Nat) : Option RV :=
  match T.und t with
  | some (.struct fields) =>
    match fields[f]? with
    | some fd =>
      match sizeOfT T fd.type with
      | some (_ + 1) =>
        match r with
        | .v (.ptr (some (b, o))) => some (.v (.ptr (some (b, o + fd.offset))))
        | .loc d ep off => some (.loc d ep (off + fd.offset))
        | _ => none
      | _ => none
    | none => none
  | _ => none

noncomputable def vfield (t : Nat) (v : AV) (f : Nat) : Option AV :=
  match T.und t, v with
  | some (.struct fields), .agg cs =>
    match fields[f]? with
    | some fd =>
      match shapeOf T fd.type with
      | some (true, n) => if Nat.ble (fd.offset + n) cs.length then some (.agg ((cs.drop fd.offset).take n)) else none
      | some (false, _) => cs[fd.offset]?
      | none => none
    | none => none
  | _, _ => none

noncomputable def vindexAddr (t : Nat) (r : RV) (i : Int) : Option RV :=
  match T.und t with
  | some (.array len elem) =>
    match sizeOfT T elem with
    | some s =>
      if ile 0 i && ilt i len then
        match r with
        | .v (.ptr (some (b, o))) => some (.v (.ptr (some (b, o + i.toNat * s))))
        | .loc d ep off => some (.loc d ep (off + i.toNat * s))
        | _ => none
      else none
    | none => none
  | some (.slice elem) =>
    match r, sizeOfT T elem with
    | .v (.slice (some (b, o)) len _ _), some s => if ile 0 i && ilt i len then some (.v (.ptr (some (b, o + i.toNat * s)))) else none
    | _, _ => none
  | _ => none

noncomputable def vindex (t : Nat) (v : AV) (i : Int) : Option AV :=
  match T.und t, v with
  | some .string, .str s => if ile 0 i && ilt i s.len then some (.int .u8 (s.byte i.toNat)) else none
  | some (.array len elem), .agg cs =>
    if ile 0 i && ilt i len then
      match shapeOf T elem with
      | some (true, n) => if Nat.ble (i.toNat * n + n) cs.length then some (.agg ((cs.drop (i.toNat * n)).take n)) else none
      | some (false, n) => cs[i.toNat * n]?
      | none => none
    else none
  | _, _ => none

/-- A bound of a slice expression: at most y. -/
noncomputable def bound (v : Option AV) (y dflt : Nat) : Option Nat :=
  match v with
  | none => some dflt
  | some (.int _ i) => if ile 0 i && ile i y then some i.toNat else none
  | _ => none

noncomputable def vsliceStr (s : PS) (lo hi : Option AV) : Option AV :=
  match bound hi s.len s.len with
  | some h => match bound lo h 0 with
    | some l => some (.str (s.ext l h))
    | none => none
  | none => none

noncomputable def vsliceRow (s : Nat) (a : Option (Bk × Nat)) (len : Nat) (cap : Option Nat) (esz : Nat) (lo hi : Option AV) : Option AV :=
  match a.isSome && !Nat.beq esz s with
  | true => none
  | false =>
    match bound hi (cap.getD len) len with
    | some h => match bound lo h 0 with
      | some l => some (.slice (a.map fun p => (p.1, p.2 + l * s)) (h - l) (cap.map (· - l)) s)
      | none => none
    | none => none
noncomputable def fits (H : VH) (b k : Nat) : Bool :=
  match H.row? b with
  | some r => Nat.ble k r.n
  | none => false
noncomputable def vsliceArr (H : VH) (s n b o : Nat) (lo hi : Option AV) : Option AV :=
  match fits H b (o + n * s) with
  | false => none
  | true =>
  match bound hi n n with
  | some h => match bound lo h 0 with
    | some l => some (.slice (some (b, o + l * s)) (h - l) (some (n - l)) s)
    | none => none
  | none => none
noncomputable def vslice (H : VH) (t : Nat) (r : RV) (lo hi : Option AV) : Option AV :=
  match T.und t, r with
  | some .string, .v (.str s) => vsliceStr s lo hi
  | some (.slice elem), .v (.slice a len cap esz) =>
    match sizeOfT T elem with
    | some s => vsliceRow s a len cap esz lo hi
    | none => none
  | some (.array n elem), .v (.ptr (some (.blk b, o))) =>
    match sizeOfT T elem with
    | some s => vsliceArr H s n b o lo hi
    | none => none
  | _, _ => none

noncomputable def vmakeSlice (H : VH) (t : Nat) (l c : AV) : Option (AV × VH) :=
  match T.und t, l, c with
  | some (.slice elem), .int _ l, .int _ c =>
    match T.info elem, zeroOf T elem with
    | some i, some z =>
      match ile 0 l && ile l c && ile c 16777216 && Nat.ble (i.bytes * c.toNat) 281474976710656 && Nat.blt 0 i.size && Nat.beq z.cells.length i.size && allOne z.cells with
      | true => some (.slice (some (H.next, 0)) l.toNat (some c.toNat) i.size, H.fresh (repl z.cells c.toNat))
      | false => none
    | _, _ => none
  | _, _, _ => none

noncomputable def vconvert (H : VH) (src dst : Nat) (x : AV) : Option (AV × VH) :=
  match T.und src, T.und dst, x with
  | some (.int _), some (.int k), .int _ n => some (.int k (fwrap k n), H)
  | some .string, some .string, .str s => some (.str s, H)
  | some (.slice e), some .string, .slice a len _ _ =>
    match T.und e, a with
    | some (.int .u8), none => some (.str ⟨0, 0⟩, H)
    | some (.int .u8), some (b, o) =>
      match H.cells b o len with
      | some cs => (go cs).map fun s => (.str s, H)
      | none => none
    | _, _ => none
  | some .string, some (.slice e), .str s =>
    match T.und e with
    | some (.int .u8) => some (.slice (some (H.next, 0)) s.len none 1, H.freshT (s.bytes.map fun (b : Nat) => AV.int .u8 b) e)
    | _ => none
  | some (.pointer t), some .unsafePointer, .ptr (some (.blk b, o)) =>
    match sizeOfT T t with
    | some (_ + 1) => match fits H b (o + 1) with | true => some (.ptr (some (b, o)), H) | false => none
    | _ => none
  | some .unsafePointer, some (.pointer u), .ptr (some (.blk b, o)) => match sizeOfT T u, vlies H b o u with | some _, true => some (.ptr (some (b, o)), H) | _, _ => none
  | _, _, _ => none
where
  vlies (H : VH) (b o u : Nat) : Bool :=
    match H.row? b with
    | some r =>
      match r.ety with
      | some e => match sizeOfT T e with | some s => Nat.ble s r.n && (Nat.blt 0 s && T.liesB e o u) | none => false
      | none => false
    | none => false
  go : List AV → Option PS
    | [] => some ⟨0, 0⟩
    | .int .u8 n :: cs => match go cs with
      | some s => some ⟨s.len + 1, n.toNat % 256 + 256 * s.val⟩
      | none => none
    | _ => none

noncomputable def vbits (op : BinOp) (k : IntKind) (a b : Int) : Option AV :=
  match op with
  | .and => some (.int k (fwrap k (.ofNat (Nat.land (nmod a (modOf k)) (nmod b (modOf k))))))
  | .or => some (.int k (fwrap k (.ofNat (Nat.lor (nmod a (modOf k)) (nmod b (modOf k))))))
  | .xor => some (.int k (fwrap k (.ofNat (Nat.xor (nmod a (modOf k)) (nmod b (modOf k))))))
  | .andNot => some (.int k (fwrap k (.ofNat (Nat.land (nmod a (modOf k)) (modOf k - 1 - nmod b (modOf k))))))
  | _ => none

noncomputable def vcmp (op : BinOp) (a b : Int) : Option AV :=
  match op with
  | .eql => some (.bool (ieq a b))
  | .neq => some (.bool (!ieq a b))
  | .lss => some (.bool (ilt a b))
  | .leq => some (.bool (ile a b))
  | .gtr => some (.bool (ilt b a))
  | .geq => some (.bool (ile b a))
  | _ => none

noncomputable def kindEq : IntKind → IntKind → Bool
  | .i64, .i64 | .u64, .u64 | .u8, .u8 | .i32, .i32 | .u32, .u32 | .i8, .i8 | .i16, .i16 | .u16, .u16 => true
  | _, _ => false

noncomputable def varith (op : BinOp) (k : IntKind) (a : Int) (k' : IntKind) (b : Int) : Option AV :=
  match op with
  | .shl => if ilt b 0 then none else some (.int k (fwrap k (ishl a (min b.toNat k.bits))))
  | .shr => if ilt b 0 then none else some (.int k (ishr a (min b.toNat k.bits)))
  | _ =>
    if kindEq k k' then
      match op with
      | .add => some (.int k (fwrap k (a + b)))
      | .sub => some (.int k (fwrap k (a - b)))
      | .mul => some (.int k (fwrap k (a * b)))
      | .quo => if ieq b 0 then none else some (.int k (fwrap k (a.tdiv b)))
      | .rem => if ieq b 0 then none else some (.int k (a.tmod b))
      | .and | .or | .xor | .andNot => vbits op k a b
      | _ => vcmp op a b
    else none

noncomputable def vstrOp (op : BinOp) (a b : PS) : Option AV :=
  match op with
  | .add => match Nat.ble (a.len + b.len) 9223372036854775807 with | true => some (.str (a.cat b)) | false => none
  | .eql => some (.bool (a.eq b))
  | .neq => some (.bool (!a.eq b))
  | .lss => some (.bool (a.less b))
  | .leq => some (.bool (a.less b || a.eq b))
  | .gtr => some (.bool (!(a.less b || a.eq b)))
  | .geq => some (.bool (!a.less b))
  | _ => none

mutual
/-- '==' at a type. -/
noncomputable def veq : Nat → Nat → AV → AV → Option Bool
  | 0, _, _, _ => none
  | f + 1, t, x, y =>
    match T.und t, x, y with
    | some .bool, .bool a, .bool b => some (a == b)
    | some (.int _), .int k a, .int k' b => if kindEq k k' then some (ieq a b) else none
    | some .string, .str a, .str b => some (a.eq b)
    | some (.pointer _), .ptr none, .ptr b => some b.isNone
    | some (.pointer _), .ptr (some _), .ptr none => some false
    | some (.pointer e), .ptr (some (.blk b, o)), .ptr (some (.blk b', o')) => match sizeOfT T e with | some (_ + 1) => (match Nat.beq b b' with | true => some (Nat.beq o o') | false => none) | _ => none
    | some (.interface _), .nilIface, .nilIface => some true
    | some (.interface _), .nilIface, .iface _ _ => some false
    | some (.interface _), .iface _ _, .nilIface => some false
    | some (.struct fields), .agg xs, .agg ys => match T.eqOk t with | true => veqFields f fields.toList xs ys | false => none
    | some (.slice _), .slice none _ _ _, .slice b _ _ _ => some b.isNone
    | some (.slice _), .slice (some _) _ _ _, .slice none _ _ _ => some false
    | some (.map _ _), .map none, .map b => some b.isNone
    | some (.map _ _), .map (some _), .map none => some false
    | some (.func _ _ _), .nilFunc, .nilFunc => some true
    | some (.func _ _ _), .nilFunc, .func _ _ _ => some false
    | some (.func _ _ _), .func _ _ _, .nilFunc => some false
    | _, _, _ => none
noncomputable def veqFields : Nat → List Field → List AV → List AV → Option Bool
  | 0, _, _, _ => none
  | _ + 1, [], _, _ => some true
  | f + 1, fd :: fs, xs, ys =>
    if fd.name == "_" then veqFields f fs xs ys else
    match shapeOf T fd.type with
    | some (true, n) =>
      if Nat.ble (fd.offset + n) xs.length && Nat.ble (fd.offset + n) ys.length then
        match veq f fd.type (.agg ((xs.drop fd.offset).take n)) (.agg ((ys.drop fd.offset).take n)) with
        | some true => veqFields f fs xs ys
        | r => r
      else none
    | some (false, _) =>
      match xs[fd.offset]?, ys[fd.offset]? with
      | some a, some b =>
        match veq f fd.type a b with
        | some true => veqFields f fs xs ys
        | r => r
      | _, _ => none
    | none => none
end

noncomputable def vbinOp (op : BinOp) (t : Nat) (x y : AV) : Option AV :=
  match x, y with
  | .int k a, .int k' b => varith op k a k' b
  | .str a, .str b => vstrOp op a b
  | _, _ =>
    match op with
    | .eql => (veq T 60 t x y).map .bool
    | .neq => (veq T 60 t x y).map fun b => .bool (!b)
    | _ => none

/-! Maps. -/
/-- A key of a type that is compared as it is. -/
noncomputable def keyFit (t : Nat) (k : AV) : Bool :=
  match T.und t, k with
  | some (.int _), .int _ _ => true
  | some .string, .str _ => true
  | some .bool, .bool _ => true
  | _, _ => false
noncomputable def kEq : AV → AV → Option Bool
  | .bool a, .bool b => some (a == b)
  | .int k a, .int k' b => if kindEq k k' then some (ieq a b) else none
  | .str a, .str b => some (a.eq b)
  | _, _ => none
/-- The first entry with a key: its place and itself. -/
noncomputable def mfind (k : AV) : List ME → Nat → Option (Option (Nat × ME))
  | [], _ => some none
  | e :: es, i =>
    match kEq k e.k with
    | some true => some (some (i, e))
    | some false => mfind k es (i + 1)
    | none => none
def mset (x : ME) : List ME → Nat → List ME
  | [], _ => []
  | _ :: es, 0 => x :: es
  | e :: es, i + 1 => e :: mset x es i
def mdrop : List ME → Nat → List ME
  | [], _ => []
  | _ :: es, 0 => es
  | e :: es, i + 1 => e :: mdrop es i
noncomputable def ments (H : VH) : AV → Option (List ME)
  | .map none => some []
  | .map (some b) =>
    match H.map? b with
    | some (es, _, _) => some es
    | none => none
  | _ => none
noncomputable def vlookup (H : VH) (t : Nat) (m k : AV) (ok : Bool) : Option AV :=
  match T.und t with
  | some (.map kt et) =>
    match keyFit T kt k, ments H m with
    | true, some es =>
      match mfind k es 0, zeroOf T et with
      | some (some (_, e)), some _ => some (match ok with | true => .tuple [e.v, .bool true] | false => e.v)
      | some none, some z => some (match ok with | true => .tuple [z, .bool false] | false => z)
      | _, _ => none
    | _, _ => none
  | _ => none
noncomputable def vmapUpdate (H : VH) (t : Nat) (m k v : AV) : Option VH :=
  match T.und t, m with
  | some (.map kt _), .map (some b) =>
    match keyFit T kt k, H.map? b with
    | true, some (es, c, ver) =>
      match mfind k es 0 with
      | some (some (i, e)) => some (H.setMap b (mset ⟨k, v, e.born⟩ es i) c ver)
      | some none => some (H.setMap b (es ++ [⟨k, v, c⟩]) (c + 1) ver)
      | none => none
    | _, _ => none
  | _, _ => none
noncomputable def vmapEntry (H : VH) (t : Nat) (m k : AV) : Option (AV × VH) :=
  match T.und t, m with
  | some (.map kt et), .map (some b) =>
    match keyFit T kt k, H.map? b, zeroOf T et with
    | true, some (es, c, ver), some z =>
      match mfind k es 0 with
      | some (some (i, e)) => some (.tuple [e.v, .int .i64 (.ofNat e.born)], H.setMap b (mset ⟨k, e.v, e.born⟩ es i) c ver)
      | some none => some (.tuple [z, .int .i64 (.ofNat c)], H.setMap b (es ++ [⟨k, z, c⟩]) (c + 1) ver)
      | none => none
    | _, _, _ => none
  | _, _ => none
/-- The first entry with a number. -/
def mborn (n : Int) : List ME → Nat → Option (Nat × ME)
  | [], _ => none
  | e :: es, i => match ieq (.ofNat e.born) n with | true => some (i, e) | false => mborn n es (i + 1)
noncomputable def ventryStore (H : VH) (m st v : AV) : Option VH :=
  match m, st with
  | .map (some b), .int .i64 n =>
    match H.map? b with
    | some (es, c, ver) =>
      match mborn n es 0 with
      | some (i, e) => some (H.setMap b (mset ⟨e.k, v, e.born⟩ es i) c ver)
      | none => none
    | none => none
  | _, _ => none
noncomputable def vmakeMap (H : VH) (t : Nat) (r : Option AV) : Option (AV × VH) :=
  match T.und t, r with
  | some (.map _ _), none => some (.map (some H.next), H.newMap)
  | some (.map _ _), some (.int _ _) => some (.map (some H.next), H.newMap)
  | _, _ => none
/-- An iterator. -/
noncomputable def vrange (H : VH) (t : Nat) (m : AV) : Option (AV × VH) :=
  match T.und t, m with
  | some (.map _ _), .map none => some (.ptr (some (H.next, 0)), H.newMap [⟨.undef, .map none, 0⟩] 0)
  | some (.map _ _), .map (some b) =>
    match H.map? b with
    | some (_, c, _) => some (.ptr (some (H.next, 0)), H.newMap [⟨.undef, .map (some b), c⟩] c)
    | none => none
  | _, _ => none
/-- An iterator's step, for a map with one entry at most: such a step asks for no order. -/
noncomputable def vstepIt (H : VH) (r b s : Nat) (seen : List ME) (c v : Nat) : List ME → Nat → Option (Option (AV × AV) × VH)
  | [], _ => some (none, H)
  | [e], clock =>
    match seen with
    | [] => match Nat.blt e.born s with
      | true => some (some (e.k, e.v), H.setMap r [⟨.undef, .map (some b), s⟩, ⟨.undef, .undef, e.born⟩] clock v)
      | false => none
    | [x] => match Nat.beq x.born e.born && Nat.blt e.born c with
      | true => some (none, H)
      | false => none
    | _ => none
  | _, _ => none
noncomputable def vnext (H : VH) (it : AV) : Option (Option (AV × AV) × VH) :=
  match it with
  | .ptr (some (.blk r, 0)) =>
    match H.iter? r with
    | some (.map none, _, _, _, _) => some (none, H)
    | some (.map (some b), s, seen, c, v) =>
      match H.map? b with
      | some (es, clock, _) => vstepIt H r b s seen c v es clock
      | none => none
    | _ => none
  | _ => none
noncomputable def nextV (x : Option (Option (AV × AV) × VH)) : Option (AV × VH) :=
  match x with
  | some (some (k, v), H) => some (.tuple [.bool true, k, v], H)
  | some (none, H) => some (.tuple [.bool false], H)
  | none => none
/-- The entry that came up last. -/
noncomputable def ventry (H : VH) (it : AV) : Option AV :=
  match it with
  | .ptr (some (.blk r, 0)) =>
    match H.iter? r with
    | some (.map (some b), _, [x], c, _) =>
      match H.map? b with
      | some ([e], clock, _) => match Nat.beq clock c && Nat.beq e.born x.born with
        | true => some (.tuple [e.k, e.v])
        | false => none
      | _ => none
    | _ => none
  | _ => none
noncomputable def entryV (H : VH) (it : AV) : Option (AV × VH) :=
  match ventry H it with
  | some v => some (v, H)
  | none => none
noncomputable def vdelete (H : VH) (ts : List Nat) (m k : AV) : Option (AV × VH) :=
  match ts with
  | mt :: _ =>
    match T.und mt, m with
    | some (.map kt _), .map none => match keyFit T kt k with | true => some (.tuple [], H) | false => none
    | some (.map kt _), .map (some b) =>
      match keyFit T kt k, H.map? b with
      | true, some (es, c, ver) =>
        match mfind k es 0 with
        | some (some (i, _)) => match isIt (mdrop es i) with | false => some (.tuple [], H.setMap b (mdrop es i) c ver) | true => none
        | some none => some (.tuple [], H.setMap b es c ver)
        | none => none
      | _, _ => none
    | _, _ => none
  | _ => none
noncomputable def vunOp (op : UnOp) (x : AV) : Option AV :=
  match op, x with
  | .neg, .int k n => some (.int k (fwrap k (0 - n)))
  | .xor, .int k n => vbits .xor k (if k.signed then -1 else k.max) n
  | .not, .bool b => some (.bool !b)
  | _, _ => none

/-- The cells that are appended or copied: n elements of a slice or the bytes of a string. -/
noncomputable def vsource (H : VH) (sz n : Nat) : AV → Option (List AV)
  | .str s =>
    match sz with
    | 1 => some ((s.bytes.take n).map fun (b : Nat) => AV.int .u8 b)
    | _ => none
  | .slice none _ _ _ => some []
  | .slice (some (b, o)) _ _ _ => H.cells b o (n * sz)
  | _ => none
noncomputable def vlenOf : AV → Option Nat
  | .str s => some s.len
  | .slice _ n _ _ => some n
  | _ => none

noncomputable def Tr.setList (t : Tr AV) : Nat → List AV → Tr AV
  | _, [] => t
  | k, v :: vs => Tr.setList (t.set k v) (k + 1) vs

/-- The second argument of an append is no number. -/
noncomputable def listy (t : Nat) : Bool :=
  match T.und t with
  | some (.slice _) => true
  | some .string => true
  | _ => false
/-- The type that is known of a row that an append makes. -/
noncomputable def growE (o : Nat) (k : Option Nat) (e : Nat) : Option Nat :=
  match o, k with
  | 0, some e' => match Nat.beq e' e with | true => some e | false => none
  | _, _ => none
noncomputable def appendTo (H : VH) (e sz : Nat) (v : AV) (n : Nat) (new : List AV) : Option (AV × VH) :=
  match v with
  | .slice none _ _ _ => some (.slice (some (H.next, 0)) n none sz, H.freshT new e)
  | .slice (some (b, o)) len (some c) esz =>
    if !Nat.beq esz sz then none else
    if Nat.ble (len + n) c then
      match H.puts b (o + len * sz) new with
      | some H' => some (.slice (some (b, o)) (len + n) (some c) sz, H')
      | none => none
    else
      match H.cells b o (len * sz) with
      | some old => some (.slice (some (H.next, 0)) (len + n) none sz, H.freshT (old ++ new) e)
      | none => none
  | .slice (some (.blk b, o)) len none esz =>
    if !Nat.beq esz sz then none else
    match H.row? b with
    | some r =>
      if r.live && H.readable r && Nat.ble (o + len * sz) r.n then
        match (match o with | 0 => some r.t | _ => (H.cells b o (len * sz)).map Tr.ofList) with
        | some t0 => some (.slice (some (H.next, 0)) (len + n) none sz, (H.cutIf (Nat.beq (o + len * sz) r.n) r.lin (r.gen + 1)).grow b r (len * sz + n * sz) (Tr.setList t0 (len * sz) new) (growE o r.ety e))
        | none => none
      else none
    | none => none
  | _ => none
noncomputable def zeroFits (t n : Nat) : Bool :=
  match zeroOf T t with
  | some z => Nat.beq z.cells.length n
  | none => false
noncomputable def vappend (H : VH) (ts : List Nat) (v x : AV) : Option (AV × VH) :=
  match ts with
  | [st, xt] =>
    match T.und st, listy T xt with
    | some (.slice elem), true =>
      match T.info elem, vlenOf v, vlenOf x with
      | some i, some len, some n =>
        if Nat.beq n 0 then (match v with | .slice .. => some (v, H) | _ => none) else
        if Nat.blt 0 i.size && Nat.ble ((len + n) * i.bytes) 140737488355328 && Nat.ble (len + n) 9223372036854775807 && zeroFits T elem i.size then
          match vsource H i.size n x with
          | some new => if allOne new then appendTo H elem i.size v n new else none
          | none => none
        else none
      | _, _, _ => none
    | _, _ => none
  | _ => none

noncomputable def vcopy (H : VH) (ts : List Nat) (v x : AV) : Option (AV × VH) :=
  match ts with
  | st :: _ =>
    match T.und st with
    | some (.slice elem) =>
      match sizeOfT T elem, v, vlenOf x with
      | some sz, .slice none _ _ _, some _ => some (.int .i64 0, H)
      | some sz, .slice (some (b, o)) len _ _, some m =>
        match vsource H sz (min m len) x with
        | some cs =>
          if allOne cs then
            match H.puts b o cs with
            | some H' => some (.int .i64 (.ofNat (min m len)), H')
            | none => none
          else none
        | none => none
      | _, _, _ => none
    | _ => none
  | _ => none

noncomputable def vminmax (mx : Bool) : AV → List AV → Option AV
  | v, [] => some v
  | .int k a, .int k' b :: rest => if kindEq k k' then vminmax mx (.int k (if mx then (if ilt a b then b else a) else (if ilt b a then b else a))) rest else none
  | _, _ => none

noncomputable def vlen (H : VH) (ts : List Nat) (x : AV) : Option (AV × VH) :=
  match ts with
  | [t] =>
    match T.und t, x with
    | some .string, .str s => some (.int .i64 (.ofNat s.len), H)
    | some (.slice _), .slice _ n _ _ => some (.int .i64 (.ofNat n), H)
    | some (.map _ _), .map m => match ments H (.map m) with | some es => some (.int .i64 (.ofNat es.length), H) | none => none
    | _, _ => none
  | _ => none
noncomputable def vcap (H : VH) (ts : List Nat) (x : AV) : Option (AV × VH) :=
  match ts with
  | [t] =>
    match T.und t, x with
    | some (.slice _), .slice _ _ (some c) _ => some (.int .i64 (.ofNat c), H)
    | _, _ => none
  | _ => none
noncomputable def vclear (H : VH) (ts : List Nat) (x : AV) : Option (AV × VH) :=
  match ts with
  | st :: _ =>
    match T.und st, x with
    | some (.slice _), .slice none _ _ _ => some (.tuple [], H)
    | some (.slice elem), .slice (some (b, o)) len _ _ =>
      match Nat.beq len 0 with
      | true => some (.tuple [], H)
      | false =>
        match zeroOf T elem with
        | some z =>
          match allOne z.cells && Nat.blt 0 z.cells.length with
          | true =>
            match H.puts b o (repl z.cells len) with
            | some H' => some (.tuple [], H')
            | none => none
          | false => none
        | none => none
    | _, _ => none
  | _ => none
/-- A string out of bytes, which from then on are not written. -/
noncomputable def vunsafeString (H : VH) (ts : List Nat) (p : Option (Bk × Nat)) (n : Int) : Option (AV × VH) :=
  match ts with
  | pt :: _ :: [] =>
    match ieq n 0 with
    | true => some (.str ⟨0, 0⟩, H)
    | false =>
      match p with
      | some (.blk b, o) =>
        match T.und pt, H.row? b with
        | some (.pointer e), some r =>
          match (match r.ety with | some e' => Nat.beq e' e | none => false) && (match sizeOfT T e with | some 1 => true | _ => false) && r.live && ile 0 n && ile n 9223372036854775807 with
          | true =>
            match H.cells b o n.toNat with
            | some cs => (vconvert.go cs).map fun s => (.str s, H.dead b r)
            | none => none
          | false => none
        | _, _ => none
      | _ => none
  | _ => none
noncomputable def vbuiltin (H : VH) (b : Builtin) (ts : List Nat) (args : List AV) : Option (AV × VH) :=
  match b, args with
  | .len, [x] => vlen T H ts x
  | .cap, [x] => vcap T H ts x
  | .append, [v, x] => vappend T H ts v x
  | .copy, [v, x] => vcopy T H ts v x
  | .min, v :: vs => match vminmax false v vs with | some r => some (r, H) | none => none
  | .max, v :: vs => match vminmax true v vs with | some r => some (r, H) | none => none
  | .clear, [x] => vclear T H ts x
  | .delete, [m, k] => vdelete T H ts m k
  | .unsafeSliceData, [.slice none _ _ _] => some (.ptr none, H)
  | .unsafeSliceData, [.slice (some a) (_ + 1) _ _] => some (.ptr (some a), H)
  | .unsafeString, [.ptr p, .int .i64 n] => vunsafeString T H ts p n
  | _, _ => none

/-! Rows that are not written from now on become cells that are never written. -/
noncomputable def frzL (f : AV → VH → AV × VH) : List AV → VH → List AV × VH
  | [], H => ([], H)
  | a :: as, H => ((f a H).1 :: (frzL f as (f a H).2).1, (frzL f as (f a H).2).2)
/-- A live row's cells, if all are known. -/
noncomputable def rowCells (H : VH) (b : Nat) : Option (List AV) :=
  match H.row? b with
  | some r => match r.live && H.readable r with
    | true => H.cells b 0 r.n
    | false => none
  | none => none
noncomputable def killRow (H : VH) (b : Nat) : Option VH :=
  match H.row? b with
  | some r => match r.live with
    | true => some (H.dead b r)
    | false => none
  | none => none
noncomputable def frz : Nat → AV → VH → AV × VH
  | 0, v, H => (v, H)
  | n + 1, v, H =>
    match v with
    | .agg cs => (.agg (frzL (frz n) cs H).1, (frzL (frz n) cs H).2)
    | .tuple cs => (.tuple (frzL (frz n) cs H).1, (frzL (frz n) cs H).2)
    | .slice (some (.pur cs, o)) len cap esz => (.slice (some (.pur (frzL (frz n) cs H).1, o)) len cap esz, (frzL (frz n) cs H).2)
    | .slice (some (.blk b, o)) len cap esz =>
      match rowCells H b with
      | some cs =>
        match killRow (frzL (frz n) cs H).2 b with
        | some H' => (.slice (some (.pur (frzL (frz n) cs H).1, o)) len cap esz, H')
        | none => (v, (frzL (frz n) cs H).2)
      | none => (v, H)
    | _ => (v, H)
/-- What is appended, if it becomes such. -/
noncomputable def frzSrc (q : Bool) (b : Builtin) (args : List AV) (H : VH) : List AV × VH :=
  match q with
  | false => (args, H)
  | true =>
    match b, args with
    | .append, [v, x] => ([v, (frz 5 x H).1], (frz 5 x H).2)
    | _, _ => (args, H)
noncomputable def frzArgs (q : Bool) (args : List AV) (H : VH) : List AV × VH :=
  match q with
  | false => (args, H)
  | true => frzL (frz 5) args H
noncomputable def frzV (q : Bool) (v : AV) (H : VH) : AV × VH :=
  match q with
  | false => (v, H)
  | true => frz 5 v H

/-! What an operation that is no call of a function leaves: a function for each kind, so that each unfolds alone. -/
abbrev Out := Option (RV × Fr × VH)
noncomputable def outR (fr : Fr) (H : VH) (r : Option RV) : Out :=
  match r with
  | some r => some (r, fr, H)
  | none => none
noncomputable def outV (fr : Fr) (H : VH) (r : Option AV) : Out :=
  match r with
  | some a => some (.v a, fr, H)
  | none => none
noncomputable def outH (fr : Fr) (r : Option (AV × VH)) : Out :=
  match r with
  | some (a, H) => some (.v a, fr, H)
  | none => none
noncomputable def oMove (fr : Fr) (H : VH) (x : Operand) : Out := outR fr H (fr.ev x)
noncomputable def oPick (fr : Fr) (H : VH) (c a b : Operand) : Out :=
  match fr.eva c with
  | some (.bool true) => outR fr H (fr.ev a)
  | some (.bool false) => outR fr H (fr.ev b)
  | _ => none
noncomputable def newBox (promo : Nat → Bool) (dst : Option Nat) (fr : Fr) (H : VH) (cs : List AV) (e : Option Nat) : Out :=
  match dst, allOne cs with
  | some d, true =>
    match promo d with
    | true => some (.loc d (fr.nextEp d) 0, fr.box d cs, H)
    | false => some (.v (.ptr (some (H.next, 0))), fr, H.freshE cs e)
  | _, _ => none
noncomputable def oAlloc (promo : Nat → Bool) (dst : Option Nat) (fr : Fr) (H : VH) (t : Nat) : Out :=
  match zeroOf T t with
  | some z => newBox promo dst fr H z.cells (T.boxE t)
  | none => none
noncomputable def oBox (promo : Nat → Bool) (dst : Option Nat) (fr : Fr) (H : VH) (t : Nat) (x : Operand) : Out :=
  match fr.eva x with
  | some v => newBox promo dst fr H v.cells (T.boxE t)
  | none => none
noncomputable def oLoad (fr : Fr) (H : VH) (t : Nat) (a : Operand) : Out :=
  match fr.ev a with
  | some r => outV fr H (vload T fr H t r)
  | none => none
noncomputable def oStore (fr : Fr) (H : VH) (t : Nat) (a x : Operand) : Out :=
  match fr.ev a, fr.eva x with
  | some r, some v =>
    match vstore T fr H t r v with
    | some (fr', H') => some (.v (.tuple []), fr', H')
    | none => none
  | _, _ => none
/-- A place in a box must be one of the box that is there now. -/
noncomputable def evc (fr : Fr) (x : Operand) : Option RV :=
  match fr.ev x with
  | some (.loc d e o) =>
    match fr.locCells d e with
    | some _ => some (.loc d e o)
    | none => none
  | r => r
noncomputable def oNil (fr : Fr) (H : VH) (x : Operand) : Out :=
  match evc fr x with
  | some (.v (.ptr (some a))) => some (.v (.ptr (some a)), fr, H)
  | some (.loc d e o) => some (.loc d e o, fr, H)
  | some (.v (.func f a b)) => some (.v (.func f a b), fr, H)
  | _ => none
/-- Two nil interface values: one of them must be the literal. -/
noncomputable def nilOk (x y : Operand) (a b : AV) : Bool :=
  match a, b with
  | .nilIface, .nilIface =>
    match x, y with
    | .const _, _ => true
    | _, .const _ => true
    | _, _ => false
  | _, _ => true
noncomputable def oBin (fr : Fr) (H : VH) (op : BinOp) (t : Nat) (x y : Operand) : Out :=
  match fr.eva x, fr.eva y with
  | some a, some b => match nilOk x y a b with | true => outV fr H (vbinOp T op t a b) | false => none
  | _, _ => none
noncomputable def oUn (fr : Fr) (H : VH) (op : UnOp) (x : Operand) : Out :=
  match fr.eva x with
  | some a => outV fr H (vunOp op a)
  | none => none
noncomputable def oConv (fr : Fr) (H : VH) (s d : Nat) (x : Operand) : Out :=
  match fr.eva x with
  | some a => outH fr (vconvert T H s d a)
  | none => none
noncomputable def oIface (fr : Fr) (H : VH) (t : Nat) (x : Operand) : Out :=
  match T.und t, fr.eva x with
  | some (.interface _), _ => none
  | some _, some a => some (.v (.iface t a), fr, H)
  | _, _ => none
noncomputable def oFunc (fr : Fr) (H : VH) (fn : Fn) (first cap : Array Operand) : Out :=
  match fn, fr.evas first.toList, fr.evas cap.toList with
  | .func f, some a, some b => some (.v (.func f a b), fr, H)
  | _, _, _ => none
noncomputable def oMakeSlice (fr : Fr) (H : VH) (t : Nat) (l c : Operand) : Out :=
  match fr.eva l, fr.eva c with
  | some a, some b => outH fr (vmakeSlice T H t a b)
  | _, _ => none
noncomputable def optEv (fr : Fr) : Option Operand → Option (Option AV)
  | none => some none
  | some x =>
    match fr.eva x with
    | some a => some (some a)
    | none => none
noncomputable def oSlice (fr : Fr) (H : VH) (t : Nat) (x : Operand) (lo hi : Option Operand) : Out :=
  match fr.ev x, optEv fr lo, optEv fr hi with
  | some r, some a, some b => outV fr H (vslice T H t r a b)
  | _, _, _ => none
noncomputable def oFieldAddr (fr : Fr) (H : VH) (t : Nat) (x : Operand) (f : Nat) : Out :=
  match evc fr x with
  | some r => outR fr H (vfieldAddr T t r f)
  | none => none
noncomputable def oField (fr : Fr) (H : VH) (t : Nat) (x : Operand) (f : Nat) : Out :=
  match fr.eva x with
  | some a => outV fr H (vfield T t a f)
  | none => none
noncomputable def oIndexAddr (fr : Fr) (H : VH) (t : Nat) (x i : Operand) : Out :=
  match evc fr x, fr.eva i with
  | some r, some (.int _ n) => outR fr H (vindexAddr T t r n)
  | _, _ => none
noncomputable def oIndex (fr : Fr) (H : VH) (t : Nat) (x i : Operand) : Out :=
  match fr.eva x, fr.eva i with
  | some a, some (.int _ n) => outV fr H (vindex T t a n)
  | _, _ => none
noncomputable def oExtract (fr : Fr) (H : VH) (x : Operand) (i : Nat) : Out :=
  match fr.eva x with
  | some (.tuple vs) => outV fr H vs[i]?
  | _ => none
noncomputable def oLookup (fr : Fr) (H : VH) (t : Nat) (x i : Operand) (ok : Bool) : Out :=
  match fr.eva x, fr.eva i with
  | some m, some k => outV fr H (vlookup T H t m k ok)
  | _, _ => none
noncomputable def outU (fr : Fr) (r : Option VH) : Out :=
  match r with
  | some H' => some (.v (.tuple []), fr, H')
  | none => none
noncomputable def oMapUpdate (fr : Fr) (H : VH) (t : Nat) (m k v : Operand) : Out :=
  match fr.eva m, fr.eva k, fr.eva v with
  | some m, some k, some v => outU fr (vmapUpdate T H t m k v)
  | _, _, _ => none
noncomputable def oMapEntry (fr : Fr) (H : VH) (t : Nat) (m k : Operand) : Out :=
  match fr.eva m, fr.eva k with
  | some m, some k => outH fr (vmapEntry T H t m k)
  | _, _ => none
noncomputable def oEntryStore (fr : Fr) (H : VH) (m st v : Operand) : Out :=
  match fr.eva m, fr.eva st, fr.eva v with
  | some m, some st, some v => outU fr (ventryStore H m st v)
  | _, _, _ => none
noncomputable def oMakeMap (fr : Fr) (H : VH) (t : Nat) (r : Option Operand) : Out :=
  match optEv fr r with
  | some r => outH fr (vmakeMap T H t r)
  | none => none
noncomputable def oRange (fr : Fr) (H : VH) (t : Nat) (x : Operand) : Out :=
  match fr.eva x with
  | some m => outH fr (vrange T H t m)
  | none => none
noncomputable def oNext (fr : Fr) (H : VH) (x : Operand) (str : Bool) : Out :=
  match str, fr.eva x with
  | false, some m => outH fr (nextV (vnext H m))
  | _, _ => none
noncomputable def oEntry (fr : Fr) (H : VH) (x : Operand) : Out :=
  match fr.eva x with
  | some m => outH fr (entryV H m)
  | none => none
noncomputable def vop (promo : Nat → Bool) (dst : Option Nat) (op : Op) (fr : Fr) (H : VH) : Out :=
  match op with
  | .move x => oMove fr H x
  | .assign x => oMove fr H x
  | .pick c a b => oPick fr H c a b
  | .alloc t => oAlloc T promo dst fr H t
  | .box t x => oBox T promo dst fr H t x
  | .build t ps => outV fr H (vbuild T fr t ps.toList)
  | .buildSlice t n ps => outH fr (vbuildSlice T (litQ promo dst) fr H t n ps.toList)
  | .load t a => oLoad T fr H t a
  | .store t a x => oStore T fr H t a x
  | .nilCheck x => oNil fr H x
  | .binOp op t x y _ => oBin T fr H op t x y
  | .unOp op _ x => oUn fr H op x
  | .convert s d x => oConv T fr H s d x
  | .makeInterface t x => oIface T fr H t x
  | .makeFunc fn first cap => oFunc fr H fn first cap
  | .makeSlice t l c => oMakeSlice T fr H t l c
  | .slice t x lo hi none => oSlice T fr H t x lo hi
  | .fieldAddr t x f => oFieldAddr T fr H t x f
  | .field t x f => oField T fr H t x f
  | .indexAddr t x i => oIndexAddr T fr H t x i
  | .index t x i => oIndex T fr H t x i
  | .extract x i => oExtract fr H x i
  | .makeMap t r => oMakeMap T fr H t r
  | .lookup t x i ok => oLookup T fr H t x i ok
  | .mapUpdate t m k v => oMapUpdate T fr H t m k v
  | .mapEntry t m k => oMapEntry T fr H t m k
  | .entryStore _ m st v => oEntryStore fr H m st v
  | .insert t m k v => oMapUpdate T fr H t m k v
  | .range t x => oRange T fr H t x
  | .next x str => oNext fr H x str
  | .entry x => oEntry fr H x
  | _ => none

end

/-- How a piece of code ends. -/
inductive Ex where
  | normal
  | ret
  | exit (id : Nat)

section
variable (T : Tb) (callF : Nat → List AV → VH → Option (AV × VH)) (promo : Nat → Bool)

noncomputable def guardOf (ops : Array Oper) (o : Oper) (fr : Fr) : Option Bool :=
  match o.guard with
  | none => some true
  | some (j, want) =>
    match (ops[j]?).bind (·.dst) with
    | none => some false
    | some d =>
      match fr.regs.get d with
      | some (.v (.bool b)) => some (b == want)
      | some (.v (.tuple [])) => some false
      | _ => none

/-- A call. -/
noncomputable def vcallOp (q : Bool) (c : Call) (fr : Fr) (H : VH) : Out :=
  match fr.evas c.args.toList with
  | none => none
  | some args =>
    match c.callee with
    | .builtin b => outH fr (vbuiltin T (frzSrc q b args H).2 b c.argTypes.toList (frzSrc q b args H).1)
    | .value f =>
      match fr.eva f with
      | some (.func f first cap) => outH fr (callF f (first ++ args ++ cap) H)
      | _ => none
    | .invoke _ _ => none
/-- One operation, calls too. -/
noncomputable def vstep (o : Oper) (fr : Fr) (H : VH) : Out :=
  match o.op with
  | .call c => vcallOp T callF (litQ promo o.dst) c fr H
  | op => vop T promo o.dst op fr H

noncomputable def opsCons (ops : Array Oper) (o : Oper) (ih : Fr → VH → Option (Fr × VH)) (fr : Fr) (H : VH) : Option (Fr × VH) :=
  match guardOf ops o fr with
  | some true =>
    match vstep T callF promo o fr H with
    | some (r, fr', H') => ih (fr'.put o.dst r) H'
    | none => none
  | some false => ih (fr.put o.dst (.v (.tuple []))) H
  | none => none
noncomputable def vops (ops : Array Oper) (os : List Oper) : Fr → VH → Option (Fr × VH) :=
  List.rec (motive := fun _ => Fr → VH → Option (Fr × VH)) (fun fr H => some (fr, H)) (fun o _ ih => opsCons T callF promo ops o ih) os

abbrev Run := Fr → VH → Option (Ex × Fr × VH)
noncomputable def loopStep (body ih : Run) (fr : Fr) (H : VH) : Option (Ex × Fr × VH) :=
  match body fr H with
  | some (.normal, fr', H') => ih fr' H'
  | r => r
noncomputable def vloop (body : Run) (n : Nat) : Run := Nat.rec (motive := fun _ => Run) (fun _ _ => none) (fun _ ih => loopStep body ih) n

/-! A region that draws its order runs in the text's order; it is asked that no other order makes a difference. -/
/-- What an operation has to do with memory: nothing; it reads blocks of the heap and boxes of the frame; it makes a box of the frame; it may change the heap (before, behind), or a box of the frame. -/
inductive Tag where
  | idle
  | read (bs ls : List Nat)
  | box (d : Nat)
  | eff (H H' : VH)
  | loc (d : Nat)
/-- The heap's block, if it is one. -/
noncomputable def bkl (b : Bk) : List Nat :=
  match b with
  | .blk b => [b]
  | .pur _ => []
noncomputable def tagAddr (r : Option RV) : Tag :=
  match r with
  | some (.v (.ptr (some (b, _)))) => .read (bkl b) []
  | some (.loc d _ _) => .read [] [d]
  | _ => .idle
/-- An operation that passes a place on. -/
noncomputable def tagRes (r : RV) : Tag :=
  match r with
  | .loc d _ _ => .read [] [d]
  | .v _ => .idle
noncomputable def tagStore (r : Option RV) (H H' : VH) : Tag :=
  match r with
  | some (.loc d _ _) => .loc d
  | _ => .eff H H'
noncomputable def tagBox (dst : Option Nat) (H H' : VH) : Tag :=
  match dst with
  | some d => match promo d with
    | true => .box d
    | false => .eff H H'
  | none => .eff H H'
/-- A list that is written down: cells that are never written, or a new row. -/
noncomputable def tagLit (q : Bool) (H H' : VH) : Tag :=
  match q with
  | true => .idle
  | false => .eff H H'
noncomputable def tagConv (x : Option AV) (H H' : VH) : Tag :=
  match x with
  | some (.slice (some (b, _)) _ _ _) => .read (bkl b) []
  | some (.str _) => .eff H H'
  | some (.ptr _) => .eff H H'
  | _ => .idle
noncomputable def tagMap (x : Option AV) : Tag :=
  match x with
  | some (.map (some b)) => .read [b] []
  | _ => .idle
noncomputable def tagLen (x : Option (List AV)) : Tag :=
  match x with
  | some [v] => tagMap (some v)
  | _ => .idle
noncomputable def tagCall (c : Call) (fr : Fr) (H H' : VH) : Tag :=
  match c.callee with
  | .builtin .len => tagLen (fr.evas c.args.toList)
  | .builtin .cap => .idle
  | .builtin .min => .idle
  | .builtin .max => .idle
  | _ => .eff H H'
noncomputable def tagOf (o : Oper) (fr : Fr) (H H' : VH) (r : RV) : Tag :=
  match o.op with
  | .move _ => tagRes r
  | .assign _ => tagRes r
  | .pick _ _ _ => tagRes r
  | .nilCheck _ => tagRes r
  | .fieldAddr _ _ _ => tagRes r
  | .indexAddr _ _ _ => tagRes r
  | .alloc _ => tagBox promo o.dst H H'
  | .box _ _ => tagBox promo o.dst H H'
  | .load _ a => tagAddr (fr.ev a)
  | .store _ a _ => tagStore (fr.ev a) H H'
  | .convert _ _ x => tagConv (fr.eva x) H H'
  | .slice _ x _ _ _ => tagAddr (fr.ev x)
  | .build _ _ => .idle
  | .buildSlice _ _ _ => tagLit (litQ promo o.dst) H H'
  | .binOp _ _ _ _ _ => .idle
  | .unOp _ _ _ => .idle
  | .makeInterface _ _ => .idle
  | .makeFunc _ _ _ => .idle
  | .field _ _ _ => .idle
  | .index _ _ _ => .idle
  | .extract _ _ => .idle
  | .lookup _ x _ _ => tagMap (fr.eva x)
  | .call c => tagCall c fr H H'
  | _ => .eff H H'
noncomputable def allSame (H H' : VH) : List Nat → Bool
  | [] => true
  | b :: bs => H.same H' b && allSame H H' bs
/-- Whether two operations that nothing orders can come up in either order. -/
noncomputable def Tag.free : Tag → Tag → Bool
  | .idle, _ => true
  | _, .idle => true
  | .read .., .read .. => true
  | .read bs _, .eff H H' => allSame H H' bs
  | .eff H H', .read bs _ => allSame H H' bs
  | .read _ ls, .box d => !ls.contains d
  | .box d, .read _ ls => !ls.contains d
  | .read _ ls, .loc d => !ls.contains d
  | .loc d, .read _ ls => !ls.contains d
  | .box d, .box d' => d != d'
  | .box _, .eff .. => true
  | .eff .., .box _ => true
  | .box d, .loc d' => d != d'
  | .loc d, .box d' => d != d'
  | .eff .., .eff .. => false
  | .eff .., .loc _ => false
  | .loc _, .eff .. => false
  | .loc _, .loc _ => false
/-- An operation's tag against those ahead of it ('ts': the last one first, 'k' of them; 'm': those that it waits for). -/
noncomputable def freeOf (t : Tag) (m : Nat) : Nat → List Tag → Bool
  | _, [] => true
  | k, u :: ts => (m.testBit (k - 1) || u.free t) && freeOf t m (k - 1) ts
noncomputable def opsConsT (ops : Array Oper) (bef : Array Nat) (o : Oper) (ih : Nat → List Tag → Fr → VH → Option (Fr × VH)) (k : Nat) (ts : List Tag) (fr : Fr) (H : VH) : Option (Fr × VH) :=
  match guardOf ops o fr with
  | some true =>
    match vstep T callF promo o fr H with
    | some (r, fr', H') =>
      match freeOf (tagOf promo o fr H H' r) (bef.getD k 0) k ts with
      | true => ih (k + 1) (tagOf promo o fr H H' r :: ts) (fr'.put o.dst r) H'
      | false => none
    | none => none
  | some false => ih (k + 1) (.idle :: ts) (fr.put o.dst (.v (.tuple []))) H
  | none => none
noncomputable def vopsT (ops : Array Oper) (bef : Array Nat) (os : List Oper) : Nat → List Tag → Fr → VH → Option (Fr × VH) :=
  List.rec (motive := fun _ => Nat → List Tag → Fr → VH → Option (Fr × VH)) (fun _ _ fr H => some (fr, H)) (fun o _ ih => opsConsT T callF promo ops bef o ih) os

noncomputable def cEx (e : Ex) : Run := fun fr H => some (e, fr, H)
noncomputable def cNone : Run := fun _ _ => none
noncomputable def cRegion (ops : Array Oper) (draw : Bool) : Run := fun fr H =>
  match (match draw with | true => vopsT T callF promo ops (Region.before ops) ops.toList 0 [] fr H | false => vops T callF promo ops ops.toList fr H) with
  | some (fr', H') => some (.normal, fr', H')
  | none => none
noncomputable def cSeq (a b : Run) : Run := loopStep a b
noncomputable def cCond (c : Operand) (a b : Run) : Run := fun fr H =>
  match fr.eva c with
  | some (.bool true) => a fr H
  | some (.bool false) => b fr H
  | _ => none
noncomputable def cBlock (id : Nat) (c : Run) : Run := fun fr H =>
  match c fr H with
  | some (.exit i, fr', H') => if Nat.beq i id then some (.normal, fr', H') else some (.exit i, fr', H')
  | r => r
noncomputable def vcode (fuel : Nat) (c : Code) : Run :=
  Code.rec (motive := fun _ => Run) (cEx .normal) (fun _ ops d => cRegion T callF promo ops d) (fun _ _ a b => cSeq a b) (fun c _ _ a b => cCond c a b) (fun id _ c => cBlock id c)
    (fun _ c => vloop c fuel) (fun _ _ _ _ _ _ => cNone) (fun id => cEx (.exit id)) (fun _ _ => cNone) (fun _ => cEx .normal) (fun _ => cNone) (cEx .ret) (fun _ => cNone) c

noncomputable def vresults (fr : Fr) (H : VH) : List ResultVar → Option (List AV)
  | [] => some []
  | .tmp t :: rs =>
    match fr.eva (.tmp t), vresults fr H rs with
    | some a, some as => some (a :: as)
    | _, _ => none
  | .cell t ty :: rs =>
    match fr.ev (.tmp t) with
    | some r =>
      match vload T fr H ty r, vresults fr H rs with
      | some a, some as => some (a :: as)
      | _, _ => none
    | none => none

noncomputable def enterFr (gl : Nat → Bool) (nt : Nat) (args : List AV) : Fr := { regs := Tr.ofListFrom (Tr.room nt) 0 (args.map .v), loc := .leaf, nt := nt, gl := gl }

noncomputable def oneOf : List AV → AV
  | [v] => v
  | vs => .tuple vs
end

mutual
/-- Whether a value holds no place in the heap. -/
noncomputable def flat : AV → Bool
  | .bool _ => true
  | .int _ _ => true
  | .str _ => true
  | .ptr none => true
  | .slice none _ _ _ => true
  | .ptr (some (b, _)) => flatB b
  | .slice (some (b, _)) _ _ _ => flatB b
  | .map none => true
  | .nilFunc => true
  | .nilIface => true
  | .agg cs => flats cs
  | .tuple cs => flats cs
  | _ => false
noncomputable def flats : List AV → Bool
  | [] => true
  | v :: vs => flat v && flats vs
noncomputable def flatB : Bk → Bool
  | .blk _ => false
  | .pur cs => flats cs
end
/-- What is left of memory behind a call: all as it was, if nothing old was changed and the result holds no place. -/
noncomputable def leave (H H' : VH) (v : AV) : VH :=
  match Nat.beq H'.low H.next && flat v with
  | true => H
  | false => { H' with low := min H.low H'.low }

/-- A call's end: what it answers, and what is left of memory. -/
noncomputable def back (q : Bool) (H H' : VH) (v : AV) : AV × VH := ((frzV q v H').1, leave H (frzV q v H').2 (frzV q v H').1)
/-- Calls: of functions with a body, and of those that 'ext' stands for. -/
noncomputable def callStep (T : Tb) (ext : Nat → Option (VH → List AV → Option XR)) (promo : Nat → Nat → Bool) (n : Nat) (ih : Nat → List AV → VH → Option (AV × VH)) (f : Nat) (args : List AV) (H : VH) : Option (AV × VH) :=
  match ext f with
  | some g =>
    match g H args with
    | some (.val v) => some (v, H)
    | some (.room n e) => some (.slice (some (H.next, 0)) n none 1, H.blank e)
    | none => none
  | none =>
    match T.fn.get f with
    | none => none
    | some fn =>
      match fn.body with
      | none => none
      | some c =>
        if Nat.ble args.length fn.ntmps then
          runStep T promo n ih f fn c (frzArgs (promo f (fn.ntmps + 1)) args H).1 (frzArgs (promo f (fn.ntmps + 1)) args H).2
        else none
where
  runStep (T : Tb) (promo : Nat → Nat → Bool) (n : Nat) (ih : Nat → List AV → VH → Option (AV × VH)) (f : Nat) (fn : Func) (c : Code) (args : List AV) (H : VH) : Option (AV × VH) :=
    match vcode T ih (promo f) n c (enterFr T.gl fn.ntmps args) { H with low := H.next } with
    | some (.normal, fr, H') => retStep T (promo f fn.ntmps) fn fr H H'
    | some (.ret, fr, H') => retStep T (promo f fn.ntmps) fn fr H H'
    | _ => none
  retStep (T : Tb) (q : Bool) (fn : Func) (fr : Fr) (H H' : VH) : Option (AV × VH) :=
    match vresults T fr H' fn.results.toList with
    | some vs => some (back q H H' (oneOf vs))
    | none => none
noncomputable def vcall (T : Tb) (ext : Nat → Option (VH → List AV → Option XR)) (promo : Nat → Nat → Bool) (n : Nat) : Nat → List AV → VH → Option (AV × VH) :=
  Nat.rec (motive := fun _ => Nat → List AV → VH → Option (AV × VH)) (fun _ _ _ => none) (fun n ih => callStep T ext promo n ih) n

end Go.Vm
