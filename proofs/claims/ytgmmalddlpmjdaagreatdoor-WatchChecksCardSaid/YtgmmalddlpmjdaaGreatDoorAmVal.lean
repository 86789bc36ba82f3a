/- AM: a deterministic machine on abstract values for the model's code: values, frames, heaps, operations, the evaluator. No program in sight. AM: the evaluator: operands, operations, regions (in the order of the text, with the look that a drawn order asks), code, calls. -/
import Derived.Calls
import Derived.CallsIn
import Derived.Orders
set_option linter.unusedVariables false
namespace Go.AM
open Go

/-! ### A table -/
inductive BT (α : Type) where
  | leaf
  | node (l : BT α) (k : Nat) (v : α) (r : BT α)
def BT.get {α : Type} : BT α → Nat → Option α
  | .leaf, _ => none
  | .node l k v r, i => if i = k then some v else if Nat.blt i k = true then l.get i else r.get i

def BT.All {α : Type} (p : Nat → α → Prop) : BT α → Prop
  | .leaf => True
  | .node l k v r => l.All p ∧ p k v ∧ r.All p
theorem BT.All.get {α : Type} {p : Nat → α → Prop} : ∀ {t : BT α}, t.All p → ∀ {g : Nat} {v : α}, t.get g = some v → p g v
  | .leaf, _, g, v, h => by simp [BT.get] at h
  | .node l k u r, ⟨h1, h2, h3⟩, g, v, h => by
    simp only [BT.get] at h
    split at h
    · rename_i e; cases h; subst e; exact h2
    · split at h
      · exact BT.All.get h1 h
      · exact BT.All.get h3 h

/-! ### Values -/
inductive AV where
  | bool (b : Bool)
  | int (k : IntKind) (n : Int)
  | str (s : List UInt8)
  | nilptr
  | imm (row : List AV) (off : Nat)
  | ptr (id row off : Nat)
  | nilsl
  | isl (rows : List (List AV)) (cap : Option Nat)
  | msl (id lo len : Nat) (cap : Option Nat)
  | nilmap
  | map (id : Nat)
  | fn (f : Nat) (caps : List AV)
  | nilfn
  | yld (id : Nat)
  | ifc (t : Nat) (v : AV)
  | nilifc
  | agg (xs : List AV)
  | tup (xs : List AV)
  | junk
deriving Inhabited

/-! ### Slim code: the model's code with its types looked up -/
/-- What '==' goes by. -/
inductive EqT where
  | bool | int | str | ptr | sl | map | fn | ifc | fin
  | fld (off n : Nat) (g : Bool) (e rest : EqT)
inductive SX where
  | t (n : Nat)
  | c (v : AV)
inductive SOp where
  | mv (x : SX)
  | pick (c a b : SX)
  | new (row : List AV)
  | box (imm : Bool) (x : SX)
  | bst (z : List AV) (pl : List (Nat × Nat)) (ps : List (Nat × SX))
  | barr (z : List AV) (n : Nat) (ps : List (Nat × SX))
  | bsl (imm : Bool) (n : Nat) (z : List AV) (len : Nat) (ps : List (Nat × SX))
  | ld (g : Bool) (n : Nat) (a : SX)
  | st (n : Nat) (a x : SX)
  | nck (x : SX)
  | bin (op : BinOp) (isC gd : Bool) (q : Option EqT) (x y : SX)
  | un (op : UnOp) (x : SX)
  | cvi (k : IntKind) (x : SX)
  | cvs (x : SX)
  | cvb (x : SX)
  | cvt (x : SX)
  | ifc (t : Nat) (x : SX)
  | mkf (f : Nat) (caps : List SX)
  | mks (n by_ : Nat) (z : List AV) (l c : SX)
  | sls (x : SX) (lo hi : Option SX)
  | slc (n : Nat) (x : SX) (lo hi mx : Option SX)
  | fad (off : Nat) (x : SX)
  | fld (g : Bool) (n off : Nat) (x : SX)
  | iad (n : Nat) (x ix : SX)
  | iaa (len n : Nat) (x ix : SX)
  | ixs (x ix : SX)
  | ixa (len : Nat) (g : Bool) (n : Nat) (x ix : SX)
  | ext (x : SX) (i : Nat)
  | pan (x : SX)
  | call (f : SX) (args : List SX)
  | lens (x : SX)
  | lenl (x : SX)
  | lenm (x : SX)
  | capl (x : SX)
  | app (n by_ : Nat) (s x : SX)
  | cpy (n : Nat) (d s : SX)
  | mnx (mx : Bool) (x : SX) (xs : List SX)
  | bpan (x : SX)
/-- An operation: where its value goes, what it is wanted by. -/
structure SO where
  dst : Option Nat
  op : SOp
  g : Option (Option Nat × Bool) := none
inductive SC where
  | skip
  | reg (ops : List SO) (freeze kill : List Nat)
  | draw (ops : List SO) (chk : List (Nat × Nat)) (freeze kill : List Nat)
  | seq (a b : SC)
  | cond (c : SX) (a b : SC)
  | block (id : Nat) (a : SC)
  | loop (a : SC)
  | range (g : SX) (ps : List Nat) (asg body : SC)
  | exit (id : Nat)
  | ret
inductive SRes where
  | t (n : Nat)
  | c (a : Nat) (g : Bool) (n : Nat)
structure SFun where
  nt : Nat
  code : SC
  res : List SRes
  dr : Bool := false

/-! ### Frames: sorted lists of temporaries -/
abbrev Fr := List (Nat × AV)
def Fr.get : Fr → Nat → Option AV
  | [], _ => none
  | (k, v) :: r, t => if t = k then some v else Fr.get r t
def Fr.put : Fr → Nat → AV → Fr
  | [], t, v => [(t, v)]
  | (k, u) :: r, t, v => if t < k then (t, v) :: (k, u) :: r else if t = k then (t, v) :: r else (k, u) :: Fr.put r t v
def Fr.putO (fr : Fr) : Option Nat → AV → Fr
  | some d, v => fr.put d v
  | none, _ => fr
def Fr.drop : Fr → List Nat → Fr
  | [], _ => []
  | (k, u) :: r, l => if l.elem k then Fr.drop r l else (k, u) :: Fr.drop r l
def Fr.ofArgs : Nat → List AV → Fr
  | _, [] => []
  | n, x :: xs => (n, x) :: Fr.ofArgs (n + 1) xs

/-! ### Heaps -/
inductive LState where
  | ready | busy | done
deriving DecidableEq
/-- A block: rows of cells; a map; the record of a range over a function; the block for its deferred calls; another thing. -/
inductive ABlk where
  | cells (sz : Nat) (rows : List (List AV))
  | map (es : List (AV × AV))
  | loop (st : LState) (pending : Option Code) (fn nt : Nat) (fr : Fr) (params : List Nat) (assign body : SC)
  | dfr
  | obj (kind : Nat) (data : List AV)
structure AHeap where
  next : Nat
  blks : List (Nat × ABlk)
def lookupB : List (Nat × ABlk) → Nat → Option ABlk
  | [], _ => none
  | (k, b) :: r, i => if i = k then some b else lookupB r i
def removeB : List (Nat × ABlk) → Nat → List (Nat × ABlk)
  | [], _ => []
  | (k, b) :: r, i => if i = k then removeB r i else (k, b) :: removeB r i
def setB : List (Nat × ABlk) → Nat → ABlk → List (Nat × ABlk)
  | [], _, _ => []
  | (k, b) :: r, i, c => if i = k then (k, c) :: r else (k, b) :: setB r i c
def AHeap.get (H : AHeap) (i : Nat) : Option ABlk := lookupB H.blks i
def AHeap.set (H : AHeap) (i : Nat) (b : ABlk) : AHeap := { H with blks := setB H.blks i b }
def AHeap.free (H : AHeap) (i : Nat) : AHeap := { H with blks := removeB H.blks i }
def AHeap.add (H : AHeap) (b : ABlk) : AHeap := { next := H.next + 1, blks := H.blks ++ [(H.next, b)] }
def AHeap.rows (H : AHeap) (i : Nat) : Option (Nat × List (List AV)) :=
  match H.get i with
  | some (.cells sz rows) => some (sz, rows)
  | _ => none

/-! ### Constants and types -/
def ofCell : Value → Option AV
  | .bool b => some (.bool b)
  | .int k n => some (.int k n)
  | .string s => some (.str s.data.toList)
  | .pointer none => some .nilptr
  | .slice none 0 0 => some .nilsl
  | .map none => some .nilmap
  | .nilFunc => some .nilfn
  | .nilIface => some .nilifc
  | _ => none
def ofCells : List Value → Option (List AV)
  | [] => some []
  | v :: vs => (ofCell v).bind fun x => (ofCells vs).bind fun xs => some (x :: xs)
def ofConst : Value → Option AV
  | .agg cs => (ofCells cs.toList).map .agg
  | .tuple cs => if cs.isEmpty then some (.tup []) else none
  | v => ofCell v
def rowOf : AV → List AV
  | .agg xs => xs
  | v => [v]
def isJunk : AV → Bool
  | .junk => true
  | _ => false
/-- May stand in one cell. -/
def AV.cell : AV → Bool
  | .agg _ => false
  | .tup _ => false
  | .junk => false
  | _ => true
def szT (P : Program) (t : Nat) : Option Nat := (P.info? t).map (·.size)
def byT (P : Program) (t : Nat) : Option Nat := (P.info? t).map (·.bytes)
def zeroT (P : Program) (t : Nat) : Option AV := (P.info? t).bind fun i => i.zero.bind ofConst
def aggT (P : Program) (t : Nat) : Option Bool :=
  match P.underlying t with
  | some (.struct _) => some true
  | some (.array _ _) => some true
  | some _ => some false
  | none => none

/-! ### Annotations: which made things are immutable, what is frozen and what is forgotten behind a region -/
structure RAnn where
  imm : List Nat := []
  freeze : List Nat := []
  kill : List Nat := []
  chk : List (Nat × Nat) := []
structure Env where
  P : Program
  ann : Nat → Nat → RAnn
  glob : Nat → Option (List AV)
  fns : Nat → Bool
  drop : Nat → Bool
  bT : Nat
  bE : Nat

/-! ### Reading and writing memory -/
def cut (agg : Bool) (n off : Nat) (row : List AV) : Option AV :=
  if agg then (if off + n ≤ row.length then some (.agg ((row.drop off).take n)) else none) else row[off]?
def rowAt (H : AHeap) : AV → Option (List AV × Nat)
  | .imm row off => some (row, off)
  | .ptr id r off => (H.rows id).bind fun b => (b.2[r]?).map fun row => (row, off)
  | _ => none
def aload (P : Program) (H : AHeap) (t : Nat) (a : AV) : Option AV :=
  (aggT P t).bind fun g => (szT P t).bind fun n => (rowAt H a).bind fun r => cut g n r.2 r.1
def splice (row xs : List AV) (off : Nat) : Option (List AV) :=
  if off + xs.length ≤ row.length then some (row.take off ++ xs ++ row.drop (off + xs.length)) else none
def astore (P : Program) (H : AHeap) (t : Nat) (a x : AV) : Option AHeap :=
  match a with
  | .ptr id r off =>
    (szT P t).bind fun n => (H.rows id).bind fun b => (b.2[r]?).bind fun row =>
      if (rowOf x).length = n ∧ (rowOf x).all AV.cell = true then
        (splice row (rowOf x) off).map fun row' => H.set id (.cells b.1 (b.2.set r row'))
      else none
  | _ => none
def afieldAddr (P : Program) (s : Nat) (a : AV) (f : Nat) : Option AV :=
  match P.underlying s with
  | some (.struct fs) => (fs[f]?).bind fun fd => (szT P fd.type).bind fun n =>
      if n = 0 then none else
      match a with
      | .imm row off => some (.imm row (off + fd.offset))
      | .ptr id r off => some (.ptr id r (off + fd.offset))
      | _ => none
  | _ => none
def apart (P : Program) (t : Nat) (cs : List AV) (off : Nat) : Option AV :=
  (aggT P t).bind fun g => (szT P t).bind fun n => cut g n off cs
def afield (P : Program) (s : Nat) (x : AV) (f : Nat) : Option AV :=
  match P.underlying s, x with
  | some (.struct fs), .agg cs => (fs[f]?).bind fun fd => apart P fd.type cs fd.offset
  | _, _ => none
def aindexAddr (P : Program) (H : AHeap) (t : Nat) (x i : AV) : Option AV :=
  match i with
  | .int _ n =>
    match P.underlying t, x with
    | some (.slice e), .isl rows _ => (szT P e).bind fun m => if 0 ≤ n then (rows[n.toNat]?).bind fun row => if row.length = m then some (.imm row 0) else none else none
    | some (.slice e), .msl id lo len _ => (szT P e).bind fun m => (H.rows id).bind fun b => if b.1 = m ∧ 0 ≤ n ∧ n < len then some (.ptr id (lo + n.toNat) 0) else none
    | some (.array len e), .imm row off => (szT P e).bind fun m => if 0 ≤ n ∧ n < len then some (.imm row (off + n.toNat * m)) else none
    | some (.array len e), .ptr id r off => (szT P e).bind fun m => if 0 ≤ n ∧ n < len then some (.ptr id r (off + n.toNat * m)) else none
    | _, _ => none
  | _ => none
def aindex (P : Program) (t : Nat) (x i : AV) : Option AV :=
  match i with
  | .int _ n =>
    match P.underlying t, x with
    | some .string, .str s => if 0 ≤ n then (s[n.toNat]?).map fun b => .int .u8 (b.toNat : Int) else none
    | some (.array len e), .agg cs => (szT P e).bind fun m => if 0 ≤ n ∧ n < len then apart P e cs (n.toNat * m) else none
    | _, _ => none
  | _ => none

/-! ### Integers, strings, comparisons -/
def intBin (op : BinOp) (k : IntKind) (a b : Int) : Option AV :=
  match op with
  | .add => some (.int k (k.wrap (a + b)))
  | .sub => some (.int k (k.wrap (a - b)))
  | .mul => some (.int k (k.wrap (a * b)))
  | .quo => if b = 0 then none else some (.int k (k.wrap (a.tdiv b)))
  | .rem => if b = 0 then none else some (.int k (a.tmod b))
  | .and => some (.int k (k.wrap ((BitVec.ofInt k.bits a &&& BitVec.ofInt k.bits b).toNat : Int)))
  | .or => some (.int k (k.wrap ((BitVec.ofInt k.bits a ||| BitVec.ofInt k.bits b).toNat : Int)))
  | .xor => some (.int k (k.wrap ((BitVec.ofInt k.bits a ^^^ BitVec.ofInt k.bits b).toNat : Int)))
  | .andNot => some (.int k (k.wrap ((BitVec.ofInt k.bits a &&& ~~~(BitVec.ofInt k.bits b)).toNat : Int)))
  | .eql => some (.bool (a == b))
  | .neq => some (.bool (a != b))
  | .lss => some (.bool (decide (a < b)))
  | .leq => some (.bool (decide (a ≤ b)))
  | .gtr => some (.bool (decide (a > b)))
  | .geq => some (.bool (decide (a ≥ b)))
  | _ => none
def shBin (op : BinOp) (k : IntKind) (a b : Int) : Option AV :=
  if b < 0 then none else
  match op with
  | .shl => some (.int k (k.wrap (a * 2 ^ min b.toNat k.bits)))
  | .shr => some (.int k (a.fdiv (2 ^ min b.toNat k.bits)))
  | _ => none
def strBin (op : BinOp) (x y : List UInt8) : Option AV :=
  match op with
  | .add => if x.length + y.length ≤ 9223372036854775807 then some (.str (x ++ y)) else none
  | .eql => some (.bool (x == y))
  | .neq => some (.bool (!(x == y)))
  | .lss => some (.bool (Op.bytesLess x y))
  | .leq => some (.bool (Op.bytesLess x y || x == y))
  | .gtr => some (.bool (!(Op.bytesLess x y || x == y)))
  | .geq => some (.bool (!(Op.bytesLess x y)))
  | _ => none
/-- '==' by the type, as the model goes. -/
def aeq (P : Program) : Nat → Nat → AV → AV → Option Bool
  | 0, _, _, _ => none
  | d + 1, t, x, y =>
    match P.underlying t, x, y with
    | some .bool, .bool a, .bool b => some (a == b)
    | some (.int _), .int k a, .int k' b => if k = k' then some (a == b) else none
    | some .string, .str a, .str b => some (a == b)
    | some (.pointer _), .nilptr, .nilptr => some true
    | some (.pointer _), .nilptr, .imm _ _ => some false
    | some (.pointer _), .nilptr, .ptr _ _ _ => some false
    | some (.pointer _), .imm _ _, .nilptr => some false
    | some (.pointer _), .ptr _ _ _, .nilptr => some false
    | some (.slice _), .nilsl, .nilsl => some true
    | some (.slice _), .nilsl, .isl _ _ => some false
    | some (.slice _), .nilsl, .msl _ _ _ _ => some false
    | some (.slice _), .isl _ _, .nilsl => some false
    | some (.slice _), .msl _ _ _ _, .nilsl => some false
    | some (.map _ _), .nilmap, .nilmap => some true
    | some (.map _ _), .nilmap, .map _ => some false
    | some (.map _ _), .map _, .nilmap => some false
    | some (.func _ _ _), .nilfn, .nilfn => some true
    | some (.func _ _ _), .nilfn, .fn _ _ => some false
    | some (.func _ _ _), .fn _ _, .nilfn => some false
    | some (.interface _), .nilifc, .nilifc => some true
    | some (.interface _), .nilifc, .ifc _ _ => some false
    | some (.interface _), .ifc _ _, .nilifc => some false
    | some (.struct fs), .agg xs, .agg ys =>
      if P.stoodInHeld t = true then none else
      (fs.toList).foldr (fun f (acc : Unit → Option Bool) => fun _ =>
        if f.name ≠ "_" then
          (apart P f.type xs f.offset).bind fun a => (apart P f.type ys f.offset).bind fun b =>
            (aeq P d f.type a b).bind fun e => if e = true then acc () else some false
        else acc ()) (fun _ => some true) ()
    | _, _, _ => none
def depthOf (P : Program) : Nat := P.depth
def eqOp (op : BinOp) (r : Option Bool) : Option AV :=
  match op with
  | .eql => r.map .bool
  | .neq => r.map fun b => .bool (!b)
  | _ => none
def abin (P : Program) (isC : Bool) (op : BinOp) (t : Nat) (x y : AV) : Option AV :=
  match x, y with
  | .int k a, .int k' b =>
    match op with
    | .shl => shBin .shl k a b
    | .shr => shBin .shr k a b
    | op => if k = k' then intBin op k a b else none
  | .str a, .str b => strBin op a b
  | .agg xs, .agg ys => if P.eqGuardType P.depth t = false then eqOp op (aeq P Op.maxDepth t (.agg xs) (.agg ys)) else none
  | .nilifc, .nilifc => if isC = true then eqOp op (aeq P Op.maxDepth t .nilifc .nilifc) else none
  | x, y => eqOp op (aeq P Op.maxDepth t x y)
def aun (op : UnOp) (x : AV) : Option AV :=
  match op, x with
  | .not, .bool b => some (.bool (!b))
  | .neg, .int k n => some (.int k (k.wrap (0 - n)))
  | .xor, .int k n => intBin .xor k (if k.signed = true then -1 else k.max) n
  | _, _ => none
def byteOfAV : AV → Option UInt8
  | .int .u8 n => some (UInt8.ofNat n.toNat)
  | _ => none
def bytesOf : List (List AV) → Option (List UInt8)
  | [] => some []
  | [x] :: r => (byteOfAV x).bind fun b => (bytesOf r).map (b :: ·)
  | _ => none
def rowsOfBytes (s : List UInt8) : List (List AV) := s.map fun b => [.int .u8 (b.toNat : Int)]
/-- The elements of a slice. -/
def sliceRows (H : AHeap) : AV → Option (List (List AV))
  | .nilsl => some []
  | .isl rows _ => some rows
  | .msl id lo len _ => (H.rows id).bind fun b => if lo + len ≤ b.2.length then some ((b.2.drop lo).take len) else none
  | _ => none
def aconvert (P : Program) (H : AHeap) (src dst : Nat) (x : AV) : Option AV :=
  match P.underlying src, P.underlying dst, x with
  | some _, some (.int k), .int _ n => some (.int k (k.wrap n))
  | some _, some .string, .str s => some (.str s)
  | some (.string), some (.slice e), .str s =>
    match P.underlying e with
    | some (.int .u8) => some (.isl (rowsOfBytes s) none)
    | _ => none
  | some (.slice e), some .string, x =>
    match P.underlying e with
    | some (.int .u8) => (sliceRows H x).bind fun rows => (bytesOf rows).map .str
    | _ => none
  | _, _, _ => none

/-! ### Making -/
def afill (place : Nat → Option (Nat × Nat)) : List AV → List (Nat × AV) → Option (List AV)
  | cells, [] => some cells
  | cells, (i, x) :: r => (place i).bind fun p =>
      if (rowOf x).length = p.2 ∧ isJunk x = false then (splice cells (rowOf x) p.1).bind fun c => afill place c r else none
def places (P : Program) : List Field → Option (List (Nat × Nat))
  | [] => some []
  | f :: fs => (szT P f.type).bind fun n => (places P fs).map ((f.offset, n) :: ·)
def abuild (P : Program) (t : Nat) (parts : List (Nat × AV)) : Option AV :=
  (zeroT P t).bind fun z =>
  match P.underlying t with
  | some (.struct fs) => (places P fs.toList).bind fun pl => (afill (fun i => pl[i]?) (rowOf z) parts).map .agg
  | some (.array _ e) => (szT P e).bind fun n => (afill (fun i => some (i * n, n)) (rowOf z) parts).map .agg
  | _ => none
def fillRows (sz : Nat) : List (List AV) → List (Nat × AV) → Option (List (List AV))
  | rows, [] => some rows
  | rows, (i, x) :: r => if (rowOf x).length = sz ∧ i < rows.length ∧ isJunk x = false then fillRows sz (rows.set i (rowOf x)) r else none
def mkSlice (isImm : Bool) (H : AHeap) (sz : Nat) (rows : List (List AV)) (n : Nat) : AV × AHeap :=
  if isImm then (.isl rows (some n), H) else (.msl H.next 0 n (some n), H.add (.cells sz rows))
def abuildSlice (P : Program) (isImm : Bool) (H : AHeap) (t len : Nat) (parts : List (Nat × AV)) : Option (AV × AHeap) :=
  match P.underlying t with
  | some (.slice e) => (szT P e).bind fun n => (zeroT P e).bind fun z =>
      if (rowOf z).length = n ∧ 0 < n ∧ len * n ≤ 16777216 then
        (fillRows n (List.replicate len (rowOf z)) parts).map fun rows => mkSlice isImm H n rows len
      else none
  | _ => none
def amakeSlice (P : Program) (H : AHeap) (t : Nat) (l c : AV) : Option (AV × AHeap) :=
  match P.underlying t, l, c with
  | some (.slice e), .int _ l, .int _ c => (szT P e).bind fun n => (byT P e).bind fun by_ => (zeroT P e).bind fun z =>
      if (rowOf z).length = n ∧ 0 < n ∧ 0 ≤ l ∧ l ≤ c ∧ c ≤ 1073741824 ∧ by_ * c.toNat ≤ 140737488355328 then
        some (.msl H.next 0 l.toNat (some c.toNat), H.add (.cells n (List.replicate c.toNat (rowOf z))))
      else none
  | _, _, _ => none
def box (isImm : Bool) (H : AHeap) (row : List AV) : AV × AHeap :=
  if isImm then (.imm row 0, H) else (.ptr H.next 0 0, H.add (.cells row.length [row]))

/-- A variable is laid; one of the type strings.Builder (its row is said to be []) is a thing of its own: kind 0, its text in another, kind 1. -/
def newS (H : AHeap) : List AV → AV × AHeap
  | [] => (.ptr H.next 0 0, H.add (.obj 0 []))
  | row => box false H row
def allocRow (E : Env) (t : Nat) (z : AV) : Option (List AV) :=
  if t = E.bT then
    match rowOf z with
    | [.nilptr, .nilsl] => some []
    | _ => none
  else
    match rowOf z with
    | [] => none
    | r => some r

/-! ### What hangs on no block from a number on -/
mutual
def AV.under (n : Nat) : AV → Bool
  | .imm row _ => AV.unders n row
  | .ptr id _ _ => Nat.blt id n
  | .isl rows _ => AV.underss n rows
  | .msl id _ _ _ => Nat.blt id n
  | .map id => Nat.blt id n
  | .fn _ caps => AV.unders n caps
  | .yld id => Nat.blt id n
  | .ifc _ v => AV.under n v
  | .agg xs => AV.unders n xs
  | .tup xs => AV.unders n xs
  | _ => true
def AV.unders (n : Nat) : List AV → Bool
  | [] => true
  | x :: xs => AV.under n x && AV.unders n xs
def AV.underss (n : Nat) : List (List AV) → Bool
  | [] => true
  | x :: xs => AV.unders n x && AV.underss n xs
end
def frUnder (n : Nat) : List (Nat × AV) → Bool
  | [] => true
  | (_, v) :: r => v.under n && frUnder n r
def ABlk.under (n : Nat) : ABlk → Bool
  | .cells _ rows => AV.underss n rows
  | .loop _ _ _ _ fr _ _ _ => frUnder n fr
  | .dfr => true
  | .obj _ d => AV.unders n d
  | .map _ => false
def blksUnder (n : Nat) : List (Nat × ABlk) → Bool
  | [] => true
  | (_, b) :: r => b.under n && blksUnder n r
def blksCut (n : Nat) : List (Nat × ABlk) → List (Nat × ABlk)
  | [] => []
  | (k, b) :: r => if Nat.blt k n = true then (k, b) :: blksCut n r else blksCut n r
/-- Behind a call: the blocks laid from the number nx on are given up, if nothing hangs on them. -/
def dropH (dr : Bool) (nx : Nat) (v : AV) (H : AHeap) : AHeap :=
  match dr with
  | false => H
  | true => match v.under nx && blksUnder nx (blksCut nx H.blks) with
    | true => ⟨nx, blksCut nx H.blks⟩
    | false => H

/-! ### Slicing -/
def bound (dflt : Nat) (top : Nat) : Option AV → Option Nat
  | none => some dflt
  | some (.int _ n) => if 0 ≤ n ∧ n ≤ top then some n.toNat else none
  | _ => none
def headLen (n : Nat) : List (List AV) → Bool
  | [] => true
  | r :: _ => r.length == n
def aslice (P : Program) (H : AHeap) (t : Nat) (x : AV) (lo hi mx : Option AV) : Option AV :=
  match P.underlying t, x with
  | some .string, .str s =>
    match mx with
    | none => (bound s.length s.length hi).bind fun h => (bound 0 h lo).bind fun l => some (.str ((s.take h).drop l))
    | _ => none
  | some (.slice e), .nilsl =>
    match mx with
    | none => (szT P e).bind fun _ => (bound 0 0 hi).bind fun h => (bound 0 h lo).bind fun _ => some .nilsl
    | _ => none
  | some (.slice e), .isl rows cap => (szT P e).bind fun n => if headLen n rows = true then
    (match mx with
    | none => (bound rows.length rows.length hi).bind fun h => (bound 0 h lo).bind fun l => some (.isl ((rows.take h).drop l) (cap.map (· - l)))
    | some m => (bound 0 rows.length (some m)).bind fun m => match hi with
        | some hv => (bound 0 m (some hv)).bind fun h => (bound 0 h lo).bind fun l => some (.isl ((rows.take h).drop l) (some (m - l)))
        | none => none) else none
  | some (.slice e), .msl id lw len cap => (szT P e).bind fun n => (H.rows id).bind fun b => if b.1 = n then
    (match mx with
    | none => (bound len (cap.getD len) hi).bind fun h => (bound 0 h lo).bind fun l => some (.msl id (lw + l) (h - l) (cap.map (· - l)))
    | some m => (bound 0 len (some m)).bind fun m => match hi with
        | some hv => (bound 0 m (some hv)).bind fun h => (bound 0 h lo).bind fun l => some (.msl id (lw + l) (h - l) (some (m - l)))
        | none => none) else none
  | _, _ => none

/-! ### Builtins -/
def alen (P : Program) (H : AHeap) (t : Nat) (x : AV) : Option AV :=
  match P.underlying t, x with
  | some .string, .str s => some (.int .i64 s.length)
  | some (.slice _), .nilsl => some (.int .i64 0)
  | some (.slice _), .isl rows _ => some (.int .i64 rows.length)
  | some (.slice _), .msl _ _ len _ => some (.int .i64 len)
  | some (.map _ _), .nilmap => some (.int .i64 0)
  | some (.map _ _), .map id =>
    match H.get id with
    | some (.map es) => some (.int .i64 es.length)
    | _ => none
  | _, _ => none
def acap (P : Program) (t : Nat) (x : AV) : Option AV :=
  match P.underlying t, x with
  | some (.slice _), .nilsl => some (.int .i64 0)
  | some (.slice _), .isl _ (some c) => some (.int .i64 c)
  | some (.slice _), .msl _ _ _ (some c) => some (.int .i64 c)
  | _, _ => none
def newRows (H : AHeap) : AV → Option (List (List AV))
  | .str s => some (rowsOfBytes s)
  | x => sliceRows H x
/-- append: where the capacity is not known the old block is given up. -/
def aappend (P : Program) (H : AHeap) (t : Nat) (s x : AV) : Option (AV × AHeap) :=
  match P.underlying t with
  | some (.slice e) => (szT P e).bind fun n => (byT P e).bind fun by_ => (zeroT P e).bind fun z => (newRows H x).bind fun xs =>
    if 0 < n ∧ (rowOf z).length = n ∧ xs.all (fun r => r.length == n && r.all AV.cell) = true then
      match s with
      | .nilsl => if xs.isEmpty then some (.nilsl, H) else
          if xs.length * by_ ≤ 140737488355328 ∧ xs.length ≤ 140737488355328 then some (.msl H.next 0 xs.length none, H.add (.cells n xs)) else none
      | .isl rows (some c) =>
          if rows.length + xs.length ≤ c then (if xs.isEmpty then some (.isl rows (some c), H) else none) else
          if (rows.length + xs.length) * by_ ≤ 140737488355328 ∧ rows.length + xs.length ≤ 140737488355328 ∧ rows.all (fun r => r.length == n) = true then
            some (.msl H.next 0 (rows.length + xs.length) none, H.add (.cells n (rows ++ xs))) else none
      | .msl id lo len cap => (H.rows id).bind fun b =>
          if b.1 = n ∧ lo + len ≤ b.2.length ∧ (len + xs.length) * by_ ≤ 140737488355328 ∧ len + xs.length ≤ 140737488355328 then
            match cap with
            | some c =>
              if len + xs.length ≤ c then
                if lo + c ≤ b.2.length then
                  some (.msl id lo (len + xs.length) (some c), H.set id (.cells n (b.2.take (lo + len) ++ xs ++ b.2.drop (lo + len + xs.length)))) else none
              else some (.msl H.next 0 (len + xs.length) none, H.add (.cells n ((b.2.drop lo).take len ++ xs)))
            | none => some (.msl H.next 0 (len + xs.length) none, (H.free id).add (.cells n ((b.2.drop lo).take len ++ xs)))
          else none
      | _ => none
    else none
  | _ => none
def acopy (P : Program) (H : AHeap) (t : Nat) (d s : AV) : Option (AV × AHeap) :=
  match P.underlying t, d with
  | some (.slice e), .msl id lo len _ => (szT P e).bind fun n => (newRows H s).bind fun xs => (H.rows id).bind fun b =>
      if b.1 = n ∧ lo + len ≤ b.2.length ∧ xs.all (fun r => r.length == n && r.all AV.cell) = true then
        some (.int .i64 (min xs.length len : Nat), H.set id (.cells n (b.2.take lo ++ xs.take len ++ b.2.drop (lo + min xs.length len))))
      else none
  | _, _ => none
def mm2 (mx : Bool) : AV → AV → Option AV
  | .int k a, .int k' b => if k = k' then some (.int k (if mx then (if b > a then b else a) else (if b < a then b else a))) else none
  | _, _ => none
def aminmax (mx : Bool) : AV → List AV → Option AV
  | x, [] => some x
  | x, y :: r => (mm2 mx x y).bind fun z => aminmax mx z r

/-! ### Maps -/
def findM (P : Program) (kt : Nat) (k : AV) : List (AV × AV) → Option (Option AV)
  | [] => some none
  | (k', v) :: r => (aeq P Op.maxDepth kt k' k).bind fun e => if e = true then some (some v) else findM P kt k r
def setM (P : Program) (kt : Nat) (k v : AV) : List (AV × AV) → Option (List (AV × AV))
  | [] => some [(k, v)]
  | (k', u) :: r => (aeq P Op.maxDepth kt k' k).bind fun e => if e = true then some ((k', v) :: r) else (setM P kt k v r).map ((k', u) :: ·)

/-! ### Freezing -/
def freezeV (H : AHeap) : AV → AV × AHeap
  | .ptr id 0 0 =>
    match H.rows id with
    | some (_, [row]) => (.imm row 0, H.free id)
    | _ => (.ptr id 0 0, H)
  | .msl id lo len cap =>
    match H.rows id with
    | some (_, rows) => if lo + len ≤ rows.length then (.isl ((rows.drop lo).take len) cap, H.free id) else (.msl id lo len cap, H)
    | none => (.msl id lo len cap, H)
  | v => (v, H)
def freezeFr (nt : List Nat) (fr : Fr) (H : AHeap) : Fr × AHeap :=
  nt.foldl (fun p t => match p.1.get t with
    | some v => ((p.1.put t (freezeV p.2 v).1), (freezeV p.2 v).2)
    | none => p) (fr, H)

end Go.AM
set_option linter.unusedVariables false
namespace Go.AM
open Go

inductive Ex where
  | normal
  | exit (id : Nat)
  | ret
  | pan (v : AV)
inductive FR where
  | ret (v : AV)
  | pan (v : AV)
/-- What a frame does when it is left: a deferred call; the end of a range over a function. -/
inductive DI where
  | call (g : Nat) (caps args : List AV)
  | mark (id : Nat)
structure St where
  fr : Fr
  H : AHeap
  df : List DI
inductive OpR where
  | val (v : AV) (H : AHeap)
  | skip (H : AHeap)
  | call (f : AV) (args : List AV)
  | pan (v : AV)
  | dfr (f : AV) (args : List AV)

def ev (E : Env) (fr : Fr) : Operand → Option AV
  | .tmp t => fr.get t
  | .const v => ofConst v
  | .global g => (E.glob g).map fun row => .imm row 0
  | .func f => some (.fn f [])
def evs (E : Env) (fr : Fr) : List Operand → Option (List AV)
  | [] => some []
  | x :: xs => (ev E fr x).bind fun v => (evs E fr xs).map (v :: ·)
def evO (E : Env) (fr : Fr) : Option Operand → Option (Option AV)
  | none => some none
  | some x => (ev E fr x).map some
def evP (E : Env) (fr : Fr) : List (Nat × Operand) → Option (List (Nat × AV))
  | [] => some []
  | (i, x) :: xs => (ev E fr x).bind fun v => (evP E fr xs).map ((i, v) :: ·)
def ofVal (H : AHeap) (x : Option AV) : Option OpR := x.map fun v => .val v H
def ofValH (x : Option (AV × AHeap)) : Option OpR := x.map fun p => .val p.1 p.2
def abuiltin (E : Env) (H : AHeap) (b : Builtin) (ts : List Nat) (xs : List AV) : Option OpR :=
  match b, ts, xs with
  | .append, [t, tx], [s, x] => match E.P.underlying tx with
      | some (.slice _) => ofValH (aappend E.P H t s x)
      | some .string => ofValH (aappend E.P H t s x)
      | _ => none
  | .len, [t], [x] => ofVal H (alen E.P H t x)
  | .cap, [t], [x] => ofVal H (acap E.P t x)
  | .copy, [t, _], [d, s] => ofValH (acopy E.P H t d s)
  | .min, _, x :: r => ofVal H (aminmax false x r)
  | .max, _, x :: r => ofVal H (aminmax true x r)
  | .panic, _, [.ifc t v] => some (.pan (.ifc t v))
  | _, _, _ => none
def isConst : Operand → Bool
  | .const _ => true
  | _ => false
def exec (E : Env) (ra : RAnn) (i : Nat) (fr : Fr) (H : AHeap) (o : Oper) : Option OpR :=
  match o.op with
  | .move x => ofVal H (ev E fr x)
  | .assign x => ofVal H (ev E fr x)
  | .pick c a b => (ev E fr c).bind fun c => match c with
      | .bool c => ofVal H (if c then ev E fr a else ev E fr b)
      | _ => none
  | .alloc t => (zeroT E.P t).bind fun z => (allocRow E t z).bind fun row => ofValH (some (newS H row))
  | .box t x => (ev E fr x).bind fun v => if isJunk v = true then none else ofValH (some (box (ra.imm.elem i) H (rowOf v)))
  | .build t ps => (evP E fr ps.toList).bind fun ps => ofVal H (abuild E.P t ps)
  | .buildSlice t n ps => (evP E fr ps.toList).bind fun ps => ofValH (abuildSlice E.P (ra.imm.elem i) H t n ps)
  | .load t a => (ev E fr a).bind fun a => ofVal H (aload E.P H t a)
  | .store t a x => (ev E fr a).bind fun a => (ev E fr x).bind fun x => (astore E.P H t a x).map .skip
  | .nilCheck x => (ev E fr x).bind fun v => match v with
      | .imm _ _ => ofVal H (some v)
      | .ptr _ _ _ => ofVal H (some v)
      | .fn _ _ => ofVal H (some v)
      | .yld _ => ofVal H (some v)
      | .ifc _ _ => ofVal H (some v)
      | _ => none
  | .binOp op t x y _ => (ev E fr x).bind fun u => (ev E fr y).bind fun v => ofVal H (abin E.P (isConst x || isConst y) op t u v)
  | .unOp op _ x => (ev E fr x).bind fun x => ofVal H (aun op x)
  | .convert s d x => (ev E fr x).bind fun x => ofVal H (aconvert E.P H s d x)
  | .makeInterface t x => (ev E fr x).bind fun x => match E.P.underlying t with
      | some (.interface _) => none
      | some _ => ofVal H (some (.ifc t x))
      | none => none
  | .makeFunc (.func f) first caps => if first.isEmpty then (evs E fr caps.toList).bind fun cs => ofVal H (some (.fn f cs)) else none
  | .makeSlice t l c => (ev E fr l).bind fun l => (ev E fr c).bind fun c => ofValH (amakeSlice E.P H t l c)
  | .slice t x lo hi mx => (ev E fr x).bind fun x => (evO E fr lo).bind fun lo => (evO E fr hi).bind fun hi => (evO E fr mx).bind fun mx => ofVal H (aslice E.P H t x lo hi mx)
  | .fieldAddr s x f => (ev E fr x).bind fun x => ofVal H (afieldAddr E.P s x f)
  | .field s x f => (ev E fr x).bind fun x => ofVal H (afield E.P s x f)
  | .indexAddr t x ix => (ev E fr x).bind fun x => (ev E fr ix).bind fun ix => ofVal H (aindexAddr E.P H t x ix)
  | .index t x ix => (ev E fr x).bind fun x => (ev E fr ix).bind fun ix => ofVal H (aindex E.P t x ix)
  | .extract t ix => (ev E fr t).bind fun v => match v with
      | .tup vs => ofVal H (vs[ix]?)
      | _ => none
  | .panic x => (ev E fr x).bind fun v => match v with
      | .ifc t v => some (.pan (.ifc t v))
      | _ => none
  | .call c => (evs E fr c.args.toList).bind fun args => match c.callee with
      | .value f => (ev E fr f).bind fun fv => match fv with
          | .fn g caps => some (.call (.fn g caps) args)
          | .yld l => some (.call (.yld l) args)
          | _ => none
      | .builtin b => abuiltin E H b c.argTypes.toList args
      | _ => none
  | _ => none

/-- Is the operation wanted? -/
def wantedA (ops : List Oper) (fr : Fr) (o : Oper) : Option Bool :=
  match o.guard with
  | none => some true
  | some (j, want) =>
    match (ops[j]?).bind (·.dst) with
    | none => some false
    | some d =>
      match fr.get d with
      | some (.bool b) => some (b == want)
      | some (.tup _) => some false
      | _ => none
def dstOK (nt : Nat) : Option Nat → Bool
  | none => true
  | some d => decide (d < nt)
abbrev CallF := AV → List AV → AHeap → Option (FR × AHeap)
/-- One operation, wanted or not: what stands behind it. -/
def stepOp (E : Env) (cf : CallF) (nt : Nat) (ra : RAnn) (ops : List Oper) (i : Nat) (o : Oper) (fr : Fr) (H : AHeap) : Option (Option AV × Fr × AHeap) :=
  (wantedA ops fr o).bind fun w =>
  if dstOK nt o.dst = true then
    if w = true then
      (exec E ra i fr H o).bind fun r => match r with
        | .val v H' => some (none, fr.putO o.dst v, H')
        | .skip H' => some (none, fr.putO o.dst (.tup []), H')
        | .call f args => (cf f args H).bind fun r => match r.1 with
            | .ret v => some (none, fr.putO o.dst v, r.2)
            | .pan v => some (some v, fr, r.2)
        | .pan v => some (some v, fr, H)
        | .dfr _ _ => none
    else some (none, fr.putO o.dst (.tup []), H)
  else none
/-- In the order of the text. -/
def runOps (E : Env) (cf : CallF) (nt : Nat) (ra : RAnn) (ops : List Oper) : List Oper → Nat → Fr → AHeap → Option (Ex × Fr × AHeap)
  | [], _, fr, H => some (.normal, fr, H)
  | o :: rest, i, fr, H => (stepOp E cf nt ra ops i o fr H).bind fun r => match r.1 with
      | none => runOps E cf nt ra ops rest (i + 1) r.2.1 r.2.2
      | some v => some (.pan v, r.2.1, r.2.2)

/-! ### Regions whose order is drawn -/
mutual
def AV.beq : AV → AV → Bool
  | .bool a, .bool b => a == b
  | .int k n, .int k' n' => decide (k = k') && decide (n = n')
  | .str s, .str t => s == t
  | .nilptr, .nilptr => true
  | .imm r o, .imm r' o' => AV.beqs r r' && decide (o = o')
  | .ptr i r o, .ptr i' r' o' => decide (i = i') && decide (r = r') && decide (o = o')
  | .nilsl, .nilsl => true
  | .isl r c, .isl r' c' => AV.beqss r r' && decide (c = c')
  | .msl i l n c, .msl i' l' n' c' => decide (i = i') && decide (l = l') && decide (n = n') && decide (c = c')
  | .nilmap, .nilmap => true
  | .map i, .map i' => decide (i = i')
  | .fn f c, .fn f' c' => decide (f = f') && AV.beqs c c'
  | .nilfn, .nilfn => true
  | .yld i, .yld i' => decide (i = i')
  | .ifc t v, .ifc t' v' => decide (t = t') && AV.beq v v'
  | .nilifc, .nilifc => true
  | .agg x, .agg y => AV.beqs x y
  | .tup x, .tup y => AV.beqs x y
  | .junk, .junk => true
  | _, _ => false
def AV.beqs : List AV → List AV → Bool
  | [], [] => true
  | x :: xs, y :: ys => AV.beq x y && AV.beqs xs ys
  | _, _ => false
def AV.beqss : List (List AV) → List (List AV) → Bool
  | [], [] => true
  | x :: xs, y :: ys => AV.beqs x y && AV.beqss xs ys
  | _, _ => false
end
/-- May the operation turn the heap, call something? -/
def effOp (ra : RAnn) (i : Nat) (o : Oper) : Bool :=
  match o.op with
  | .move _ | .assign _ | .pick _ _ _ | .build _ _ | .load _ _ | .nilCheck _ | .binOp _ _ _ _ _ | .unOp _ _ _ | .convert _ _ _ | .makeInterface _ _ | .makeFunc _ _ _ | .slice _ _ _ _ _
  | .fieldAddr _ _ _ | .field _ _ _ | .indexAddr _ _ _ | .index _ _ _ | .extract _ _ => false
  | .box _ _ => !ra.imm.elem i
  | .buildSlice _ _ _ => !ra.imm.elem i
  | .call c => match c.callee with
    | .builtin .len => false
    | .builtin .cap => false
    | .builtin .min => false
    | .builtin .max => false
    | _ => true
  | _ => true
/-- Does what it yields not hang on the heap? -/
def freeOp (ra : RAnn) (i : Nat) (o : Oper) : Bool :=
  match o.op with
  | .move _ | .assign _ | .pick _ _ _ | .build _ _ | .nilCheck _ | .binOp _ _ _ _ _ | .unOp _ _ _ | .makeInterface _ _ | .makeFunc _ _ _
  | .fieldAddr _ _ _ | .field _ _ _ | .index _ _ _ | .extract _ _ => true
  | .box _ _ => ra.imm.elem i
  | .buildSlice _ _ _ => ra.imm.elem i
  | .call c => match c.callee with
    | .builtin .cap => true
    | .builtin .min => true
    | .builtin .max => true
    | _ => false
  | _ => false
/-- One operation that does not panic: what is put, and the heap. -/
def stepV (E : Env) (cf : CallF) (nt : Nat) (ra : RAnn) (ops : List Oper) (i : Nat) (o : Oper) (fr : Fr) (H : AHeap) : Option (AV × AHeap) :=
  (wantedA ops fr o).bind fun w =>
  if dstOK nt o.dst = true then
    if w = true then
      (exec E ra i fr H o).bind fun r => match r with
        | .val v H' => some (v, H')
        | .skip H' => some (.tup [], H')
        | .call f args => (cf f args H).bind fun r => match r.1 with
            | .ret v => some (v, r.2)
            | .pan _ => none
        | .pan _ => none
        | .dfr _ _ => none
    else some (.tup [], H)
  else none
structure DRec where
  dst : Option Nat
  eff : Bool
  pre : Fr
  val : AV
  post : AHeap
/-- In the order of the text, with what each operation yields. -/
def drawRecs (E : Env) (cf : CallF) (nt : Nat) (ra : RAnn) (ops : List Oper) : List Oper → Nat → Fr → AHeap → Option (List DRec × Fr × AHeap)
  | [], _, fr, H => some ([], fr, H)
  | o :: rest, i, fr, H => (stepV E cf nt ra ops i o fr H).bind fun r =>
    (drawRecs E cf nt ra ops rest (i + 1) (fr.putO o.dst r.1) r.2).map fun q => (⟨o.dst, effOp ra i o, fr, r.1, r.2⟩ :: q.1, q.2)
def heapBehind (recs : List DRec) (H : AHeap) : Nat → Option AHeap
  | 0 => some H
  | e + 1 => (recs[e]?).map (·.post)
/-- Readers yield the same at the heaps at which another order may have them read. -/
def lookOK (E : Env) (cf : CallF) (nt : Nat) (ra : RAnn) (ops : List Oper) (recs : List DRec) (H : AHeap) : List (Nat × Nat) → Bool
  | [] => true
  | (p, e) :: r =>
    match recs[p]?, ops[p]?, heapBehind recs H e with
    | some d, some o, some He => match stepV E cf nt ra ops p o d.pre He with
      | some q => AV.beq q.1 d.val && lookOK E cf nt ra ops recs H r
      | none => false
    | _, _, _ => false
def runDraw (E : Env) (cf : CallF) (nt : Nat) (ra : RAnn) (ops : List Oper) (fr : Fr) (H : AHeap) : Option (Fr × AHeap) :=
  (drawRecs E cf nt ra ops ops 0 fr H).bind fun q => if lookOK E cf nt ra ops q.1 H ra.chk = true then some q.2 else none

/-! What is asked of such a region once -/
def bindOn (o : Oper) : List Nat := (o.after.toList.filter (Region.binds .any)).map (·.on)
def ancOf (anc : List Nat) (o : Oper) : Nat := (bindOn o).foldl (fun m j => m ||| anc.getD j 0 ||| (1 <<< j)) 0
def ancs : List Oper → List Nat → List Nat
  | [], acc => acc
  | o :: r, acc => ancs r (acc ++ [ancOf acc o])
def isAnc (anc : List Nat) (i j : Nat) : Bool := (anc.getD j 0).testBit i
/-- May p be run where the last effect is e (0: none; e + 1: that of e)? -/
def mayCut (anc : List Nat) (effs : List Nat) (p : Nat) : Nat → Bool
  | 0 => effs.all fun e => !isAnc anc e p
  | e + 1 => !isAnc anc p e && effs.all fun e' => decide (e' ≤ e) || !isAnc anc e' p
def isEff (ra : RAnn) (ops : List Oper) (i : Nat) : Bool :=
  match ops[i]? with
  | some o => effOp ra i o
  | none => false
def effIdx (ra : RAnn) (ops : List Oper) : List Nat := (List.range ops.length).filter (isEff ra ops)
def drawOK (ra : RAnn) (opa : Array Oper) : Bool :=
  let ops := opa.toList
  let anc := ancs ops []
  let effs := effIdx ra ops
  (List.range ops.length).all fun j => match ops[j]? with
    | none => false
    | some oj => decide (anc.getD j 0 = ancOf anc oj) && (bindOn oj).all (fun d => decide (d < j)) &&
      ((List.range j).all fun i => isAnc anc i j || match ops[i]? with
        | none => false
        | some oi => oi.apart opa oj && !(effOp ra i oi && effOp ra j oj)) &&
      (effOp ra j oj || freeOp ra j oj || ((0 :: effs.map (· + 1)).all fun e => !mayCut anc effs j e || ra.chk.any fun q => decide (q.1 = j) && decide (q.2 = e)))
def finish (ra : RAnn) (fr : Fr) (H : AHeap) : Fr × AHeap :=
  let p := freezeFr ra.freeze fr H
  (p.1.drop ra.kill, p.2)

/-! ### Slim code: what its operations do -/
def evX (fr : Fr) : SX → Option AV
  | .t n => fr.get n
  | .c v => some v
def evXs (fr : Fr) : List SX → Option (List AV)
  | [] => some []
  | x :: xs => (evX fr x).bind fun v => (evXs fr xs).bind fun vs => some (v :: vs)
def evXO (fr : Fr) : Option SX → Option (Option AV)
  | none => some none
  | some x => (evX fr x).bind fun v => some (some v)
def evXP (fr : Fr) : List (Nat × SX) → Option (List (Nat × AV))
  | [] => some []
  | (i, x) :: xs => (evX fr x).bind fun v => (evXP fr xs).bind fun vs => some ((i, v) :: vs)
def aeqS : EqT → AV → AV → Option Bool
  | .bool, .bool a, .bool b => some (a == b)
  | .int, .int k a, .int k' b => if k = k' then some (a == b) else none
  | .str, .str a, .str b => some (a == b)
  | .ptr, .nilptr, .nilptr => some true
  | .ptr, .nilptr, .imm _ _ => some false
  | .ptr, .nilptr, .ptr _ _ _ => some false
  | .ptr, .imm _ _, .nilptr => some false
  | .ptr, .ptr _ _ _, .nilptr => some false
  | .sl, .nilsl, .nilsl => some true
  | .sl, .nilsl, .isl _ _ => some false
  | .sl, .nilsl, .msl _ _ _ _ => some false
  | .sl, .isl _ _, .nilsl => some false
  | .sl, .msl _ _ _ _, .nilsl => some false
  | .map, .nilmap, .nilmap => some true
  | .map, .nilmap, .map _ => some false
  | .map, .map _, .nilmap => some false
  | .fn, .nilfn, .nilfn => some true
  | .fn, .nilfn, .fn _ _ => some false
  | .fn, .fn _ _, .nilfn => some false
  | .ifc, .nilifc, .nilifc => some true
  | .ifc, .nilifc, .ifc _ _ => some false
  | .ifc, .ifc _ _, .nilifc => some false
  | .fin, .agg _, .agg _ => some true
  | .fld off n g e rest, .agg xs, .agg ys => (cut g n off xs).bind fun a => (cut g n off ys).bind fun b => (aeqS e a b).bind fun r => if r = true then aeqS rest (.agg xs) (.agg ys) else some false
  | _, _, _ => none
def aeqO (q : Option EqT) (x y : AV) : Option Bool := q.bind fun q => aeqS q x y
def abinS (isC gd : Bool) (q : Option EqT) (op : BinOp) (x y : AV) : Option AV :=
  match x, y with
  | .int k a, .int k' b =>
    match op with
    | .shl => shBin .shl k a b
    | .shr => shBin .shr k a b
    | op => if k = k' then intBin op k a b else none
  | .str a, .str b => strBin op a b
  | .agg xs, .agg ys => if gd = true then eqOp op (aeqO q (.agg xs) (.agg ys)) else none
  | .nilifc, .nilifc => if isC = true then eqOp op (aeqO q .nilifc .nilifc) else none
  | x, y => eqOp op (aeqO q x y)
def astoreS (H : AHeap) (n : Nat) (a x : AV) : Option AHeap :=
  match a with
  | .ptr id r off =>
    (H.rows id).bind fun b => (b.2[r]?).bind fun row =>
      if (rowOf x).length = n ∧ (rowOf x).all AV.cell = true then
        (splice row (rowOf x) off).map fun row' => H.set id (.cells b.1 (b.2.set r row'))
      else none
  | _ => none
def afieldAddrS (off' : Nat) (a : AV) : Option AV :=
  match a with
  | .imm row off => some (.imm row (off + off'))
  | .ptr id r off => some (.ptr id r (off + off'))
  | _ => none
def afieldS (g : Bool) (n off : Nat) (x : AV) : Option AV :=
  match x with
  | .agg cs => cut g n off cs
  | _ => none
def aindexAddrS (H : AHeap) (m : Nat) (x i : AV) : Option AV :=
  match i, x with
  | .int _ n, .isl rows _ => if 0 ≤ n then (rows[n.toNat]?).bind fun row => if row.length = m then some (.imm row 0) else none else none
  | .int _ n, .msl id lo len _ => (H.rows id).bind fun b => if b.1 = m ∧ 0 ≤ n ∧ n < len then some (.ptr id (lo + n.toNat) 0) else none
  | _, _ => none
def aindexArrS (len m : Nat) (x i : AV) : Option AV :=
  match i, x with
  | .int _ n, .imm row off => if 0 ≤ n ∧ n < len then some (.imm row (off + n.toNat * m)) else none
  | .int _ n, .ptr id r off => if 0 ≤ n ∧ n < len then some (.ptr id r (off + n.toNat * m)) else none
  | _, _ => none
def aindexStr (x i : AV) : Option AV :=
  match i, x with
  | .int _ n, .str s => if 0 ≤ n then (s[n.toNat]?).map fun b => .int .u8 (b.toNat : Int) else none
  | _, _ => none
def aindexAggS (len : Nat) (g : Bool) (m : Nat) (x i : AV) : Option AV :=
  match i, x with
  | .int _ n, .agg cs => if 0 ≤ n ∧ n < len then cut g m (n.toNat * m) cs else none
  | _, _ => none
def abuildSliceS (isImm : Bool) (H : AHeap) (n : Nat) (z : List AV) (len : Nat) (parts : List (Nat × AV)) : Option (AV × AHeap) :=
  (fillRows n (List.replicate len z) parts).map fun rows => mkSlice isImm H n rows len
def amakeSliceS (H : AHeap) (n by_ : Nat) (z : List AV) (l c : AV) : Option (AV × AHeap) :=
  match l, c with
  | .int _ l, .int _ c =>
      if 0 ≤ l ∧ l ≤ c ∧ c ≤ 1073741824 ∧ by_ * c.toNat ≤ 140737488355328 then
        some (.msl H.next 0 l.toNat (some c.toNat), H.add (.cells n (List.replicate c.toNat z)))
      else none
  | _, _ => none
def asliceStr (x : AV) (lo hi : Option AV) : Option AV :=
  match x with
  | .str s => (bound s.length s.length hi).bind fun h => (bound 0 h lo).bind fun l => some (.str ((s.take h).drop l))
  | _ => none
def asliceS (H : AHeap) (n : Nat) (x : AV) (lo hi mx : Option AV) : Option AV :=
  match x with
  | .nilsl =>
    match mx with
    | none => (bound 0 0 hi).bind fun h => (bound 0 h lo).bind fun _ => some .nilsl
    | _ => none
  | .isl rows cap => if headLen n rows = true then
    (match mx with
    | none => (bound rows.length rows.length hi).bind fun h => (bound 0 h lo).bind fun l => some (.isl ((rows.take h).drop l) (cap.map (· - l)))
    | some m => (bound 0 rows.length (some m)).bind fun m => match hi with
        | some hv => (bound 0 m (some hv)).bind fun h => (bound 0 h lo).bind fun l => some (.isl ((rows.take h).drop l) (some (m - l)))
        | none => none) else none
  | .msl id lw len cap => (H.rows id).bind fun b => if b.1 = n then
    (match mx with
    | none => (bound len (cap.getD len) hi).bind fun h => (bound 0 h lo).bind fun l => some (.msl id (lw + l) (h - l) (cap.map (· - l)))
    | some m => (bound 0 len (some m)).bind fun m => match hi with
        | some hv => (bound 0 m (some hv)).bind fun h => (bound 0 h lo).bind fun l => some (.msl id (lw + l) (h - l) (some (m - l)))
        | none => none) else none
  | _ => none
def alenStr : AV → Option AV
  | .str s => some (.int .i64 s.length)
  | _ => none
def alenSl : AV → Option AV
  | .nilsl => some (.int .i64 0)
  | .isl rows _ => some (.int .i64 rows.length)
  | .msl _ _ len _ => some (.int .i64 len)
  | _ => none
def alenMap (H : AHeap) : AV → Option AV
  | .nilmap => some (.int .i64 0)
  | .map id =>
    match H.get id with
    | some (.map es) => some (.int .i64 es.length)
    | _ => none
  | _ => none
def acapS : AV → Option AV
  | .nilsl => some (.int .i64 0)
  | .isl _ (some c) => some (.int .i64 c)
  | .msl _ _ _ (some c) => some (.int .i64 c)
  | _ => none
def rowsFit (n : Nat) (xs : List (List AV)) : Bool := xs.all fun r => r.length == n && r.all AV.cell
def aappendS (H : AHeap) (n by_ : Nat) (s x : AV) : Option (AV × AHeap) :=
  (newRows H x).bind fun xs =>
    if rowsFit n xs = true then
      match s with
      | .nilsl => if xs.isEmpty then some (.nilsl, H) else
          if xs.length * by_ ≤ 140737488355328 ∧ xs.length ≤ 140737488355328 then some (.msl H.next 0 xs.length none, H.add (.cells n xs)) else none
      | .isl rows (some c) =>
          if rows.length + xs.length ≤ c then (if xs.isEmpty then some (.isl rows (some c), H) else none) else
          if (rows.length + xs.length) * by_ ≤ 140737488355328 ∧ rows.length + xs.length ≤ 140737488355328 ∧ rows.all (fun r => r.length == n) = true then
            some (.msl H.next 0 (rows.length + xs.length) none, H.add (.cells n (rows ++ xs))) else none
      | .msl id lo len cap => (H.rows id).bind fun b =>
          if b.1 = n ∧ lo + len ≤ b.2.length ∧ (len + xs.length) * by_ ≤ 140737488355328 ∧ len + xs.length ≤ 140737488355328 then
            match cap with
            | some c =>
              if len + xs.length ≤ c then
                if lo + c ≤ b.2.length then
                  some (.msl id lo (len + xs.length) (some c), H.set id (.cells n (b.2.take (lo + len) ++ xs ++ b.2.drop (lo + len + xs.length)))) else none
              else some (.msl H.next 0 (len + xs.length) none, H.add (.cells n ((b.2.drop lo).take len ++ xs)))
            | none => some (.msl H.next 0 (len + xs.length) none, (H.free id).add (.cells n ((b.2.drop lo).take len ++ xs)))
          else none
      | _ => none
    else none
def acopyS (H : AHeap) (n : Nat) (d s : AV) : Option (AV × AHeap) :=
  match d with
  | .msl id lo len _ => (newRows H s).bind fun xs => (H.rows id).bind fun b =>
      if b.1 = n ∧ lo + len ≤ b.2.length ∧ rowsFit n xs = true then
        some (.int .i64 (min xs.length len : Nat), H.set id (.cells n (b.2.take lo ++ xs.take len ++ b.2.drop (lo + min xs.length len))))
      else none
  | _ => none
def avTo (k : IntKind) : AV → Option AV
  | .int _ n => some (.int k (k.wrap n))
  | _ => none
def avStr : AV → Option AV
  | .str s => some (.str s)
  | _ => none
def avBytes : AV → Option AV
  | .str s => some (.isl (rowsOfBytes s) none)
  | _ => none
def avText (H : AHeap) (x : AV) : Option AV := (sliceRows H x).bind fun rows => (bytesOf rows).map .str
def nckS (v : AV) : Option AV :=
  match v with
  | .imm _ _ => some v
  | .ptr _ _ _ => some v
  | .fn _ _ => some v
  | .yld _ => some v
  | .ifc _ _ => some v
  | _ => none
def extS (v : AV) (i : Nat) : Option AV :=
  match v with
  | .tup vs => vs[i]?
  | _ => none
def callS (v : AV) (args : List AV) : Option OpR :=
  match v with
  | .fn g caps => some (.call (.fn g caps) args)
  | .yld l => some (.call (.yld l) args)
  | _ => none
def panS (v : AV) : Option OpR :=
  match v with
  | .ifc t v => some (.pan (.ifc t v))
  | _ => none
def pickS (c : AV) (a b : Option AV) : Option AV :=
  match c with
  | .bool c => if c then a else b
  | _ => none
def execS (fr : Fr) (H : AHeap) : SOp → Option OpR
  | .mv x => ofVal H (evX fr x)
  | .pick c a b => (evX fr c).bind fun c => ofVal H (pickS c (evX fr a) (evX fr b))
  | .new row => ofValH (some (newS H row))
  | .box imm x => (evX fr x).bind fun v => if isJunk v = true then none else ofValH (some (box imm H (rowOf v)))
  | .bst z pl ps => (evXP fr ps).bind fun ps => ofVal H ((afill (fun i => pl[i]?) z ps).map .agg)
  | .barr z n ps => (evXP fr ps).bind fun ps => ofVal H ((afill (fun i => some (i * n, n)) z ps).map .agg)
  | .bsl imm n z len ps => (evXP fr ps).bind fun ps => ofValH (abuildSliceS imm H n z len ps)
  | .ld g n a => (evX fr a).bind fun a => ofVal H ((rowAt H a).bind fun r => cut g n r.2 r.1)
  | .st n a x => (evX fr a).bind fun a => (evX fr x).bind fun x => (astoreS H n a x).map .skip
  | .nck x => (evX fr x).bind fun v => ofVal H (nckS v)
  | .bin op isC gd q x y => (evX fr x).bind fun u => (evX fr y).bind fun v => ofVal H (abinS isC gd q op u v)
  | .un op x => (evX fr x).bind fun x => ofVal H (aun op x)
  | .cvi k x => (evX fr x).bind fun x => ofVal H (avTo k x)
  | .cvs x => (evX fr x).bind fun x => ofVal H (avStr x)
  | .cvb x => (evX fr x).bind fun x => ofVal H (avBytes x)
  | .cvt x => (evX fr x).bind fun x => ofVal H (avText H x)
  | .ifc t x => (evX fr x).bind fun x => ofVal H (some (.ifc t x))
  | .mkf f caps => (evXs fr caps).bind fun cs => ofVal H (some (.fn f cs))
  | .mks n by_ z l c => (evX fr l).bind fun l => (evX fr c).bind fun c => ofValH (amakeSliceS H n by_ z l c)
  | .sls x lo hi => (evX fr x).bind fun x => (evXO fr lo).bind fun lo => (evXO fr hi).bind fun hi => ofVal H (asliceStr x lo hi)
  | .slc n x lo hi mx => (evX fr x).bind fun x => (evXO fr lo).bind fun lo => (evXO fr hi).bind fun hi => (evXO fr mx).bind fun mx => ofVal H (asliceS H n x lo hi mx)
  | .fad off x => (evX fr x).bind fun x => ofVal H (afieldAddrS off x)
  | .fld g n off x => (evX fr x).bind fun x => ofVal H (afieldS g n off x)
  | .iad n x ix => (evX fr x).bind fun x => (evX fr ix).bind fun ix => ofVal H (aindexAddrS H n x ix)
  | .iaa len n x ix => (evX fr x).bind fun x => (evX fr ix).bind fun ix => ofVal H (aindexArrS len n x ix)
  | .ixs x ix => (evX fr x).bind fun x => (evX fr ix).bind fun ix => ofVal H (aindexStr x ix)
  | .ixa len g n x ix => (evX fr x).bind fun x => (evX fr ix).bind fun ix => ofVal H (aindexAggS len g n x ix)
  | .ext x i => (evX fr x).bind fun v => ofVal H (extS v i)
  | .pan x => (evX fr x).bind panS
  | .call f args => (evXs fr args).bind fun args => (evX fr f).bind fun fv => callS fv args
  | .lens x => (evX fr x).bind fun x => ofVal H (alenStr x)
  | .lenl x => (evX fr x).bind fun x => ofVal H (alenSl x)
  | .lenm x => (evX fr x).bind fun x => ofVal H (alenMap H x)
  | .capl x => (evX fr x).bind fun x => ofVal H (acapS x)
  | .app n by_ s x => (evX fr s).bind fun s => (evX fr x).bind fun x => ofValH (aappendS H n by_ s x)
  | .cpy n d s => (evX fr d).bind fun d => (evX fr s).bind fun s => ofValH (acopyS H n d s)
  | .mnx mx x xs => (evX fr x).bind fun x => (evXs fr xs).bind fun xs => ofVal H (aminmax mx x xs)
  | .bpan x => (evX fr x).bind panS

/-! ### .. and what the model's code is in slim code -/
def slimX (E : Env) : Operand → Option SX
  | .tmp t => some (.t t)
  | .const v => (ofConst v).map .c
  | .global g => (E.glob g).map fun row => .c (.imm row 0)
  | .func f => some (.c (.fn f []))
def slimXs (E : Env) : List Operand → Option (List SX)
  | [] => some []
  | x :: xs => (slimX E x).bind fun v => (slimXs E xs).map (v :: ·)
def slimXO (E : Env) : Option Operand → Option (Option SX)
  | none => some none
  | some x => (slimX E x).map some
def slimXP (E : Env) : List (Nat × Operand) → Option (List (Nat × SX))
  | [] => some []
  | (i, x) :: xs => (slimX E x).bind fun v => (slimXP E xs).map ((i, v) :: ·)
def eqT (P : Program) : Nat → Nat → Option EqT
  | 0, _ => none
  | d + 1, t =>
    match P.underlying t with
    | some .bool => some .bool
    | some (.int _) => some .int
    | some .string => some .str
    | some (.pointer _) => some .ptr
    | some (.slice _) => some .sl
    | some (.map _ _) => some .map
    | some (.func _ _ _) => some .fn
    | some (.interface _) => some .ifc
    | some (.struct fs) => if P.stoodInHeld t = true then none else
      fs.toList.foldr (fun f acc => if f.name ≠ "_" then
        acc.bind fun rest => (aggT P f.type).bind fun g => (szT P f.type).bind fun n => (eqT P d f.type).map fun e => .fld f.offset n g e rest
        else acc) (some .fin)
    | _ => none
def slimCv (P : Program) (src dst : Nat) (x : SX) : Option SOp :=
  match P.underlying src, P.underlying dst with
  | some _, some (.int k) => some (.cvi k x)
  | some .string, some .string => some (.cvs x)
  | some .string, some (.slice e) => match P.underlying e with
    | some (.int .u8) => some (.cvb x)
    | _ => none
  | some (.slice e), some .string => match P.underlying e with
    | some (.int .u8) => some (.cvt x)
    | _ => none
  | _, _ => none
def slimBuiltin (E : Env) (b : Builtin) (ts : List Nat) (xs : List SX) : Option SOp :=
  match b, ts, xs with
  | .append, [t, tx], [s, x] =>
    let go := match E.P.underlying t with
      | some (.slice e) => (szT E.P e).bind fun n => (byT E.P e).bind fun by_ => (zeroT E.P e).bind fun z => if 0 < n ∧ (rowOf z).length = n then some (SOp.app n by_ s x) else none
      | _ => none
    match E.P.underlying tx with
    | some (.slice _) => go
    | some .string => go
    | _ => none
  | .len, [t], [x] => match E.P.underlying t with
    | some .string => some (.lens x)
    | some (.slice _) => some (.lenl x)
    | some (.map _ _) => some (.lenm x)
    | _ => none
  | .cap, [t], [x] => match E.P.underlying t with
    | some (.slice _) => some (.capl x)
    | _ => none
  | .copy, [t, _], [d, s] => match E.P.underlying t with
    | some (.slice e) => (szT E.P e).map fun n => .cpy n d s
    | _ => none
  | .min, _, x :: r => some (.mnx false x r)
  | .max, _, x :: r => some (.mnx true x r)
  | .panic, _, [x] => some (.bpan x)
  | _, _, _ => none
def isEq : BinOp → Bool
  | .eql => true
  | .neq => true
  | _ => false
def slimOp (E : Env) (ra : RAnn) (i : Nat) (o : Oper) : Option SOp :=
  match o.op with
  | .move x => (slimX E x).map .mv
  | .assign x => (slimX E x).map .mv
  | .pick c a b => (slimX E c).bind fun c => (slimX E a).bind fun a => (slimX E b).map fun b => .pick c a b
  | .alloc t => (zeroT E.P t).bind fun z => (allocRow E t z).map fun row => .new row
  | .box _ x => (slimX E x).map fun x => .box (ra.imm.elem i) x
  | .build t ps => (slimXP E ps.toList).bind fun ps => (zeroT E.P t).bind fun z =>
    match E.P.underlying t with
    | some (.struct fs) => (places E.P fs.toList).map fun pl => .bst (rowOf z) pl ps
    | some (.array _ e) => (szT E.P e).map fun n => .barr (rowOf z) n ps
    | _ => none
  | .buildSlice t len ps => (slimXP E ps.toList).bind fun ps =>
    match E.P.underlying t with
    | some (.slice e) => (szT E.P e).bind fun n => (zeroT E.P e).bind fun z =>
      if (rowOf z).length = n ∧ 0 < n ∧ len * n ≤ 16777216 then some (.bsl (ra.imm.elem i) n (rowOf z) len ps) else none
    | _ => none
  | .load t a => (slimX E a).bind fun a => (aggT E.P t).bind fun g => (szT E.P t).map fun n => .ld g n a
  | .store t a x => (slimX E a).bind fun a => (slimX E x).bind fun x => (szT E.P t).map fun n => .st n a x
  | .nilCheck x => (slimX E x).map .nck
  | .binOp op t x y _ => (slimX E x).bind fun u => (slimX E y).map fun v =>
    .bin op (isConst x || isConst y) (if isEq op then !(E.P.eqGuardType E.P.depth t) else false) (if isEq op then eqT E.P Op.maxDepth t else none) u v
  | .unOp op _ x => (slimX E x).map fun x => .un op x
  | .convert s d x => (slimX E x).bind fun x => slimCv E.P s d x
  | .makeInterface t x => (slimX E x).bind fun x => match E.P.underlying t with
      | some (.interface _) => none
      | some _ => some (.ifc t x)
      | none => none
  | .makeFunc (.func f) first caps => if first.isEmpty then (slimXs E caps.toList).map fun cs => .mkf f cs else none
  | .makeSlice t l c => (slimX E l).bind fun l => (slimX E c).bind fun c =>
    match E.P.underlying t with
    | some (.slice e) => (szT E.P e).bind fun n => (byT E.P e).bind fun by_ => (zeroT E.P e).bind fun z =>
      if (rowOf z).length = n ∧ 0 < n then some (.mks n by_ (rowOf z) l c) else none
    | _ => none
  | .slice t x lo hi mx => (slimX E x).bind fun x => (slimXO E lo).bind fun lo => (slimXO E hi).bind fun hi => (slimXO E mx).bind fun mx =>
    match E.P.underlying t, mx with
    | some .string, none => some (.sls x lo hi)
    | some (.slice e), mx => (szT E.P e).map fun n => .slc n x lo hi mx
    | _, _ => none
  | .fieldAddr s x f => (slimX E x).bind fun x =>
    match E.P.underlying s with
    | some (.struct fs) => (fs[f]?).bind fun fd => (szT E.P fd.type).bind fun n => if n = 0 then none else some (.fad fd.offset x)
    | _ => none
  | .field s x f => (slimX E x).bind fun x =>
    match E.P.underlying s with
    | some (.struct fs) => (fs[f]?).bind fun fd => (aggT E.P fd.type).bind fun g => (szT E.P fd.type).map fun n => .fld g n fd.offset x
    | _ => none
  | .indexAddr t x ix => (slimX E x).bind fun x => (slimX E ix).bind fun ix =>
    match E.P.underlying t with
    | some (.slice e) => (szT E.P e).map fun n => .iad n x ix
    | some (.array len e) => (szT E.P e).map fun n => .iaa len n x ix
    | _ => none
  | .index t x ix => (slimX E x).bind fun x => (slimX E ix).bind fun ix =>
    match E.P.underlying t with
    | some .string => some (.ixs x ix)
    | some (.array len e) => (aggT E.P e).bind fun g => (szT E.P e).map fun n => .ixa len g n x ix
    | _ => none
  | .extract t ix => (slimX E t).map fun x => .ext x ix
  | .panic x => (slimX E x).map .pan
  | .call c => (slimXs E c.args.toList).bind fun args => match c.callee with
      | .value f => (slimX E f).map fun f => .call f args
      | .builtin b => slimBuiltin E b c.argTypes.toList args
      | _ => none
  | _ => none
def slimG (ops : List Oper) (o : Oper) : Option (Option Nat × Bool) :=
  match o.guard with
  | none => none
  | some (j, want) => some ((ops[j]?).bind (·.dst), want)
def slimOps (E : Env) (nt : Nat) (ra : RAnn) (ops : List Oper) : List Oper → Nat → Option (List SO)
  | [], _ => some []
  | o :: rest, i => (slimOp E ra i o).bind fun so => if dstOK nt o.dst = true then (slimOps E nt ra ops rest (i + 1)).map (⟨o.dst, so, slimG ops o⟩ :: ·) else none
def slimCode (E : Env) (f nt : Nat) : Code → Option SC
  | .skip => some .skip
  | .region id ops false => (slimOps E nt (E.ann f id) ops.toList ops.toList 0).map fun l => .reg l (E.ann f id).freeze (E.ann f id).kill
  | .region id ops true => if drawOK (E.ann f id) ops = true then (slimOps E nt (E.ann f id) ops.toList ops.toList 0).map fun l => .draw l (E.ann f id).chk (E.ann f id).freeze (E.ann f id).kill else none
  | .seq a b => (slimCode E f nt a).bind fun a => (slimCode E f nt b).map fun b => .seq a b
  | .cond c a b => (slimX E c).bind fun c => (slimCode E f nt a).bind fun a => (slimCode E f nt b).map fun b => .cond c a b
  | .block id a => (slimCode E f nt a).map fun a => .block id a
  | .loop a => (slimCode E f nt a).map .loop
  | .rangeFunc g ps asg body => (slimX E g).bind fun g => (slimCode E f nt asg).bind fun a => (slimCode E f nt body).bind fun b => if ps.toList.all (fun t => decide (t < nt)) = true then some (.range g ps.toList a b) else none
  | .exit id => some (.exit id)
  | .ret => some .ret
  | _ => none
def slimRes (E : Env) : List ResultVar → Option (List SRes)
  | [] => some []
  | .tmp t :: r => (slimRes E r).map (.t t :: ·)
  | .cell a t :: r => (aggT E.P t).bind fun g => (szT E.P t).bind fun n => (slimRes E r).map (.c a g n :: ·)
def slimFn (E : Env) (f : Nat) (fn : Func) : Option SFun :=
  fn.body.bind fun c => (slimCode E f fn.ntmps c).bind fun c => (slimRes E fn.results.toList).bind fun rs => if (fn.name == "runtime.NumGoroutine") = true then none else some ⟨fn.ntmps, c, rs, E.drop f⟩

/-! ### The evaluator -/
def wantedS (fr : Fr) : Option (Option Nat × Bool) → Option Bool
  | none => some true
  | some (none, _) => some false
  | some (some d, want) =>
    match fr.get d with
    | some (.bool b) => some (b == want)
    | some (.tup _) => some false
    | _ => none
def stepS (cf : CallF) (o : SO) (fr : Fr) (H : AHeap) : Option (Option AV × Fr × AHeap) :=
  (wantedS fr o.g).bind fun w =>
    if w = true then
      (execS fr H o.op).bind fun r => match r with
        | .val v H' => some (none, fr.putO o.dst v, H')
        | .skip H' => some (none, fr.putO o.dst (.tup []), H')
        | .call f args => (cf f args H).bind fun r => match r.1 with
            | .ret v => some (none, fr.putO o.dst v, r.2)
            | .pan v => some (some v, fr, r.2)
        | .pan v => some (some v, fr, H)
        | .dfr _ _ => none
    else some (none, fr.putO o.dst (.tup []), H)
def runS (cf : CallF) : List SO → Fr → AHeap → Option (Ex × Fr × AHeap)
  | [], fr, H => some (.normal, fr, H)
  | o :: rest, fr, H => (stepS cf o fr H).bind fun r => match r.1 with
      | none => runS cf rest r.2.1 r.2.2
      | some v => some (.pan v, r.2.1, r.2.2)
def stepSV (cf : CallF) (o : SO) (fr : Fr) (H : AHeap) : Option (AV × AHeap) :=
  (wantedS fr o.g).bind fun w =>
    if w = true then
      (execS fr H o.op).bind fun r => match r with
        | .val v H' => some (v, H')
        | .skip H' => some (.tup [], H')
        | .call f args => (cf f args H).bind fun r => match r.1 with
            | .ret v => some (v, r.2)
            | .pan _ => none
        | .pan _ => none
        | .dfr _ _ => none
    else some (.tup [], H)
structure SRec where
  pre : Fr
  val : AV
  post : AHeap
def drawS (cf : CallF) : List SO → Fr → AHeap → Option (List SRec × Fr × AHeap)
  | [], fr, H => some ([], fr, H)
  | o :: rest, fr, H => (stepSV cf o fr H).bind fun r =>
    (drawS cf rest (fr.putO o.dst r.1) r.2).map fun q => (⟨fr, r.1, r.2⟩ :: q.1, q.2)
def heapBehindS (recs : List SRec) (H : AHeap) : Nat → Option AHeap
  | 0 => some H
  | e + 1 => (recs[e]?).map (·.post)
def lookS (cf : CallF) (ops : List SO) (recs : List SRec) (H : AHeap) : List (Nat × Nat) → Bool
  | [] => true
  | (p, e) :: r =>
    match recs[p]?, ops[p]?, heapBehindS recs H e with
    | some d, some o, some He => match stepSV cf o d.pre He with
      | some q => AV.beq q.1 d.val && lookS cf ops recs H r
      | none => false
    | _, _, _ => false
def finishS (freeze kill : List Nat) (fr : Fr) (H : AHeap) : Fr × AHeap :=
  let p := freezeFr freeze fr H
  (p.1.drop kill, p.2)

/-- A loop, round by round. -/
def iter (body : St → Option (Ex × St)) : Nat → St → Option (Ex × St)
  | 0, _ => none
  | n + 1, s => (body s).bind fun r => match r.1 with
      | .normal => iter body n r.2
      | e => some (e, r.2)

/-- What the pending jump of a range over a function does. -/
def jumpEx : Option Code → Option Ex
  | none => some .normal
  | some .ret => some .ret
  | some (.exit id) => some (.exit id)
  | _ => none
def evalCode (cf : CallF) (k : Nat) (f nt : Nat) (rd : Bool) : SC → St → Option (Ex × St)
  | .skip, s => some (.normal, s)
  | .reg ops fz kl, s =>
    (runS cf ops s.fr s.H).map fun r =>
      match r.1 with
      | .normal => let p := finishS fz kl r.2.1 r.2.2; (.normal, { s with fr := p.1, H := p.2 })
      | e => (e, { s with fr := r.2.1, H := r.2.2 })
  | .draw ops chk fz kl, s =>
    (drawS cf ops s.fr s.H).bind fun q => if lookS cf ops q.1 s.H chk = true then
      let p := finishS fz kl q.2.1 q.2.2; some (.normal, { s with fr := p.1, H := p.2 }) else none
  | .seq a b, s => (evalCode cf k f nt rd a s).bind fun r => match r.1 with
      | .normal => evalCode cf k f nt rd b r.2
      | e => some (e, r.2)
  | .cond c x y, s => (evX s.fr c).bind fun v => match v with
      | .bool b => if b = true then evalCode cf k f nt rd x s else evalCode cf k f nt rd y s
      | _ => none
  | .block id c, s => (evalCode cf k f nt rd c s).map fun r => match r.1 with
      | .exit id' => if id' = id then (.normal, r.2) else (.exit id', r.2)
      | e => (e, r.2)
  | .loop c, s => iter (evalCode cf k f nt rd c) k s
  | .range g ps asg body, s =>
    if rd = true then none else
    (evX s.fr g).bind fun fv => match fv with
      | .fn gf caps =>
          let id := s.H.next
          (cf (.fn gf caps) [.yld (id + 1)] ((s.H.add .dfr).add (.loop .ready none f nt s.fr ps asg body))).bind fun r => match r.1 with
            | .ret _ => match r.2.get (id + 1) with
                | some (.loop st pend _ _ _ _ _ _) => if st = .busy then none else
                    (jumpEx pend).map fun e => (e, { fr := s.fr, H := r.2.free (id + 1), df := .mark id :: s.df })
                | _ => none
            | .pan _ => none
      | _ => none
  | .exit id, s => some (.exit id, s)
  | .ret, s => some (.ret, s)

def resultsOf (fr : Fr) (H : AHeap) : List SRes → Option (List AV)
  | [] => some []
  | .t t :: r => (fr.get t).bind fun v => (resultsOf fr H r).map (v :: ·)
  | .c a g n :: r => (fr.get a).bind fun p => ((rowAt H p).bind fun r => cut g n r.2 r.1).bind fun v => (resultsOf fr H r).map (v :: ·)
def packR : List AV → AV
  | [v] => v
  | vs => .tup vs
/-- The marks of ranges over functions are struck; there is no deferred call. -/
def leave : List DI → AHeap → Option AHeap
  | [], H => some H
  | .mark id :: r, H => match H.get id with
      | some .dfr => leave r (H.free id)
      | _ => none
  | .call _ _ _ :: _, _ => none
abbrev ExtF := Nat → Option (List AV → AHeap → Option (FR × AHeap))
def putAll : Fr → List Nat → List AV → Fr
  | fr, t :: ts, x :: xs => putAll (fr.put t x) ts xs
  | fr, _, _ => fr
/-- The functions: those that are evaluated; those that are known by what they come to. -/
structure SEnv where
  funs : Nat → Option SFun
  ext : ExtF
def endFn (dr : Bool) (nx : Nat) (res : List SRes) (r : Ex × St) : Option (FR × AHeap) :=
  (leave r.2.df r.2.H).bind fun H' => match r.1 with
    | .normal => (resultsOf r.2.fr H' res).map fun vs => (.ret (packR vs), dropH dr nx (packR vs) H')
    | .ret => (resultsOf r.2.fr H' res).map fun vs => (.ret (packR vs), dropH dr nx (packR vs) H')
    | .pan v => some (.pan v, H')
    | .exit _ => none
def evalFn (S : SEnv) : Nat → CallF
  | 0, _, _, _ => none
  | n + 1, .fn g caps, args, H =>
    match S.ext g with
    | some e => e (args ++ caps) H
    | none =>
      (S.funs g).bind fun fn =>
        if (args ++ caps).length ≤ fn.nt then
          (evalCode (evalFn S n) n g fn.nt false fn.code { fr := Fr.ofArgs 0 (args ++ caps), H := H, df := [] }).bind (endFn fn.dr H.next fn.res)
        else none
  | n + 1, .yld l, args, H =>
    match H.get l with
    | some (.loop .ready pend f nt fr ps asg body) =>
      if ps.length = args.length then
        (evalCode (evalFn S n) n f nt true asg { fr := putAll fr ps args, H := H, df := [] }).bind fun r =>
          match r.1, r.2.df, r.2.H.get l with
          | .normal, [], some (.loop .ready pend' f' nt' fr' ps' asg' body') =>
            (evalCode (evalFn S n) n f nt true body { r.2 with H := r.2.H.set l (.loop .busy pend' f' nt' fr' ps' asg' body') }).bind fun q =>
              match q.2.df, q.2.H.get l with
              | [], some (.loop .busy _ f2 nt2 fr2 ps2 asg2 body2) =>
                match q.1 with
                | .normal => some (.ret (.bool true), q.2.H.set l (.loop .ready none f2 nt2 fr2 ps2 asg2 body2))
                | .ret => some (.ret (.bool false), q.2.H.set l (.loop .done (some .ret) f2 nt2 fr2 ps2 asg2 body2))
                | .exit id => some (.ret (.bool false), q.2.H.set l (.loop .done (some (.exit id)) f2 nt2 fr2 ps2 asg2 body2))
                | .pan _ => none
              | _, _ => none
          | _, _, _ => none
      else none
    | _ => none
  | _, _, _, _ => none
end Go.AM
