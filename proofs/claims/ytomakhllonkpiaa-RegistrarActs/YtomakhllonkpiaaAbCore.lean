/-
  A small abstract machine over the model's operations, with a calculus of weakest preconditions and an evaluator.
  Conditions: none. Immutable slices are plain lists; memory that the call made itself lies in an abstract heap.
-/
import GoSem.Step
namespace Go.Ab

/-- Abstract values. -/
inductive AV where
  | undef
  | int (k : IntKind) (n : Int)
  | bool (b : Bool)
  | str (s : List UInt8)
  | nilp
  | ptr (r g i j : Nat)
  | iptr (rows : List (List AV)) (i j : Nat)
  | nils
  | slice (r g i n : Nat)
  | islice (rows : List (List AV))
  | agg (cells : List AV)
  | tup (vs : List AV)
  | func (f : Nat) (first captured : List AV)
  | nilf
  | nilmap
  | map (r : Nat)
  /-- The function that a loop over an iterator hands to it; its record lies in block r. -/
  | yld (r : Nat)
  | iface (t : Nat) (v : AV)
  | nilI
  deriving Inhabited

abbrev Row := List AV

inductive ABlk where
  | rows (g s : Nat) (rs : List Row)
  | map (es : List (AV × AV × Nat)) (clock : Nat)
  /-- The record of a loop over an iterator, and the variables that its rounds begin with. -/
  | lrec (vs : List (Nat × AV)) (l : Go.Loop)
  | gone
  deriving Inhabited

abbrev Heap := List ABlk
abbrev Env := List (Nat × AV)

def Env.get : Env → Nat → AV
  | [], _ => .undef
  | (s, v) :: σ, t => if s = t then v else Env.get σ t

def Env.keep (ks : List Nat) (σ : Env) : Env := ks.map fun k => (k, σ.get k)

inductive Opd where
  | tmp (t : Nat)
  | lit (v : AV)
  deriving Inhabited

def Opd.ev (σ : Env) : Opd → AV
  | .tmp t => σ.get t
  | .lit v => v

/-- What a '==' is asked of. -/
inductive TK where
  | other | bool | slice | pointer | map | func | flat (ks : List Nat)
  deriving DecidableEq, Inhabited

inductive MOp where
  | mv (x : Opd)
  | pick (c a b : Opd)
  | box (cells : Nat) (x : Opd)
  | zbox (z : Row)
  | build (z : Row) (parts : List (Nat × Nat × Opd))
  | mkslice (z : Row) (n : Nat) (parts : List (Nat × Opd))
  | mkfrz (z : Row) (n : Nat) (parts : List (Nat × Opd))
  | load (agg : Option Nat) (a : Opd)
  | store (sz : Nat) (a v : Opd)
  | nilchk (x : Opd)
  | bin (op : BinOp) (t : TK) (x y : Opd)
  | un (op : UnOp) (x : Opd)
  | conv (k : IntKind) (x : Opd)
  | ofstr (x : Opd)
  | tostr (x : Opd)
  | strid (x : Opd)
  | slid (x : Opd)
  | make (z : Row) (bytes : Nat) (l c : Opd)
  | slc (sz : Nat) (x : Opd) (lo hi mx : Option Opd)
  | sslc (x : Opd) (lo hi : Option Opd)
  | faddr (off : Nat) (x : Opd)
  | fld (off : Nat) (agg : Option Nat) (x : Opd)
  | iaddr (sz : Nat) (x ix : Opd)
  | aaddr (len sz : Nat) (x ix : Opd)
  | sidx (x ix : Opd)
  | aidx (len sz : Nat) (agg : Bool) (x ix : Opd)
  | mkmap
  | look (kk : Nat) (z : AV) (ok : Bool) (m k : Opd)
  | mupd (kk : Nat) (m k v : Opd)
  | ext (i : Nat) (x : Opd)
  | mkfn (f : Nat) (first captured : List Opd)
  | len (k : Nat) (x : Opd)
  | append (sz bytes : Nat) (s x : Opd)
  | copy (sz : Nat) (d s : Opd)
  | minmax (max : Bool) (x : Opd) (xs : List Opd)
  | call (f : Nat) (args : List Opd)
  | callv (x : Opd) (args : List Opd)
  deriving Inhabited

structure MOper where
  op : MOp
  guard : Option (Nat × Bool)
  dst : Option Nat
  reads : List Nat
  deriving Inhabited

inductive MCode where
  | skip
  | region (ops : List MOper) (keep : List Nat)
  | dregion (u t : List MOper) (fl : List (List MOper)) (keep : List Nat)
  | seq (a b : MCode)
  | cond (c : Opd) (thn els : MCode)
  | block (id : Nat) (body : MCode)
  | loop (keep : List Nat) (body : MCode)
  | scope (body : MCode)
  | exit (id : Nat)
  | ret
  | conv
  /-- A loop over an iterator: its value; the loop's variables; what is done ahead of a round; the body; the iterator's number, slots and code; what lives on. -/
  | rangef (x : Opd) (ps : List Nat) (as bd : MCode) (g np : Nat) (it : MCode) (keep : List Nat)
  deriving Inhabited

inductive MRes where
  | tmp (t : Nat)
  | cell (t : Nat) (agg : Option Nat)
  deriving Inhabited

structure MFunc where
  nparams : Nat
  results : List MRes
  body : MCode
  deriving Inhabited

/-! ### arithmetic -/
def wrp : IntKind → Int → Int
  | .u8, n => n % 256
  | .u16, n => n % 65536
  | .u32, n => n % 4294967296
  | .u64, n => n % 18446744073709551616
  | .i8, n => (n + 128) % 256 - 128
  | .i16, n => (n + 32768) % 65536 - 32768
  | .i32, n => (n + 2147483648) % 4294967296 - 2147483648
  | .i64, n => (n + 9223372036854775808) % 18446744073709551616 - 9223372036854775808

def toU : IntKind → Int → Nat
  | .u8, n | .i8, n => (n % 256).toNat
  | .u16, n | .i16, n => (n % 65536).toNat
  | .u32, n | .i32, n => (n % 4294967296).toNat
  | .u64, n | .i64, n => (n % 18446744073709551616).toNat

def mask : IntKind → Nat
  | .u8 | .i8 => 255
  | .u16 | .i16 => 65535
  | .u32 | .i32 => 4294967295
  | .u64 | .i64 => 18446744073709551615

def bitsOf : IntKind → Nat
  | .u8 | .i8 => 8
  | .u16 | .i16 => 16
  | .u32 | .i32 => 32
  | .u64 | .i64 => 64

def req (p : Prop) [Decidable p] {α : Type} (x : Option α) : Option α := if p then x else none

def binI (op : BinOp) (k : IntKind) (x y : Int) : Option AV :=
  match op with
  | .add => some (.int k (wrp k (x + y)))
  | .sub => some (.int k (wrp k (x - y)))
  | .mul => some (.int k (wrp k (x * y)))
  | .quo => req (y ≠ 0) (some (.int k (wrp k (x.tdiv y))))
  | .rem => req (y ≠ 0) (some (.int k (x.tmod y)))
  | .and => some (.int k (wrp k ((toU k x &&& toU k y : Nat) : Int)))
  | .or => some (.int k (wrp k ((toU k x ||| toU k y : Nat) : Int)))
  | .xor => some (.int k (wrp k ((toU k x ^^^ toU k y : Nat) : Int)))
  | .andNot => some (.int k (wrp k ((toU k x &&& (toU k y ^^^ mask k) : Nat) : Int)))
  | .eql => some (.bool (decide (x = y)))
  | .neq => some (.bool (!decide (x = y)))
  | .lss => some (.bool (decide (x < y)))
  | .leq => some (.bool (decide (x ≤ y)))
  | .gtr => some (.bool (decide (y < x)))
  | .geq => some (.bool (decide (y ≤ x)))
  | .shl | .shr => none

def shI (op : BinOp) (k : IntKind) (x y : Int) : Option AV :=
  req (0 ≤ y) (match op with
  | .shl => some (.int k (wrp k (x * ((2 ^ (min y.toNat (bitsOf k)) : Nat) : Int))))
  | .shr => some (.int k (x / ((2 ^ (min y.toNat (bitsOf k)) : Nat) : Int)))
  | _ => none)

def strLess : List UInt8 → List UInt8 → Bool
  | _, [] => false
  | [], _ :: _ => true
  | a :: x, b :: y => a < b || (a == b && strLess x y)

def strOp (op : BinOp) (x y : List UInt8) : Option AV :=
  match op with
  | .add => req (x.length + y.length ≤ 9223372036854775807) (some (.str (x ++ y)))
  | .eql => some (.bool (decide (x = y)))
  | .neq => some (.bool (!decide (x = y)))
  | .lss => some (.bool (strLess x y))
  | .leq => some (.bool (strLess x y || decide (x = y)))
  | .gtr => some (.bool !(strLess x y || decide (x = y)))
  | .geq => some (.bool !strLess x y)
  | _ => none

/-- Two cells of plain data, of the kind 0 (integers), 1 (bool), 2 (strings). -/
def cellEq : Nat → AV → AV → Option Bool
  | 0, .int k x, .int k' y => if k = k' then some (decide (x = y)) else none
  | 1, .bool x, .bool y => some (x == y)
  | 2, .str x, .str y => some (decide (x = y))
  | _, _, _ => none

def cellsEq : List Nat → List AV → List AV → Option Bool
  | [], [], [] => some true
  | k :: ks, x :: xs, y :: ys => (cellEq k x y).bind fun a => (cellsEq ks xs ys).bind fun b => some (a && b)
  | _, _, _ => none

/-- Equality by the kind of the type. -/
def eqAV : TK → AV → AV → Option Bool
  | .bool, .bool a, .bool b => some (a == b)
  | .slice, .nils, .nils => some true
  | .slice, .nils, .slice .. | .slice, .slice .., .nils => some false
  | .slice, .nils, .islice (_ :: _) | .slice, .islice (_ :: _), .nils => some false
  | .pointer, .nilp, .nilp => some true
  | .pointer, .nilp, .ptr .. | .pointer, .ptr .., .nilp => some false
  | .pointer, .nilp, .iptr .. | .pointer, .iptr .., .nilp => some false
  | .map, .nilmap, .nilmap => some true
  | .map, .nilmap, .map _ | .map, .map _, .nilmap => some false
  | .func, .nilf, .nilf => some true
  | .func, .nilf, .func .. | .func, .func .., .nilf => some false
  | .flat ks, .agg a, .agg b => cellsEq ks a b
  | _, _, _ => none

def binAV (op : BinOp) (t : TK) (x y : AV) : Option AV :=
  match x, y with
  | .int k a, .int k' b =>
    match op with
    | .shl | .shr => shI op k a b
    | _ => if k = k' then binI op k a b else none
  | .str a, .str b => strOp op a b
  | x, y =>
    match op with
    | .eql => (eqAV t x y).bind fun b => some (.bool b)
    | .neq => (eqAV t x y).bind fun b => some (.bool !b)
    | _ => none

def unAV (op : UnOp) (x : AV) : Option AV :=
  match op, x with
  | .neg, .int k n => some (.int k (wrp k (0 - n)))
  | .xor, .int k n => some (.int k (wrp k ((toU k n ^^^ mask k : Nat) : Int)))
  | .not, .bool b => some (.bool !b)
  | _, _ => none

/-! ### memory -/
/-- A value that one cell holds. -/
def AV.sc : AV → Bool
  | .undef | .agg _ | .tup _ => false
  | _ => true

def okRow (row : Row) : Bool := row.all AV.sc

def AV.cells : AV → Row
  | .agg cs => cs
  | v => [v]

/-- A part of a row: one cell, or n of them as an aggregate. -/
def cut (row : Row) (j : Nat) : Option Nat → Option AV
  | none => row[j]?
  | some n => req (j + n ≤ row.length) (some (.agg ((row.drop j).take n)))

def Heap.row (H : Heap) (r g i : Nat) : Option Row :=
  match H[r]? with
  | some (.rows g' _ rs) => if g = g' then rs[i]? else none
  | _ => none

def Heap.rowsOf (H : Heap) (r g : Nat) : Option (List Row) :=
  match H[r]? with
  | some (.rows g' _ rs) => if g = g' then some rs else none
  | _ => none

def Heap.blkOf (H : Heap) (r g : Nat) : Option (Nat × List Row) :=
  match H[r]? with
  | some (.rows g' s rs) => if g = g' then some (s, rs) else none
  | _ => none

def loadAV (H : Heap) (agg : Option Nat) : AV → Option AV
  | .ptr r g i j => (H.row r g i).bind fun row => cut row j agg
  | .iptr rows i j => rows[i]?.bind fun row => cut row j agg
  | _ => none

def splice (row : Row) (j : Nat) (cs : Row) : Row := row.take j ++ cs ++ row.drop (j + cs.length)

def storeAV (H : Heap) (sz : Nat) (a v : AV) : Option Heap :=
  match a with
  | .ptr r g i j =>
    (H.blkOf r g).bind fun b => b.2[i]?.bind fun row =>
      req (v.cells.length = sz ∧ j + sz ≤ row.length ∧ okRow v.cells = true) (some (H.set r (.rows g b.1 (b.2.set i (splice row j v.cells)))))
  | _ => none

/-- The rows that a slice shows. -/
def elems (H : Heap) : AV → Option (List Row)
  | .nils => some []
  | .islice rows => some rows
  | .slice r g i n => (H.rowsOf r g).bind fun rs => req (i + n ≤ rs.length) (some ((rs.drop i).take n))
  | .str s => some (s.map fun b => [.int .u8 b.toNat])
  | _ => none

/-- The length of a string (0), a slice (1), a map (2). -/
def lenAV (H : Heap) : Nat → AV → Option Nat
  | 0, .str s => some s.length
  | 1, .nils => some 0
  | 1, .islice rows => some rows.length
  | 1, .slice _ _ _ n => some n
  | 2, .nilmap => some 0
  | 2, .map r => match H[r]? with
    | some (.map es _) => some es.length
    | _ => none
  | _, _ => none

def iaddrAV (H : Heap) (sz : Nat) (x : AV) (n : Int) : Option AV :=
  match x with
  | .slice r g i len => req (0 ≤ n ∧ n < (len : Int)) ((H.row r g (i + n.toNat)).bind fun row => req (row.length = sz) (some (.ptr r g (i + n.toNat) 0)))
  | .islice rows => req (0 ≤ n ∧ n < (rows.length : Int)) (rows[n.toNat]?.bind fun row => req (row.length = sz) (some (.iptr rows n.toNat 0)))
  | _ => none

def aaddrAV (len sz : Nat) (x : AV) (n : Int) : Option AV :=
  req (0 ≤ n ∧ n < (len : Int)) (match x with
  | .ptr r g i j => some (.ptr r g i (j + n.toNat * sz))
  | .iptr rows i j => some (.iptr rows i (j + n.toNat * sz))
  | _ => none)

def faddrAV (off : Nat) : AV → Option AV
  | .ptr r g i j => some (.ptr r g i (j + off))
  | .iptr rows i j => some (.iptr rows i (j + off))
  | _ => none

def natOf (d : Nat) : Option AV → Option Nat
  | none => some d
  | some (.int _ n) => req (0 ≤ n) (some n.toNat)
  | _ => none

def slcAV (H : Heap) (sz : Nat) (x : AV) (lo hi mx : Option AV) : Option AV :=
  match x with
  | .nils => (natOf 0 lo).bind fun l => (natOf 0 hi).bind fun h => (natOf 0 mx).bind fun m => req (l = 0 ∧ h = 0 ∧ m = 0 ∧ (mx.isSome = true → hi.isSome = true)) (some .nils)
  | .islice rows => (natOf 0 lo).bind fun l => (natOf rows.length hi).bind fun h => (natOf rows.length mx).bind fun m =>
      req (l ≤ h ∧ h ≤ m ∧ m ≤ rows.length ∧ (mx.isSome = true → hi.isSome = true) ∧ ∀ row ∈ rows, row.length = sz) (some (.islice ((rows.drop l).take (h - l))))
  | .slice r g i n => (natOf 0 lo).bind fun l => (natOf n hi).bind fun h => (natOf n mx).bind fun m =>
      (H.blkOf r g).bind fun b => req (l ≤ h ∧ h ≤ m ∧ m ≤ n ∧ (mx.isSome = true → hi.isSome = true) ∧ b.1 = sz) (some (.slice r g (i + l) (h - l)))
  | _ => none

def sslcAV (s : List UInt8) (lo hi : Option AV) : Option AV :=
  (natOf 0 lo).bind fun l => (natOf s.length hi).bind fun h => req (l ≤ h ∧ h ≤ s.length) (some (.str ((s.drop l).take (h - l))))

def fillAV (cells : Row) : List (Nat × Nat × AV) → Option Row
  | [] => some cells
  | (off, size, v) :: rest => req (v.cells.length = size ∧ off + size ≤ cells.length ∧ okRow v.cells = true) (fillAV (splice cells off v.cells) rest)

def fillRows (rs : List Row) (sz : Nat) : List (Nat × AV) → Option (List Row)
  | [] => some rs
  | (i, v) :: rest => req (v.cells.length = sz ∧ i < rs.length ∧ okRow v.cells = true) (fillRows (rs.set i v.cells) sz rest)

def bytesOf : List Row → Option (List UInt8)
  | [] => some []
  | [.int .u8 n] :: rest => (bytesOf rest).bind fun l => some (UInt8.ofNat n.toNat :: l)
  | _ => none

/-- How much one append or make may take. -/
def roomB : Nat := 140737488355328

def appendAV (H : Heap) (sz bytes : Nat) (s x : AV) : Option (AV × Heap) :=
  (elems H x).bind fun news =>
  req (∀ row ∈ news, row.length = sz) (match s with
  | .nils => match news with
    | [] => some (.nils, H)
    | row :: rest => req ((row :: rest).length * bytes ≤ roomB) (some (.slice H.length 0 0 (row :: rest).length, H ++ [.rows 0 sz (row :: rest)]))
  | .slice r g i n => (H.blkOf r g).bind fun b =>
      req (b.1 = sz ∧ i + n ≤ b.2.length ∧ (n + news.length) * bytes ≤ roomB) (match news with
      | [] => some (.slice r g i n, H)
      | row :: rest => some (.slice r (g + 1) 0 (n + (row :: rest).length), H.set r (.rows (g + 1) sz ((b.2.drop i).take n ++ (row :: rest)))))
  | .islice rows => match news with
    | [] => some (.islice rows, H)
    | _ => none
  | _ => none)

def copyAV (H : Heap) (sz : Nat) (d s : AV) : Option (AV × Heap) :=
  (elems H s).bind fun news =>
  req (∀ row ∈ news, row.length = sz) (match d with
  | .nils => some (.int .i64 0, H)
  | .slice r g i n => (H.blkOf r g).bind fun b =>
      req (b.1 = sz ∧ i + n ≤ b.2.length) (some (.int .i64 ((min news.length n : Nat) : Int),
        H.set r (.rows g sz (b.2.take i ++ news.take (min news.length n) ++ b.2.drop (i + min news.length n)))))
  | .islice rows => match news with
    | [] => some (.int .i64 0, H)
    | _ => match rows with
      | [] => some (.int .i64 0, H)
      | _ => none
  | _ => none)

def makeAV (H : Heap) (z : Row) (bytes : Nat) (l c : AV) : Option (AV × Heap) :=
  match l, c with
  | .int _ l, .int _ c => req (0 ≤ l ∧ l ≤ c ∧ c * (bytes : Int) ≤ (roomB : Int) ∧ okRow z = true) (some (.slice H.length 0 0 l.toNat, H ++ [.rows 0 z.length (List.replicate l.toNat z)]))
  | _, _ => none

def findAV (kk : Nat) (k : AV) : List (AV × AV × Nat) → Nat → Option (Option (Nat × AV))
  | [], _ => some none
  | (k', v, _) :: es, i => (cellEq kk k k').bind fun b => if b then some (some (i, v)) else findAV kk k es (i + 1)

def lookAV (H : Heap) (kk : Nat) (z : AV) (ok : Bool) (m k : AV) : Option AV :=
  (match m with
  | .nilmap => some []
  | .map r => match H[r]? with
    | some (.map es _) => some es
    | _ => none
  | _ => none).bind fun es => (findAV kk k es 0).bind fun o =>
    match o with
    | some (_, v) => some (if ok then .tup [v, .bool true] else v)
    | none => some (if ok then .tup [z, .bool false] else z)

def mupdAV (H : Heap) (kk : Nat) (m k v : AV) : Option Heap :=
  match m with
  | .map r => match H[r]? with
    | some (.map es clock) => (findAV kk k es 0).bind fun o =>
      match o with
      | some (i, _) => some (H.set r (.map (es.modify i fun e => (k, v, e.2.2)) clock))
      | none => some (H.set r (.map (es ++ [(k, v, clock)]) (clock + 1)))
    | _ => none
  | _ => none

def mm2 (max : Bool) : AV → AV → Option AV
  | .int k x, .int k' y => req (k = k') (some (.int k (if max then (if y > x then y else x) else (if y < x then y else x))))
  | _, _ => none

def mmAV (max : Bool) (x : AV) : List AV → Option AV
  | [] => some x
  | y :: ys => (mm2 max x y).bind fun z => mmAV max z ys

def intOf : AV → Option Int
  | .int _ n => some n
  | _ => none

def cellsFit (n : Nat) (v : AV) : Option Row := req (v.cells.length = n ∧ okRow v.cells = true) (some v.cells)

/-- One operation that is no call of a Go function. -/
def stepOp (σ : Env) (H : Heap) : MOp → Option (AV × Heap)
  | .mv x => some (x.ev σ, H)
  | .pick c a b => match c.ev σ with
    | .bool t => some (if t then a.ev σ else b.ev σ, H)
    | _ => none
  | .box n x => (cellsFit n (x.ev σ)).bind fun cs => some (.ptr H.length 0 0 0, H ++ [.rows 0 cs.length [cs]])
  | .zbox z => req (okRow z = true) <| some (.ptr H.length 0 0 0, H ++ [.rows 0 z.length [z]])
  | .build z parts => (fillAV z (parts.map fun p => (p.1, p.2.1, p.2.2.ev σ))).bind fun cs => some (.agg cs, H)
  | .mkslice z n parts => req (okRow z = true) <| (fillRows (List.replicate n z) z.length (parts.map fun p => (p.1, p.2.ev σ))).bind fun rs =>
      some (.slice H.length 0 0 n, H ++ [.rows 0 z.length rs])
  | .mkfrz z n parts => req (okRow z = true) <| (fillRows (List.replicate n z) z.length (parts.map fun p => (p.1, p.2.ev σ))).bind fun rs => some (.islice rs, H)
  | .load agg a => (loadAV H agg (a.ev σ)).bind fun v => some (v, H)
  | .store sz a v => (storeAV H sz (a.ev σ) (v.ev σ)).bind fun H' => some (.undef, H')
  | .nilchk x => match x.ev σ with
    | .ptr r g i j => some (.ptr r g i j, H)
    | .iptr rows i j => some (.iptr rows i j, H)
    | .func f a b => some (.func f a b, H)
    | _ => none
  | .bin op t x y => (binAV op t (x.ev σ) (y.ev σ)).bind fun v => some (v, H)
  | .un op x => (unAV op (x.ev σ)).bind fun v => some (v, H)
  | .conv k x => (intOf (x.ev σ)).bind fun n => some (.int k (wrp k n), H)
  | .ofstr x => match x.ev σ with
    | .str s => some (.slice H.length 0 0 s.length, H ++ [.rows 0 1 (s.map fun b => [.int .u8 b.toNat])])
    | _ => none
  | .strid x => match x.ev σ with
    | .str s => some (.str s, H)
    | _ => none
  | .slid x => match x.ev σ with
    | .slice r g i n => req (0 < n) ((H.blkOf r g).bind fun _ => some (.slice r g i n, H))
    | _ => none
  | .tostr x => match x.ev σ with
    | .str _ => none
    | v => (elems H v).bind fun rs => (bytesOf rs).bind fun s => some (.str s, H)
  | .make z bytes l c => makeAV H z bytes (l.ev σ) (c.ev σ)
  | .slc sz x lo hi mx => (slcAV H sz (x.ev σ) (lo.map (·.ev σ)) (hi.map (·.ev σ)) (mx.map (·.ev σ))).bind fun v => some (v, H)
  | .sslc x lo hi => match x.ev σ with
    | .str s => (sslcAV s (lo.map (·.ev σ)) (hi.map (·.ev σ))).bind fun v => some (v, H)
    | _ => none
  | .faddr off x => (faddrAV off (x.ev σ)).bind fun v => some (v, H)
  | .fld off agg x => match x.ev σ with
    | .agg cs => (cut cs off agg).bind fun v => some (v, H)
    | _ => none
  | .iaddr sz x ix => (intOf (ix.ev σ)).bind fun n => (iaddrAV H sz (x.ev σ) n).bind fun v => some (v, H)
  | .aaddr len sz x ix => (intOf (ix.ev σ)).bind fun n => (aaddrAV len sz (x.ev σ) n).bind fun v => some (v, H)
  | .sidx x ix => (intOf (ix.ev σ)).bind fun n => match x.ev σ with
    | .str s => req (0 ≤ n) (s[n.toNat]?.bind fun b => some (.int .u8 b.toNat, H))
    | _ => none
  | .aidx len sz agg x ix => (intOf (ix.ev σ)).bind fun n => match x.ev σ with
    | .agg cs => req (0 ≤ n ∧ n < (len : Int)) ((cut cs (n.toNat * sz) (if agg then some sz else none)).bind fun v => some (v, H))
    | _ => none
  | .mkmap => some (.map H.length, H ++ [.map [] 0])
  | .look kk z ok m k => (lookAV H kk z ok (m.ev σ) (k.ev σ)).bind fun v => some (v, H)
  | .mupd kk m k v => (mupdAV H kk (m.ev σ) (k.ev σ) (v.ev σ)).bind fun H' => some (.undef, H')
  | .ext i x => match x.ev σ with
    | .tup vs => vs[i]?.bind fun v => some (v, H)
    | _ => none
  | .mkfn f first captured => some (.func f (first.map (·.ev σ)) (captured.map (·.ev σ)), H)
  | .len k x => (lenAV H k (x.ev σ)).bind fun n => some (.int .i64 (n : Int), H)
  | .append sz bytes s x => appendAV H sz bytes (s.ev σ) (x.ev σ)
  | .copy sz d s => copyAV H sz (d.ev σ) (s.ev σ)
  | .minmax mx x xs => (mmAV mx (x.ev σ) (xs.map (·.ev σ))).bind fun v => some (v, H)
  | .call .. | .callv .. => none

/-! ### the calculus -/
/-- What a call may come to. -/
abbrev CallR := Nat → List AV → Heap → AV → Heap → Prop

def W {α : Type} (x : Option α) (K : α → Prop) : Prop := ∃ a, x = some a ∧ K a

def wpOp (C : CallR) (σ : Env) (H : Heap) (op : MOp) (K : AV → Heap → Prop) : Prop :=
  match op with
  | .call f args => ∃ v H', C f (args.map (·.ev σ)) H v H' ∧ K v H'
  | .callv x args => match x.ev σ with
    | .func f first cap => f ≠ 0 ∧ ∃ v H', C f (first ++ args.map (·.ev σ) ++ cap) H v H' ∧ K v H'
    | .yld r => ∃ v H', C 0 (.yld r :: args.map (·.ev σ)) H v H' ∧ K v H'
    | _ => False
  | op => W (stepOp σ H op) fun p => K p.1 p.2

def Env.put (σ : Env) (dst : Option Nat) (v : AV) : Env :=
  match dst with
  | some d => (d, v) :: σ
  | none => σ

/-- What a guard decides: where the asked operation was itself skipped (the empty tuple), this one is skipped too. -/
def gdP (v : AV) (pol : Bool) (A B : Prop) : Prop := (v = .tup [] ∧ B) ∨ ∃ b, v = .bool b ∧ (b = pol → A) ∧ (b = !pol → B)

theorem gdP_mono {v : AV} {pol : Bool} {A A' B B' : Prop} (h : gdP v pol A B) (ha : A → A') (hb : B → B') : gdP v pol A' B' := by
  rcases h with ⟨h1, h2⟩ | ⟨b, h1, h2, h3⟩
  · exact .inl ⟨h1, hb h2⟩
  · exact .inr ⟨b, h1, fun e => ha (h2 e), fun e => hb (h3 e)⟩

def wpOps (C : CallR) : List MOper → Env → Heap → (Env → Heap → Prop) → Prop
  | [], σ, H, K => K σ H
  | o :: os, σ, H, K =>
    match o.guard with
    | none => wpOp C σ H o.op fun v H' => wpOps C os (σ.put o.dst v) H' K
    | some (t, pol) => gdP (σ.get t) pol (wpOp C σ H o.op fun v H' => wpOps C os (σ.put o.dst v) H' K) (wpOps C os (σ.put o.dst (.tup [])) H K)

/-- Operations in whatever order: each leaves what was there as it was. -/
def wpU (C : CallR) : List MOper → Env → Heap → (Env → Heap → Prop) → Prop
  | [], σ, H, K => K σ H
  | o :: os, σ, H, K =>
    match o.guard with
    | none => wpOp C (σ.keep o.reads) H o.op fun v H' => (∃ N, H' = H ++ N) ∧ wpU C os (σ.put o.dst v) H' K
    | some (t, pol) => gdP (σ.get t) pol (wpOp C (σ.keep o.reads) H o.op fun v H' => (∃ N, H' = H ++ N) ∧ wpU C os (σ.put o.dst v) H' K) (wpU C os (σ.put o.dst (.tup [])) H K)

/-- These loads give here what they gave. -/
def flOk (fl : List MOper) (σ : Env) (H : Heap) : Prop := ∀ o ∈ fl, ∃ d agg a, o.dst = some d ∧ o.op = .load agg a ∧ loadAV H agg (a.ev (σ.keep o.reads)) = some (σ.get d)

/-- Operations in their order, each seeing what it reads alone; ahead of each, and behind the last, the loads that may still be to come are told. -/
def wpT (C : CallR) : List (List MOper) → List MOper → Env → Heap → (Env → Heap → Prop) → Prop
  | fl, [], σ, H, K => flOk (fl.headD []) σ H ∧ K σ H
  | fl, o :: os, σ, H, K => flOk (fl.headD []) σ H ∧
    match o.guard with
    | none => wpOp C (σ.keep o.reads) H o.op fun v H' => wpT C fl.tail os (σ.put o.dst v) H' K
    | some (t, pol) => gdP (σ.get t) pol (wpOp C (σ.keep o.reads) H o.op fun v H' => wpT C fl.tail os (σ.put o.dst v) H' K) (wpT C fl.tail os (σ.put o.dst (.tup [])) H K)

/-- An unguarded load. -/
def isLd (o : MOper) : Bool :=
  match o.op, o.guard, o.dst with
  | .load .., none, some _ => true
  | _, _, _ => false

/-- Operations that neither look at the heap nor change it. -/
def floats : MOp → Bool
  | .mv _ | .pick .. | .bin .. | .un .. | .conv .. | .strid _ | .sslc .. | .fld .. | .sidx .. | .aidx .. | .ext .. | .minmax .. | .faddr .. | .nilchk _ | .mkfn .. => true
  | _ => false

inductive Ex where
  | normal
  | exit (id : Nat)
  | ret
  deriving DecidableEq, Inhabited

/-- A frame's first slots. -/
def envOf : List AV → Nat → Env
  | [], _ => []
  | a :: as, i => (i, a) :: envOf as (i + 1)

end Go.Ab
