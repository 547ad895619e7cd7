/-
  AN ABSTRACT MACHINE OVER TREE DATA for the Go model's Code: data (D), an annotated form of a function's text (IFunc), and what it computes (evT by fuel).
  A slice that is not written any more is an inline list; a struct local lives in the frame; only what is captured, escapes or grows lies in the small heap St.
  No condition: these are definitions.
-/
import Derived.Orders
namespace Go.Nt
open Go

/-- Data. 'hp': a pointer into the small heap; 'lp': a pointer to a box of the frame; 'rs': a slice over an object of the small heap; 'sl': an inline slice; 'iptr': a pointer to what is not written any more. -/
inductive D where
  | bool (b : Bool)
  | int (k : IntKind) (n : Int)
  | str (s : List UInt8)
  | agg (cs : List D)
  | tup (ds : List D)
  | nilp
  | iptr (d : D)
  | hp (id ver sz idx off : Nat)
  | lp (b g off : Nat)
  | nils
  | sl (sz : Nat) (full : Bool) (ds : List D)
  | rs (id ver sz off len : Nat) (full : Bool)
  | nilf
  | fn (f : Nat) (first cap : List D)
  | nilm
  | mp (id : Nat)
  | nili
  | ifc (t : Nat) (d : D)
  deriving Inhabited

abbrev D.undef : D := .tup []
abbrev D.i (n : Int) : D := .int .i64 n

/-- The cells of a datum. -/
def D.cells : D → List D
  | .agg cs => cs
  | d => [d]

/-- One cell's datum that leads neither into the heap nor into a frame. -/
def D.pure0 : D → Bool
  | .hp .. | .lp .. | .rs .. | .mp _ | .agg _ | .tup _ | .ifc .. => false
  | .fn _ first cap => first.isEmpty && cap.isEmpty
  | _ => true
/-- A cell's datum; a function value may have bound and captured such. -/
def D.pureF : D → Bool
  | .agg cs => cs.all D.pure0
  | d => d.pure0
def D.pure1 : D → Bool
  | .fn _ first cap => first.all D.pureF && cap.all D.pure0
  | d => d.pure0
def D.pure : D → Bool
  | .agg cs => cs.all D.pure1
  | d => d.pure1
def D.pureT : D → Bool
  | .tup ds => ds.all D.pure
  | d => d.pure

/-- An object of the small heap: cells (a box, or the elements of a growing or written slice), or a map. -/
inductive Ob where
  | cells (box : Bool) (sz ver mod : Nat) (frozen : Bool) (elems : List D)
  | map (mod : Nat) (ents : List (D × D))
  deriving Inhabited

def Ob.mod : Ob → Nat
  | .cells _ _ _ m _ _ => m
  | .map m _ => m
def Ob.ver : Ob → Nat
  | .cells _ _ v _ _ _ => v
  | .map .. => 0
def Ob.live : Ob → Bool
  | .cells _ _ _ _ fr _ => !fr
  | .map .. => true

abbrev St := List Ob

/-- Lists as memory of slots: what lies beyond reads as 'undef'. -/
def get (l : List D) (i : Nat) : D := l.getD i .undef
def put : List D → Nat → D → List D
  | [], 0, d => [d]
  | [], i + 1, d => .undef :: put [] i d
  | _ :: l, 0, d => d :: l
  | x :: l, i + 1, d => x :: put l i d

/-- The frame: slots, and boxes (their generation, their cells; boxes are numbered by the slot of their pointer). -/
structure Fr where
  s : List D
  b : List (Nat × List D)
  deriving Inhabited

def getB (l : List (Nat × List D)) (i : Nat) : Nat × List D := l.getD i (0, [])
def putB : List (Nat × List D) → Nat → Nat × List D → List (Nat × List D)
  | [], 0, d => [d]
  | [], i + 1, d => (0, []) :: putB [] i d
  | _ :: l, 0, d => d :: l
  | x :: l, i + 1, d => x :: putB l i d

inductive Opd where
  | t (n : Nat)
  | c (d : D)
  | f (n : Nat)
  deriving Inhabited

/-- The kinds of conversion. -/
inductive Cv where
  | int (k : IntKind)
  | strbytes
  | bytesstr
  | same
  deriving Inhabited

/-- The kinds of things that are compared with nil, or truths. -/
inductive Kd where
  | bool | ptr | slice | func | map | str | int
  deriving DecidableEq, Inhabited

/-- An operation. Sizes are resolved; 'n : none': one cell; 'n : some k': a struct or an array of k cells. 'l' of a load or a store: the frame's box that it reads or writes (none: it is none of the frame's). 'q' of a read: it may not touch the small heap. -/
inductive Io where
  | mv (d : Nat) (x : Opd)
  | mvn
  | pick (d : Nat) (c a b : Opd)
  | boxL (d : Nat) (n : Nat) (x : Option Opd) (zero : List D)
  | boxH (d : Nat) (n : Option Nat) (x : Opd)
  | boxI (d : Nat) (n : Option Nat) (x : Opd)
  | build (d : Nat) (zero : List D) (ps : List (Nat × Nat × Opd))
  | bsl (d : Nat) (sz : Nat) (agg : Bool) (xs : List Opd)
  | bslH (d : Nat) (sz : Nat) (agg : Bool) (xs : List Opd)
  | load (d : Nat) (p : Opd) (n : Option Nat) (l : Option Nat) (q : Bool)
  | store (p : Opd) (x : Opd) (n : Nat) (l : Option Nat)
  | storeX (box : Bool) (p : Opd) (x : Opd) (n : Nat)
  | nilc (d : Option Nat) (x : Opd)
  | bin (d : Nat) (op : BinOp) (x y : Opd)
  | eqn (d : Nat) (neg : Bool) (k : Kd) (x y : Opd)
  | un (d : Nat) (op : UnOp) (x : Opd)
  | conv (d : Nat) (c : Cv) (x : Opd)
  | mkfn (d : Nat) (f : Nat) (first cap : List Opd)
  | fldA (d : Nat) (x : Opd) (off : Nat) (n : Option Nat)
  | fld (d : Nat) (x : Opd) (off : Nat) (n : Option Nat)
  | idxA (d : Nat) (x i : Opd) (sz : Nat) (n : Option Nat) (arr : Option Nat)
  | idx (d : Nat) (x i : Opd) (n : Option Nat) (sz : Nat) (arr : Option Nat)
  | slc (d : Nat) (s : Option Nat) (x : Opd) (lo hi mx : Option Opd)
  | ext (d : Nat) (x : Opd) (i : Nat)
  | call (d : Option Nat) (f : Nat) (xs : List Opd)
  | callQ (d : Option Nat) (f : Nat) (xs : List Opd)
  | callV (d : Option Nat) (f : Opd) (xs : List Opd)
  | len (d : Nat) (k : Kd) (x : Opd) (q : Bool)
  | app (d : Nat) (s x : Opd) (sz : Nat)
  | appT (d : Nat) (s x : Opd) (sz : Nat) (ty : Nat)
  | boxT (d : Nat) (n : Nat) (x : D) (ty : Nat)
  | mkmap (d : Nat)
  | look (d : Nat) (kk : Kd) (m k : Opd) (zero : D) (ok : Bool)
  | mupd (kk : Kd) (m k x : Opd)
  | mksl (d : Nat) (sz : Nat) (zero : D) (n c : Opd)
  | copy (d : Option Nat) (x y : Opd) (sz : Nat)
  | mm (d : Nat) (mx : Bool) (x y : Opd)
  deriving Inhabited

/-- An operation, perhaps under a guard: it runs where the slot holds that truth; else its own slot becomes 'undef'. -/
structure Gi where
  g : Option (Nat × Bool)
  io : Io
  deriving Inhabited

inductive Ic where
  | skip
  | ops (l : List Gi)
  | seq (a b : Ic)
  | cond (x : Opd) (a b : Ic)
  | block (id : Nat) (a : Ic)
  | loop (a : Ic)
  | exit (id : Nat)
  | ret
  | prim (k : Nat)
  deriving Inhabited

/-- How a call of the function is run: 'pure': all arguments freed of the heap, in an empty heap, its result freed likewise; 'pop': with the heap as it is, which is as it was behind the call; 'cut': with the heap as it is, of which only the older objects are kept behind the call, each as it was or free of the heap, the result being freed; 'raw': with the heap as it is. -/
inductive Mode where
  | pure | pop | cut | raw
  deriving DecidableEq, Inhabited

inductive Rv where
  | t (n : Nat)
  | cell (n : Nat) (sz : Option Nat) (l : Option Nat)
  deriving Inhabited

structure IFunc where
  mode : Mode
  code : Ic
  res : List Rv
  deriving Inhabited

inductive Ex where
  | normal | ret
  | exit (id : Nat)
  deriving DecidableEq, Inhabited

/-! ### Freeing a datum of the heap: what a slice over an object holds becomes an inline list, and the object is not written any more. -/

def St.at (st : St) (id : Nat) : Ob := List.getD st id (.cells true 0 0 0 true [])

def fz0 (st : St) : D → Option (D × St)
  | .rs id ver sz off len full =>
    match st.at id with
    | .cells false sz' ver' mod fr elems =>
      if ver' = ver ∧ sz' = sz ∧ off + len ≤ elems.length then
        some (.sl sz full ((elems.drop off).take len), if fr then st else List.set st id (.cells false sz ver (mod + 1) true elems)) else none
    | _ => none
  | .lp .. | .agg _ | .tup _ => none
  | d => some (d, st)
def fzL (h : St → D → Option (D × St)) : St → List D → Option (List D × St)
  | st, [] => some ([], st)
  | st, d :: ds => (h st d).bind fun r => (fzL h r.2 ds).bind fun q => some (r.1 :: q.1, q.2)
def fz1 (st : St) : D → Option (D × St)
  | .agg cs => (fzL fz0 st cs).bind fun r => some (.agg r.1, r.2)
  | d => fz0 st d
def fz (st : St) : D → Option (D × St)
  | .tup ds => (fzL fz1 st ds).bind fun r => some (.tup r.1, r.2)
  | d => fz1 st d

/-- Were the older objects left as they were? -/
def agree : St → St → Bool
  | [], _ => true
  | _ :: _, [] => false
  | o :: os, o' :: os' => o.mod == o'.mod && agree os os'

/-- An object that does not lead into the heap. -/
def Ob.pureO : Ob → Bool
  | .cells _ _ _ _ _ elems => elems.all D.pure
  | .map _ ents => ents.all fun x => x.1.pure && x.2.pure

/-- Is each older object as it was, or free of the heap? -/
def settled : St → St → Bool
  | [], _ => true
  | _ :: _, [] => false
  | o :: os, o' :: os' => (o.mod == o'.mod || o'.pureO) && settled os os'

/-! ### What operations come to -/

def Opd.ev (s : List D) : Opd → D
  | .t n => get s n
  | .c d => d
  | .f n => .fn n [] []

/-- What may leave the frame, or stand in a cell. -/
def D.okv : D → Bool
  | .lp .. | .tup _ => false
  | _ => true

/-- A part of cells. -/
def part (cs : List D) (off : Nat) : Option Nat → Option D
  | none => cs[off]?
  | some n => if off + n ≤ cs.length then some (.agg ((cs.drop off).take n)) else none

/-- A datum's own shape is that of 'n'. -/
def D.fits (d : D) (n : Option Nat) : Bool :=
  match d, n with
  | .agg cs, some n => cs.length == n
  | .agg _, none | .tup _, _ | .lp .., _ => false
  | _, none => true
  | _, some _ => false

def splice (cs : List D) (off : Nat) (xs : List D) : Option (List D) :=
  if off + xs.length ≤ cs.length then some (cs.take off ++ xs ++ cs.drop (off + xs.length)) else none

def rewrap (old : D) (cs : List D) : Option D :=
  match old with
  | .agg _ => some (.agg cs)
  | _ => match cs with
    | [d] => some d
    | _ => none

def bytesLess : List UInt8 → List UInt8 → Bool
  | _, [] => false
  | [], _ :: _ => true
  | a :: x, b :: y => a < b || (a == b && bytesLess x y)

def bitsD (op : BinOp) (k : IntKind) (x y : Int) : Option D :=
  match op with
  | .and => some (.int k (k.wrap (BitVec.ofInt k.bits x &&& BitVec.ofInt k.bits y).toNat))
  | .or => some (.int k (k.wrap (BitVec.ofInt k.bits x ||| BitVec.ofInt k.bits y).toNat))
  | .xor => some (.int k (k.wrap (BitVec.ofInt k.bits x ^^^ BitVec.ofInt k.bits y).toNat))
  | .andNot => some (.int k (k.wrap (BitVec.ofInt k.bits x &&& ~~~BitVec.ofInt k.bits y).toNat))
  | _ => none

def shiftD (op : BinOp) (k : IntKind) (x y : Int) : Option D :=
  if y < 0 then none else
  match op with
  | .shl => some (.int k (k.wrap (x * 2 ^ (min y.toNat k.bits))))
  | .shr => some (.int k (x.fdiv (2 ^ (min y.toNat k.bits))))
  | _ => none

def intD (op : BinOp) (k k' : IntKind) (a b : Int) : Option D :=
  match op with
  | .shl => shiftD .shl k a b
  | .shr => shiftD .shr k a b
  | op => if k = k' then (match op with
    | .add => some (.int k (k.wrap (a + b)))
    | .sub => some (.int k (k.wrap (a - b)))
    | .mul => some (.int k (k.wrap (a * b)))
    | .quo => if b = 0 then none else some (.int k (k.wrap (a.tdiv b)))
    | .rem => if b = 0 then none else some (.int k (a.tmod b))
    | .eql => some (.bool (a == b))
    | .neq => some (.bool (a != b))
    | .lss => some (.bool (decide (a < b)))
    | .leq => some (.bool (decide (a ≤ b)))
    | .gtr => some (.bool (decide (a > b)))
    | .geq => some (.bool (decide (a ≥ b)))
    | op => bitsD op k a b) else none

/-- The most that a string or a slice may hold here. -/
def most : Nat := 4194304

def strD (op : BinOp) (x y : List UInt8) : Option D :=
  match op with
  | .add => if x.length + y.length ≤ most then some (.str (x ++ y)) else none
  | .eql => some (.bool (x == y))
  | .neq => some (.bool !(x == y))
  | .lss => some (.bool (bytesLess x y))
  | .leq => some (.bool (bytesLess x y || x == y))
  | .gtr => some (.bool !(bytesLess x y || x == y))
  | .geq => some (.bool !(bytesLess x y))
  | _ => none

def binD (op : BinOp) (x y : D) : Option D :=
  match x, y with
  | .int k a, .int k' b => intD op k k' a b
  | .str a, .str b => strD op a b
  | _, _ => none

/-- Is a pointer, a slice, a function, a map nil? -/
def nilD (k : Kd) (d : D) : Option Bool :=
  match k, d with
  | .ptr, .nilp | .slice, .nils | .func, .nilf | .map, .nilm => some true
  | .ptr, .iptr _ | .ptr, .hp .. | .slice, .sl .. | .slice, .rs .. | .func, .fn .. | .map, .mp _ => some false
  | _, _ => none

/-- '==' of truths, or with nil. -/
def eqnD (k : Kd) (x y : D) : Option Bool :=
  match k with
  | .bool => match x, y with
    | .bool a, .bool b => some (a == b)
    | _, _ => none
  | k => match nilD k x, nilD k y with
    | some true, r => r
    | r, some true => r
    | _, _ => none

def unD (op : UnOp) (x : D) : Option D :=
  match op, x with
  | .neg, .int k n => some (.int k (k.wrap (0 - n)))
  | .xor, .int k n => bitsD .xor k (if k.signed then -1 else k.max) n
  | .not, .bool b => some (.bool !b)
  | _, _ => none

/-- The elements, of 'sz' cells, of a slice (under a heap). -/
def listD (st : St) (sz : Nat) : D → Option (List D)
  | .nils => some []
  | .sl sz' _ ds => if sz' = sz then some ds else none
  | .rs id ver sz' off len _ =>
    match st.at id with
    | .cells false sz'' ver' _ _ elems => if ver' = ver ∧ sz'' = sz' ∧ sz' = sz ∧ off + len ≤ elems.length then some ((elems.drop off).take len) else none
    | _ => none
  | _ => none

def byteD (b : UInt8) : D := .int .u8 b.toNat
def unbyte : D → Option UInt8
  | .int .u8 n => if 0 ≤ n ∧ n < 256 then some (UInt8.ofNat n.toNat) else none
  | _ => none

/-- What is appended or copied: a slice's elements, or a string's bytes. -/
def srcD (st : St) (sz : Nat) (d : D) : Option (List D) :=
  match d with
  | .str b => if sz = 1 then some (b.map byteD) else none
  | d => listD st sz d

/-- What is read behind a pointer. 'rb': the frame's boxes. -/
def loadD (rb : Nat → Nat × List D) (st : St) (p : D) (n : Option Nat) (l : Option Nat) (q : Bool) : Option D :=
  match l with
  | some b => match p with
    | .lp b' g off => if b' = b ∧ (rb b).1 = g then part (rb b).2 off n else none
    | _ => none
  | none => match p with
    | .iptr d => if d.fits n then some d else none
    | .hp id ver sz idx off =>
      if q then none else
      match st.at id with
      | .cells _ sz' ver' _ _ elems => if ver' = ver ∧ sz' = sz then (elems[idx]?).bind fun d => part d.cells off n else none
      | _ => none
    | _ => none

/-- What an operation leaves: the value for its slot; a box written; a new heap. -/
abbrev Eff := D × Option (Nat × Nat × List D) × Option St

/-- A store: into the frame's box 'l', or through a pointer into the heap. -/
def storeD (rb : Nat → Nat × List D) (st : St) (p : D) (x : D) (n : Nat) (l : Option Nat) : Option Eff :=
  if x.cells.length = n ∧ x.okv = true then
    match l with
    | some b => match p with
      | .lp b' g off => if b' = b ∧ (rb b).1 = g then (splice (rb b).2 off x.cells).bind fun cs => some (.undef, some (b, g, cs), none) else none
      | _ => none
    | none => match p with
      | .hp id ver sz idx off =>
        match st.at id with
        | .cells true sz' ver' mod false elems =>
          if ver' = ver ∧ sz' = sz then (elems[idx]?).bind fun d => (splice d.cells off x.cells).bind fun cs => (rewrap d cs).bind fun d' =>
            some (.undef, none, some (List.set st id (.cells true sz ver (mod + 1) false (elems.set idx d')))) else none
        | .cells false .. =>
          (fz1 st x).bind fun r =>
            if r.1.pure then
              match St.at r.2 id with
              | .cells false sz' ver' mod false elems =>
                if ver' = ver ∧ sz' = sz then (elems[idx]?).bind fun d => (splice d.cells off r.1.cells).bind fun cs => (rewrap d cs).bind fun d' =>
                  some (.undef, none, some (List.set r.2 id (.cells false sz ver (mod + 1) false (elems.set idx d')))) else none
              | _ => none
            else none
        | _ => none
      | _ => none
  else none

/-- A turn of one object of the heap. -/
def locU (id : Nat) (f : Ob → Option Ob) (st : St) : Option St := (f (St.at st id)).bind fun o => some (List.set st id o)
/-- Some cells of an object written. -/
def cellU (box : Bool) (ver sz idx off : Nat) (x : D) : Ob → Option Ob
  | .cells b sz' ver' mod fr elems => if b = box ∧ fr = false ∧ ver' = ver ∧ sz' = sz then (elems[idx]?).bind fun d => (splice d.cells off x.cells).bind fun cs => (rewrap d cs).bind fun d' => some (.cells box sz ver (mod + 1) false (elems.set idx d')) else none
  | .map .. => none
/-- A store through a pointer into the heap, of which is known whether it leads to a box or to a slice's element. -/
def storeXD (box : Bool) (st : St) (p x : D) (n : Nat) : Option Eff :=
  if x.cells.length = n ∧ x.okv = true ∧ (box = true ∨ x.pure = true) then
    match p with
    | .hp id ver sz idx off => (locU id (cellU box ver sz idx off x) st).bind fun s => some (.undef, none, some s)
    | _ => none
  else none

def boundD (x : Option D) (dflt : Nat) (top : Nat) : Option Nat :=
  match x with
  | none => some dflt
  | some (.int _ i) => if 0 ≤ i ∧ i ≤ top then some i.toNat else none
  | some _ => none

def sliceD (x : D) (lo hi mx : Option D) : Option D :=
  match x with
  | .str s =>
    match mx with
    | some _ => none
    | none => (boundD hi s.length s.length).bind fun h => (boundD lo 0 h).bind fun l => some (.str ((s.take h).drop l))
  | .nils =>
    match mx, hi with
    | some _, none => none
    | _, _ => (boundD mx 0 0).bind fun m => (boundD hi 0 m).bind fun h => (boundD lo 0 h).bind fun _ => some .nils
  | .sl sz full ds =>
    match mx, hi with
    | some _, none => none
    | some m, some _ => (boundD (some m) 0 ds.length).bind fun m => (boundD hi 0 m).bind fun h => (boundD lo 0 h).bind fun l =>
        some (.sl sz (m == h) ((ds.take h).drop l))
    | none, _ => (boundD hi ds.length ds.length).bind fun h => (boundD lo 0 h).bind fun l =>
        some (.sl sz (full && h == ds.length) ((ds.take h).drop l))
  | .rs id ver sz off len full =>
    match mx, hi with
    | some _, none => none
    | some m, some _ => (boundD (some m) 0 len).bind fun m => (boundD hi 0 m).bind fun h => (boundD lo 0 h).bind fun l =>
        some (.rs id ver sz (off + l) (h - l) (m == h))
    | none, _ => (boundD hi len len).bind fun h => (boundD lo 0 h).bind fun l =>
        some (.rs id ver sz (off + l) (h - l) (full && h == len))
  | _ => none

/-- Is it a string (none), or a slice of elements of so many cells? -/
def slcTy (s : Option Nat) (d : D) : Bool :=
  match s, d with
  | none, .str _ => true
  | some _, .nils => true
  | some k, .sl sz _ _ | some k, .rs _ _ sz _ _ _ => k == sz
  | _, _ => false

/-- Versions from here on tell the type of an object's row: so many times this, and one more than the type's number. -/
def tagB : Nat := 1099511627776
def tagOf (ver : Nat) : Nat := ver / tagB

/-- append: nothing to append: the slice itself; a slice whose end is its capacity, or nil: a new object; an object's slice: the object, cut there, grows. -/
def appendD (st : St) (s : D) (xs : List D) (sz : Nat) : Option (D × St) :=
  if most < xs.length then none else
  match s with
  | .nils => if xs.isEmpty then some (.nils, st) else some (.rs st.length 0 sz 0 xs.length false, st ++ [.cells false sz 0 0 false xs])
  | .sl sz' full ds =>
    if xs.isEmpty then some (s, st) else
    if full = true ∧ sz' = sz ∧ ds.length ≤ most then
      some (.rs st.length 0 sz 0 (ds.length + xs.length) false, st ++ [.cells false sz 0 0 false (ds ++ xs)]) else none
  | .rs id ver sz' off len full =>
    match st.at id with
    | .cells false sz'' ver' mod fr elems =>
      if ver' = ver ∧ sz'' = sz ∧ sz' = sz ∧ off + len ≤ elems.length ∧ elems.length ≤ most then
        (if xs.isEmpty then some (s, st) else
         if full then some (.rs st.length 0 sz 0 (len + xs.length) false, st ++ [.cells false sz 0 0 false ((elems.drop off).take len ++ xs)]) else
         if fr = false ∧ off = 0 ∧ ver + 1 < tagB then some (.rs id (ver + 1) sz 0 (len + xs.length) false, List.set st id (.cells false sz (ver + 1) (mod + 1) false (elems.take len ++ xs))) else none)
      else none
    | _ => none
  | _ => none

/-- append, where the row's type is told. -/
def appendTD (ty : Nat) (st : St) (s : D) (xs : List D) (sz : Nat) : Option (D × St) :=
  if most < xs.length then none else
  match s with
  | .nils => if xs.isEmpty then some (.nils, st) else some (.rs st.length ((ty + 1) * tagB) sz 0 xs.length false, st ++ [.cells false sz ((ty + 1) * tagB) 0 false xs])
  | .rs id ver sz' off len full =>
    match st.at id with
    | .cells false sz'' ver' mod fr elems =>
      if ver' = ver ∧ sz'' = sz ∧ sz' = sz ∧ off + len ≤ elems.length ∧ elems.length ≤ most then
        (if xs.isEmpty then some (s, st) else
         if full = false ∧ fr = false ∧ off = 0 ∧ tagOf ver = ty + 1 ∧ tagOf (ver + 1) = ty + 1 then some (.rs id (ver + 1) sz 0 (len + xs.length) false, List.set st id (.cells false sz (ver + 1) (mod + 1) false (elems.take len ++ xs))) else none)
      else none
    | _ => none
  | _ => none

/-- Are two keys the same? -/
def keyD (kk : Kd) (k k' : D) : Option Bool :=
  match kk, k, k' with
  | .int, .int j a, .int j' b => if j = j' then some (a == b) else none
  | .str, .str a, .str b => some (a == b)
  | _, _, _ => none
def D.isKey (kk : Kd) (k : D) : Bool :=
  match kk, k with
  | .int, .int .. | .str, .str _ => true
  | _, _ => false
def lookD (kk : Kd) (k : D) : List (D × D) → Option (Option D)
  | [] => some none
  | x :: r => (keyD kk k x.1).bind fun b => if b then some (some x.2) else lookD kk k r
def updD (kk : Kd) (k v : D) : List (D × D) → Option (List (D × D))
  | [] => some [(k, v)]
  | x :: r => (keyD kk k x.1).bind fun b => if b then some ((k, v) :: r) else (updD kk k v r).map (x :: ·)

def pureArgs : St → List D → Option (List D × St)
  | st, [] => some ([], st)
  | st, d :: ds => (fz1 st d).bind fun r => if r.1.pure then (pureArgs r.2 ds).bind fun q => some (r.1 :: q.1, q.2) else none

abbrev GoF := Nat → List D → St → Option (D × St)

/-- A call, by the function's mode; 'go' is what the function does, threading the heap. -/
def callD (T : Nat → Option IFunc) (go : GoF) (f : Nat) (args : List D) (st : St) : Option (D × St) :=
  match T f with
  | none => none
  | some fn =>
    match fn.mode with
    | .pure => (pureArgs st args).bind fun a => (go f a.1 []).bind fun r => (fz r.2 r.1).bind fun q => if q.1.pureT then some (q.1, a.2) else none
    | .pop => if args.all D.okv then (go f args st).bind fun r => (fz r.2 r.1).bind fun q => if q.1.pureT && agree st q.2 then some (q.1, st) else none else none
    | .cut => if args.all D.okv then (go f args st).bind fun r => (fz r.2 r.1).bind fun q => if q.1.pureT && settled st q.2 then some (q.1, q.2.take st.length) else none else none
    | .raw => if args.all D.okv then go f args st else none

/-- The same where the heap may not be touched. -/
def callQD (T : Nat → Option IFunc) (go : GoF) (f : Nat) (args : List D) : Option D :=
  match T f with
  | none => none
  | some fn =>
    match fn.mode with
    | .pure => if args.all D.pure then (go f args []).bind fun r => (fz r.2 r.1).bind fun q => if q.1.pureT then some q.1 else none else none
    | _ => none

def fillD (cs : List D) : List (Nat × Nat × D) → Option (List D)
  | [] => some cs
  | (off, n, d) :: r => if d.cells.length = n then (splice cs off d.cells).bind fun cs' => fillD cs' r else none

def val (v : D) : Option Eff := some (v, none, none)

/-- The address of a field. -/
def fldD (x : D) (off : Nat) (n : Option Nat) : Option D :=
  match x with
  | .iptr v => (part v.cells off n).bind fun u => some (.iptr u)
  | .lp b g o => some (.lp b g (o + off))
  | .hp id ver sz i o => some (.hp id ver sz i (o + off))
  | _ => none

/-- The address of an element. -/
def idxAD (x : D) (i sz : Nat) (n arr : Option Nat) : Option D :=
  match arr with
  | none => match x with
    | .sl sz' _ ds => if sz' = sz then (ds[i]?).bind fun u => if u.fits n then some (.iptr u) else none else none
    | .rs id ver sz' off len _ => if sz' = sz ∧ i < len then some (.hp id ver sz (off + i) 0) else none
    | _ => none
  | some k => if i < k then (match x with
    | .iptr v => (part v.cells (i * sz) n).bind fun u => some (.iptr u)
    | .lp b g o => some (.lp b g (o + i * sz))
    | .hp id ver sz' j o => some (.hp id ver sz' j (o + i * sz))
    | _ => none) else none

/-- A length. -/
def lenD (st : St) (k : Kd) (x : D) (q : Bool) : Option D :=
  match k, x with
  | .str, .str s => some (.i s.length)
  | .slice, .nils | .map, .nilm => some (.i 0)
  | .slice, .sl _ _ ds => some (.i ds.length)
  | .slice, .rs _ _ _ _ len _ => some (.i len)
  | .map, .mp id => if q then none else match St.at st id with
    | .map _ ents => some (.i ents.length)
    | _ => none
  | _, _ => none

/-- One operation: what it leaves, by what it reads. -/
def actO (T : Nat → Option IFunc) (go : GoF) (rd : Opd → D) (rb : Nat → Nat × List D) (st : St) : Io → Option Eff
  | .mv _ x => val (rd x)
  | .mvn => val .undef
  | .pick _ x a b => match rd x with
    | .bool t => val (if t then rd a else rd b)
    | _ => none
  | .boxL d n x zero =>
    let cs := match x with | some x => (rd x).cells | none => zero
    if cs.length = n ∧ cs.all D.okv = true then some (.lp d ((rb d).1 + 1) 0, some (d, (rb d).1 + 1, cs), none) else none
  | .boxH _ n x => if (rd x).fits n then some (.hp st.length 0 (n.getD 1) 0 0, none, some (st ++ [.cells true (n.getD 1) 0 0 false [rd x]])) else none
  | .boxI _ n x => if (rd x).fits n && (rd x).pure then val (.iptr (rd x)) else none
  | .build _ zero ps => if ps.all (fun p => (rd p.2.2).okv) then (fillD zero (ps.map fun p => (p.1, p.2.1, rd p.2.2))).bind fun cs => val (.agg cs) else none
  | .bsl _ sz agg xs => if (xs.map rd).all fun v => v.fits (if agg then some sz else none) && (v.cells.length == sz && v.pure) then val (.sl sz true (xs.map rd)) else none
  | .bslH _ sz agg xs => (fzL fz1 st (xs.map rd)).bind fun r =>
    if r.1.all fun v => v.fits (if agg then some sz else none) && (v.cells.length == sz && v.pure) then
      some (.rs r.2.length 0 sz 0 xs.length true, none, some (r.2 ++ [.cells false sz 0 0 false r.1])) else none
  | .load _ p n l q => (loadD rb st (rd p) n l q).bind val
  | .store p x n l => storeD rb st (rd p) (rd x) n l
  | .storeX box p x n => storeXD box st (rd p) (rd x) n
  | .nilc _ x => match nilD .ptr (rd x) with
    | some false => val (rd x)
    | _ => none
  | .bin _ op x y => (binD op (rd x) (rd y)).bind val
  | .eqn _ neg k x y => (eqnD k (rd x) (rd y)).bind fun b => val (.bool (if neg then !b else b))
  | .un _ op x => (unD op (rd x)).bind val
  | .conv _ cv x =>
    match cv, rd x with
    | .int k, .int _ n => val (.int k (k.wrap n))
    | .same, .str s => val (.str s)
    | .bytesstr, v => (listD st 1 v).bind fun l => (l.mapM unbyte).bind fun s => val (.str s)
    | .strbytes, .str s => if s.length ≤ most then some (.rs st.length 0 1 0 s.length false, none, some (st ++ [.cells false 1 0 0 false (s.map byteD)])) else none
    | _, _ => none
  | .mkfn _ f first cap => if (first.map rd).all D.okv && (cap.map rd).all D.okv then val (.fn f (first.map rd) (cap.map rd)) else none
  | .fldA _ x off n => (fldD (rd x) off n).bind val
  | .fld _ x off n => match rd x with
    | .agg cs => (part cs off n).bind val
    | _ => none
  | .idxA _ x i sz n arr =>
    match rd i with
    | .int _ i => if i < 0 then none else (idxAD (rd x) i.toNat sz n arr).bind val
    | _ => none
  | .idx _ x i n sz arr =>
    match rd i with
    | .int _ i => if i < 0 then none else
      match arr with
      | none => match rd x with
        | .str s => (s[i.toNat]?).bind fun b => val (byteD b)
        | _ => none
      | some k => match rd x with
        | .agg cs => if i.toNat < k then (part cs (i.toNat * sz) n).bind val else none
        | _ => none
    | _ => none
  | .slc _ s x lo hi mx => if slcTy s (rd x) then (sliceD (rd x) (lo.map rd) (hi.map rd) (mx.map rd)).bind val else none
  | .ext _ x i => match rd x with
    | .tup ds => (ds[i]?).bind val
    | _ => none
  | .call _ f xs => (callD T go f (xs.map rd) st).bind fun r => some (r.1, none, some r.2)
  | .callQ _ f xs => (callQD T go f (xs.map rd)).bind val
  | .callV _ f xs => match rd f with
    | .fn g first cap => (callD T go g (first ++ xs.map rd ++ cap) st).bind fun r => some (r.1, none, some r.2)
    | _ => none
  | .len _ k x q => (lenD st k (rd x) q).bind val
  | .app _ s x sz => (srcD st sz (rd x)).bind fun l =>
      (appendD st (rd s) l sz).bind fun r => some (r.1, none, some r.2)
  | .appT _ s x sz ty => (srcD st sz (rd x)).bind fun l =>
      (appendTD ty st (rd s) l sz).bind fun r => some (r.1, none, some r.2)
  | .boxT _ n x ty => if x.fits (some n) then some (.hp st.length ((ty + 1) * tagB) n 0 0, none, some (st ++ [.cells true n ((ty + 1) * tagB) 0 false [x]])) else none
  | .mkmap _ => some (.mp st.length, none, some (st ++ [.map 0 []]))
  | .look _ kk m k zero ok => if (rd k).isKey kk then
    (match rd m with | .nilm => some none | .mp id => (match St.at st id with | .map _ ents => lookD kk (rd k) ents | _ => none) | _ => none).bind fun r =>
      val (if ok then .tup [r.getD zero, .bool r.isSome] else r.getD zero) else none
  | .mupd kk m k x => match rd m with
    | .mp id => match St.at st id with
      | .map mod ents => if (rd x).okv && (rd k).isKey kk then (updD kk (rd k) (rd x) ents).bind fun e => some (.undef, none, some (List.set st id (.map (mod + 1) e))) else none
      | _ => none
    | _ => none
  | .mksl _ sz zero n cp => match rd n, rd cp with
    | .int _ n, .int _ k => if 0 ≤ n ∧ n ≤ k ∧ k ≤ most then
        some (.rs st.length 0 sz 0 n.toNat (n == k), none, some (st ++ [.cells false sz 0 0 false (List.replicate n.toNat zero)])) else none
    | _, _ => none
  | .copy _ x y sz => match rd x with
    | .rs id ver sz' off len _ =>
      (srcD st sz (rd y)).bind fun l =>
      match St.at st id with
      | .cells false sz'' ver' mod false elems =>
        if ver' = ver ∧ sz' = sz ∧ sz'' = sz ∧ off + len ≤ elems.length then
          some (.i (min l.length len), none, some (List.set st id (.cells false sz ver (mod + 1) false (elems.take off ++ l.take len ++ elems.drop (off + min l.length len))))) else none
      | _ => none
    | .nils => val (.i 0)
    | _ => none
  | .mm _ mx x y => match rd x, rd y with
    | .int k a, .int k' b => if k = k' then val (.int k (if mx then (if b > a then b else a) else (if b < a then b else a))) else none
    | _, _ => none

/-- The slot that an operation writes. -/
def Io.dst : Io → Option Nat
  | .mv d _ | .pick d _ _ _ | .boxL d _ _ _ | .boxH d _ _ | .boxI d _ _ | .build d _ _ | .bsl d _ _ _ | .bslH d _ _ _ | .load d _ _ _ _ | .bin d _ _ _ | .eqn d _ _ _ _ | .un d _ _ | .conv d _ _
  | .mkfn d _ _ _ | .fldA d _ _ _ | .fld d _ _ _ | .idxA d _ _ _ _ _ | .idx d _ _ _ _ _ | .slc d _ _ _ _ _ | .ext d _ _ | .len d _ _ _ | .app d _ _ _ | .appT d _ _ _ _ | .boxT d _ _ _ | .mkmap d | .look d _ _ _ _ _
  | .mksl d _ _ _ _ | .mm d _ _ _ => some d
  | .nilc d _ | .call d _ _ | .callQ d _ _ | .callV d _ _ | .copy d _ _ _ => d
  | .mvn | .store .. | .storeX .. | .mupd .. => none

abbrev Cfg := Fr × St

def putO (s : List D) (d : Option Nat) (x : D) : List D :=
  match d with
  | some d => put s d x
  | none => s

def apply (c : Cfg) (d : Option Nat) (e : Eff) : Cfg :=
  ({ s := putO c.1.s d e.1, b := match e.2.1 with | some x => putB c.1.b x.1 x.2 | none => c.1.b }, e.2.2.getD c.2)

def Gi.wanted (o : Gi) (s : List D) : Bool :=
  match o.g with
  | none => true
  | some (j, want) => match get s j with
    | .bool b => b == want
    | _ => false

def step (T : Nat → Option IFunc) (go : GoF) (c : Cfg) (o : Gi) : Option Cfg :=
  if o.wanted c.1.s then (actO T go (Opd.ev c.1.s) (getB c.1.b) c.2 o.io).map (apply c o.io.dst) else some (apply c o.io.dst (.undef, none, none))

def runOps (T : Nat → Option IFunc) (go : GoF) : List Gi → Cfg → Option Cfg
  | [], c => some c
  | o :: os, c => (step T go c o).bind (runOps T go os)

def iter (body : Cfg → Option (Ex × Cfg)) : Nat → Cfg → Option (Ex × Cfg)
  | 0, _ => none
  | n + 1, c => (body c).bind fun r => match r.1 with
    | .normal => iter body n r.2
    | e => some (e, r.2)

/-- What some functions of Go's library do, whose text is not walked: 0: (*strings.Builder).copyCheck, 1: (*strings.Builder).String, 2: strings.Cut at one byte, 3: strings.IndexByte. -/
def cutB (c : UInt8) : List UInt8 → Option (List UInt8 × List UInt8)
  | [] => none
  | x :: l => if x = c then some ([], l) else (cutB c l).map fun r => (x :: r.1, r.2)
def findB (c : UInt8) : List UInt8 → Nat → Int
  | [], _ => -1
  | x :: l, i => if x = c then i else findB c l (i + 1)
def primD (k : Nat) (args : List D) (st : St) : Option (List D × St) :=
  match k % 4, args with
  | 0, [.hp id ver 2 0 0] =>
    match st.at id with
    | .cells true 2 ver' mod false [.agg [.nilp, b]] => if ver' = ver ∧ tagOf ver = k / 4 then some ([], List.set st id (.cells true 2 ver (mod + 1) false [.agg [.hp id ver 2 0 0, b]])) else none
    | .cells true 2 ver' _ false [.agg [.hp id' ver'' 2 0 0, _]] => if ver' = ver ∧ id' = id ∧ ver'' = ver then some ([], st) else none
    | _ => none
  | 1, [.hp id ver 2 0 0] =>
    match st.at id with
    | .cells true 2 ver' _ false [.agg [_, .nils]] => if ver' = ver ∧ tagOf ver = k / 4 % 4096 then some ([.str []], st) else none
    | .cells true 2 ver' _ false [.agg [_, .rs bid bver 1 0 len false]] =>
      match st.at bid with
      | .cells false 1 bver' bmod false elems =>
        if ver' = ver ∧ bver' = bver ∧ tagOf ver = k / 4 % 4096 ∧ tagOf bver = k / 4 / 4096 ∧ len ≤ elems.length ∧ 0 < len ∧ len ≤ most then ((elems.take len).mapM unbyte).bind fun s => some ([.str s], List.set st bid (.cells false 1 bver (bmod + 1) true elems)) else none
      | _ => none
    | _ => none
  | 2, [.str s, .str [c]] => match cutB c s with
    | some r => some ([.str r.1, .str r.2, .bool true], st)
    | none => some ([.str s, .str [], .bool false], st)
  | 3, [.str s, .int .u8 c] => if 0 ≤ c ∧ c < 256 then some ([.int .i64 (findB (UInt8.ofNat c.toNat) s 0)], st) else none
  | _, _ => none

def run (T : Nat → Option IFunc) (go : GoF) (fuel : Nat) : Ic → Cfg → Option (Ex × Cfg)
  | .skip, c => some (.normal, c)
  | .ops l, c => (runOps T go l c).bind fun c' => some (.normal, c')
  | .seq a b, c => (run T go fuel a c).bind fun r => match r.1 with
    | .normal => run T go fuel b r.2
    | e => some (e, r.2)
  | .cond x a b, c => match x.ev c.1.s with
    | .bool t => if t then run T go fuel a c else run T go fuel b c
    | _ => none
  | .block id a, c => (run T go fuel a c).bind fun r => match r.1 with
    | .exit id' => some (if id' = id then .normal else .exit id', r.2)
    | e => some (e, r.2)
  | .loop a, c => iter (run T go fuel a) fuel c
  | .exit id, c => some (.exit id, c)
  | .ret, c => some (.ret, c)
  | .prim k, c => (primD k c.1.s c.2).map fun r => (.normal, (⟨r.1, c.1.b⟩, r.2))

def resD (c : Cfg) : Rv → Option D
  | .t n => if (get c.1.s n).okv then some (get c.1.s n) else none
  | .cell n sz l => loadD (getB c.1.b) c.2 (get c.1.s n) sz l false

def resL (c : Cfg) : List Rv → Option (List D)
  | [] => some []
  | r :: rs => (resD c r).bind fun d => (resL c rs).bind fun ds => some (d :: ds)

def finish (res : List Rv) (c : Cfg) : Option (D × St) :=
  (resL c res).bind fun ds => match ds with
    | [d] => some (d, c.2)
    | ds => some (.tup ds, c.2)

/-- What a function does, by fuel. -/
def evT (T : Nat → Option IFunc) : Nat → GoF
  | 0, _, _, _ => none
  | k + 1, f, args, st => (T f).bind fun fn => (run T (evT T k) k fn.code ({ s := args, b := [] }, st)).bind fun r =>
    match r.1 with
    | .normal | .ret => finish fn.res r.2
    | _ => none

end Go.Nt
