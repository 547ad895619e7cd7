/-
  AN ABSTRACT MACHINE OVER TREE DATA for the Go model's Code: data (D), an annotated form of a function's text (IFunc), and what it computes (evT by fuel).
  A slice that is not written any more is an inline list; a struct local lives in the frame; only what is captured, escapes or grows lies in the small heap St.
  No condition: these are definitions.
-/
import Derived.Orders
import Derived.Lib.SlicesCompact
import Derived.Below
import Derived.Deep.MidRow
import Derived.Laws.Concat
import Derived.Lib.Bytealg
import Derived.Lib.IndexBytes
namespace Go.Nt
open Go
inductive D where
 | bool (b:Bool)
 | int (k:IntKind) (n:Int)
 | str (s:List UInt8)
 | agg (cs:List D)
 | tup (ds:List D)
 | nilp
 | iptr (d:D)
 | hp (id ver sz idx off:Nat)
 | lp (b g off:Nat)
 | nils
 | sl (sz:Nat) (full:Bool) (ds:List D)
 | rs (id ver sz off len:Nat) (full:Bool)
 | nilf
 | fn (f:Nat) (first cap:List D)
 | nilm
 | mp (id:Nat)
 | nili
 | ifc (t:Nat) (d:D)
 | kp (id ver sz idx off:Nat)
 deriving Inhabited
mutual
 def D.eqb:D→D→Bool
  | .bool a,.bool b=>a == b
  | .int k a,.int j b=>k == j && a == b
  | .str a,.str b=>a == b
  | .agg a,.agg b=>D.eqbs a b
  | .tup a,.tup b=>D.eqbs a b
  | .nilp,.nilp=>true
  | .iptr a,.iptr b=>D.eqb a b
  | .kp a b c d e,.kp a' b' c' d' e'=>a == a' && (b == b' && (c == c' && (d == d' && e == e')))
  | .hp a b c d e,.hp a' b' c' d' e'=>a == a' && (b == b' && (c == c' && (d == d' && e == e')))
  | .lp a b c,.lp a' b' c'=>a == a' && (b == b' && c == c')
  | .nils,.nils=>true
  | .sl a b c,.sl a' b' c'=>a == a' && (b == b' && D.eqbs c c')
  | .rs a b c d e f,.rs a' b' c' d' e' f'=>a == a' && (b == b' && (c == c' && (d == d' && (e == e' && f == f'))))
  | .nilf,.nilf=>true
  | .fn a b c,.fn a' b' c'=>a == a' && (D.eqbs b b' && D.eqbs c c')
  | .nilm,.nilm=>true
  | .mp a,.mp a'=>a == a'
  | .nili,.nili=>true
  | .ifc a b,.ifc a' b'=>a == a' && D.eqb b b'
  | _,_=>false
 def D.eqbs:List D→List D→Bool
  | [],[]=>true
  | a::l,b::k=>D.eqb a b && D.eqbs l k
  | _,_=>false
end
mutual
 theorem D.eqb_eq:∀ (a b:D),D.eqb a b=true→a=b
  | a,b,h=>by
   cases a <;> cases b <;> simp only [D.eqb,Bool.and_eq_true,beq_iff_eq,Bool.false_eq_true] at h <;> first
    | rfl
    | contradiction
    |(rw [D.eqbs_eq _ _ h])
    |(rw [D.eqb_eq _ _ h])
    |(rw [h.1,D.eqb_eq _ _ h.2])
    |(rw [h.1,h.2.1,D.eqbs_eq _ _ h.2.2])
    |(rw [h.1,D.eqbs_eq _ _ h.2.1,D.eqbs_eq _ _ h.2.2])
    | simp_all
 theorem D.eqbs_eq:∀ (a b:List D),D.eqbs a b=true→a=b
  | [],[],_=>rfl
  | [],_::_,h=>by simp [D.eqbs] at h
  | _::_,[],h=>by simp [D.eqbs] at h
  | a::l,b::k,h=>by
   simp only [D.eqbs,Bool.and_eq_true] at h
   rw [D.eqb_eq a b h.1,D.eqbs_eq l k h.2]
end
mutual
 @[simp] theorem D.eqb_self:∀ (a:D),D.eqb a a=true
  | .agg a | .tup a=>by simp only [D.eqb]; exact D.eqbs_self a
  | .iptr a=>by simp only [D.eqb]; exact D.eqb_self a
  | .ifc t a=>by simp only [D.eqb,D.eqb_self a]; simp
  | .sl a b c=>by simp only [D.eqb,D.eqbs_self c]; simp
  | .fn a b c=>by simp only [D.eqb,D.eqbs_self b,D.eqbs_self c]; simp
  | .bool _ | .int .. | .str _ | .hp .. | .kp .. | .lp .. | .rs .. | .mp _=>by simp [D.eqb]
  | .nilp | .nils | .nilf | .nilm | .nili=>rfl
 @[simp] theorem D.eqbs_self:∀ (a:List D),D.eqbs a a=true
  | []=>rfl
  | a::l=>by simp only [D.eqbs,D.eqb_self a,D.eqbs_self l]; rfl
end
abbrev D.undef:D:=.tup []
abbrev D.unk:D:=.lp 0 0 0
abbrev D.i (n:Int):D:=.int .i64 n
def D.cells:D→List D
 | .agg cs=>cs
 | d=>[d]
def D.pure0:D→Bool
 | .hp .. | .kp .. | .lp .. | .rs .. | .mp _ | .agg _ | .tup _ | .ifc ..=>false
 | .fn _ first cap=>first.isEmpty && cap.isEmpty
 | _=>true
def D.pureF:D→Bool
 | .agg cs=>cs.all D.pure0
 | d=>d.pure0
def D.pure1:D→Bool
 | .fn _ first cap=>first.all D.pureF && cap.all D.pure0
 | d=>d.pure0
def D.pure:D→Bool
 | .agg cs=>cs.all D.pure1
 | d=>d.pure1
def D.pureT:D→Bool
 | .tup ds=>ds.all D.pure
 | d=>d.pure
inductive Ob where
 | cells (box:Bool) (sz ver mod:Nat) (frozen:Bool) (elems:List D)
 | map (mod:Nat) (ents:List (D × D))
 deriving Inhabited
def Ob.mod:Ob→Nat
 | .cells _ _ _ m _ _=>m
 | .map m _=>m
def Ob.ver:Ob→Nat
 | .cells _ _ v _ _ _=>v
 | .map ..=>0
def Ob.live:Ob→Bool
 | .cells _ _ _ _ fr _=>!fr
 | .map ..=>true
abbrev St:=List Ob
def get (l:List D) (i:Nat):D:=l.getD i .undef
def put:List D→Nat→D→List D
 | [],0,d=>[d]
 | [],i+1,d=>.undef::put [] i d
 | _::l,0,d=>d::l
 | x::l,i+1,d=>x::put l i d
structure Fr where
 s:List D
 b:List (Nat × List D)
 deriving Inhabited
def getB (l:List (Nat × List D)) (i:Nat):Nat × List D:=l.getD i (0,[])
def putB:List (Nat × List D)→Nat→Nat × List D→List (Nat × List D)
 | [],0,d=>[d]
 | [],i+1,d=>(0,[])::putB [] i d
 | _::l,0,d=>d::l
 | x::l,i+1,d=>x::putB l i d
inductive Opd where
 | t (n:Nat)
 | c (d:D)
 | f (n:Nat)
 deriving Inhabited
inductive Cv where
 | int (k:IntKind)
 | strbytes
 | bytesstr
 | same
 deriving Inhabited
inductive Kd where
 | bool | ptr | slice | func | map | str | int
 deriving DecidableEq,Inhabited
inductive Io where
 | mv (d:Nat) (x:Opd)
 | mvn
 | pick (d:Nat) (c a b:Opd)
 | boxL (d:Nat) (n:Nat) (x:Option Opd) (zero:List D)
 | boxH (d:Nat) (n:Option Nat) (x:Opd)
 | boxI (d:Nat) (n:Option Nat) (x:Opd)
 | build (d:Nat) (zero:List D) (ps:List (Nat × Nat × Opd))
 | bsl (d:Nat) (sz:Nat) (agg:Bool) (xs:List Opd)
 | bslH (d:Nat) (sz:Nat) (agg:Bool) (xs:List Opd)
 | bslF (d:Nat) (sz:Nat) (agg:Bool) (xs:List Opd)
 | load (d:Nat) (p:Opd) (n:Option Nat) (l:Option Nat) (q:Bool)
 | store (p:Opd) (x:Opd) (n:Nat) (l:Option Nat)
 | storeX (box:Bool) (p:Opd) (x:Opd) (n:Nat)
 | stoF (p:Opd) (x:Opd) (n:Nat) (b:Nat)
 | nilc (d:Option Nat) (x:Opd)
 | bin (d:Nat) (op:BinOp) (x y:Opd)
 | eqn (d:Nat) (neg:Bool) (k:Kd) (x y:Opd)
 | un (d:Nat) (op:UnOp) (x:Opd)
 | conv (d:Nat) (c:Cv) (x:Opd)
 | mkfn (d:Nat) (f:Nat) (first cap:List Opd)
 | fldA (d:Nat) (x:Opd) (off:Nat) (n:Option Nat)
 | fld (d:Nat) (x:Opd) (off:Nat) (n:Option Nat)
 | idxA (d:Nat) (x i:Opd) (sz:Nat) (n:Option Nat) (arr:Option Nat)
 | idx (d:Nat) (x i:Opd) (n:Option Nat) (sz:Nat) (arr:Option Nat)
 | slc (d:Nat) (s:Option Nat) (x:Opd) (lo hi mx:Option Opd)
 | ext (d:Nat) (x:Opd) (i:Nat)
 | call (d:Option Nat) (f:Nat) (xs:List Opd)
 | callQ (d:Option Nat) (f:Nat) (xs:List Opd)
 | callR (d:Option Nat) (f:Nat) (xs:List Opd)
 | callV (d:Option Nat) (f:Opd) (xs:List Opd)
 | len (d:Nat) (k:Kd) (x:Opd) (q:Bool)
 | app (d:Nat) (s x:Opd) (sz:Nat)
 | appT (d:Nat) (s x:Opd) (sz:Nat) (ty:Nat)
 | boxT (d:Nat) (n:Nat) (x:D) (ty:Nat)
 | mkmap (d:Nat)
 | look (d:Nat) (kk:Kd) (m k:Opd) (zero:D) (ok:Bool)
 | mupd (kk:Kd) (m k x:Opd)
 | ment (d:Nat) (kk:Kd) (m k:Opd) (zero:D)
 | mst (m s x:Opd)
 | slcA (d:Nat) (p:Opd) (lo hi:Option Opd) (n:Nat)
 | mksl (d:Nat) (sz:Nat) (zero:D) (n c:Opd)
 | copy (d:Option Nat) (x y:Opd) (sz:Nat)
 | mm (d:Nat) (mx:Bool) (x y:Opd)
 | mkif (d:Nat) (t:Nat) (x:Opd)
 | tas (d:Nat) (t:Nat) (x:Opd)
 | inv (d:Option Nat) (t:Nat) (f:Nat) (der:Bool) (x:Opd) (xs:List Opd)
 | capn (d:Nat) (x:Opd)
 | appz (d:Nat) (s n:Opd) (sz:Nat) (zero:D)
 | no (d:Option Nat)
 deriving Inhabited
structure Gi where
 g:Option (Nat × Bool)
 io:Io
 deriving Inhabited
inductive Ic where
 | skip
 | ops (l:List Gi)
 | seq (a b:Ic)
 | cond (x:Opd) (a b:Ic)
 | block (id:Nat) (a:Ic)
 | loop (a:Ic)
 | exit (id:Nat)
 | ret
 | prim (k:Nat)
 | amb (y x:Nat) (a b:Ic)
 deriving Inhabited
inductive Mode where
 | pure | pop | cut | raw | fre
 deriving DecidableEq,Inhabited
inductive Rv where
 | t (n:Nat)
 | cell (n:Nat) (sz:Option Nat) (l:Option Nat)
 deriving Inhabited
structure IFunc where
 mode:Mode
 code:Ic
 res:List Rv
 deriving Inhabited
inductive Ex where
 | normal | ret
 | exit (id:Nat)
 deriving DecidableEq,Inhabited
def St.at (st:St) (id:Nat):Ob:=List.getD st id (.cells true 0 0 0 true [])
def fz0 (st:St):D→Option (D × St)
 | .rs id ver sz off len full=>
  match st.at id with
  | .cells false sz' ver' mod fr elems=>
   if ver'=ver∧sz'=sz∧off+len≤elems.length then
    some (.sl sz full ((elems.drop off).take len),if fr then st else List.set st id (.cells false sz ver (mod+1) true elems)) else none
  | _=>none
 | .lp .. | .agg _ | .tup _=>none
 | d=>some (d,st)
def fzL (h:St→D→Option (D × St)):St→List D→Option (List D × St)
 | st,[]=>some ([],st)
 | st,d::ds=>(h st d).bind fun r=>(fzL h r.2 ds).bind fun q=>some (r.1::q.1,q.2)
def fz1 (st:St):D→Option (D × St)
 | .agg cs=>(fzL fz0 st cs).bind fun r=>some (.agg r.1,r.2)
 | d=>fz0 st d
def fz (st:St):D→Option (D × St)
 | .tup ds=>(fzL fz1 st ds).bind fun r=>some (.tup r.1,r.2)
 | d=>fz1 st d
def agree:St→St→Bool
 | [],_=>true
 | _::_,[]=>false
 | o::os,o'::os'=>o.mod == o'.mod && agree os os'
def Ob.pureO:Ob→Bool
 | .cells _ _ _ _ _ elems=>elems.all D.pure
 | .map _ ents=>ents.all fun x=>x.1.pure && x.2.pure
def D.old1 (n:Nat):D→Bool
 | .hp id ..=>decide (id < n)
 | .kp id ..=>decide (id < n)
 | .rs id ..=>decide (id < n)
 | d=>d.pure1
def D.old (n:Nat):D→Bool
 | .agg cs=>cs.all (D.old1 n)
 | d=>d.old1 n
def Ob.old (n:Nat):Ob→Bool
 | .cells _ _ _ _ _ elems=>elems.all (D.old n)
 | .map ..=>false
def settledN (n:Nat):St→St→Bool
 | [],_=>true
 | _::_,[]=>false
 | o::os,o'::os'=>(o.mod == o'.mod || o'.pureO || o'.old n) && settledN n os os'
def settled (st st':St):Bool:=settledN st.length st st'
def Opd.ev (s:List D):Opd→D
 | .t n=>get s n
 | .c d=>d
 | .f n=>.fn n [] []
def D.okv:D→Bool
 | .lp .. | .tup _=>false
 | _=>true
def part (cs:List D) (off:Nat):Option Nat→Option D
 | none=>cs[off]?
 | some n=>if off+n≤cs.length then some (.agg ((cs.drop off).take n)) else none
def D.fits (d:D) (n:Option Nat):Bool:=
 match d,n with
 | .agg cs,some n=>cs.length == n
 | .agg _,none | .tup _,_ | .lp ..,_=>false
 | _,none=>true
 | _,some _=>false
def splice (cs:List D) (off:Nat) (xs:List D):Option (List D):=
 if off+xs.length≤cs.length then some (cs.take off++xs++cs.drop (off+xs.length)) else none
def rewrap (old:D) (cs:List D):Option D:=
 match old with
 | .agg _=>some (.agg cs)
 | _=>match cs with
  | [d]=>some d
  | _=>none
def bytesLess:List UInt8→List UInt8→Bool
 | _,[]=>false
 | [],_::_=>true
 | a::x,b::y=>a < b || (a == b && bytesLess x y)
def bitsD (op:BinOp) (k:IntKind) (x y:Int):Option D:=
 match op with
 | .and=>some (.int k (k.wrap (BitVec.ofInt k.bits x &&& BitVec.ofInt k.bits y).toNat))
 | .or=>some (.int k (k.wrap (BitVec.ofInt k.bits x ||| BitVec.ofInt k.bits y).toNat))
 | .xor=>some (.int k (k.wrap (BitVec.ofInt k.bits x ^^^ BitVec.ofInt k.bits y).toNat))
 | .andNot=>some (.int k (k.wrap (BitVec.ofInt k.bits x &&& ~~~BitVec.ofInt k.bits y).toNat))
 | _=>none
def shiftD (op:BinOp) (k:IntKind) (x y:Int):Option D:=
 if y < 0 then none else
 match op with
 | .shl=>some (.int k (k.wrap (x * 2 ^ (min y.toNat k.bits))))
 | .shr=>some (.int k (x.fdiv (2 ^ (min y.toNat k.bits))))
 | _=>none
def intD (op:BinOp) (k k':IntKind) (a b:Int):Option D:=
 match op with
 | .shl=>shiftD .shl k a b
 | .shr=>shiftD .shr k a b
 | op=>if k=k' then (match op with
  | .add=>some (.int k (k.wrap (a+b)))
  | .sub=>some (.int k (k.wrap (a - b)))
  | .mul=>some (.int k (k.wrap (a * b)))
  | .quo=>if b=0 then none else some (.int k (k.wrap (a.tdiv b)))
  | .rem=>if b=0 then none else some (.int k (a.tmod b))
  | .eql=>some (.bool (a == b))
  | .neq=>some (.bool (a != b))
  | .lss=>some (.bool (decide (a < b)))
  | .leq=>some (.bool (decide (a≤b)))
  | .gtr=>some (.bool (decide (a > b)))
  | .geq=>some (.bool (decide (a ≥ b)))
  | op=>bitsD op k a b) else none
def most:Nat:=134217728
def strD (op:BinOp) (x y:List UInt8):Option D:=
 match op with
 | .add=>if x.length+y.length≤most then some (.str (x++y)) else none
 | .eql=>some (.bool (x == y))
 | .neq=>some (.bool !(x == y))
 | .lss=>some (.bool (bytesLess x y))
 | .leq=>some (.bool (bytesLess x y || x == y))
 | .gtr=>some (.bool !(bytesLess x y || x == y))
 | .geq=>some (.bool !(bytesLess x y))
 | _=>none
def binD (op:BinOp) (x y:D):Option D:=
 match x,y with
 | .int k a,.int k' b=>intD op k k' a b
 | .str a,.str b=>strD op a b
 | _,_=>none
def nilD (k:Kd) (d:D):Option Bool:=
 match k,d with
 | .ptr,.nilp | .slice,.nils | .func,.nilf | .map,.nilm=>some true
 | .ptr,.iptr _ | .ptr,.hp .. | .slice,.sl .. | .slice,.rs .. | .func,.fn .. | .map,.mp _=>some false
 | _,_=>none
def eqnD (k:Kd) (x y:D):Option Bool:=
 match k with
 | .bool=>match x,y with
  | .bool a,.bool b=>some (a == b)
  | _,_=>none
 | k=>match nilD k x,nilD k y with
  | some true,r=>r
  | r,some true=>r
  | _,_=>none
def unD (op:UnOp) (x:D):Option D:=
 match op,x with
 | .neg,.int k n=>some (.int k (k.wrap (0 - n)))
 | .xor,.int k n=>bitsD .xor k (if k.signed then -1 else k.max) n
 | .not,.bool b=>some (.bool !b)
 | _,_=>none
def listD (st:St) (sz:Nat):D→Option (List D)
 | .nils=>some []
 | .sl sz' _ ds=>if sz'=sz then some ds else none
 | .rs id ver sz' off len _=>
  match st.at id with
  | .cells false sz'' ver' _ _ elems=>if ver'=ver∧sz''=sz'∧sz'=sz∧off+len≤elems.length then some ((elems.drop off).take len) else none
  | _=>none
 | _=>none
def byteD (b:UInt8):D:=.int .u8 b.toNat
def unbyte:D→Option UInt8
 | .int .u8 n=>if 0≤n∧n < 256 then some (UInt8.ofNat n.toNat) else none
 | _=>none
def srcD (st:St) (sz:Nat) (d:D):Option (List D):=
 match d with
 | .str b=>if sz=1 then some (b.map byteD) else none
 | d=>listD st sz d
def loadD (rb:Nat→Nat × List D) (st:St) (p:D) (n:Option Nat) (l:Option Nat) (q:Bool):Option D:=
 match l with
 | some b=>match p with
  | .lp b' g off=>if b'=b∧(rb b).1=g∧g≠0 then part (rb b).2 off n else none
  | _=>none
 | none=>match p with
  | .iptr d=>if d.fits n then some d else none
  | .kp id ver sz idx off=>if n.isNone then some (.hp id ver sz idx off) else none
  | .hp id ver sz idx off=>
   if q then none else
   match st.at id with
   | .cells _ sz' ver' _ _ elems=>if ver'=ver∧sz'=sz then (elems[idx]?).bind fun d=>part d.cells off n else none
   | _=>none
  | _=>none
abbrev Eff:=D × Option (Nat × Nat × List D) × Option St
def storeD (rb:Nat→Nat × List D) (st:St) (p:D) (x:D) (n:Nat) (l:Option Nat):Option Eff:=
 if x.cells.length=n∧x.okv=true then
  match l with
  | some b=>match p with
   | .lp b' g off=>if b'=b∧(rb b).1=g∧g≠0 then (splice (rb b).2 off x.cells).bind fun cs=>some (.undef,some (b,g,cs),none) else none
   | _=>none
  | none=>match p with
   | .hp id ver sz idx off=>
    match st.at id with
    | .cells true sz' ver' mod false elems=>
     if ver'=ver∧sz'=sz then (elems[idx]?).bind fun d=>(splice d.cells off x.cells).bind fun cs=>(rewrap d cs).bind fun d'=>
      some (.undef,none,some (List.set st id (.cells true sz ver (mod+1) false (elems.set idx d')))) else none
    | .cells false ..=>
     (fz1 st x).bind fun r=>
      if r.1.pure then
       match St.at r.2 id with
       | .cells false sz' ver' mod false elems=>
        if ver'=ver∧sz'=sz then (elems[idx]?).bind fun d=>(splice d.cells off r.1.cells).bind fun cs=>(rewrap d cs).bind fun d'=>
         some (.undef,none,some (List.set r.2 id (.cells false sz ver (mod+1) false (elems.set idx d')))) else none
       | _=>none
      else none
    | _=>none
   | _=>none
 else none
def locU (id:Nat) (f:Ob→Option Ob) (st:St):Option St:=(f (St.at st id)).bind fun o=>some (List.set st id o)
def cellU (box:Bool) (ver sz idx off:Nat) (x:D):Ob→Option Ob
 | .cells b sz' ver' mod fr elems=>if b=box∧fr=false∧ver'=ver∧sz'=sz then (elems[idx]?).bind fun d=>(splice d.cells off x.cells).bind fun cs=>(rewrap d cs).bind fun d'=>some (.cells box sz ver (mod+1) false (elems.set idx d')) else none
 | .map ..=>none
def storeXD (box:Bool) (st:St) (p x:D) (n:Nat):Option Eff:=
 if x.cells.length=n∧x.okv=true∧(box=true∨x.pure=true) then
  match p with
  | .hp id ver sz idx off=>(locU id (cellU box ver sz idx off x) st).bind fun s=>some (.undef,none,some s)
  | _=>none
 else none
def boundD (x:Option D) (dflt:Nat) (top:Nat):Option Nat:=
 match x with
 | none=>some dflt
 | some (.int _ i)=>if 0≤i∧i≤top then some i.toNat else none
 | some _=>none
def sliceD (x:D) (lo hi mx:Option D):Option D:=
 match x with
 | .str s=>
  match mx with
  | some _=>none
  | none=>(boundD hi s.length s.length).bind fun h=>(boundD lo 0 h).bind fun l=>some (.str ((s.take h).drop l))
 | .nils=>
  match mx,hi with
  | some _,none=>none
  | _,_=>(boundD mx 0 0).bind fun m=>(boundD hi 0 m).bind fun h=>(boundD lo 0 h).bind fun _=>some .nils
 | .sl sz full ds=>
  match mx,hi with
  | some _,none=>none
  | some m,some _=>(boundD (some m) 0 ds.length).bind fun m=>(boundD hi 0 m).bind fun h=>(boundD lo 0 h).bind fun l=>
    some (.sl sz (m == h) ((ds.take h).drop l))
  | none,_=>(boundD hi ds.length ds.length).bind fun h=>(boundD lo 0 h).bind fun l=>
    some (.sl sz (full && h == ds.length) ((ds.take h).drop l))
 | .rs id ver sz off len full=>
  match mx,hi with
  | some _,none=>none
  | some m,some _=>(boundD (some m) 0 len).bind fun m=>(boundD hi 0 m).bind fun h=>(boundD lo 0 h).bind fun l=>
    some (.rs id ver sz (off+l) (h - l) (m == h))
  | none,_=>(boundD hi len len).bind fun h=>(boundD lo 0 h).bind fun l=>
    some (.rs id ver sz (off+l) (h - l) (full && h == len))
 | _=>none
def slcTy (s:Option Nat) (d:D):Bool:=
 match s,d with
 | none,.str _=>true
 | some _,.nils=>true
 | some k,.sl sz _ _ | some k,.rs _ _ sz _ _ _=>k == sz
 | _,_=>false
def tagB:Nat:=1099511627776
def tagOf (ver:Nat):Nat:=ver / tagB
def appendD (st:St) (s:D) (xs:List D) (sz:Nat):Option (D × St):=
 if most < xs.length then none else
 match s with
 | .nils=>if xs.isEmpty then some (.nils,st) else some (.rs st.length 0 sz 0 xs.length false,st++[.cells false sz 0 0 false xs])
 | .sl sz' full ds=>
  if xs.isEmpty then some (s,st) else
  if full=true∧sz'=sz∧ds.length≤most then
   some (.rs st.length 0 sz 0 (ds.length+xs.length) false,st++[.cells false sz 0 0 false (ds++xs)]) else none
 | .rs id ver sz' off len full=>
  match st.at id with
  | .cells false sz'' ver' mod fr elems=>
   if ver'=ver∧sz''=sz∧sz'=sz∧off+len≤elems.length∧elems.length≤most then
    (if xs.isEmpty then some (s,st) else
     if full then some (.rs st.length 0 sz 0 (len+xs.length) false,st++[.cells false sz 0 0 false ((elems.drop off).take len++xs)]) else
     if fr=false∧off=0∧ver+1 < tagB then some (.rs id (ver+1) sz 0 (len+xs.length) false,List.set st id (.cells false sz (ver+1) (mod+1) false (elems.take len++xs))) else none)
   else none
  | _=>none
 | _=>none
def appendTD (ty:Nat) (st:St) (s:D) (xs:List D) (sz:Nat):Option (D × St):=
 if most < xs.length then none else
 match s with
 | .nils=>if xs.isEmpty then some (.nils,st) else some (.rs st.length ((ty+1) * tagB) sz 0 xs.length false,st++[.cells false sz ((ty+1) * tagB) 0 false xs])
 | .rs id ver sz' off len full=>
  match st.at id with
  | .cells false sz'' ver' mod fr elems=>
   if ver'=ver∧sz''=sz∧sz'=sz∧off+len≤elems.length∧elems.length≤most then
    (if xs.isEmpty then some (s,st) else
     if full=false∧fr=false∧off=0∧tagOf ver=ty+1∧tagOf (ver+1)=ty+1 then some (.rs id (ver+1) sz 0 (len+xs.length) false,List.set st id (.cells false sz (ver+1) (mod+1) false (elems.take len++xs))) else none)
   else none
  | _=>none
 | _=>none
def keyD (kk:Kd) (k k':D):Option Bool:=
 match kk,k,k' with
 | .int,.int j a,.int j' b=>if j=j' then some (a == b) else none
 | .str,.str a,.str b=>some (a == b)
 | _,_,_=>none
def D.isKey (kk:Kd) (k:D):Bool:=
 match kk,k with
 | .int,.int .. | .str,.str _=>true
 | _,_=>false
def seekD (kk:Kd) (k:D):List (D × D)→Nat→Option (Option (Nat × D))
 | [],_=>some none
 | x::r,i=>match keyD kk k x.1 with
  | some true=>some (some (i,x.2))
  | some false=>seekD kk k r (i+1)
  | none=>none
def pureArgs:St→List D→Option (List D × St)
 | st,[]=>some ([],st)
 | st,d::ds=>(fz1 st d).bind fun r=>if r.1.pure then (pureArgs r.2 ds).bind fun q=>some (r.1::q.1,q.2) else none
abbrev GoF:=Nat→List D→St→Option (D × St)
def callD (T:Nat→Option IFunc) (go:GoF) (f:Nat) (args:List D) (st:St):Option (D × St):=
 match T f with
 | none=>none
 | some fn=>
  match fn.mode with
  | .pure=>(pureArgs st args).bind fun a=>(go f a.1 []).bind fun r=>(fz r.2 r.1).bind fun q=>if q.1.pureT then some (q.1,a.2) else none
  | .pop=>if args.all D.okv then (go f args st).bind fun r=>(fz r.2 r.1).bind fun q=>if q.1.pureT && agree st q.2 then some (q.1,st) else none else none
  | .cut=>if args.all D.okv then (go f args st).bind fun r=>(fz r.2 r.1).bind fun q=>if q.1.pureT && settled st q.2 then some (q.1,q.2.take st.length) else none else none
  | .raw=>if args.all D.okv then go f args st else none
  | .fre=>if args.all D.okv then (go f args st).bind fun r=>(fz r.2 r.1).bind fun q=>if q.1.pureT then some q else none else none
def callQD (T:Nat→Option IFunc) (go:GoF) (f:Nat) (args:List D):Option D:=
 match T f with
 | none=>none
 | some fn=>
  match fn.mode with
  | .pure=>if args.all D.pure then (go f args []).bind fun r=>(fz r.2 r.1).bind fun q=>if q.1.pureT then some q.1 else none else none
  | _=>none
def callRD (T:Nat→Option IFunc) (go:GoF) (f:Nat) (args:List D) (st:St):Option D:=
 match T f with
 | none=>none
 | some fn=>
  match fn.mode with
  | .pop=>(callD T go f args st).bind fun r=>some r.1
  | _=>none
def fillD (cs:List D):List (Nat × Nat × D)→Option (List D)
 | []=>some cs
 |(off,n,d)::r=>if d.cells.length=n then (splice cs off d.cells).bind fun cs'=>fillD cs' r else none
def val (v:D):Option Eff:=some (v,none,none)
def boxID (n:Option Nat) (x:D):Option D:=
 if x.fits n && x.pure then some (.iptr x) else match x with
 | .hp id ver sz i o=>if n.isNone then some (.kp id ver sz i o) else none
 | _=>none
def fldD (x:D) (off:Nat) (n:Option Nat):Option D:=
 match x with
 | .iptr v=>(part v.cells off n).bind fun u=>some (.iptr u)
 | .lp b g o=>if g=0 then none else some (.lp b g (o+off))
 | .hp id ver sz i o=>some (.hp id ver sz i (o+off))
 | _=>none
def idxAD (x:D) (i sz:Nat) (n arr:Option Nat):Option D:=
 match arr with
 | none=>match x with
  | .sl sz' _ ds=>if sz'=sz then (ds[i]?).bind fun u=>if u.fits n then some (.iptr u) else none else none
  | .rs id ver sz' off len _=>if sz'=sz∧i < len then some (.hp id ver sz (off+i) 0) else none
  | _=>none
 | some k=>if i < k then (match x with
  | .iptr v=>(part v.cells (i * sz) n).bind fun u=>some (.iptr u)
  | .lp b g o=>if g=0 then none else some (.lp b g (o+i * sz))
  | .hp id ver sz' j o=>some (.hp id ver sz' j (o+i * sz))
  | _=>none) else none
def lenD (st:St) (k:Kd) (x:D) (q:Bool):Option D:=
 match k,x with
 | .str,.str s=>some (.i s.length)
 | .slice,.nils | .map,.nilm=>some (.i 0)
 | .slice,.sl _ _ ds=>some (.i ds.length)
 | .slice,.rs _ _ _ _ len _=>some (.i len)
 | .map,.mp id=>if q then none else match St.at st id with
  | .map _ ents=>some (.i ents.length)
  | _=>none
 | _,_=>none
def actO (T:Nat→Option IFunc) (go:GoF) (rd:Opd→D) (rb:Nat→Nat × List D) (st:St):Io→Option Eff
 | .mv _ x=>val (rd x)
 | .mvn=>val .undef
 | .pick _ x a b=>match rd x with
  | .bool t=>val (if t then rd a else rd b)
  | _=>none
 | .boxL d n x zero=>
  let cs:=match x with | some x=>(rd x).cells | none=>zero
  if cs.length=n∧cs.all D.okv=true then some (.lp d ((rb d).1+1) 0,some (d,(rb d).1+1,cs),none) else none
 | .boxH _ n x=>if (rd x).fits n then some (.hp st.length 0 (n.getD 1) 0 0,none,some (st++[.cells true (n.getD 1) 0 0 false [rd x]])) else none
 | .boxI _ n x=>(boxID n (rd x)).bind val
 | .build _ zero ps=>if ps.all (fun p=>(rd p.2.2).okv) then (fillD zero (ps.map fun p=>(p.1,p.2.1,rd p.2.2))).bind fun cs=>val (.agg cs) else none
 | .bsl _ sz agg xs=>if (xs.map rd).all fun v=>v.fits (if agg then some sz else none) && (v.cells.length == sz && v.pure) then val (.sl sz true (xs.map rd)) else none
 | .bslH _ sz agg xs=>(fzL fz1 st (xs.map rd)).bind fun r=>
  if r.1.all fun v=>v.fits (if agg then some sz else none) && (v.cells.length == sz && v.pure) then
   some (.rs r.2.length 0 sz 0 xs.length true,none,some (r.2++[.cells false sz 0 0 false r.1])) else none
 | .bslF _ sz agg xs=>(fzL fz1 st (xs.map rd)).bind fun r=>
  if (r.1.all fun v=>v.fits (if agg then some sz else none) && (v.cells.length == sz && v.pure))=true then some (.sl sz true r.1,none,some r.2) else none
 | .load _ p n l q=>(loadD rb st (rd p) n l q).bind val
 | .store p x n l=>storeD rb st (rd p) (rd x) n l
 | .storeX box p x n=>storeXD box st (rd p) (rd x) n
 | .stoF p x n b=>(fz1 st (rd x)).bind fun r=>(storeD rb r.2 (rd p) r.1 n (some b)).bind fun e=>some (.undef,e.2.1,some r.2)
 | .nilc _ x=>match nilD .ptr (rd x) with
  | some false=>val (rd x)
  | _=>none
 | .bin _ op x y=>(binD op (rd x) (rd y)).bind val
 | .eqn _ neg k x y=>(eqnD k (rd x) (rd y)).bind fun b=>val (.bool (if neg then !b else b))
 | .un _ op x=>(unD op (rd x)).bind val
 | .conv _ cv x=>
  match cv,rd x with
  | .int k,.int _ n=>val (.int k (k.wrap n))
  | .same,.str s=>val (.str s)
  | .bytesstr,v=>(listD st 1 v).bind fun l=>(l.mapM unbyte).bind fun s=>val (.str s)
  | .strbytes,.str s=>if s.length≤most then some (.rs st.length 0 1 0 s.length false,none,some (st++[.cells false 1 0 0 false (s.map byteD)])) else none
  | _,_=>none
 | .mkfn _ f first cap=>if (first.map rd).all D.okv && (cap.map rd).all D.okv then val (.fn f (first.map rd) (cap.map rd)) else none
 | .fldA _ x off n=>(fldD (rd x) off n).bind val
 | .fld _ x off n=>match rd x with
  | .agg cs=>(part cs off n).bind val
  | _=>none
 | .idxA _ x i sz n arr=>
  match rd i with
  | .int _ i=>if i < 0 then none else (idxAD (rd x) i.toNat sz n arr).bind val
  | _=>none
 | .idx _ x i n sz arr=>
  match rd i with
  | .int _ i=>if i < 0 then none else
   match arr with
   | none=>match rd x with
    | .str s=>(s[i.toNat]?).bind fun b=>val (byteD b)
    | _=>none
   | some k=>match rd x with
    | .agg cs=>if i.toNat < k then (part cs (i.toNat * sz) n).bind val else none
    | _=>none
  | _=>none
 | .slc _ s x lo hi mx=>if slcTy s (rd x) then (sliceD (rd x) (lo.map rd) (hi.map rd) (mx.map rd)).bind val else none
 | .ext _ x i=>match rd x with
  | .tup ds=>(ds[i]?).bind val
  | _=>none
 | .call _ f xs=>(callD T go f (xs.map rd) st).bind fun r=>some (r.1,none,some r.2)
 | .callQ _ f xs=>(callQD T go f (xs.map rd)).bind val
 | .callR _ f xs=>(callRD T go f (xs.map rd) st).bind val
 | .mkif _ t x=>if (rd x).okv then val (.ifc t (rd x)) else none
 | .tas _ t x=>match rd x with
  | .ifc t' v=>if t'=t then val v else none
  | _=>none
 | .inv _ t f der x xs=>match rd x with
  | .ifc t' v=>if t'=t then
    (if der then loadD rb st v none none false else some v).bind fun r=>(callD T go f (r::xs.map rd) st).bind fun r=>some (r.1,none,some r.2) else none
  | _=>none
 | .callV _ f xs=>match rd f with
  | .fn g first cap=>(callD T go g (first++xs.map rd++cap) st).bind fun r=>some (r.1,none,some r.2)
  | _=>none
 | .len _ k x q=>(lenD st k (rd x) q).bind val
 | .app _ s x sz=>(srcD st sz (rd x)).bind fun l=>
   (appendD st (rd s) l sz).bind fun r=>some (r.1,none,some r.2)
 | .appT _ s x sz ty=>(srcD st sz (rd x)).bind fun l=>
   (appendTD ty st (rd s) l sz).bind fun r=>some (r.1,none,some r.2)
 | .boxT _ n x ty=>if x.fits (some n) then some (.hp st.length ((ty+1) * tagB) n 0 0,none,some (st++[.cells true n ((ty+1) * tagB) 0 false [x]])) else none
 | .mkmap _=>some (.mp st.length,none,some (st++[.map 0 []]))
 | .look _ kk m k zero ok=>if (rd k).isKey kk then
  (match rd m with | .nilm=>some none | .mp id=>(match St.at st id with | .map _ ents=>seekD kk (rd k) ents 0 | _=>none) | _=>none:Option (Option (Nat × D))).bind fun r=>
   val (if ok then .tup [(r.map (·.2)).getD zero,.bool r.isSome] else (r.map (·.2)).getD zero) else none
 | .mupd kk m k x=>match rd m with
  | .mp id=>match St.at st id with
   | .map mod ents=>if (rd x).okv && (rd k).isKey kk then (seekD kk (rd k) ents 0).bind fun r=>
     some (.undef,none,some (List.set st id (.map (mod+1) (match r with | some (i,_)=>ents.set i (rd k,rd x) | none=>ents++[(rd k,rd x)])))) else none
   | _=>none
  | _=>none
 | .ment _ kk m k zero=>match rd m with
  | .mp id=>match St.at st id with
   | .map mod ents=>if (rd k).isKey kk && zero.okv then (seekD kk (rd k) ents 0).bind fun r=>match r with
     | some (i,v)=>some (.tup [v,.i i],none,some (List.set st id (.map (mod+1) (ents.set i (rd k,v)))))
     | none=>some (.tup [zero,.i ents.length],none,some (List.set st id (.map (mod+1) (ents++[(rd k,zero)])))) else none
   | _=>none
  | _=>none
 | .mst m s x=>match rd m,rd s with
  | .mp id,.int .i64 i=>match St.at st id with
   | .map mod ents=>if (rd x).okv∧0≤i then (ents[i.toNat]?).bind fun e=>some (.undef,none,some (List.set st id (.map (mod+1) (ents.set i.toNat (e.1,rd x))))) else none
   | _=>none
  | _,_=>none
 | .slcA _ p lo hi n=>match rd p with
  | .hp id ver sz 0 0=>match St.at st id with
   | .cells box sz' ver' mod false [.agg cs]=>
    if ver'=ver∧sz'=sz∧sz=n∧cs.length=n∧cs.all D.pure1=true then
     (boundD (hi.map rd) n n).bind fun h=>(boundD (lo.map rd) 0 h).bind fun l=>
      some (.sl 1 (h == n) ((cs.drop l).take (h - l)),none,some (List.set st id (.cells box sz ver (mod+1) true [.agg cs])))
    else none
   | _=>none
  | _=>none
 | .mksl _ sz zero n cp=>match rd n,rd cp with
  | .int _ n,.int _ k=>if 0≤n∧n≤k∧k≤most then
    some (.rs st.length 0 sz 0 n.toNat (n == k),none,some (st++[.cells false sz 0 0 false (List.replicate n.toNat zero)])) else none
  | _,_=>none
 | .copy _ x y sz=>match rd x with
  | .rs id ver sz' off len _=>
   (srcD st sz (rd y)).bind fun l=>
   match St.at st id with
   | .cells false sz'' ver' mod false elems=>
    if ver'=ver∧sz'=sz∧sz''=sz∧off+len≤elems.length then
     some (.i (min l.length len),none,some (List.set st id (.cells false sz ver (mod+1) false (elems.take off++l.take len++elems.drop (off+min l.length len))))) else none
   | _=>none
  | .nils=>val (.i 0)
  | _=>none
 | .mm _ mx x y=>match rd x,rd y with
  | .int k a,.int k' b=>if k=k' then val (.int k (if mx then (if b > a then b else a) else (if b < a then b else a))) else none
  | _,_=>none
 | .no _=>none
 | .capn _ x=>match rd x with
  | .nils=>val (.i 0)
  | _=>none
 | .appz _ s n sz zero=>match rd s,rd n with
  | .nils,.int _ k=>if 0 < k∧k≤most then
    some (.rs st.length 0 sz 0 k.toNat false,none,some (st++[.cells false sz 0 0 false (List.replicate k.toNat zero)])) else none
  | _,_=>none
def Io.dst:Io→Option Nat
 | .mv d _ | .pick d _ _ _ | .boxL d _ _ _ | .boxH d _ _ | .boxI d _ _ | .build d _ _ | .bsl d _ _ _ | .bslH d _ _ _ | .bslF d _ _ _ | .load d _ _ _ _ | .bin d _ _ _ | .eqn d _ _ _ _ | .un d _ _ | .conv d _ _
 | .mkfn d _ _ _ | .fldA d _ _ _ | .fld d _ _ _ | .idxA d _ _ _ _ _ | .idx d _ _ _ _ _ | .slc d _ _ _ _ _ | .ext d _ _ | .len d _ _ _ | .app d _ _ _ | .appT d _ _ _ _ | .boxT d _ _ _ | .mkmap d | .look d _ _ _ _ _ | .ment d _ _ _ _ | .slcA d _ _ _ _
 | .mksl d _ _ _ _ | .mm d _ _ _ | .mkif d _ _ | .tas d _ _ | .capn d _ | .appz d _ _ _ _=>some d
 | .nilc d _ | .call d _ _ | .callQ d _ _ | .callR d _ _ | .callV d _ _ | .inv d _ _ _ _ _ | .copy d _ _ _ | .no d=>d
 | .mvn | .store .. | .storeX .. | .stoF .. | .mupd .. | .mst ..=>none
abbrev Cfg:=Fr × St
def putO (s:List D) (d:Option Nat) (x:D):List D:=
 match d with
 | some d=>put s d x
 | none=>s
def apply (c:Cfg) (d:Option Nat) (e:Eff):Cfg:=
 ({ s:=putO c.1.s d e.1,b:=match e.2.1 with | some x=>putB c.1.b x.1 x.2 | none=>c.1.b },e.2.2.getD c.2)
def Gi.wanted (o:Gi) (s:List D):Bool:=
 match o.g with
 | none=>true
 | some (j,want)=>match get s j with
  | .bool b=>b == want
  | _=>false
def Gi.blind (o:Gi) (s:List D):Bool:=
 match o.g with
 | none=>false
 | some (j,_)=>match get s j with
  | .lp ..=>true
  | _=>false
def step (T:Nat→Option IFunc) (go:GoF) (c:Cfg) (o:Gi):Option Cfg:=
 if o.blind c.1.s then none else if o.wanted c.1.s then (actO T go (Opd.ev c.1.s) (getB c.1.b) c.2 o.io).map (apply c o.io.dst) else some (apply c o.io.dst (.undef,none,none))
def runOps (T:Nat→Option IFunc) (go:GoF):List Gi→Cfg→Option Cfg
 | [],c=>some c
 | o::os,c=>(step T go c o).bind (runOps T go os)
def iter (body:Cfg→Option (Ex × Cfg)):Nat→Cfg→Option (Ex × Cfg)
 | 0,_=>none
 | n+1,c=>(body c).bind fun r=>match r.1 with
  | .normal=>iter body n r.2
  | e=>some (e,r.2)
def unstr:D→Option (List UInt8)
 | .str s=>some s
 | _=>none
def cutB (c:UInt8):List UInt8→Option (List UInt8 × List UInt8)
 | []=>none
 | x::l=>if x=c then some ([],l) else (cutB c l).map fun r=>(x::r.1,r.2)
def findB (c:UInt8):List UInt8→Nat→Int
 | [],_=>-1
 | x::l,i=>if x=c then i else findB c l (i+1)
def primS (k:Nat) (args:List D) (st:St):Option (List D × St):=
 match k % 4,args with
 | 0,[.hp id ver 2 0 0]=>
  match st.at id with
  | .cells true 2 ver' mod false [.agg [.nilp,b]]=>if ver'=ver∧tagOf ver=k / 4 then some ([],List.set st id (.cells true 2 ver (mod+1) false [.agg [.hp id ver 2 0 0,b]])) else none
  | .cells true 2 ver' _ false [.agg [.hp id' ver'' 2 0 0,_]]=>if ver'=ver∧id'=id∧ver''=ver then some ([],st) else none
  | _=>none
 | 1,[.hp id ver 2 0 0]=>
  match st.at id with
  | .cells true 2 ver' _ false [.agg [_,.nils]]=>if ver'=ver∧tagOf ver=k / 4 % 4096 then some ([.str []],st) else none
  | .cells true 2 ver' _ false [.agg [_,.rs bid bver 1 0 len false]]=>
   match st.at bid with
   | .cells false 1 bver' bmod false elems=>
    if ver'=ver∧bver'=bver∧tagOf ver=k / 4 % 4096∧tagOf bver=k / 4 / 4096∧len≤elems.length∧0 < len∧len≤most then ((elems.take len).mapM unbyte).bind fun s=>some ([.str s],List.set st bid (.cells false 1 bver (bmod+1) true elems)) else none
   | _=>none
  | _=>none
 | 2,[.str s,.str [c]]=>match cutB c s with
  | some r=>some ([.str r.1,.str r.2,.bool true],st)
  | none=>some ([.str s,.str [],.bool false],st)
 | 3,[.str s,.int .u8 c]=>if k=3∧0≤c∧c < 256 then some ([.int .i64 (findB (UInt8.ofNat c.toNat) s 0)],st) else none
 | 3,[.str s,.str [c]]=>if k=7 then some ([.int .i64 (findB c s 0)],st) else none
 | 3,[d,.str sep]=>if k=11 then (listD st 1 d).bind fun l=>(l.mapM unstr).bind fun ss=>if (sep.intercalate ss).length≤most∧l.length≤most then some ([.str (sep.intercalate ss)],st) else none else none
 | _,_=>none
def ints:List D→Option (List Int)
 | []=>some []
 | .int .i64 n::l=>(ints l).map (n::·)
 | _=>none
def rises:List Int→Bool
 | a::b::l=>decide (a≤b) && rises (b::l)
 | _=>true
def primI (k:Nat) (args:List D) (st:St):Option (List D × St):=
 match k,args with
 | 15,[s,.int .i64 i,.rs vid vver 1 voff 1 vf]=>(listD st 1 (.rs vid vver 1 voff 1 vf)).bind fun x=>
  match x,s with
  | [.int .i64 n],.nils=>if i=0 then some ([.rs st.length 0 1 0 1 false],st++[.cells false 1 0 0 false [.int .i64 n]]) else none
  | [.int .i64 n],.rs id ver 1 0 len false=>
   match st.at id with
   | .cells false 1 ver' mod false elems=>
    if ver'=ver∧len=elems.length∧0≤i∧i≤len∧len < most∧ver+1 < tagB∧vid≠id∧(St.at st vid).live=true then
     (ints elems).bind fun zs=>some ([.rs id (ver+1) 1 0 (len+1) false],List.set st id (.cells false 1 (ver+1) (mod+1) false ((zs.take i.toNat++n::zs.drop i.toNat).map (.int .i64)))) else none
   | _=>none
  | _,_=>none
 | 19,[.nils]=>some ([],st)
 | 19,[.rs id ver 1 0 len false]=>
  match st.at id with
  | .cells false 1 ver' mod false elems=>
   if ver'=ver∧len=elems.length∧len < most then (ints elems).bind fun zs=>some ([],List.set st id (.cells false 1 ver (mod+1) false ((zs.mergeSort fun x y=>decide (x≤y)).map (.int .i64)))) else none
  | _=>none
 | 23,[.nils]=>some ([.nils],st)
 | 23,[.rs id ver 1 0 len false]=>
  match st.at id with
  | .cells false 1 ver' mod false elems=>
   if ver'=ver∧len=elems.length∧len < most then (ints elems).bind fun zs=>
    some ([.rs id ver 1 0 (Go.Lib.compact zs).length false],List.set st id (.cells false 1 ver (mod+1) false ((Go.Lib.compact zs++List.replicate (zs.length - (Go.Lib.compact zs).length) 0).map (.int .i64)))) else none
  | _=>none
 | 27,[s,.int .i64 x]=>(listD st 1 s).bind fun l=>(ints l).bind fun zs=>if rises zs=true∧zs.length < most then some ([.int .i64 (zs.countP (· < x):Nat),.bool (zs.contains x)],st) else none
 | _,_=>none
def primD (k:Nat) (args:List D) (st:St):Option (List D × St):=if k % 4=3∧12≤k then primI k args st else primS k args st
def Io.wbox:Io→Option Nat
 | .boxL d _ _ _=>some d
 | .store _ _ _ l=>l
 | .stoF _ _ _ b=>some b
 | _=>none
def Ic.wr:Ic→List Nat
 | .ops l=>l.filterMap fun g=>g.io.dst
 | .seq a b | .cond _ a b=>a.wr++b.wr
 | .amb y x a b=>y::x::(a.wr++b.wr)
 | .block _ a | .loop a=>a.wr
 | _=>[]
def Ic.wrB:Ic→List Nat
 | .ops l=>l.filterMap fun g=>g.io.wbox
 | .seq a b | .cond _ a b | .amb _ _ a b=>a.wrB++b.wrB
 | .block _ a | .loop a=>a.wrB
 | _=>[]
def Ic.plain:Ic→Bool
 | .prim _=>false
 | .seq a b | .cond _ a b | .amb _ _ a b=>a.plain && b.plain
 | .block _ a | .loop a=>a.plain
 | _=>true
def Ob.alike:Ob→Ob→Bool
 | .cells b s v _ f e,.cells b' s' v' _ f' e'=>b == b' && (s == s' && (v == v' && (f == f' && D.eqbs e e')))
 | .map _ e,.map _ e'=>D.eqbs (e.map (·.1)) (e'.map (·.1)) && D.eqbs (e.map (·.2)) (e'.map (·.2))
 | _,_=>false
def Ob.setMod (m:Nat):Ob→Ob
 | .cells b s v _ f e=>.cells b s v m f e
 | .map _ e=>.map m e
def joinOb (o a b:Ob):Option Ob:=if a.alike b=true then some (if a.mod=o.mod∧b.mod=o.mod then a else a.setMod (a.mod+b.mod+1)) else none
def joinSt:St→St→St→Option St
 | _,[],[]=>some []
 | os,a::as,b::bs=>(joinOb (os.headD (.map 0 [])) a b).bind fun o=>(joinSt os.tail as bs).map fun st=>o::st
 | _,_,_=>none
def clearS:List Nat→List D→List D
 | [],s=>s
 | t::ts,s=>clearS ts (put s t .unk)
def ambC (y x:Nat) (t:Bool) (c:Cfg):Cfg:=(⟨put (put c.1.s y .unk) x (.bool t),c.1.b⟩,c.2)
def ambJ (W:List Nat) (c:Cfg) (r q:Ex × Cfg):Option (Ex × Cfg):=
 match r.1,q.1 with
 | .normal,.normal=>(joinSt c.2 r.2.2 q.2.2).map fun st=>(.normal,(⟨clearS W c.1.s,c.1.b⟩,st))
 | _,_=>none
def run (T:Nat→Option IFunc) (go:GoF) (fuel:Nat):Ic→Cfg→Option (Ex × Cfg)
 | .skip,c=>some (.normal,c)
 | .ops l,c=>(runOps T go l c).bind fun c'=>some (.normal,c')
 | .seq a b,c=>(run T go fuel a c).bind fun r=>match r.1 with
  | .normal=>run T go fuel b r.2
  | e=>some (e,r.2)
 | .cond x a b,c=>match x.ev c.1.s with
  | .bool t=>if t then run T go fuel a c else run T go fuel b c
  | _=>none
 | .block id a,c=>(run T go fuel a c).bind fun r=>match r.1 with
  | .exit id'=>some (if id'=id then .normal else .exit id',r.2)
  | e=>some (e,r.2)
 | .loop a,c=>iter (run T go fuel a) fuel c
 | .exit id,c=>some (.exit id,c)
 | .ret,c=>some (.ret,c)
 | .prim k,c=>(primD k c.1.s c.2).map fun r=>(.normal,(⟨r.1,c.1.b⟩,r.2))
 | .amb y x a b,c=>(run T go fuel a (ambC y x true c)).bind fun r=>(run T go fuel b (ambC y x false c)).bind fun q=>ambJ (y::x::(a.wr++b.wr)) c r q
def resD (c:Cfg):Rv→Option D
 | .t n=>if (get c.1.s n).okv then some (get c.1.s n) else none
 | .cell n sz l=>loadD (getB c.1.b) c.2 (get c.1.s n) sz l false
def resL (c:Cfg):List Rv→Option (List D)
 | []=>some []
 | r::rs=>(resD c r).bind fun d=>(resL c rs).bind fun ds=>some (d::ds)
def finish (res:List Rv) (c:Cfg):Option (D × St):=
 (resL c res).bind fun ds=>match ds with
  | [d]=>some (d,c.2)
  | ds=>some (.tup ds,c.2)
def evT (T:Nat→Option IFunc):Nat→GoF
 | 0,_,_,_=>none
 | k+1,f,args,st=>(T f).bind fun fn=>(run T (evT T k) k fn.code ({ s:=args,b:=[] },st)).bind fun r=>
  match r.1 with
  | .normal | .ret=>finish fn.res r.2
  | _=>none
end Go.Nt
namespace Go.Nt
open Go
abbrev Bl:=Nat→Nat
def LiveB (st:St) (bl:Bl) (b:Nat):Prop:=∃ id,id < st.length∧(St.at st id).live=true∧bl id=b
def NN (L:Nat→Prop) (st:St) (bl:Bl) (b:Nat):Prop:=L b∨LiveB st bl b
def D.cell:D→Bool
 | .agg _ | .tup _ | .lp ..=>false
 | _=>true
def Ob.isMap:Ob→Bool
 | .map ..=>true
 | _=>false
def MemAt (w:World) (N:Nat→Prop) (b o:Nat) (v:Value):Prop:=
 ¬ N b∧b < w.heap.size∧∀ (j:Nat) (u:Value),v.cells[j]?=some u→w.cell? ⟨b,o+j,none⟩=some u
inductive Rep (w:World) (N:Nat→Prop) (st:St) (bl:Bl):Value→D→Prop
 | bool (b:Bool):Rep w N st bl (.bool b) (.bool b)
 | int (k:IntKind) (n:Int):Rep w N st bl (.int k n) (.int k n)
 | str (s:ByteArray):Rep w N st bl (.string s) (.str s.data.toList)
 | agg (cs:Array Value) (ds:List D) (hl:cs.size=ds.length) (hc:∀ (i:Nat) (d:D),ds[i]?=some d→d.cell=true)
   (h:∀ (i:Nat) (v:Value) (d:D),cs[i]?=some v→ds[i]?=some d→Rep w N st bl v d):Rep w N st bl (.agg cs) (.agg ds)
 | tup (vs:Array Value) (ds:List D) (hl:vs.size=ds.length) (h:∀ (i:Nat) (v:Value) (d:D),vs[i]?=some v→ds[i]?=some d→Rep w N st bl v d):Rep w N st bl (.tuple vs) (.tup ds)
 | nilp:Rep w N st bl (.pointer none) .nilp
 | iptr (b o:Nat) (v:Value) (d:D) (hm:MemAt w N b o v) (hp:d.pure=true) (h:Rep w N st bl v d):Rep w N st bl (.pointer (some ⟨b,o,none⟩)) (.iptr d)
 | hp (id ver sz idx off:Nat) (a:Addr) (hi:id < st.length) (hv:ver≤(St.at st id).ver) (ha:(St.at st id).ver=ver→a=⟨bl id,idx * sz+off,none⟩) :
   Rep w N st bl (.pointer (some a)) (.hp id ver sz idx off)
 | nils:Rep w N st bl (.slice none 0 0) .nils
 | sl (sz:Nat) (full:Bool) (ds:List D) (a:Addr) (cap:Nat) (vs:Nat→Value) (hc:ds.length≤cap) (hf:full=true→cap=ds.length) (hs:ds≠[]→a.spot=none)
   (hp:∀ (i:Nat) (d:D),ds[i]?=some d→d.pure=true∧d.cells.length=sz) (hm:∀ (i:Nat) (d:D),ds[i]?=some d→MemAt w N a.block (a.off+i * sz) (vs i))
   (h:∀ (i:Nat) (d:D),ds[i]?=some d→Rep w N st bl (vs i) d):Rep w N st bl (.slice (some a) ds.length cap) (.sl sz full ds)
 | rs (id ver sz off len:Nat) (full:Bool) (a:Addr) (cap:Nat) (hi:id < st.length) (hv:ver≤(St.at st id).ver) (hc:len≤cap∧cap≤9223372036854775807) (hf:full=true→cap=len)
   (ha:(St.at st id).ver=ver→(cap≠0→a=⟨bl id,off * sz,none⟩)∧∃ c e f,w.heap[bl id]?=some (.cells c e f)∧(off+cap) * sz≤c.size) :
   Rep w N st bl (.slice (some a) len cap) (.rs id ver sz off len full)
 | nilf:Rep w N st bl .nilFunc .nilf
 | fn (f:Nat) (xs ys:Array Value) (ds es:List D) (hl:xs.size=ds.length) (hk:ys.size=es.length)
   (h:∀ (i:Nat) (v:Value) (d:D),xs[i]?=some v→ds[i]?=some d→Rep w N st bl v d)
   (k:∀ (i:Nat) (v:Value) (d:D),ys[i]?=some v→es[i]?=some d→Rep w N st bl v d):Rep w N st bl (.func (.func f) xs ys) (.fn f ds es)
 | nilm:Rep w N st bl (.map none) .nilm
 | nili:Rep w N st bl .nilIface .nili
 | mp (id:Nat) (hi:id < st.length) (hm:(St.at st id).isMap=true):Rep w N st bl (.map (some (bl id))) (.mp id)
 | ifc (t:Nat) (v:Value) (d:D) (hd:d.okv=true) (h:Rep w N st bl v d):Rep w N st bl (.iface t v) (.ifc t d)
 | kp (b o id ver sz idx off:Nat) (v:Value) (hm:MemAt w N b o v) (h:Rep w N st bl v (.hp id ver sz idx off)):Rep w N st bl (.pointer (some ⟨b,o,none⟩)) (.kp id ver sz idx off)
def SameSize (w w':World) (b:Nat):Prop:=∀ c e f,w.heap[b]?=some (.cells c e f)→∃ c' f',w'.heap[b]?=some (.cells c' e f')∧c'.size=c.size
structure Ext (w:World) (N:Nat→Prop) (st:St) (bl:Bl) (w':World) (N':Nat→Prop) (st':St) (bl':Bl):Prop where
 same:∀ b,¬ N b→b < w.heap.size→w'.heap[b]?=w.heap[b]?∧¬ N' b
 len:st.length≤st'.length
 ver:∀ id,id < st.length→(St.at st id).ver≤(St.at st' id).ver∧((St.at st' id).ver=(St.at st id).ver→bl' id=bl id∧SameSize w w' (bl id))
 map:∀ id,id < st.length→(St.at st id).isMap=true→(St.at st' id).isMap=true∧bl' id=bl id
theorem cell_lt {w:World} {a:Addr} {u:Value} (h:w.cell? a=some u):a.block < w.heap.size:=by
 unfold World.cell? at h
 rcases Nat.lt_or_ge a.block w.heap.size with g | g
 ·exact g
 ·rw [Array.getElem?_eq_none g] at h; simp at h
theorem cell_of_block {w w':World} {a:Addr} (h:w'.heap[a.block]?=w.heap[a.block]?):w'.cell? a=w.cell? a:=by
 unfold World.cell?; rw [h]
theorem MemAt.ext {w:World} {N:Nat→Prop} {st:St} {bl:Bl} {w':World} {N':Nat→Prop} {st':St} {bl':Bl} (E:Ext w N st bl w' N' st' bl') {b o:Nat} {v:Value}
  (hsz:w.heap.size≤w'.heap.size) (h:MemAt w N b o v):MemAt w' N' b o v:=by
 obtain ⟨h1,hz,h2⟩:=h
 refine ⟨(E.same b h1 hz).2,by omega,fun j u hu=>?_⟩
 rw [cell_of_block (E.same b h1 hz).1]
 exact h2 j u hu
theorem cell_cells {d:D} (h:d.cell=true):d.cells=[d]:=by cases d <;> simp_all [D.cell,D.cells]
theorem Rep.cells_size {w:World} {N:Nat→Prop} {st:St} {bl:Bl} {v:Value} {d:D} (h:Rep w N st bl v d):v.cells.size=d.cells.length:=by
 cases h <;> first | rfl | (simp [Value.cells,D.cells]; done) | (simp only [Value.cells,D.cells]; assumption)
theorem Rep.cells_one {w:World} {N:Nat→Prop} {st:St} {bl:Bl} {v:Value} {d:D} (h:Rep w N st bl v d) (hd:∀ cs,d≠.agg cs):v.cells=#[v]∧d.cells=[d]:=by
 cases h <;> first | exact ⟨rfl,rfl⟩ | exact absurd rfl (hd _)
theorem Rep.cells {w:World} {N:Nat→Prop} {st:St} {bl:Bl} {v:Value} {d:D} (h:Rep w N st bl v d) {i:Nat} {u:Value} {c:D} (hu:v.cells[i]?=some u) (hc:d.cells[i]?=some c) :
  Rep w N st bl u c:=by
 by_cases hd:∃ cs,d=.agg cs
 ·obtain ⟨cs,rfl⟩:=hd
  cases h with
  | agg cs ds hl hcell h=>exact h i u c hu hc
 ·obtain ⟨h1,h2⟩:=h.cells_one (fun cs e=>hd ⟨cs,e⟩)
  rw [h1] at hu; rw [h2] at hc
  cases i with
  | zero=>simp at hu hc; subst hu; subst hc; exact h
  | succ i=>simp at hu
theorem Rep.ext {w:World} {N:Nat→Prop} {st:St} {bl:Bl} {w':World} {N':Nat→Prop} {st':St} {bl':Bl} (E:Ext w N st bl w' N' st' bl') (hsz:w.heap.size≤w'.heap.size) {v:Value} {d:D}
  (h:Rep w N st bl v d):Rep w' N' st' bl' v d:=by
 induction h with
 | bool b=>exact .bool b
 | int k n=>exact .int k n
 | str s=>exact .str s
 | agg cs ds hl hc h ih=>exact .agg cs ds hl hc ih
 | tup vs ds hl h ih=>exact .tup vs ds hl ih
 | nilp=>exact .nilp
 | iptr b o v d hm hp h ih=>exact .iptr b o v d (hm.ext E hsz) hp ih
 | hp id ver sz idx off a hi hv ha=>
  have hl:=E.len
  obtain ⟨h1,h2⟩:=E.ver id hi
  refine .hp id ver sz idx off a (by omega) (by omega) fun e=>?_
  have e2:(St.at st id).ver=ver:=by omega
  rw [(h2 (by omega)).1]
  exact ha e2
 | nils=>exact .nils
 | sl sz full ds a cap vs hc hf hs hp hm h ih=>exact .sl sz full ds a cap vs hc hf hs hp (fun i d hd=>(hm i d hd).ext E hsz) ih
 | rs id ver sz off len full a cap hi hv hc hf ha=>
  have hl:=E.len
  obtain ⟨h1,h2⟩:=E.ver id hi
  refine .rs id ver sz off len full a cap (by omega) (by omega) hc hf fun e=>?_
  obtain ⟨hb,hs⟩:=h2 (by omega)
  obtain ⟨h3,c,e',f,h4,h5⟩:=ha (by omega)
  obtain ⟨c',f',h6,h7⟩:=hs c e' f h4
  rw [hb]
  exact ⟨h3,c',e',f',h6,by omega⟩
 | nilf=>exact .nilf
 | fn f xs ys ds es hl hk h k ih ik=>exact .fn f xs ys ds es hl hk ih ik
 | nilm=>exact .nilm
 | nili=>exact .nili
 | mp id hi hm=>
  have hl:=E.len
  obtain ⟨h1,h2⟩:=E.map id hi hm
  rw [←h2]
  exact .mp id (by omega) h1
 | ifc t v d hd h ih=>exact .ifc t v d hd ih
 | kp b o id ver sz idx off v hm h ih=>exact .kp b o id ver sz idx off v (hm.ext E hsz) ih
theorem D.pure0_cell {d:D} (h:d.pure0=true):d.cell=true:=by cases d <;> simp_all [D.pure0,D.cell]
theorem D.p01 {d:D} (h:d.pure0=true):d.pure1=true:=by
 cases d with
 | fn f a b=>
  simp only [D.pure0,Bool.and_eq_true,List.isEmpty_iff] at h
  obtain ⟨rfl,rfl⟩:=h
  rfl
 | _=>first | rfl | (simp [D.pure0] at h; done)
theorem D.p1 {d:D} (h:d.pure1=true):d.pure=true:=by cases d <;> first | rfl | exact h | (simp [D.pure1,D.pure0] at h; done)
theorem D.pT {d:D} (h:d.pure=true):d.pureT=true:=by cases d <;> first | rfl | exact h | (simp [D.pure,D.pure1,D.pure0] at h; done)
theorem D.pF {d:D} (h:d.pureF=true):d.pure=true:=by
 cases d <;> first | (simp only [D.pureF] at h; exact D.p1 (D.p01 h)) | skip
 simp only [D.pureF,List.all_eq_true] at h
 simp only [D.pure,List.all_eq_true]
 exact fun x hx=>D.p01 (h x hx)
theorem all_get {α:Type} {ds:List α} {i:Nat} {d:α} {p:α→Bool} (h:ds.all p=true) (hd:ds[i]?=some d):p d=true:=List.all_eq_true.1 h d (List.mem_of_getElem? hd)
theorem Rep.free {w:World} {N:Nat→Prop} {st:St} {bl:Bl} {w':World} {N':Nat→Prop} {st':St} {bl':Bl}
  (E:∀ b,¬ N b→b < w.heap.size→w'.heap[b]?=w.heap[b]?∧¬ N' b) (hsz:w.heap.size≤w'.heap.size) {v:Value} {d:D}
  (h:Rep w N st bl v d):d.pureT=true→Rep w' N' st' bl' v d:=by
 have hm':∀ {b o:Nat} {v:Value},MemAt w N b o v→MemAt w' N' b o v:=by
  intro b o v h
  obtain ⟨h1,hz,h2⟩:=h
  refine ⟨(E b h1 hz).2,by omega,fun j u hu=>?_⟩
  rw [cell_of_block (E b h1 hz).1]
  exact h2 j u hu
 induction h with
 | bool b=>intro _; exact .bool b
 | int k n=>intro _; exact .int k n
 | str s=>intro _; exact .str s
 | agg cs ds hl hc h ih=>
  intro hp
  simp only [D.pureT,D.pure] at hp
  exact .agg cs ds hl hc fun i v d hv hd=>ih i v d hv hd (D.pT (D.p1 (all_get hp hd)))
 | tup vs ds hl h ih=>
  intro hp
  simp only [D.pureT] at hp
  exact .tup vs ds hl fun i v d hv hd=>ih i v d hv hd (D.pT (all_get hp hd))
 | nilp=>intro _; exact .nilp
 | iptr b o v d hm hp h ih=>intro _; exact .iptr b o v d (hm' hm) hp (ih (D.pT hp))
 | hp id ver sz idx off a hi hv ha=>intro hp; simp [D.pureT,D.pure,D.pure1,D.pure0] at hp
 | nils=>intro _; exact .nils
 | sl sz full ds a cap vs hc hf hs hp hm h ih=>intro _; exact .sl sz full ds a cap vs hc hf hs hp (fun i d hd=>hm' (hm i d hd)) (fun i d hd=>ih i d hd (D.pT (hp i d hd).1))
 | rs id ver sz off len full a cap hi hv hc hf ha=>intro hp; simp [D.pureT,D.pure,D.pure1,D.pure0] at hp
 | nilf=>intro _; exact .nilf
 | fn f xs ys ds es hl hk h k ih ik=>
  intro hp
  simp only [D.pureT,D.pure,D.pure1,Bool.and_eq_true] at hp
  exact .fn f xs ys ds es hl hk (fun i v d hv hd=>ih i v d hv hd (D.pT (D.pF (all_get hp.1 hd)))) (fun i v d hv hd=>ik i v d hv hd (D.pT (D.p1 (D.p01 (all_get hp.2 hd)))))
 | nilm=>intro _; exact .nilm
 | nili=>intro _; exact .nili
 | mp id hi hm=>intro hp; simp [D.pureT,D.pure,D.pure1,D.pure0] at hp
 | ifc t v d hd h ih=>intro hp; simp [D.pureT,D.pure,D.pure1,D.pure0] at hp
 | kp b o id ver sz idx off v hm h ih=>intro hp; simp [D.pureT,D.pure,D.pure1,D.pure0] at hp
end Go.Nt
namespace Go.Nt
open Go
theorem get_put (l:List D) (i:Nat) (d:D) (j:Nat):get (put l i d) j=if j=i then d else get l j:=by
 induction l generalizing i j with
 | nil=>
  induction i generalizing j with
  | zero=>cases j <;> simp [put,get]
  | succ i ih=>
   cases j with
   | zero=>simp [put,get]
   | succ j=>
    have:=ih j
    simp only [put,get,List.getD_cons_succ] at this ⊢
    rw [this]
    simp
 | cons x l ih=>
  cases i with
  | zero=>cases j <;> simp [put,get]
  | succ i=>
   cases j with
   | zero=>simp [put,get]
   | succ j=>
    have:=ih i j
    simp only [put,get,List.getD_cons_succ] at this ⊢
    rw [this]
    simp
theorem getB_putB (l:List (Nat × List D)) (i:Nat) (d:Nat × List D) (j:Nat):getB (putB l i d) j=if j=i then d else getB l j:=by
 induction l generalizing i j with
 | nil=>
  induction i generalizing j with
  | zero=>cases j <;> simp [putB,getB]
  | succ i ih=>
   cases j with
   | zero=>simp [putB,getB]
   | succ j=>
    have:=ih j
    simp only [putB,getB,List.getD_cons_succ] at this ⊢
    rw [this]
    simp
 | cons x l ih=>
  cases i with
  | zero=>cases j <;> simp [putB,getB]
  | succ i=>
   cases j with
   | zero=>simp [putB,getB]
   | succ j=>
    have:=ih i j
    simp only [putB,getB,List.getD_cons_succ] at this ⊢
    rw [this]
    simp
def OwnB (bx:List (Nat × List D)) (lb:Nat→Nat) (b:Nat):Prop:=∃ x,(getB bx x).1≠0∧lb x=b
def SRep (w:World) (N:Nat→Prop) (st:St) (bl:Bl) (rb:Nat→Nat × List D) (lb:Nat→Nat) (v:Value) (d:D):Prop:=
 match d with
 | .lp b g off=>g=0∨∃ a:Addr,v=.pointer (some a)∧g≤(rb b).1∧((rb b).1=g→a=⟨lb b,off,none⟩∧g≠0)
 | d=>Rep w N st bl v d
theorem SRep.rep {w:World} {N:Nat→Prop} {st:St} {bl:Bl} {rb:Nat→Nat × List D} {lb:Nat→Nat} {v:Value} {d:D}
  (h:SRep w N st bl rb lb v d) (hd:∀ b g off,d≠.lp b g off):Rep w N st bl v d:=by
 cases d <;> first | exact h | exact absurd rfl (hd _ _ _)
theorem Rep.slot {w:World} {N:Nat→Prop} {st:St} {bl:Bl} {v:Value} {d:D} (rb:Nat→Nat × List D) (lb:Nat→Nat) (h:Rep w N st bl v d):SRep w N st bl rb lb v d:=by
 cases d <;> first | exact h | cases h
theorem SRep.okv {w:World} {N:Nat→Prop} {st:St} {bl:Bl} {rb:Nat→Nat × List D} {lb:Nat→Nat} {v:Value} {d:D}
  (h:SRep w N st bl rb lb v d) (hd:d.okv=true):Rep w N st bl v d:=h.rep fun b g off e=>by subst e; simp [D.okv] at hd
def CRep (w:World) (N:Nat→Prop) (st:St) (bl:Bl) (cs:Array Value) (o:Nat) (c:D):Prop:=c.cell=true∧∃ v,cs[o]?=some v∧Rep w N st bl v c
def TagOK (box:Bool) (ver:Nat) (e:TypeId) (n size:Nat):Prop:=tagOf ver≠0→e+1=tagOf ver∧(box=true→size=n)
theorem tag_zero {box:Bool} {e:TypeId} {n size:Nat}:TagOK box 0 e n size:=fun h=>absurd (by simp [tagOf]) h
theorem tag_small {box:Bool} {ver:Nat} {e:TypeId} {n size:Nat} (h:ver < tagB):TagOK box ver e n size:=fun g=>absurd (Nat.div_eq_of_lt h) g
def ObRel (w:World) (N:Nat→Prop) (st:St) (bl:Bl) (b:Nat):Ob→Prop
 | .cells box sz ver _ fr elems=>∃ cs e lo hi,w.heap[b]?=some (.cells cs e (lo,hi))∧(fr=false→∀ o,o≤cs.size→¬ (lo≤o∧o < hi))∧(elems.length * sz≤cs.size∧TagOK box ver e (elems.length * sz) cs.size) ∧
   ∀ (i:Nat) (d:D),elems[i]?=some d→d.cells.length=sz∧d.okv=true∧(box=false→d.pure=true)∧∀ (j:Nat) (c:D),d.cells[j]?=some c→CRep w N st bl cs (i * sz+j) c
 | .map _ ents=>∃ es clock,w.heap[b]?=some (.map es clock)∧(es.size=ents.length∧clock=es.size∧∀ (i:Nat) (e:MapEntry),es[i]?=some e→e.born=i)∧∀ (i:Nat) (e:MapEntry) (x:D × D),es[i]?=some e→ents[i]?=some x →
   Rep w N st bl e.key x.1∧Rep w N st bl e.val x.2∧x.2.okv=true
structure HRel (w:World) (L:Nat→Prop) (st:St) (bl:Bl):Prop where
 inj:∀ i j,i < st.length→j < st.length→bl i=bl j→i=j
 out:∀ i,i < st.length→¬ L (bl i)
 obj:∀ i,i < st.length→ObRel w (NN L st bl) st bl (bl i) (St.at st i)
theorem ObRel.lt {w:World} {N:Nat→Prop} {st:St} {bl:Bl} {b:Nat} {o:Ob} (h:ObRel w N st bl b o):b < w.heap.size:=by
 rcases Nat.lt_or_ge b w.heap.size with g | g
 ·exact g
 ·cases o <;> simp only [ObRel,Array.getElem?_eq_none g] at h <;> simp at h
structure Evo (w:World) (st:St) (bl:Bl) (w':World) (st':St) (bl':Bl):Prop where
 os:w'.os=w.os
 tape:w'.tape=w.tape
 output:w'.output=w.output
 size:w.heap.size≤w'.heap.size
 same:∀ b,b < w.heap.size→¬ LiveB st bl b→w'.heap[b]?=w.heap[b]?
 live:∀ b,LiveB st' bl' b→LiveB st bl b∨w.heap.size≤b
 len:st.length≤st'.length
 ver:∀ id,id < st.length→(St.at st id).ver≤(St.at st' id).ver∧((St.at st' id).ver=(St.at st id).ver→bl' id=bl id∧SameSize w w' (bl id))
 map:∀ id,id < st.length→(St.at st id).isMap=true→(St.at st' id).isMap=true∧bl' id=bl id
 mod:∀ id,id < st.length→(St.at st id).mod≤(St.at st' id).mod∧((St.at st' id).mod=(St.at st id).mod→St.at st' id=St.at st id∧bl' id=bl id∧w'.heap[bl id]?=w.heap[bl id]?)
theorem SameSize.refl (w:World) (b:Nat):SameSize w w b:=fun c _ f h=>⟨c,f,h,rfl⟩
theorem SameSize.trans {w w' w'':World} {b:Nat} (h:SameSize w w' b) (k:SameSize w' w'' b):SameSize w w'' b:=fun c e f hc=>by
 obtain ⟨c',f',h1,h2⟩:=h c e f hc
 obtain ⟨c'',f'',h3,h4⟩:=k c' e f' h1
 exact ⟨c'',f'',h3,by omega⟩
theorem SameSize.of_eq {w w':World} {b:Nat} (h:w'.heap[b]?=w.heap[b]?):SameSize w w' b:=fun c e f hc=>⟨c,f,by rw [h]; exact hc,rfl⟩
theorem Evo.refl (w:World) (st:St) (bl:Bl):Evo w st bl w st bl:=
 ⟨rfl,rfl,rfl,Nat.le_refl _,fun _ _ _=>rfl,fun _ h=>.inl h,Nat.le_refl _,fun _ _=>⟨Nat.le_refl _,fun _=>⟨rfl,.refl _ _⟩⟩,fun _ _ h=>⟨h,rfl⟩,fun _ _=>⟨Nat.le_refl _,fun _=>⟨rfl,rfl,rfl⟩⟩⟩
theorem Evo.trans {w:World} {st:St} {bl:Bl} {w':World} {st':St} {bl':Bl} {w'':World} {st'':St} {bl'':Bl}
  (h:Evo w st bl w' st' bl') (k:Evo w' st' bl' w'' st'' bl''):Evo w st bl w'' st'' bl'':=by
 have hs:=h.size
 have hl:=h.len
 refine ⟨k.os.trans h.os,k.tape.trans h.tape,k.output.trans h.output,Nat.le_trans h.size k.size,fun b hb hn=>?_,fun b hb=>?_,Nat.le_trans h.len k.len,fun id hid=>?_,fun id hid hm=>?_,fun id hid=>?_⟩
 ·rw [k.same b (by omega) (fun hx=>(h.live b hx).elim hn (fun _=>by omega)),h.same b hb hn]
 ·rcases k.live b hb with g | g
  ·exact h.live b g
  ·exact .inr (by omega)
 ·obtain ⟨a1,a2⟩:=h.ver id hid
  obtain ⟨b1,b2⟩:=k.ver id (by omega)
  refine ⟨by omega,fun e=>?_⟩
  obtain ⟨c1,c2⟩:=a2 (by omega)
  obtain ⟨d1,d2⟩:=b2 (by omega)
  rw [c1] at d1 d2
  exact ⟨d1,c2.trans d2⟩
 ·obtain ⟨a1,a2⟩:=h.map id hid hm
  obtain ⟨b1,b2⟩:=k.map id (by omega) a1
  exact ⟨b1,b2.trans a2⟩
 ·obtain ⟨a1,a2⟩:=h.mod id hid
  obtain ⟨b1,b2⟩:=k.mod id (by omega)
  refine ⟨by omega,fun e=>?_⟩
  obtain ⟨c1,c2,c3⟩:=a2 (by omega)
  obtain ⟨d1,d2,d3⟩:=b2 (by omega)
  rw [c2] at d2 d3
  exact ⟨d1.trans c1,d2,d3.trans c3⟩
theorem Evo.ext {w:World} {st:St} {bl:Bl} {w':World} {st':St} {bl':Bl} (h:Evo w st bl w' st' bl') {L:Nat→Prop} :
  Ext w (NN L st bl) st bl w' (NN L st' bl') st' bl':=
 ⟨fun b hb hz=>⟨h.same b hz (fun g=>hb (.inr g)),fun g=>g.elim (fun g=>hb (.inl g)) (fun g=>(h.live b g).elim (fun g=>hb (.inr g)) (fun _=>by omega))⟩,h.len,h.ver,h.map⟩
structure Cx where
 L:Nat→Prop
 w:World
 st:St
 bl:Bl
 n:Nat
def Cx.LL (X:Cx) (bx:List (Nat × List D)) (lb:Nat→Nat) (b:Nat):Prop:=X.L b∨OwnB bx lb b
structure CR (X:Cx) (c:Cfg) (bl:Bl) (lb:Nat→Nat) (a:Act) (w:World):Prop where
 outer:∀ b,X.L b→b < X.w.heap.size
 defers:a.defers=[]
 size:X.n≤a.tmps.size
 slots:∀ t,SRep w (NN (X.LL c.1.b lb) c.2 bl) c.2 bl (getB c.1.b) lb (a.tmps.getD t undef) (get c.1.s t)
 boxes:∀ x,(getB c.1.b x).1≠0→X.w.heap.size≤lb x∧∃ cs e,w.heap[lb x]?=some (.cells cs e (0,0))∧cs.size=(getB c.1.b x).2.length ∧
  ∀ (j:Nat) (d:D),(getB c.1.b x).2[j]?=some d→CRep w (NN (X.LL c.1.b lb) c.2 bl) c.2 bl cs j d
 apart:∀ x y,(getB c.1.b x).1≠0→(getB c.1.b y).1≠0→lb x=lb y→x=y
 heap:HRel w (X.LL c.1.b lb) c.2 bl
 evo:Evo X.w X.st X.bl w c.2 bl
theorem CRep.ext {w:World} {N:Nat→Prop} {st:St} {bl:Bl} {w':World} {N':Nat→Prop} {st':St} {bl':Bl} (E:Ext w N st bl w' N' st' bl') (hsz:w.heap.size≤w'.heap.size)
  {cs:Array Value} {o:Nat} {c:D} (h:CRep w N st bl cs o c):CRep w' N' st' bl' cs o c:=by
 obtain ⟨h1,v,h2,h3⟩:=h
 exact ⟨h1,v,h2,h3.ext E hsz⟩
theorem SRep.ext {w:World} {N:Nat→Prop} {st:St} {bl:Bl} {w':World} {N':Nat→Prop} {st':St} {bl':Bl} (E:Ext w N st bl w' N' st' bl') (hsz:w.heap.size≤w'.heap.size)
  {rb:Nat→Nat × List D} {lb:Nat→Nat} {v:Value} {d:D} (h:SRep w N st bl rb lb v d):SRep w' N' st' bl' rb lb v d:=by
 cases d <;> first | exact h | exact Rep.ext E hsz h
theorem ObRel.ext {w:World} {N:Nat→Prop} {st:St} {bl:Bl} {w':World} {N':Nat→Prop} {st':St} {bl':Bl} (E:Ext w N st bl w' N' st' bl') (hsz:w.heap.size≤w'.heap.size)
  {b:Nat} {o:Ob} (hb:w'.heap[b]?=w.heap[b]?) (h:ObRel w N st bl b o):ObRel w' N' st' bl' b o:=by
 cases o with
 | cells box sz v m fr elems=>
  obtain ⟨cs,e,lo,hi,h1,h2,h3,h4⟩:=h
  refine ⟨cs,e,lo,hi,by rw [hb]; exact h1,h2,h3,fun i d hd=>?_⟩
  obtain ⟨a1,a2,a3,a4⟩:=h4 i d hd
  exact ⟨a1,a2,a3,fun j c hc=>(a4 j c hc).ext E hsz⟩
 | map m ents=>
  obtain ⟨es,clock,h1,h2,h3⟩:=h
  refine ⟨es,clock,by rw [hb]; exact h1,h2,fun i e x he hx=>?_⟩
  obtain ⟨a1,a2,a3⟩:=h3 i e x he hx
  exact ⟨a1.ext E hsz,a2.ext E hsz,a3⟩
theorem CR.go {X:Cx} {c:Cfg} {bl:Bl} {lb:Nat→Nat} {a:Act} {w:World} (C:CR X c bl lb a w) {w':World} {st':St} {bl':Bl}
  (E:Evo w c.2 bl w' st' bl') (H:HRel w' (X.LL c.1.b lb) st' bl'):CR X (c.1,st') bl' lb a w':=by
 have hLL:∀ b,X.LL c.1.b lb b→b < w.heap.size:=by
  intro b hb
  rcases hb with hb | ⟨x,hx,rfl⟩
  ·exact Nat.lt_of_lt_of_le (C.outer b hb) C.evo.size
  ·obtain ⟨_,cs,e,hc,_⟩:=C.boxes x hx
   rcases Nat.lt_or_ge (lb x) w.heap.size with g | g
   ·exact g
   ·rw [Array.getElem?_eq_none g] at hc; simp at hc
 have X':=E.ext (L:=X.LL c.1.b lb)
 refine ⟨C.outer,C.defers,C.size,fun t=>(C.slots t).ext X' E.size,fun x hx=>?_,C.apart,H,C.evo.trans E⟩
 obtain ⟨h1,cs,e,h2,h3,h4⟩:=C.boxes x hx
 have hb:w'.heap[lb x]?=w.heap[lb x]?:=by
  refine E.same _ (hLL _ (.inr ⟨x,hx,rfl⟩)) ?_
  rintro ⟨id,hid,_,hbl⟩
  exact C.heap.out id hid (by rw [hbl]; exact .inr ⟨x,hx,rfl⟩)
 exact ⟨h1,cs,e,by rw [hb]; exact h2,h3,fun j d hd=>(h4 j d hd).ext X' E.size⟩
theorem Act.tmps_put (a:Act) (d:Option Tmp) (v:Value) (t:Nat) (hd:∀ d',d=some d'→d' < a.tmps.size) :
  (a.put d v).tmps.getD t undef=if d=some t then v else a.tmps.getD t undef:=by
 cases d with
 | none=>simp [Act.put]
 | some d=>
  have:=hd d rfl
  simp only [Act.put,Option.some.injEq,Array.getD_eq_getD_getElem?,Array.getElem?_setIfInBounds]
  by_cases h:d=t
  ·subst h; simp [this]
  ·simp [h]
theorem Act.size_put (a:Act) (d:Option Tmp) (v:Value):(a.put d v).tmps.size=a.tmps.size:=by cases d <;> simp [Act.put]
theorem Act.defers_put (a:Act) (d:Option Tmp) (v:Value):(a.put d v).defers=a.defers:=by cases d <;> rfl
theorem CR.put {X:Cx} {c:Cfg} {bl:Bl} {lb:Nat→Nat} {a:Act} {w:World} (C:CR X c bl lb a w) {dst:Option Nat} (hd:∀ d,dst=some d→d < X.n) {v:Value} {d:D}
  (h:dst≠none→SRep w (NN (X.LL c.1.b lb) c.2 bl) c.2 bl (getB c.1.b) lb v d):CR X (apply c dst (d,none,none)) bl lb (a.put dst v) w:=by
 refine ⟨C.outer,by rw [Act.defers_put]; exact C.defers,by rw [Act.size_put]; exact C.size,fun t=>?_,C.boxes,C.apart,C.heap,C.evo⟩
 rw [Act.tmps_put a dst v t (fun d' e=>Nat.lt_of_lt_of_le (hd d' e) C.size)]
 cases dst with
 | none=>simpa [apply,putO] using C.slots t
 | some e=>
  simp only [apply,putO,get_put,Option.some.injEq]
  by_cases he:t=e
  ·subst he; simpa using h (by simp)
  ·rw [if_neg (fun q=>he q.symm),if_neg he]; exact C.slots t
end Go.Nt
namespace Go.Nt
open Go
theorem at_append (st:St) (o:Ob) (i:Nat) (h:i < st.length):St.at (st++[o]) i=St.at st i:=by
 simp [St.at,List.getD_eq_getElem?_getD,List.getElem?_append_left h]
theorem at_append_self (st:St) (o:Ob):St.at (st++[o]) st.length=o:=by
 simp [St.at,List.getD_eq_getElem?_getD]
theorem at_set (st:St) (o:Ob) (i j:Nat) (h:i < st.length):St.at (List.set st i o) j=if j=i then o else St.at st j:=by
 simp only [St.at,List.getD_eq_getElem?_getD,List.getElem?_set]
 by_cases e:i=j
 ·subst e; simp [h]
 ·rw [if_neg e,if_neg (fun q=>e q.symm)]
structure Al (w w':World) (o:Obj):Prop where
 os:w'.os=w.os
 tape:w'.tape=w.tape
 output:w'.output=w.output
 size:w'.heap.size=w.heap.size+1
 same:∀ k,k < w.heap.size→w'.heap[k]?=w.heap[k]?
 new:w'.heap[w.heap.size]?=some o
structure Wr (w w':World) (b:Nat) (o:Obj):Prop where
 os:w'.os=w.os
 tape:w'.tape=w.tape
 output:w'.output=w.output
 size:w'.heap.size=w.heap.size
 same:∀ k,k≠b→w'.heap[k]?=w.heap[k]?
 new:w'.heap[b]?=some o
theorem HRel.lt {w:World} {L:Nat→Prop} {st:St} {bl:Bl} (H:HRel w L st bl) {i:Nat} (h:i < st.length):bl i < w.heap.size:=(H.obj i h).lt
theorem Evo.grown {w w':World} (st:St) (bl:Bl) (hbl:∀ i,i < st.length→bl i < w.heap.size) (h1:w'.os=w.os) (h2:w'.tape=w.tape) (h3:w'.output=w.output) (h4:w.heap.size≤w'.heap.size)
  (h5:∀ k,k < w.heap.size→w'.heap[k]?=w.heap[k]?):Evo w st bl w' st bl:=
 ⟨h1,h2,h3,h4,fun b hb _=>h5 b hb,fun _ h=>.inl h,Nat.le_refl _,fun id hid=>⟨Nat.le_refl _,fun _=>⟨rfl,.of_eq (h5 _ (hbl id hid))⟩⟩,fun _ _ h=>⟨h,rfl⟩,
  fun id hid=>⟨Nat.le_refl _,fun _=>⟨rfl,rfl,h5 _ (hbl id hid)⟩⟩⟩
theorem HRel.grown {w w':World} {L:Nat→Prop} {st:St} {bl:Bl} (H:HRel w L st bl) (h1:w'.os=w.os) (h2:w'.tape=w.tape) (h3:w'.output=w.output) (h4:w.heap.size≤w'.heap.size)
  (h5:∀ k,k < w.heap.size→w'.heap[k]?=w.heap[k]?):HRel w' L st bl:=by
 have E:=Evo.grown st bl (fun i hi=>H.lt hi) h1 h2 h3 h4 h5
 exact ⟨H.inj,H.out,fun i hi=>(H.obj i hi).ext (E.ext (L:=L)) h4 (h5 _ (H.lt hi))⟩
theorem new_ext {w w':World} {L:Nat→Prop} {st:St} {bl:Bl} (H:HRel w L st bl) {o:Obj} (A:Al w w' o) (ob:Ob) :
  Evo w st bl w' (st++[ob]) (fun i=>if i=st.length then w.heap.size else bl i):=by
 have hne:∀ i,i < st.length→(if i=st.length then w.heap.size else bl i)=bl i:=fun i hi=>if_neg (by omega)
 refine ⟨A.os,A.tape,A.output,by have:=A.size; omega,fun b hb _=>A.same b hb,fun b hb=>?_,by simp,fun id hid=>?_,fun id hid hm=>?_,fun id hid=>?_⟩
 ·obtain ⟨id,hid,hl,hb⟩:=hb
  by_cases h:id=st.length
  ·right; simp only [h,if_true] at hb; omega
  ·left
   have hid':id < st.length:=by simp at hid; omega
   simp only [if_neg h] at hb
   rw [at_append _ _ _ hid'] at hl
   exact ⟨id,hid',hl,hb⟩
 ·rw [at_append _ _ _ hid]; exact ⟨Nat.le_refl _,fun _=>⟨hne id hid,.of_eq (A.same _ (H.lt hid))⟩⟩
 ·rw [at_append _ _ _ hid]; exact ⟨hm,hne id hid⟩
 ·rw [at_append _ _ _ hid]; exact ⟨Nat.le_refl _,fun _=>⟨rfl,hne id hid,A.same _ (H.lt hid)⟩⟩
theorem HRel.new {w w':World} {L:Nat→Prop} {st:St} {bl:Bl} (H:HRel w L st bl) (hL:∀ b,L b→b < w.heap.size) {o:Obj} (A:Al w w' o) {ob:Ob}
  (ho:ObRel w' (NN L (st++[ob]) (fun i=>if i=st.length then w.heap.size else bl i)) (st++[ob]) (fun i=>if i=st.length then w.heap.size else bl i) w.heap.size ob) :
  HRel w' L (st++[ob]) (fun i=>if i=st.length then w.heap.size else bl i):=by
 have E:=new_ext H A ob
 have hs:=A.size
 refine ⟨fun i j hi hj h=>?_,fun i hi=>?_,fun i hi=>?_⟩
 ·simp at hi hj
  by_cases h1:i=st.length <;> by_cases h2:j=st.length <;> simp only [h1,h2,if_true,if_false] at h
  ·omega
  ·have:=H.lt (i:=j) (by omega); omega
  ·have:=H.lt (i:=i) (by omega); omega
  ·exact H.inj i j (by omega) (by omega) h
 ·simp at hi
  by_cases h1:i=st.length
  ·rw [if_pos h1]; exact fun g=>by have:=hL _ g; omega
  ·rw [if_neg h1]; exact H.out i (by omega)
 ·simp at hi
  by_cases h1:i=st.length
  ·subst h1; rw [at_append_self,if_pos rfl]; exact ho
  ·rw [at_append _ _ _ (by omega),if_neg h1]
   exact (H.obj i (by omega)).ext (E.ext (L:=L)) (by omega) (A.same _ (H.lt (by omega)))
theorem upd_ext {w w':World} {L:Nat→Prop} {st:St} {bl:Bl} (H:HRel w L st bl) {id:Nat} (hid:id < st.length) (hlive:(St.at st id).live=true) (ob:Ob) (nb:Nat)
  (h1:w'.os=w.os) (h2:w'.tape=w.tape) (h3:w'.output=w.output) (h4:w.heap.size≤w'.heap.size)
  (h5:∀ k,k < w.heap.size→k≠bl id→w'.heap[k]?=w.heap[k]?) (hnb:nb=bl id∨w.heap.size≤nb)
  (hver:(St.at st id).ver < ob.ver∨(ob.ver=(St.at st id).ver∧nb=bl id∧SameSize w w' (bl id))) (hmod:(St.at st id).mod < ob.mod)
  (hmap:(St.at st id).isMap=true→ob.isMap=true∧nb=bl id) :
  Evo w st bl w' (List.set st id ob) (fun i=>if i=id then nb else bl i):=by
 refine ⟨h1,h2,h3,h4,fun b hb hn=>h5 b hb fun e=>hn ⟨id,hid,hlive,e.symm⟩,fun b hb=>?_,by simp,fun i hi=>?_,fun i hi hm=>?_,fun i hi=>?_⟩
 ·obtain ⟨i,hi,hl,hb⟩:=hb
  simp only [List.length_set] at hi
  rw [at_set _ _ _ _ hid] at hl
  by_cases e:i=id
  ·subst e
   simp only [if_true] at hb
   subst hb
   rcases hnb with h | h
   ·exact .inl ⟨i,hi,hlive,h.symm⟩
   ·exact .inr h
  ·rw [if_neg e] at hl
   simp only [if_neg e] at hb
   exact .inl ⟨i,hi,hl,hb⟩
 ·rw [at_set _ _ _ _ hid]
  by_cases e:i=id
  ·subst e
   simp only [if_true]
   rcases hver with h | ⟨h,k,l⟩
   ·exact ⟨by omega,fun e=>by omega⟩
   ·exact ⟨by omega,fun _=>⟨k,l⟩⟩
  ·rw [if_neg e,if_neg e]
   exact ⟨Nat.le_refl _,fun _=>⟨rfl,.of_eq (h5 _ (H.lt hi) fun q=>e (H.inj _ _ hi hid q))⟩⟩
 ·rw [at_set _ _ _ _ hid]
  by_cases e:i=id
  ·subst e; simp only [if_true]; exact hmap hm
  ·rw [if_neg e,if_neg e]; exact ⟨hm,rfl⟩
 ·rw [at_set _ _ _ _ hid]
  by_cases e:i=id
  ·subst e; simp only [if_true]; exact ⟨by omega,fun e=>by omega⟩
  ·rw [if_neg e,if_neg e]
   exact ⟨Nat.le_refl _,fun _=>⟨rfl,rfl,h5 _ (H.lt hi) fun q=>e (H.inj _ _ hi hid q)⟩⟩
theorem HRel.upd {w w':World} {L:Nat→Prop} {st:St} {bl:Bl} (H:HRel w L st bl) (hL:∀ b,L b→b < w.heap.size) {id:Nat} (hid:id < st.length) {ob:Ob} {nb:Nat}
  (E:Evo w st bl w' (List.set st id ob) (fun i=>if i=id then nb else bl i))
  (h5:∀ k,k < w.heap.size→k≠bl id→w'.heap[k]?=w.heap[k]?) (hnb:nb=bl id∨w.heap.size≤nb)
  (ho:ObRel w' (NN L (List.set st id ob) (fun i=>if i=id then nb else bl i)) (List.set st id ob) (fun i=>if i=id then nb else bl i) nb ob) :
  HRel w' L (List.set st id ob) (fun i=>if i=id then nb else bl i):=by
 refine ⟨fun i j hi hj h=>?_,fun i hi=>?_,fun i hi=>?_⟩
 ·simp only [List.length_set] at hi hj
  by_cases e1:i=id <;> by_cases e2:j=id <;> simp only [e1,e2,if_true,if_false] at h
  ·omega
  ·rcases hnb with q | q
   ·have:=H.inj id j hid hj (by rw [←q]; exact h); omega
   ·have:=H.lt hj; omega
  ·rcases hnb with q | q
   ·have:=H.inj i id hi hid (by rw [←q]; exact h); omega
   ·have:=H.lt hi; omega
  ·exact H.inj i j hi hj h
 ·simp only [List.length_set] at hi
  by_cases e:i=id
  ·rw [if_pos e]
   rcases hnb with q | q
   ·rw [q]; exact H.out id hid
   ·exact fun g=>by have:=hL _ g; omega
  ·rw [if_neg e]; exact H.out i hi
 ·simp only [List.length_set] at hi
  rw [at_set _ _ _ _ hid]
  by_cases e:i=id
  ·rw [if_pos e,if_pos e]; exact ho
  ·rw [if_neg e,if_neg e]
   exact (H.obj i hi).ext (E.ext (L:=L)) E.size (h5 _ (H.lt hi) fun q=>e (H.inj _ _ hi hid q))
theorem CR.bound {X:Cx} {c:Cfg} {bl:Bl} {lb:Nat→Nat} {a:Act} {w:World} (C:CR X c bl lb a w):∀ b,X.LL c.1.b lb b→b < w.heap.size:=by
 intro b hb
 rcases hb with hb | ⟨x,hx,rfl⟩
 ·exact Nat.lt_of_lt_of_le (C.outer b hb) C.evo.size
 ·obtain ⟨_,cs,e,hc,_⟩:=C.boxes x hx
  rcases Nat.lt_or_ge (lb x) w.heap.size with g | g
  ·exact g
  ·rw [Array.getElem?_eq_none g] at hc; simp at hc
theorem CR.grown {X:Cx} {c:Cfg} {bl:Bl} {lb:Nat→Nat} {a:Act} {w w':World} (C:CR X c bl lb a w) (h1:w'.os=w.os) (h2:w'.tape=w.tape) (h3:w'.output=w.output) (h4:w.heap.size≤w'.heap.size)
  (h5:∀ k,k < w.heap.size→w'.heap[k]?=w.heap[k]?):CR X c bl lb a w':=
 C.go (Evo.grown c.2 bl (fun _ hi=>C.heap.lt hi) h1 h2 h3 h4 h5) (C.heap.grown h1 h2 h3 h4 h5)
theorem CR.boxNew {X:Cx} {c:Cfg} {bl:Bl} {lb:Nat→Nat} {a:Act} {w w':World} (C:CR X c bl lb a w) {d:Nat} (hd:d < X.n) {cs:Array Value} {e:TypeId} {ds:List D}
  (A:Al w w' (.cells cs e (0,0))) (hsz:cs.size=ds.length) (hc:∀ (j:Nat) (x:D),ds[j]?=some x→CRep w (NN (X.LL c.1.b lb) c.2 bl) c.2 bl cs j x) :
  CR X (apply c (some d) (.lp d ((getB c.1.b d).1+1) 0,some (d,(getB c.1.b d).1+1,ds),none)) bl (fun x=>if x=d then w.heap.size else lb x)
   (a.put (some d) (.pointer (some ⟨w.heap.size,0,none⟩))) w':=by
 have hs:=A.size
 have hlt:=C.bound
 have own:∀ b,OwnB (putB c.1.b d ((getB c.1.b d).1+1,ds)) (fun x=>if x=d then w.heap.size else lb x) b→b=w.heap.size∨OwnB c.1.b lb b:=by
  rintro b ⟨x,hx,hb⟩
  rw [getB_putB] at hx
  by_cases h:x=d
  ·left; simp only [h,if_true] at hb; exact hb.symm
  ·right; rw [if_neg h] at hx; simp only [if_neg h] at hb; exact ⟨x,hx,hb⟩
 have E:Ext w (NN (X.LL c.1.b lb) c.2 bl) c.2 bl w' (NN (X.LL (putB c.1.b d ((getB c.1.b d).1+1,ds)) (fun x=>if x=d then w.heap.size else lb x)) c.2 bl) c.2 bl:=by
  refine ⟨fun b hb hz=>⟨A.same b hz,fun g=>?_⟩,Nat.le_refl _,fun id hid=>⟨Nat.le_refl _,fun _=>⟨rfl,.of_eq (A.same _ (C.heap.lt hid))⟩⟩,fun _ _ h=>⟨h,rfl⟩⟩
  rcases g with (g | g) | g
  ·exact hb (.inl (.inl g))
  ·rcases own b g with g | g
   ·omega
   ·exact hb (.inl (.inr g))
  ·exact hb (.inr g)
 have hsize:=C.evo.size
 refine ⟨C.outer,by rw [Act.defers_put]; exact C.defers,by rw [Act.size_put]; exact C.size,fun t=>?_,fun x hx=>?_,fun x y hx hy h=>?_,?_,?_⟩
 ·rw [Act.tmps_put a (some d) _ t (fun d' e=>by cases e; exact Nat.lt_of_lt_of_le hd C.size)]
  simp only [apply,putO,get_put,Option.some.injEq]
  by_cases he:t=d
  ·subst he
   rw [if_pos rfl,if_pos rfl]
   refine .inr ⟨_,rfl,?_,fun _=>⟨by simp,by omega⟩⟩
   rw [getB_putB,if_pos rfl]; exact Nat.le_refl _
  ·rw [if_neg (fun q=>he q.symm),if_neg he]
   have:=(C.slots t).ext E (by omega)
   cases hg:get c.1.s t <;> rw [hg] at this <;> first | exact this | skip
   rename_i b g off
   rcases this with this | this
   ·exact .inl this
   obtain ⟨p,hp,hle,hq⟩:=this
   by_cases hb:b=d
   ·subst hb
    refine .inr ⟨p,hp,?_,fun hgen=>?_⟩
    ·rw [getB_putB,if_pos rfl]; exact Nat.le_succ_of_le hle
    ·rw [getB_putB,if_pos rfl] at hgen
     simp only at hgen
     omega
   ·refine .inr ⟨p,hp,?_,fun hgen=>?_⟩
    ·rw [getB_putB,if_neg hb]; exact hle
    ·rw [getB_putB,if_neg hb] at hgen
     simp only [if_neg hb]
     exact hq hgen
 ·simp only [apply] at hx ⊢
  rw [getB_putB] at hx ⊢
  by_cases h:x=d
  ·subst h
   simp only [if_true]
   exact ⟨hsize,cs,e,A.new,hsz,fun j y hy=>(hc j y hy).ext E (by omega)⟩
  ·rw [if_neg h] at hx ⊢
   simp only [if_neg h]
   obtain ⟨h1,cs',e',h2,h3,h4⟩:=C.boxes x hx
   exact ⟨h1,cs',e',by rw [A.same _ (hlt _ (.inr ⟨x,hx,rfl⟩))]; exact h2,h3,fun j y hy=>(h4 j y hy).ext E (by omega)⟩
 ·simp only [apply] at hx hy
  rw [getB_putB] at hx hy
  by_cases h1:x=d <;> by_cases h2:y=d <;> simp only [h1,h2,if_true,if_false] at h hx hy
  ·rw [h1,h2]
  ·have:=hlt _ (.inr ⟨y,hy,rfl⟩); omega
  ·have:=hlt _ (.inr ⟨x,hx,rfl⟩); omega
  ·exact C.apart x y hx hy h
 ·refine ⟨C.heap.inj,fun i hi g=>?_,fun i hi=>(C.heap.obj i hi).ext E (by omega) (A.same _ (C.heap.lt hi))⟩
  rcases g with g | g
  ·exact C.heap.out i hi (.inl g)
  ·rcases own _ g with q | q
   ·have:=C.heap.lt (i:=i) hi; omega
   ·exact C.heap.out i hi (.inr q)
 ·exact C.evo.trans (Evo.grown c.2 bl (fun _ hi=>C.heap.lt hi) A.os A.tape A.output (by omega) A.same)
theorem CR.boxStore {X:Cx} {c:Cfg} {bl:Bl} {lb:Nat→Nat} {a:Act} {w w':World} (C:CR X c bl lb a w) {b:Nat} (hg:(getB c.1.b b).1≠0) {cs cs':Array Value} {e:TypeId} {ds:List D}
  (ho:w.heap[lb b]?=some (.cells cs e (0,0))) (W:Wr w w' (lb b) (.cells cs' e (0,0))) (hlen:ds.length=(getB c.1.b b).2.length) (hsz:cs'.size=ds.length)
  (hc:∀ (j:Nat) (x:D),ds[j]?=some x→CRep w (NN (X.LL c.1.b lb) c.2 bl) c.2 bl cs' j x) :
  CR X (apply c none (.undef,some (b,(getB c.1.b b).1,ds),none)) bl lb a w':=by
 have hs:=W.size
 have hlt:=C.bound
 have own:∀ x,OwnB (putB c.1.b b ((getB c.1.b b).1,ds)) lb x↔OwnB c.1.b lb x:=by
  intro x
  constructor
  ·rintro ⟨y,hy,h⟩
   rw [getB_putB] at hy
   by_cases q:y=b
   ·subst q; exact ⟨y,hg,h⟩
   ·rw [if_neg q] at hy; exact ⟨y,hy,h⟩
  ·rintro ⟨y,hy,h⟩
   refine ⟨y,?_,h⟩
   rw [getB_putB]
   by_cases q:y=b
   ·subst q; simpa using hy
   ·rw [if_neg q]; exact hy
 have hobj:∀ i,i < c.2.length→w'.heap[bl i]?=w.heap[bl i]?:=fun i hi=>W.same _ fun q=>C.heap.out i hi (by rw [q]; exact .inr ⟨b,hg,rfl⟩)
 have E:Ext w (NN (X.LL c.1.b lb) c.2 bl) c.2 bl w' (NN (X.LL (putB c.1.b b ((getB c.1.b b).1,ds)) lb) c.2 bl) c.2 bl:=by
  refine ⟨fun k hk hz=>⟨W.same _ fun q=>hk (.inl (.inr ⟨b,hg,q.symm⟩)),fun g=>?_⟩,Nat.le_refl _,fun id hid=>⟨Nat.le_refl _,fun _=>⟨rfl,.of_eq (hobj id hid)⟩⟩,fun _ _ h=>⟨h,rfl⟩⟩
  rcases g with (g | g) | g
  ·exact hk (.inl (.inl g))
  ·exact hk (.inl (.inr ((own _).1 g)))
  ·exact hk (.inr g)
 obtain ⟨hbase,_⟩:=C.boxes b hg
 have hgen:∀ x,(getB (putB c.1.b b ((getB c.1.b b).1,ds)) x).1=(getB c.1.b x).1:=by
  intro x; rw [getB_putB]; by_cases q:x=b
  ·subst q; simp
  ·rw [if_neg q]
 refine ⟨C.outer,C.defers,C.size,fun t=>?_,fun x hx=>?_,fun x y hx hy h=>?_,?_,?_⟩
 ·have:=(C.slots t).ext E (by omega)
  simp only [apply,putO]
  cases hg':get c.1.s t <;> rw [hg'] at this <;> first | exact this | skip
  rename_i b' g off
  rcases this with this | this
  ·exact .inl this
  obtain ⟨p,hp,hle,hq⟩:=this
  exact .inr ⟨p,hp,by rw [hgen]; exact hle,fun h=>hq (by rw [hgen] at h; exact h)⟩
 ·simp only [apply] at hx ⊢
  rw [hgen] at hx
  rw [getB_putB]
  by_cases h:x=b
  ·subst h
   simp only [if_true]
   exact ⟨hbase,cs',e,W.new,hsz,fun j y hy=>(hc j y hy).ext E (by omega)⟩
  ·rw [if_neg h]
   obtain ⟨h1,cs2,e',h2,h3,h4⟩:=C.boxes x hx
   exact ⟨h1,cs2,e',by rw [W.same _ (fun q=>h (C.apart x b hx hg q))]; exact h2,h3,fun j y hy=>(h4 j y hy).ext E (by omega)⟩
 ·simp only [apply] at hx hy
  rw [hgen] at hx hy
  exact C.apart x y hx hy h
 ·refine ⟨C.heap.inj,fun i hi g=>?_,fun i hi=>(C.heap.obj i hi).ext E (by omega) (hobj i hi)⟩
  rcases g with g | g
  ·exact C.heap.out i hi (.inl g)
  ·exact C.heap.out i hi (.inr ((own _).1 g))
 ·have V:=C.evo
  refine ⟨W.os.trans V.os,W.tape.trans V.tape,W.output.trans V.output,by have:=V.size; omega,fun k hk hn=>?_,V.live,V.len,fun id hid=>?_,V.map,fun id hid=>?_⟩
  ·rw [W.same _ (by omega)]; exact V.same k hk hn
  ·obtain ⟨h1,h2⟩:=V.ver id hid
   refine ⟨h1,fun e=>?_⟩
   obtain ⟨h3,h4⟩:=h2 e
   refine ⟨h3,fun c0 e0 f0 hc0=>?_⟩
   obtain ⟨c1,f1,h5,h6⟩:=h4 c0 e0 f0 hc0
   have:=hobj id (Nat.lt_of_lt_of_le hid V.len)
   rw [h3] at this
   exact ⟨c1,f1,by rw [this]; exact h5,h6⟩
  ·obtain ⟨h1,h2⟩:=V.mod id hid
   refine ⟨h1,fun e=>?_⟩
   obtain ⟨h3,h4,h5⟩:=h2 e
   have:=hobj id (Nat.lt_of_lt_of_le hid V.len)
   rw [h4] at this
   exact ⟨h3,h4,this.trans h5⟩
end Go.Nt
namespace Go.Nt
open Go
def constC:Value→D→Bool
 | .bool a,.bool b=>a == b
 | .int k n,.int j m=>decide (k=j) && n == m
 | .string s,.str l=>s.data.toList == l
 | .pointer none,.nilp=>true
 | .nilFunc,.nilf=>true
 | .map none,.nilm=>true
 | .nilIface,.nili=>true
 | .slice none 0 0,.nils=>true
 | _,_=>false
def constOK:Value→D→Bool
 | .agg cs,.agg ds=>cs.size == ds.length && (cs.toList.zip ds).all fun p=>constC p.1 p.2
 | .tuple vs,.tup ds=>vs.size == 0 && ds.isEmpty
 | v,d=>constC v d
theorem constC_rep {w:World} {N:Nat→Prop} {st:St} {bl:Bl} {v:Value} {d:D} (h:constC v d=true):Rep w N st bl v d∧d.cell=true∧d.okv=true:=by
 unfold constC at h
 split at h
 ·simp at h; subst h; exact ⟨.bool _,rfl,rfl⟩
 ·simp at h; obtain ⟨rfl,rfl⟩:=h; exact ⟨.int _ _,rfl,rfl⟩
 ·simp at h; subst h; exact ⟨.str _,rfl,rfl⟩
 ·exact ⟨.nilp,rfl,rfl⟩
 ·exact ⟨.nilf,rfl,rfl⟩
 ·exact ⟨.nilm,rfl,rfl⟩
 ·exact ⟨.nili,rfl,rfl⟩
 ·exact ⟨.nils,rfl,rfl⟩
 ·simp at h
theorem zip_all {p:Value→D→Bool}:∀ {l:List Value} {ds:List D},((l.zip ds).all fun x=>p x.1 x.2)=true→∀ (i:Nat) (v:Value) (d:D),l[i]?=some v→ds[i]?=some d→p v d=true
 | [],_,_,i,v,d,h,_=>by simp at h
 | _::_,[],_,i,v,d,_,h=>by simp at h
 | x::l,y::ds,h,i,v,d,hv,hd=>by
  simp at h
  cases i with
  | zero=>simp at hv hd; subst hv; subst hd; exact h.1
  | succ i=>exact zip_all (by simpa using h.2) i v d (by simpa using hv) (by simpa using hd)
theorem const_rep {w:World} {N:Nat→Prop} {st:St} {bl:Bl} {v:Value} {d:D} (h:constOK v d=true):Rep w N st bl v d:=by
 unfold constOK at h
 split at h
 ·rename_i cs ds
  simp only [Bool.and_eq_true,beq_iff_eq] at h
  refine .agg cs ds h.1 (fun i d hd=>?_) (fun i v d hv hd=>(constC_rep (zip_all h.2 i v d (by simpa using hv) hd)).1)
  have hi:i < cs.size:=by have:=(List.getElem?_eq_some_iff.1 hd).1; omega
  exact (constC_rep (w:=w) (N:=N) (st:=st) (bl:=bl) (zip_all h.2 i cs[i] d (by simp [hi]) hd)).2.1
 ·rename_i vs ds
  simp only [Bool.and_eq_true,beq_iff_eq,List.isEmpty_iff] at h
  obtain ⟨h1,rfl⟩:=h
  exact .tup vs [] (by simpa using h1) (fun i v d _ hd=>by simp at hd)
 ·exact (constC_rep h).1
def opdOK:Operand→Opd→Bool
 | .tmp t,.t n=>t == n
 | .const v,.c d=>constOK v d
 | .func f,.f n=>f == n
 | _,_=>false
def opdsOK:List Operand→List Opd→Bool
 | [],[]=>true
 | x::xs,y::ys=>opdOK x y && opdsOK xs ys
 | _,_=>false
def opdO:Option Operand→Option Opd→Bool
 | none,none=>true
 | some x,some y=>opdOK x y
 | _,_=>false
variable {P:Program} {X:Cx} {c:Cfg} {bl:Bl} {lb:Nat→Nat} {a:Act} {w:World}
abbrev NX (X:Cx) (c:Cfg) (bl:Bl) (lb:Nat→Nat):Nat→Prop:=NN (X.LL c.1.b lb) c.2 bl
abbrev SR (X:Cx) (c:Cfg) (bl:Bl) (lb:Nat→Nat) (w:World) (v:Value) (d:D):Prop:=SRep w (NX X c bl lb) c.2 bl (getB c.1.b) lb v d
abbrev RR (X:Cx) (c:Cfg) (bl:Bl) (lb:Nat→Nat) (w:World) (v:Value) (d:D):Prop:=Rep w (NX X c bl lb) c.2 bl v d
theorem opd_rep (C:CR X c bl lb a w) {x:Operand} {y:Opd} (h:opdOK x y=true):SR X c bl lb w (a.eval x) (y.ev c.1.s):=by
 unfold opdOK at h
 split at h
 ·rename_i t n; simp at h; subst h; exact C.slots t
 ·exact (const_rep h).slot _ _
 ·rename_i f n; simp at h; subst h
  exact (Rep.fn f #[] #[] [] [] rfl rfl (fun i v d hv _=>by simp at hv) (fun i v d hv _=>by simp at hv)).slot _ _
 ·simp at h
theorem opds_rep (C:CR X c bl lb a w):∀ {xs:List Operand} {ys:List Opd},opdsOK xs ys=true→xs.length=ys.length∧∀ (i:Nat) (v:Value) (d:D),(xs.map a.eval)[i]?=some v→(ys.map (Opd.ev c.1.s))[i]?=some d→SR X c bl lb w v d
 | [],[],_=>⟨rfl,fun i v d hv _=>by simp at hv⟩
 | [],_::_,h=>by simp [opdsOK] at h
 | _::_,[],h=>by simp [opdsOK] at h
 | x::xs,y::ys,h=>by
  simp only [opdsOK,Bool.and_eq_true] at h
  obtain ⟨h1,h2⟩:=opds_rep C h.2
  refine ⟨by simp [h1],fun i v d hv hd=>?_⟩
  cases i with
  | zero=>simp at hv hd; subst hv; subst hd; exact opd_rep C h.1
  | succ i=>exact h2 i v d (by simpa using hv) (by simpa using hd)
def shapeOK (P:Program) (t:TypeId) (n:Option Nat):Bool:=
 match P.underlying t,P.info? t with
 | some (.struct _),some i | some (.array ..),some i=>n == some i.size
 | some _,some i=>n == none && i.size == 1
 | _,_=>false
def sizeOK (P:Program) (t:TypeId) (n:Nat):Bool:=
 match P.info? t with
 | some i=>i.size == n
 | none=>false
def zeroOK (P:Program) (t:TypeId) (d:D):Bool:=
 match (P.info? t).bind (·.zero) with
 | some z=>constOK z d
 | none=>false
theorem size_run {t:TypeId} {n:Nat} (h:sizeOK P t n=true) (w:World):(sizeOf t).run P w=.ok n w:=by
 unfold sizeOK at h
 cases hi:P.info? t with
 | none=>simp [hi] at h
 | some i=>simp [hi] at h; simp [sizeOf,typeInfo,hi,h]
theorem shape_run {t:TypeId} {n:Option Nat} (h:shapeOK P t n=true) (w:World):(isAgg t).run P w=.ok n.isSome w∧(sizeOf t).run P w=.ok (n.getD 1) w:=by
 unfold shapeOK at h
 have hs:∀ i,P.info? t=some i→(sizeOf t).run P w=.ok i.size w:=fun i hi=>by simp [sizeOf,typeInfo,hi]
 split at h
 ·rename_i f i hu hi
  simp at h; subst h
  exact ⟨by simp [isAgg,run_underlying hu],hs i hi⟩
 ·rename_i i hu hi
  simp at h; subst h
  exact ⟨by simp [isAgg,run_underlying hu],hs i hi⟩
 ·rename_i d i h1 h2 hu hi
  simp at h; obtain ⟨rfl,h⟩:=h
  refine ⟨?_,by rw [hs i hi,h]; rfl⟩
  unfold isAgg
  rw [Sem.run_bind,run_underlying hu]
  cases d <;> first | rfl | exact absurd rfl (h1 _) | exact absurd rfl (h2 _ _)
 ·simp at h
theorem zero_run {t:TypeId} {d:D} (h:zeroOK P t d=true) (w:World):∃ z,(zeroValue t).run P w=.ok z w∧constOK z d=true:=by
 unfold zeroOK at h
 cases hi:P.info? t with
 | none=>simp [hi] at h
 | some i=>
  cases hz:i.zero with
  | none=>simp [hi,hz] at h
  | some z=>exact ⟨z,by simp [zeroValue,typeInfo,hi,hz],by simpa [hi,hz] using h⟩
def Cells (w:World) (N:Nat→Prop) (st:St) (bl:Bl) (b o:Nat) (ds:List D):Prop:=∀ (j:Nat) (d:D),ds[j]?=some d→d.cell=true∧∃ v,w.cell? ⟨b,o+j,none⟩=some v∧Rep w N st bl v d
theorem part_run {N:Nat→Prop} {st:St} {b o off:Nat} {ds:List D} {n:Option Nat} {d:D} (h:Cells w N st bl b o ds) (hp:part ds off n=some d) :
  ∃ v,(∀ t,shapeOK P t n=true→(loadVar t ⟨b,o+off,none⟩).run P w=.ok v w)∧Rep w N st bl v d∧∀ (j:Nat) (x:Value),v.cells[j]?=some x→w.cell? ⟨b,o+off+j,none⟩=some x:=by
 cases n with
 | none=>
  simp only [part] at hp
  obtain ⟨hc,v,hv,hr⟩:=h off d hp
  refine ⟨v,fun t hs=>?_,hr,fun j x hx=>?_⟩
  ·obtain ⟨h1,h2⟩:=shape_run hs w
   simp [loadVar,h1,load,Sem.run,hv]
  ·rw [(hr.cells_one (fun cs e=>by subst e; simp [D.cell] at hc)).1] at hx
   cases j with
   | zero=>simp at hx; subst hx; exact hv
   | succ j=>simp at hx
 | some k=>
  simp only [part] at hp
  split at hp
  ·rename_i hle
   simp at hp; subst hp
   have hx:∀ j,j < k→∃ d,ds[off+j]?=some d:=fun j hj=>⟨ds[off+j],by simp⟩
   have hf:∀ j,j < k→∃ v,w.cell? ⟨b,o+off+j,none⟩=some v:=fun j hj=>by
    obtain ⟨d,hd⟩:=hx j hj
    obtain ⟨_,v,hv,_⟩:=h _ d hd
    exact ⟨v,by rw [Nat.add_assoc]; exact hv⟩
   refine ⟨.agg ((List.range k).map fun j=>(w.cell? ⟨b,o+off+j,none⟩).getD undef).toArray,fun t hs=>?_,?_,fun j x hx=>?_⟩
   ·obtain ⟨h1,h2⟩:=shape_run hs w
    have:=run_loadCells (P:=P) w ⟨b,o+off,none⟩ k (fun j=>(w.cell? ⟨b,o+off+j,none⟩).getD undef) (fun j hj=>by
     obtain ⟨v,hv⟩:=hf j hj
     rw [Addr.add_mid,hv]; rfl)
    simp [loadVar,h1,h2,this]
   ·have hl:((List.range k).map fun j=>(w.cell? ⟨b,o+off+j,none⟩).getD undef).length=k:=by simp
    have hget:∀ (i:Nat) (d:D),((ds.drop off).take k)[i]?=some d→i < k∧ds[off+i]?=some d:=fun i d hd=>by
     rw [List.getElem?_take] at hd
     split at hd
     ·rename_i hi; rw [List.getElem?_drop] at hd; exact ⟨hi,hd⟩
     ·simp at hd
    refine .agg _ _ (by simp; omega) (fun i d hd=>(h _ d (hget i d hd).2).1) (fun i v d hv hd=>?_)
    obtain ⟨hi,hd'⟩:=hget i d hd
    obtain ⟨_,u,hu,hr⟩:=h _ d hd'
    simp only [List.getElem?_toArray,List.getElem?_map,List.getElem?_range hi,Option.map_some,Option.some.injEq] at hv
    rw [Nat.add_assoc,hu] at hv
    simp at hv; subst hv; exact hr
   ·simp only [Value.cells,List.getElem?_toArray,List.getElem?_map,Option.map_eq_some_iff] at hx
    obtain ⟨j',hj',hx⟩:=hx
    obtain ⟨hj,hj''⟩:=List.getElem?_eq_some_iff.1 hj'
    simp at hj hj''; subst hj''
    obtain ⟨v,hv⟩:=hf j hj
    rw [hv] at hx ⊢; simpa using hx
  ·simp at hp
theorem part_pure {d u:D} {off:Nat} {n:Option Nat} (h:d.pure=true) (hp:part d.cells off n=some u):u.pure=true:=by
 have key:∀ x∈d.cells,x.pure1=true:=by
  by_cases hd:∃ cs,d=.agg cs
  ·obtain ⟨cs,rfl⟩:=hd
   exact List.all_eq_true.1 h
  ·have:d.cells=[d]:=by cases d <;> first | rfl | exact absurd ⟨_,rfl⟩ hd
   rw [this]
   intro x hx
   simp at hx; subst hx
   cases x <;> first | exact h | exact absurd ⟨_,rfl⟩ hd
 cases n with
 | none=>exact D.p1 (key u (List.mem_of_getElem? hp))
 | some k=>
  simp only [part] at hp
  split at hp
  ·simp at hp; subst hp
   simp only [D.pure,List.all_eq_true]
   exact fun x hx=>key x (List.mem_of_mem_drop (List.mem_of_mem_take hx))
  ·simp at hp
theorem box_cells (C:CR X c bl lb a w) {b:Nat} (hg:(getB c.1.b b).1≠0):Cells w (NX X c bl lb) c.2 bl (lb b) 0 (getB c.1.b b).2:=by
 obtain ⟨_,cs,e,h2,_,h4⟩:=C.boxes b hg
 intro j d hd
 obtain ⟨h5,v,h6,h7⟩:=h4 j d hd
 exact ⟨h5,v,by rw [Nat.zero_add,cell_of_row _ _ _ _ _ _ h2]; exact h6,h7⟩
theorem ob_cells {N:Nat→Prop} {st:St} {b:Nat} {box:Bool} {sz v m:Nat} {fr:Bool} {elems:List D} (h:ObRel w N st bl b (.cells box sz v m fr elems)) {i:Nat} {d:D} (hd:elems[i]?=some d) :
  d.cells.length=sz∧d.okv=true∧(box=false→d.pure=true)∧Cells w N st bl b (i * sz) d.cells:=by
 obtain ⟨cs,e,lo,hi,h1,h2,h3,h4⟩:=h
 obtain ⟨a1,a2,a3,a4⟩:=h4 i d hd
 refine ⟨a1,a2,a3,fun j u hu=>?_⟩
 obtain ⟨b1,v,b2,b3⟩:=a4 j u hu
 exact ⟨b1,v,by rw [cell_of_row _ _ _ _ _ _ h1]; exact b2,b3⟩
theorem pure_cell {d:D} (h:d.pure=true) (hn:∀ cs,d≠.agg cs):d.cell=true∧d.cells=[d]:=by
 cases d <;> first | exact ⟨rfl,rfl⟩ | exact absurd rfl (hn _) | (simp [D.pure,D.pure1,D.pure0] at h; done)
theorem mem_cells {N:Nat→Prop} {st:St} {b o:Nat} {v:Value} {d:D} (hm:MemAt w N b o v) (hr:Rep w N st bl v d) (ht:d.pure=true):Cells w N st bl b o d.cells:=by
 obtain ⟨h1,h2,h3⟩:=hm
 intro j u hu
 have hj:j < v.cells.size:=by rw [hr.cells_size]; exact (List.getElem?_eq_some_iff.1 hu).1
 have hv:v.cells[j]?=some v.cells[j]:=by simp [hj]
 refine ⟨?_,v.cells[j],h3 j _ hv,hr.cells hv hu⟩
 by_cases hd:∃ cs,d=.agg cs
 ·obtain ⟨cs,rfl⟩:=hd
  cases hr with
  | agg cs ds hl hc h=>exact hc j u hu
 ·obtain ⟨k1,k2⟩:=pure_cell ht (fun cs e=>hd ⟨cs,e⟩)
  rw [k2] at hu
  cases j with
  | zero=>simp at hu; subst hu; exact k1
  | succ j=>simp at hu
theorem fits_part {d:D} {n:Option Nat} (h:d.fits n=true):part d.cells 0 n=some d:=by
 cases d <;> cases n <;> simp_all [D.fits,part,D.cells]
 rename_i cs k
 subst h; simp
theorem wp_val {o:Oper} {v:Value} {w':World} {K:Act→World→Prop} {Q:Exit→Act→World→Prop} (h:(execOp a.eval o).run P w=.ok (.value v) w') (hK:K (a.put o.dst v) w'):o.wp P a w K Q:=by
 unfold Oper.wp; rw [h]; exact hK
theorem wp_skp {o:Oper} {w':World} {K:Act→World→Prop} {Q:Exit→Act→World→Prop} (h:(execOp a.eval o).run P w=.ok .skip w') (hK:K (a.put o.dst undef) w'):o.wp P a w K Q:=by
 unfold Oper.wp; rw [h]; exact hK
theorem sr_bool (C:CR X c bl lb a w) {x:Operand} {y:Opd} {t:Bool} (h:opdOK x y=true) (hy:y.ev c.1.s=.bool t):a.eval x=.bool t:=by
 have:=opd_rep C h
 rw [hy] at this
 generalize a.eval x=v at this
 cases this; rfl
theorem sr_int (C:CR X c bl lb a w) {x:Operand} {y:Opd} {k:IntKind} {n:Int} (h:opdOK x y=true) (hy:y.ev c.1.s=.int k n):a.eval x=.int k n:=by
 have:=opd_rep C h
 rw [hy] at this
 generalize a.eval x=v at this
 cases this; rfl
theorem sr_str (C:CR X c bl lb a w) {x:Operand} {y:Opd} {s:List UInt8} (h:opdOK x y=true) (hy:y.ev c.1.s=.str s):∃ b:ByteArray,a.eval x=.string b∧b.data.toList=s:=by
 have:=opd_rep C h
 rw [hy] at this
 generalize a.eval x=v at this
 cases this; exact ⟨_,rfl,rfl⟩
theorem rep_str {N:Nat→Prop} {st:St} (s:ByteArray) {l:List UInt8} (h:s.data.toList=l):Rep w N st bl (.string s) (.str l):=by subst h; exact .str s
def GivesV (P:Program) (X:Cx) (c:Cfg) (bl:Bl) (lb:Nat→Nat) (a:Act) (w:World) (o:Oper) (d:D):Prop:=∃ v,(execOp a.eval o).run P w=.ok (.value v) w∧SR X c bl lb w v d
theorem gv {o:Oper} {v:Value} {d:D} (hr:RR X c bl lb w v d) (h:(execOp a.eval o).run P w=.ok (.value v) w):GivesV P X c bl lb a w o d:=⟨v,h,hr.slot _ _⟩
theorem sim_move (C:CR X c bl lb a w) {o:Oper} {x:Operand} {y:Opd} (ho:o.op=.move x∨o.op=.assign x) (h:opdOK x y=true):GivesV P X c bl lb a w o (y.ev c.1.s):=by
 rcases ho with ho | ho <;> exact ⟨a.eval x,by simp [execOp,ho],opd_rep C h⟩
theorem sim_pick (C:CR X c bl lb a w) {o:Oper} {x y z:Operand} {x' y' z':Opd} (ho:o.op=.pick x y z) (h1:opdOK x x'=true) (h2:opdOK y y'=true) (h3:opdOK z z'=true) {t:Bool} (ht:x'.ev c.1.s=.bool t) :
  GivesV P X c bl lb a w o (if t then y'.ev c.1.s else z'.ev c.1.s):=by
 refine ⟨if t then a.eval y else a.eval z,by simp [execOp,ho,sr_bool C h1 ht,asBool],?_⟩
 cases t
 ·exact opd_rep C h3
 ·exact opd_rep C h2
theorem bytesLess_eq (x y:List UInt8):Op.bytesLess x y=bytesLess x y:=by
 induction x generalizing y with
 | nil=>cases y <;> rfl
 | cons a x ih=>cases y with
  | nil=>rfl
  | cons b y=>simp [Op.bytesLess,bytesLess,ih]
theorem eqGuard_run (op:BinOp) (t:TypeId) (x y:Operand) (u v:Value) (hu:∀ cs,u≠.agg cs) (hv:v≠.nilIface) (w:World):(eqGuard op t x y u v).run P w=.ok () w:=by
 cases op <;> first
  | rfl
  |(cases u with
    | agg cs=>exact absurd rfl (hu cs)
    | nilIface=>cases v <;> first | rfl | exact absurd rfl hv
    | _=>rfl)
theorem sim_bin (C:CR X c bl lb a w) {o:Oper} {op:BinOp} {t u:TypeId} {x y:Operand} {x' y':Opd} (ho:o.op=.binOp op t x y u) (h1:opdOK x x'=true) (h2:opdOK y y'=true) {d:D}
  (hd:binD op (x'.ev c.1.s) (y'.ev c.1.s)=some d):GivesV P X c bl lb a w o d:=by
 unfold binD at hd
 split at hd
 ·rename_i k m k' n hx hy
  have e1:=sr_int C h1 hx
  have e2:=sr_int C h2 hy
  have hrun:∀ v,(binOp op t (.int k m) (.int k' n)).run P w=.ok v w→(execOp a.eval o).run P w=.ok (.value v) w:=by
   intro v hv
   simp only [execOp,ho,e1,e2,Sem.run_bind,eqGuard_run op t x y (.int k m) (.int k' n) (fun _ h=>nomatch h) (fun h=>nomatch h),Result.andThen_ok,hv,Sem.run_pure]
  unfold intD at hd
  split at hd
  ·unfold shiftD at hd
   split at hd
   ·simp at hd
   ·rename_i hn
    simp at hd; subst hd
    exact gv (.int _ _) (hrun _ (by simp [binOp,Op.shift,hn]))
  ·unfold shiftD at hd
   split at hd
   ·simp at hd
   ·rename_i hn
    simp at hd; subst hd
    exact gv (.int _ _) (hrun _ (by simp [binOp,Op.shift,hn]))
  ·split at hd
   ·rename_i n1 n2 hk
    subst hk
    split at hd
    all_goals first
     |(simp at hd; subst hd; exact gv (.int _ _) (hrun _ (by simp [binOp,Op.intArith])))
     |(simp at hd; subst hd; exact gv (.bool _) (hrun _ (by simp [binOp,Op.intCmp])))
     |(split at hd
       ·simp at hd
       ·rename_i hz; simp at hd; subst hd; exact gv (.int _ _) (hrun _ (by simp [binOp,Op.intDiv,hz])))
     | skip
    unfold bitsD at hd
    split at hd <;> first | (simp at hd; done) | (simp at hd; subst hd; exact gv (.int _ _) (hrun _ (by simp [binOp,Op.intBits])))
   ·simp at hd
 ·rename_i p q hx hy
  obtain ⟨b1,e1,q1⟩:=sr_str C h1 hx
  obtain ⟨b2,e2,q2⟩:=sr_str C h2 hy
  have hrun:∀ v,(binOp op t (.string b1) (.string b2)).run P w=.ok v w→(execOp a.eval o).run P w=.ok (.value v) w:=by
   intro v hv
   simp only [execOp,ho,e1,e2,Sem.run_bind,eqGuard_run op t x y (.string b1) (.string b2) (fun _ h=>nomatch h) (fun h=>nomatch h),Result.andThen_ok,hv,Sem.run_pure]
  have hl1:b1.toList=p:=by rw [←q1]; exact ByteArray.toList_eq b1
  have hl2:b2.toList=q:=by rw [←q2]; exact ByteArray.toList_eq b2
  unfold strD at hd
  split at hd
  all_goals first
   |(simp at hd; subst hd; exact gv (.bool _) (hrun _ (by simp [binOp,Op.stringOp,hl1,hl2,bytesLess_eq])))
   | skip
  ·split at hd
   ·rename_i hle
    simp at hd; subst hd
    have z1:b1.size=p.length:=by rw [←q1]; simp
    have z2:b2.size=q.length:=by rw [←q2]; simp
    exact gv (rep_str (b1++b2) (by simp [ByteArray.data_append,q1,q2])) (hrun _ (by rw [binOp_string_add]; exact run_string_add_sum w b1 b2 (by unfold most at hle; omega)))
   ·simp at hd
  ·simp at hd
 ·simp at hd
def kindOK (P:Program) (t:TypeId) (k:Kd):Bool:=
 match k,P.underlying t with
 | .bool,some .bool=>true
 | .ptr,some (.pointer _)=>true
 | .slice,some (.slice _)=>true
 | .func,some (.func ..)=>true
 | .map,some (.map ..)=>true
 | .str,some .string=>true
 | .int,some (.int _)=>true
 | _,_=>false
def NilV (k:Kd) (v:Value) (b:Bool):Prop:=
 match k with
 | .ptr=>∃ x,v=.pointer x∧x.isNone=b
 | .slice=>∃ x l n,v=.slice x l n∧x.isNone=b
 | .func=>(b=true∧v=.nilFunc)∨(b=false∧∃ f x y,v=.func f x y)
 | .map=>∃ x,v=.map x∧x.isNone=b
 | _=>False
theorem nil_val {N:Nat→Prop} {st:St} {k:Kd} {v:Value} {d:D} {b:Bool} (h:nilD k d=some b) (hr:Rep w N st bl v d):NilV k v b:=by
 unfold nilD at h
 split at h <;> first | (simp at h; done) | skip
 all_goals (simp at h; subst h; cases hr)
 all_goals first
  | exact ⟨_,rfl,rfl⟩
  | exact ⟨_,_,_,rfl,rfl⟩
  | exact .inl ⟨rfl,rfl⟩
  | exact .inr ⟨rfl,_,_,_,rfl⟩
theorem nil_noLp {k:Kd} {d:D} {b:Bool} (h:nilD k d=some b):∀ x g off,d≠.lp x g off:=by
 intro x g off e; subst e; cases k <;> simp [nilD] at h
theorem equalIn_nil (d:Nat) {t:TypeId} {k:Kd} {u v:Value} {b:Bool} (hk:kindOK P t k=true) (h:(NilV k u true∧NilV k v b)∨(NilV k u b∧NilV k v true)):(Op.equalIn (d+1) t u v).run P w=.ok b w:=by
 unfold kindOK at hk
 split at hk <;> first | (simp at hk; done) | skip
 all_goals rename_i hu
 all_goals simp only [NilV] at h
 ·rcases h with ⟨h,_⟩ | ⟨h,_⟩ <;> exact h.elim
 ·rcases h with ⟨⟨x,rfl,hx⟩,⟨y,rfl,hy⟩⟩ | ⟨⟨x,rfl,hx⟩,⟨y,rfl,hy⟩⟩
  ·cases x <;> simp at hx
   simp [Op.equalIn,run_underlying hu,hy]
  ·cases y <;> simp at hy
   cases x <;> simp at hx <;> subst hx <;> simp [Op.equalIn,run_underlying hu]
 ·rcases h with ⟨⟨x,_,_,rfl,hx⟩,⟨y,_,_,rfl,hy⟩⟩ | ⟨⟨x,_,_,rfl,hx⟩,⟨y,_,_,rfl,hy⟩⟩
  ·cases x <;> simp at hx
   simp [Op.equalIn,run_underlying hu,hy]
  ·cases y <;> simp at hy
   cases x <;> simp at hx <;> subst hx <;> simp [Op.equalIn,run_underlying hu]
 ·rcases h with ⟨⟨_,rfl⟩ | ⟨h,_⟩,⟨rfl,rfl⟩ | ⟨rfl,_,_,_,rfl⟩⟩ | ⟨⟨rfl,rfl⟩ | ⟨rfl,_,_,_,rfl⟩,⟨_,rfl⟩ | ⟨h,_⟩⟩
  all_goals first | (simp at h; done) | simp [Op.equalIn,run_underlying hu]
 ·rcases h with ⟨⟨x,rfl,hx⟩,⟨y,rfl,hy⟩⟩ | ⟨⟨x,rfl,hx⟩,⟨y,rfl,hy⟩⟩
  ·cases x <;> simp at hx
   simp [Op.equalIn,run_underlying hu,hy]
  ·cases y <;> simp at hy
   cases x <;> simp at hx <;> subst hx <;> simp [Op.equalIn,run_underlying hu]
 ·rcases h with ⟨h,_⟩ | ⟨h,_⟩ <;> exact h.elim
 ·rcases h with ⟨h,_⟩ | ⟨h,_⟩ <;> exact h.elim
theorem equalIn_bool (d:Nat) {t:TypeId} {p q:Bool} (hu:P.underlying t=some .bool):(Op.equalIn (d+1) t (.bool p) (.bool q)).run P w=.ok (p == q) w:=by
 simp [Op.equalIn,run_underlying hu]
theorem equal_nil {t:TypeId} {k:Kd} {u v:Value} {b:Bool} (hk:kindOK P t k=true) (h:(NilV k u true∧NilV k v b)∨(NilV k u b∧NilV k v true)):(Op.equal t u v).run P w=.ok b w:=
 equalIn_nil 9999 hk h
theorem sim_eqn (C:CR X c bl lb a w) {o:Oper} {neg:Bool} {t u:TypeId} {k:Kd} {x y:Operand} {x' y':Opd} (ho:o.op=.binOp (if neg then .neq else .eql) t x y u) (hk:kindOK P t k=true)
  (h1:opdOK x x'=true) (h2:opdOK y y'=true) {b:Bool} (hd:eqnD k (x'.ev c.1.s) (y'.ev c.1.s)=some b):GivesV P X c bl lb a w o (.bool (if neg then !b else b)):=by
 have main:(Op.equal t (a.eval x) (a.eval y)).run P w=.ok b w∧(∀ cs,a.eval x≠.agg cs)∧a.eval y≠.nilIface∧(∀ p q,a.eval x≠.int p q)∧(∀ p q,a.eval x≠.float p q)∧(∀ p q r,a.eval x≠.complex p q r)∧(∀ p,a.eval x≠.string p):=by
  unfold eqnD at hd
  split at hd
  ·split at hd
   ·rename_i p q hx hy
    simp at hd; subst hd
    rw [sr_bool C h1 hx,sr_bool C h2 hy]
    refine ⟨?_,by simp,by simp,by simp,by simp,by simp,by simp⟩
    have hu:P.underlying t=some .bool:=by
     unfold kindOK at hk; split at hk <;> simp_all
    exact equalIn_bool 9999 hu
   ·simp at hd
  ·have key:∃ e,(NilV k (a.eval x) true∧NilV k (a.eval y) e∨NilV k (a.eval x) e∧NilV k (a.eval y) true)∧e=b:=by
    split at hd
    ·rename_i r hx
     exact ⟨b,.inl ⟨nil_val hx ((opd_rep C h1).rep (nil_noLp hx)),nil_val hd ((opd_rep C h2).rep (nil_noLp hd))⟩,rfl⟩
    ·rename_i r hy _
     exact ⟨b,.inr ⟨nil_val hd ((opd_rep C h1).rep (nil_noLp hd)),nil_val hy ((opd_rep C h2).rep (nil_noLp hy))⟩,rfl⟩
    ·simp at hd
   obtain ⟨e,key,rfl⟩:=key
   refine ⟨equal_nil hk key,?_⟩
   have shp:∀ {v:Value} {q:Bool},NilV k v q→(∀ cs,v≠.agg cs)∧v≠.nilIface∧(∀ p q,v≠.int p q)∧(∀ p q,v≠.float p q)∧(∀ p q r,v≠.complex p q r)∧(∀ p,v≠.string p):=by
    intro v q hv
    cases k <;> simp only [NilV] at hv
    ·obtain ⟨x,rfl,_⟩:=hv; simp
    ·obtain ⟨x,_,_,rfl,_⟩:=hv; simp
    ·rcases hv with ⟨_,rfl⟩ | ⟨_,_,_,_,rfl⟩ <;> simp
    ·obtain ⟨x,rfl,_⟩:=hv; simp
   rcases key with ⟨p,q⟩ | ⟨p,q⟩
   ·exact ⟨(shp p).1,(shp q).2.1,(shp p).2.2⟩
   ·exact ⟨(shp p).1,(shp q).2.1,(shp p).2.2⟩
 obtain ⟨m1,m2,m3,m4,m5,m6,m7⟩:=main
 refine gv (.bool _) ?_
 have hb:∀ op,op=BinOp.eql∨op=BinOp.neq→binOp op t (a.eval x) (a.eval y)=(if op=.eql then (do pure (.bool (←Op.equal t (a.eval x) (a.eval y)))) else (do pure (.bool (!(←Op.equal t (a.eval x) (a.eval y)))))):=by
  intro op hop
  generalize a.eval x=u at *
  generalize a.eval y=v at *
  rcases hop with rfl | rfl <;> cases u <;> first | rfl | exact absurd rfl (m4 _ _) | exact absurd rfl (m5 _ _) | exact absurd rfl (m6 _ _ _) | exact absurd rfl (m7 _) | (cases v <;> rfl)
 cases neg
 ·simp only [execOp,ho,Bool.false_eq_true,if_false,Sem.run_bind,eqGuard_run _ t x y _ _ m2 m3,Result.andThen_ok,hb .eql (.inl rfl),if_true,m1,Sem.run_pure]
 ·simp only [execOp,ho,if_true,Sem.run_bind,eqGuard_run _ t x y _ _ m2 m3,Result.andThen_ok,hb .neq (.inr rfl),Sem.run_pure]
  simp [m1]
end Go.Nt
namespace Go.Nt
variable {P:Program} {X:Cx} {c:Cfg} {bl:Bl} {lb:Nat→Nat} {a:Act} {w:World}
theorem sim_un (C:CR X c bl lb a w) {o:Oper} {op:UnOp} {t:TypeId} {x:Operand} {x':Opd} (ho:o.op=.unOp op t x) (h1:opdOK x x'=true) {d:D} (hd:unD op (x'.ev c.1.s)=some d):GivesV P X c bl lb a w o d:=by
 unfold unD at hd
 split at hd
 ·rename_i k n hx
  simp at hd; subst hd
  exact gv (.int _ _) (by simp [execOp,ho,sr_int C h1 hx,Op.unary,Op.intArith])
 ·rename_i k n hx
  simp [bitsD] at hd; subst hd
  exact gv (.int _ _) (by simp [execOp,ho,sr_int C h1 hx,Op.unary,Op.intBits])
 ·rename_i t hx
  simp at hd; subst hd
  exact gv (.bool _) (by simp [execOp,ho,sr_bool C h1 hx,Op.unary])
 ·simp at hd
theorem sim_mkfn (C:CR X c bl lb a w) {o:Oper} {f:Nat} {xs ys:Array Operand} {xs' ys':List Opd} (ho:o.op=.makeFunc (.func f) xs ys) (h1:opdsOK xs.toList xs'=true) (h2:opdsOK ys.toList ys'=true)
  (k1:(xs'.map (Opd.ev c.1.s)).all D.okv=true) (k2:(ys'.map (Opd.ev c.1.s)).all D.okv=true):GivesV P X c bl lb a w o (.fn f (xs'.map (Opd.ev c.1.s)) (ys'.map (Opd.ev c.1.s))):=by
 obtain ⟨l1,r1⟩:=opds_rep C h1
 obtain ⟨l2,r2⟩:=opds_rep C h2
 refine gv (.fn f (xs.map a.eval) (ys.map a.eval) _ _ (by simpa using l1) (by simpa using l2) (fun i v d hv hd=>?_) (fun i v d hv hd=>?_)) (by simp [execOp,ho,Instr.makeFunc])
 ·exact (r1 i v d (by simpa using hv) hd).okv (all_get k1 hd)
 ·exact (r2 i v d (by simpa using hv) hd).okv (all_get k2 hd)
def fieldOK (P:Program) (t:TypeId) (f off:Nat) (n:Option Nat):Bool:=
 match P.underlying t with
 | some (.struct fs)=>(match fs[f]? with | some fd=>fd.offset == off && (shapeOK P fd.type n && n.getD 1 != 0) | none=>false)
 | _=>false
theorem field_run {t:TypeId} {f off:Nat} {n:Option Nat} (h:fieldOK P t f off n=true) (w:World) (b o:Nat) :
  (Instr.fieldAt t (.pointer (some ⟨b,o,none⟩)) f).run P w=.ok (.pointer (some ⟨b,o+off,none⟩)) w:=by
 unfold fieldOK at h
 split at h
 ·rename_i fs hu
  split at h
  ·rename_i fd hf
   simp only [Bool.and_eq_true,beq_iff_eq,bne_iff_ne,ne_eq] at h
   obtain ⟨rfl,hs,hz⟩:=h
   have:=(shape_run hs w).2
   simp [Instr.fieldAt,run_underlying hu,hf,Instr.sureAddr,fieldPlace,this,hz,Addr.add_mid]
  ·simp at h
 ·simp at h
theorem field_run' {t:TypeId} {f off:Nat} {n:Option Nat} (h:fieldOK P t f off n=true) (w:World) (p:Addr) :
  ∃ q:Addr,(Instr.fieldAt t (.pointer (some p)) f).run P w=.ok (.pointer (some q)) w:=by
 unfold fieldOK at h
 split at h
 ·rename_i fs hu
  split at h
  ·rename_i fd hf
   simp only [Bool.and_eq_true,beq_iff_eq,bne_iff_ne,ne_eq] at h
   obtain ⟨rfl,hs,hz⟩:=h
   have:=(shape_run hs w).2
   exact ⟨p.add fd.offset,by simp [Instr.fieldAt,run_underlying hu,hf,Instr.sureAddr,fieldPlace,this,hz]⟩
  ·simp at h
 ·simp at h
theorem iptr_part {N:Nat→Prop} {st:St} {b o off:Nat} {v:Value} {d u:D} {n:Option Nat} (hm:MemAt w N b o v) (hp:d.pure=true) (hr:Rep w N st bl v d) (h:part d.cells off n=some u) :
  Rep w N st bl (.pointer (some ⟨b,o+off,none⟩)) (.iptr u):=by
 obtain ⟨v1,_,h2,h3⟩:=part_run (P:=default) (mem_cells hm hr hp) h
 exact .iptr b (o+off) v1 u ⟨hm.1,hm.2.1,h3⟩ (part_pure hp h) h2
theorem sim_fldA (C:CR X c bl lb a w) {o:Oper} {t:TypeId} {x:Operand} {x':Opd} {f off:Nat} {n:Option Nat} (ho:o.op=.fieldAddr t x f) (h1:opdOK x x'=true) (hf:fieldOK P t f off n=true) {d:D}
  (hd:fldD (x'.ev c.1.s) off n=some d) :
  GivesV P X c bl lb a w o d:=by
 have r:=opd_rep C h1
 have he:execOp a.eval o=(do pure (.value (←Instr.fieldAt t (a.eval x) f))):=by simp [execOp,ho]
 unfold fldD at hd
 split at hd
 ·rename_i v hx
  rw [hx] at r
  cases hpt:part v.cells off n with
  | none=>simp [hpt] at hd
  | some u=>
   simp [hpt] at hd; subst hd
   generalize a.eval x=y at *
   cases (show Rep w (NX X c bl lb) c.2 bl y (.iptr v) from r) with
   | iptr b o v0 d0 hm hp hr=>exact gv (iptr_part hm hp hr hpt) (by rw [he]; simp [field_run hf])
 ·rename_i b g o' hx
  rw [hx] at r
  simp at hd
  obtain ⟨hz,rfl⟩:=hd
  obtain ⟨p,hp,hle,hq⟩:=r.resolve_left hz
  obtain ⟨q,hq'⟩:=field_run' hf w p
  refine ⟨.pointer (some q),by rw [he,hp]; simp [hq'],.inr ⟨q,rfl,hle,fun hg=>?_⟩⟩
  obtain ⟨rfl,hg0⟩:=hq hg
  rw [field_run hf] at hq'
  simp at hq'
  exact ⟨hq'.symm,hg0⟩
 ·rename_i id ver sz i o' hx
  rw [hx] at r
  simp at hd; subst hd
  generalize a.eval x=y at *
  cases (show Rep w (NX X c bl lb) c.2 bl y (.hp id ver sz i o') from r) with
  | hp _ _ _ _ _ p hi hv ha=>
   obtain ⟨q,hq'⟩:=field_run' hf w p
   refine gv (.hp id ver sz i (o'+off) q hi hv fun e=>?_) (by rw [he]; simp [hq'])
   rw [ha e,field_run hf] at hq'
   simp at hq'
   rw [←hq',Nat.add_assoc]
 ·simp at hd
theorem sim_ext (C:CR X c bl lb a w) {o:Oper} {x:Operand} {x':Opd} {i:Nat} (ho:o.op=.extract x i) (h1:opdOK x x'=true) {ds:List D} (hx:x'.ev c.1.s=.tup ds) {d:D} (hd:ds[i]?=some d) :
  GivesV P X c bl lb a w o d:=by
 have r:=opd_rep C h1
 rw [hx] at r
 have he:execOp a.eval o=(do pure (.value (←Instr.extract (a.eval x) i))):=by simp [execOp,ho]
 generalize a.eval x=y at *
 cases (show Rep w (NX X c bl lb) c.2 bl y (.tup ds) from r) with
 | tup vs _ hl h=>
  have hi:i < vs.size:=by rw [hl]; exact (List.getElem?_eq_some_iff.1 hd).1
  refine gv (h i vs[i] d (by simp [hi]) hd) ?_
  rw [he]
  simp [Instr.extract,hi]
theorem sim_nilc (C:CR X c bl lb a w) {o:Oper} {x:Operand} {x':Opd} (ho:o.op=.nilCheck x) (h1:opdOK x x'=true) (hx:nilD .ptr (x'.ev c.1.s)=some false):GivesV P X c bl lb a w o (x'.ev c.1.s):=by
 have r:=(opd_rep C h1).rep (nil_noLp hx)
 obtain ⟨p,hp,hq⟩:=nil_val hx r
 cases p with
 | none=>simp at hq
 | some p=>exact gv r (by simp [execOp,ho,hp])
theorem sim_mm (C:CR X c bl lb a w) {o:Oper} {mx:Bool} {cl:Call} {x y:Operand} {x' y':Opd} (ho:o.op=.call cl) (hc:cl.callee=.builtin (if mx then .max else .min)) (hargs:cl.args=#[x,y])
  (h1:opdOK x x'=true) (h2:opdOK y y'=true) {k:IntKind} {m n:Int} (hx:x'.ev c.1.s=.int k m) (hy:y'.ev c.1.s=.int k n) :
  GivesV P X c bl lb a w o (.int k (if mx then (if n > m then n else m) else (if n < m then n else m))):=by
 refine gv (.int _ _) ?_
 have e1:=sr_int C h1 hx
 have e2:=sr_int C h2 hy
 cases mx
 ·simp [execOp,ho,resolve,hc,hargs,invoke,builtin,Builtin.min_,e1,e2,Builtin.min2]
 ·simp [execOp,ho,resolve,hc,hargs,invoke,builtin,Builtin.max_,e1,e2,Builtin.max2]
def lenOK (P:Program) (t:TypeId) (k:Kd):Bool:=kindOK P t k && (k == .str || (k == .slice || k == .map))
theorem sim_len (C:CR X c bl lb a w) {o:Oper} {k:Kd} {cl:Call} {t:TypeId} {x:Operand} {x':Opd} {q:Bool} (ho:o.op=.call cl) (hc:cl.callee=.builtin .len) (hargs:cl.args=#[x]) (ht:cl.argTypes[0]?=some t)
  (hk:lenOK P t k=true) (h1:opdOK x x'=true) {d:D}
  (hd:lenD c.2 k (x'.ev c.1.s) q=some d):GivesV P X c bl lb a w o d:=by
 have r:=opd_rep C h1
 have he:execOp a.eval o=(do pure (.value (←Builtin.len_ cl.argTypes o.type #[a.eval x]))):=by simp [execOp,ho,resolve,hc,hargs,invoke,builtin]
 simp only [lenOK,Bool.and_eq_true] at hk
 have hku:=hk.1
 unfold kindOK at hku
 unfold lenD at hd
 split at hd
 all_goals first | (simp at hd; done) | skip
 all_goals rename_i hx
 all_goals rw [hx] at r
 ·obtain ⟨b,e1,q1⟩:=sr_str C h1 hx
  simp at hd; subst hd
  split at hku <;> first | contradiction | skip
  rename_i hu
  refine gv (.int _ _) ?_
  rw [he,e1]
  simp [Builtin.len_,ht,run_underlying hu,goInt,←q1]
 all_goals (split at hku <;> first | contradiction | skip)
 all_goals rename_i hu
 ·simp at hd; subst hd
  generalize a.eval x=y at *
  cases (show Rep w (NX X c bl lb) c.2 bl y .nils from r)
  exact gv (.int _ _) (by rw [he]; simp [Builtin.len_,ht,run_underlying hu,goInt])
 ·simp at hd; subst hd
  generalize a.eval x=y at *
  cases (show Rep w (NX X c bl lb) c.2 bl y .nilm from r)
  exact gv (.int _ _) (by rw [he]; simp [Builtin.len_,ht,run_underlying hu,goInt])
 ·simp at hd; subst hd
  generalize a.eval x=y at *
  cases (show Rep w (NX X c bl lb) c.2 bl y (.sl _ _ _) from r)
  exact gv (.int _ _) (by rw [he]; simp [Builtin.len_,ht,run_underlying hu,goInt])
 ·simp at hd; subst hd
  generalize a.eval x=y at *
  cases (show Rep w (NX X c bl lb) c.2 bl y (.rs _ _ _ _ _ _) from r)
  exact gv (.int _ _) (by rw [he]; simp [Builtin.len_,ht,run_underlying hu,goInt])
 ·split at hd
  ·simp at hd
  ·split at hd
   ·rename_i m ents hob
    simp at hd; subst hd
    generalize a.eval x=y at *
    cases (show Rep w (NX X c bl lb) c.2 bl y (.mp _) from r) with
    | mp _ hi hm=>
     have:=C.heap.obj _ hi
     rw [hob] at this
     obtain ⟨es,clock,h1',h2',_⟩:=this
     exact gv (.int _ _) (by rw [he]; simp [Builtin.len_,ht,run_underlying hu,goInt,getObj,Sem.run,h1',h2'])
   ·simp at hd
theorem mem_cellsH {N:Nat→Prop} {st:St} {b o id ver sz idx off:Nat} {v:Value} (hm:MemAt w N b o v) (hr:Rep w N st bl v (.hp id ver sz idx off)):Cells w N st bl b o [.hp id ver sz idx off]:=by
 obtain ⟨h1,h2,h3⟩:=hm
 intro j u hu
 cases j with
 | zero=>
  simp at hu; subst hu
  have hs:=hr.cells_size
  have hv:v.cells[0]?=some (v.cells[0]'(by rw [hs]; simp [D.cells])):=by rw [Array.getElem?_eq_getElem]
  exact ⟨rfl,_,h3 0 _ hv,hr.cells hv rfl⟩
 | succ j=>simp at hu
theorem load_rep (C:CR X c bl lb a w) {v:Value} {p d:D} {n:Option Nat} {l:Option Nat} {q:Bool} (hv:SR X c bl lb w v p) (hd:loadD (getB c.1.b) c.2 p n l q=some d) :
  ∃ b o u,v=.pointer (some ⟨b,o,none⟩)∧(∀ t,shapeOK P t n=true→(loadVar t ⟨b,o,none⟩).run P w=.ok u w)∧RR X c bl lb w u d:=by
 unfold loadD at hd
 split at hd
 ·rename_i b
  split at hd
  ·rename_i b' g off
   split at hd
   ·rename_i hb
    obtain ⟨rfl,hg,hz⟩:=hb
    obtain ⟨p,hp,hle,hq⟩:=hv.resolve_left hz
    obtain ⟨rfl,hg0⟩:=hq hg
    obtain ⟨u,hrun,hr,_⟩:=part_run (P:=P) (box_cells C (b:=b') (by omega)) hd
    rw [Nat.zero_add] at hrun
    exact ⟨_,_,u,hp,hrun,hr⟩
   ·simp at hd
  ·simp at hd
 ·split at hd
  ·rename_i d0
   split at hd
   ·rename_i hf
    simp at hd; subst hd
    cases (show Rep w (NX X c bl lb) c.2 bl v (.iptr d0) from hv) with
    | iptr b o v0 _ hm hp hr=>
     obtain ⟨u,hrun,hr',_⟩:=part_run (P:=P) (mem_cells hm hr hp) (fits_part hf)
     exact ⟨b,o,u,rfl,hrun,hr'⟩
   ·simp at hd
  ·rename_i id ver sz idx off
   split at hd
   ·rename_i hn
    simp at hd; subst hd
    obtain rfl:n=none:=by simpa using hn
    cases (show Rep w (NX X c bl lb) c.2 bl v (.kp id ver sz idx off) from hv) with
    | kp b o _ _ _ _ _ v0 hm hr=>
     obtain ⟨u,hrun,hr',_⟩:=part_run (P:=P) (mem_cellsH hm hr) (show part [D.hp id ver sz idx off] 0 none=some (.hp id ver sz idx off) from rfl)
     exact ⟨b,o,u,rfl,hrun,hr'⟩
   ·simp at hd
  ·rename_i id ver sz idx off
   split at hd
   ·simp at hd
   ·split at hd
    ·rename_i box sz' ver' m fr elems hob
     split at hd
     ·rename_i hvs
      obtain ⟨rfl,rfl⟩:=hvs
      cases he:elems[idx]? with
      | none=>simp [he] at hd
      | some e=>
       simp [he] at hd
       cases (show Rep w (NX X c bl lb) c.2 bl v (.hp id ver' sz' idx off) from hv) with
       | hp _ _ _ _ _ p hi hv' ha=>
        rw [hob] at ha
        have:=C.heap.obj id hi
        rw [hob] at this
        obtain ⟨_,_,_,hcells⟩:=ob_cells this he
        obtain ⟨u,hrun,hr',_⟩:=part_run (P:=P) hcells hd
        exact ⟨_,_,u,by rw [ha rfl],hrun,hr'⟩
     ·simp at hd
    ·simp at hd
  ·simp at hd
theorem sim_load (C:CR X c bl lb a w) {o:Oper} {t:TypeId} {x:Operand} {x':Opd} {n:Option Nat} {l:Option Nat} {q:Bool} (ho:o.op=.load t x) (h1:opdOK x x'=true) (hs:shapeOK P t n=true) {d:D}
  (hd:loadD (getB c.1.b) c.2 (x'.ev c.1.s) n l q=some d):GivesV P X c bl lb a w o d:=by
 obtain ⟨b,o',u,hp,hrun,hr⟩:=load_rep (P:=P) C (opd_rep C h1) hd
 exact gv hr (by simp [execOp,ho,hp,Instr.loadAt,Instr.sureAddr,hrun t hs])
def elemOK (P:Program) (t:TypeId) (sz:Nat) (n:Option Nat) (arr:Option Nat):Bool:=
 match P.underlying t,arr with
 | some (.slice e),none=>sizeOK P e sz && shapeOK P e n
 | some (.array k e),some k'=>k == k' && (sizeOK P e sz && shapeOK P e n)
 | _,_=>false
theorem add_eq (p:Addr) (k:Nat) (h:p.spot=none):p.add k=⟨p.block,p.off+k,none⟩:=by
 unfold Addr.add
 split
 ·rename_i hk; subst hk; cases p; simp_all
 ·simp
theorem sim_idxA (C:CR X c bl lb a w) {o:Oper} {t:TypeId} {x y:Operand} {x' y':Opd} {sz:Nat} {n arr:Option Nat} (ho:o.op=.indexAddr t x y) (h1:opdOK x x'=true) (h2:opdOK y y'=true) (he:elemOK P t sz n arr=true)
  {k:IntKind} {i:Int} (hy:y'.ev c.1.s=.int k i) (hi:¬ i < 0) {d:D}
  (hd:idxAD (x'.ev c.1.s) i.toNat sz n arr=some d):GivesV P X c bl lb a w o d:=by
 have r:=opd_rep C h1
 have ei:=sr_int C h2 hy
 have hrun:execOp a.eval o=(do pure (.value (←Instr.indexAt t (a.eval x) (.int k i)))):=by simp [execOp,ho,ei]
 unfold idxAD at hd
 unfold elemOK at he
 split at he
 ·rename_i e hu
  simp only [Bool.and_eq_true] at he
  have hsz:=size_run he.1 w
  have hix:∀ (p:Addr) (len cap:Nat),i.toNat < len→(Instr.indexAt t (.slice (some p) len cap) (.int k i)).run P w=.ok (.pointer (some (p.add (i.toNat * sz)))) w:=by
   intro p len cap hl
   have:0≤i∧i < (len:Int):=by omega
   simp [Instr.indexAt,asIntOf,run_underlying hu,this,hsz]
  simp only at hd
  split at hd
  ·rename_i sz' full ds hx
   rw [hx] at r
   split at hd
   ·rename_i hsz'
    subst hsz'
    cases hg:ds[i.toNat]? with
    | none=>simp [hg] at hd
    | some u=>
     simp [hg] at hd
     obtain ⟨hf,rfl⟩:=hd
     generalize a.eval x=v at *
     have hl:=(List.getElem?_eq_some_iff.1 hg).1
     cases (show Rep w (NX X c bl lb) c.2 bl v (.sl sz' full ds) from r) with
     | sl _ _ _ p cap vs hc hfull hs hp hm hrep=>
      refine gv (v:=.pointer (some ⟨p.block,p.off+i.toNat * sz',none⟩)) (.iptr _ _ (vs i.toNat) u (hm _ _ hg) (hp _ _ hg).1 (hrep _ _ hg)) ?_
      rw [hrun]
      have hn:ds≠[]:=by intro e; subst e; simp at hl
      simp only [Sem.run_bind,hix p _ cap hl,add_eq p _ (hs hn),Result.andThen_ok,Sem.run_pure]
   ·simp at hd
  ·rename_i id ver sz' off len full hx
   rw [hx] at r
   split at hd
   ·rename_i hsz'
    obtain ⟨rfl,hl⟩:=hsz'
    simp at hd; subst hd
    generalize a.eval x=v at *
    cases (show Rep w (NX X c bl lb) c.2 bl v (.rs id ver sz' off len full) from r) with
    | rs _ _ _ _ _ _ p cap hid hv hc hfull ha=>
     refine gv (.hp id ver sz' (off+i.toNat) 0 (p.add (i.toNat * sz')) hid hv fun e=>?_) (by rw [hrun]; simp [hix p _ cap hl])
     obtain ⟨h3,_⟩:=ha e
     rw [h3 (by omega),Addr.add_mid,Nat.add_mul]
     simp
   ·simp at hd
  ·simp at hd
 ·rename_i k0 e k' hu
  simp only [Bool.and_eq_true,beq_iff_eq] at he
  obtain ⟨rfl,he1,he2⟩:=he
  have hsz:=size_run he1 w
  have hix:∀ (p:Addr),i.toNat < k0→(Instr.indexAt t (.pointer (some p)) (.int k i)).run P w=.ok (.pointer (some (p.add (i.toNat * sz)))) w:=by
   intro p hl
   have:0≤i∧i < (k0:Int):=by omega
   simp [Instr.indexAt,asIntOf,run_underlying hu,this,hsz,Instr.sureAddr]
  simp only at hd
  split at hd
  ·rename_i hl
   split at hd
   ·rename_i v0 hx
    rw [hx] at r
    cases hpt:part v0.cells (i.toNat * sz) n with
    | none=>simp [hpt] at hd
    | some u=>
     simp [hpt] at hd; subst hd
     generalize a.eval x=y0 at *
     cases (show Rep w (NX X c bl lb) c.2 bl y0 (.iptr v0) from r) with
     | iptr b o' v1 _ hm hp hr=>exact gv (iptr_part hm hp hr hpt) (by rw [hrun]; simp [hix _ hl,Addr.add_mid])
   ·rename_i b g o' hx
    rw [hx] at r
    simp at hd
    obtain ⟨hz,rfl⟩:=hd
    obtain ⟨p,hp,hle,hq⟩:=r.resolve_left hz
    refine ⟨.pointer (some (p.add (i.toNat * sz))),by rw [hrun,hp]; simp [hix p hl],.inr ⟨_,rfl,hle,fun hg=>?_⟩⟩
    obtain ⟨rfl,hg0⟩:=hq hg
    exact ⟨Addr.add_mid _ _ _,hg0⟩
   ·rename_i id ver sz' j o' hx
    rw [hx] at r
    simp at hd; subst hd
    generalize a.eval x=y0 at *
    cases (show Rep w (NX X c bl lb) c.2 bl y0 (.hp id ver sz' j o') from r) with
    | hp _ _ _ _ _ p hid hv ha=>
     refine gv (.hp id ver sz' j (o'+i.toNat * sz) (p.add (i.toNat * sz)) hid hv fun e=>?_) (by rw [hrun]; simp [hix p hl])
     rw [ha e,Addr.add_mid,Nat.add_assoc]
   ·simp at hd
  ·simp at hd
 ·simp at he
theorem rep_u8 {N:Nat→Prop} {st:St} (b:UInt8):Rep w N st bl (.int .u8 b.toNat) (byteD b):=.int _ _
theorem sim_idxS (C:CR X c bl lb a w) {o:Oper} {t:TypeId} {x y:Operand} {x' y':Opd} (ho:o.op=.index t x y) (h1:opdOK x x'=true) (h2:opdOK y y'=true) (ht:kindOK P t .str=true)
  {k:IntKind} {i:Int} (hy:y'.ev c.1.s=.int k i) (hi:¬ i < 0) {s:List UInt8} (hx:x'.ev c.1.s=.str s) {b:UInt8} (hb:s[i.toNat]?=some b):GivesV P X c bl lb a w o (byteD b):=by
 obtain ⟨z,e1,q1⟩:=sr_str C h1 hx
 have ei:=sr_int C h2 hy
 have hu:P.underlying t=some .string:=by unfold kindOK at ht; split at ht <;> simp_all
 refine gv (rep_u8 b) ?_
 have hz:z[i.toNat]?=some b:=by
  rw [←q1] at hb
  have hl:i.toNat < z.size:=by have:=(List.getElem?_eq_some_iff.1 hb).1; simpa using this
  rw [Lib.data_getElem? z _ hl] at hb
  rw [ByteArray.getElem?_lt' z _ hl]
  exact hb
 have:0≤i:=by omega
 simp [execOp,ho,e1,ei,Instr.index,asIntOf,run_underlying hu,this,hz]
end Go.Nt
namespace Go.Nt
variable {P:Program} {X:Cx} {c:Cfg} {bl:Bl} {lb:Nat→Nat} {a:Act} {w:World}
def BoundV (x:Option Value) (dflt top r:Nat):Prop:=(x=none∧r=dflt)∨∃ k i,x=some (.int k i)∧0≤i∧i≤top∧r=i.toNat
theorem bound_v (C:CR X c bl lb a w) {x:Option Operand} {y:Option Opd} (h:opdO x y=true) {dflt top r:Nat} (hb:boundD (y.map (Opd.ev c.1.s)) dflt top=some r):BoundV (x.map a.eval) dflt top r:=by
 cases x <;> cases y <;> simp only [opdO] at h <;> first | contradiction | skip
 ·simp [boundD] at hb; exact .inl ⟨rfl,hb.symm⟩
 ·rename_i x y
  simp only [Option.map_some,boundD] at hb
  split at hb
  ·rename_i heq; simp at heq
  ·rename_i k i heq
   simp at heq
   split at hb
   ·rename_i hi
    simp at hb
    exact .inr ⟨k,i,by simp [sr_int C h heq],hi.1,hi.2,hb.symm⟩
   ·simp at hb
  ·simp at hb
theorem sb_run {k:IntKind} {i:Int} {y:Nat} {code:BoundsCode} (h0:0≤i) (h1:i≤y):(Instr.sliceBound (.int k i) y code).run P w=.ok i.toNat w:=by
 simp [Instr.sliceBound,asIntOf,h0,h1]
theorem BoundV.le {x:Option Value} {dflt top r:Nat} (h:BoundV x dflt top r) (hd:dflt≤top):r≤top:=by
 rcases h with ⟨_,rfl⟩ | ⟨_,i,_,h0,h1,rfl⟩
 ·exact hd
 ·omega
theorem bounds_run {isS:Bool} {len cap:Nat} {lo hi mx:Option Value} {l h m t:Nat} (hm:BoundV mx cap cap m) (hh:BoundV hi len t h) (hl:BoundV lo 0 h l) (ht:t≤m) (hx:mx≠none→hi≠none) :
  (Instr.sliceBounds isS len cap lo hi mx).run P w=.ok (l,h,m) w:=by
 rcases hm with ⟨rfl,rfl⟩ | ⟨k1,i1,rfl,a1,a2,rfl⟩
 ·rcases hh with ⟨rfl,rfl⟩ | ⟨k2,i2,rfl,b1,b2,rfl⟩
  ·rcases hl with ⟨rfl,rfl⟩ | ⟨k3,i3,rfl,c1,c2,rfl⟩
   ·simp [Instr.sliceBounds]
   ·simp [Instr.sliceBounds,sb_run c1 c2]
  ·have b3:i2≤(m:Int):=by omega
   rcases hl with ⟨rfl,rfl⟩ | ⟨k3,i3,rfl,c1,c2,rfl⟩
   ·simp [Instr.sliceBounds,sb_run b1 b3]
   ·simp [Instr.sliceBounds,sb_run b1 b3,sb_run c1 c2]
 ·rcases hh with ⟨rfl,rfl⟩ | ⟨k2,i2,rfl,b1,b2,rfl⟩
  ·exact absurd rfl (hx (by simp))
  ·have b3:i2≤(i1.toNat:Int):=by omega
   rcases hl with ⟨rfl,rfl⟩ | ⟨k3,i3,rfl,c1,c2,rfl⟩
   ·simp [Instr.sliceBounds,sb_run a1 a2,sb_run b1 b3]
   ·simp [Instr.sliceBounds,sb_run a1 a2,sb_run b1 b3,sb_run c1 c2]
def slcOK (P:Program) (t:TypeId):Option Nat→Bool
 | none=>kindOK P t .str
 | some sz=>match P.underlying t with | some (.slice e)=>sizeOK P e sz | _=>false
theorem sliceAt_slice {t e:TypeId} {sz len cap l h m:Nat} {p:Option Addr} {lo hi mx:Option Value} (hu:P.underlying t=some (.slice e)) (hs:sizeOK P e sz=true)
  (hb:(Instr.sliceBounds true len cap lo hi mx).run P w=.ok (l,h,m) w):(Instr.sliceAt t (.slice p len cap) lo hi mx).run P w=.ok (.slice (if m=l then p else p.map (·.add (l * sz))) (h - l) (m - l)) w:=by
 simp [Instr.sliceAt,run_underlying hu,Instr.slice,hb,size_run hs w]
theorem bind3 {α β γ δ:Type} {x:Option α} {f:α→Option β} {g:α→β→Option γ} {k:α→β→γ→δ} {d:δ} (h:(x.bind fun m=>(f m).bind fun h=>(g m h).bind fun l=>some (k m h l))=some d) :
  ∃ m h' l,x=some m∧f m=some h'∧g m h'=some l∧d=k m h' l:=by
 cases x with
 | none=>simp at h
 | some m=>
  cases hf:f m with
  | none=>simp [hf] at h
  | some h'=>
   cases hg:g m h' with
   | none=>simp [hf,hg] at h
   | some l=>simp [hf,hg] at h; exact ⟨m,h',l,rfl,hf,hg,h.symm⟩
theorem bind2 {β γ δ:Type} {x:Option β} {g:β→Option γ} {k:β→γ→δ} {d:δ} (h:(x.bind fun h=>(g h).bind fun l=>some (k h l))=some d) :
  ∃ h' l,x=some h'∧g h'=some l∧d=k h' l:=by
 cases x with
 | none=>simp at h
 | some m=>
  cases hg:g m with
  | none=>simp [hg] at h
  | some l=>simp [hg] at h; exact ⟨m,l,rfl,hg,h.symm⟩
theorem sl_cut {N:Nat→Prop} {st:St} {sz:Nat} {full full':Bool} {ds:List D} {p:Addr} {cap l h m:Nat} (hr:Rep w N st bl (.slice (some p) ds.length cap) (.sl sz full ds)) (h1:l≤h) (h2:h≤ds.length) (h3:h≤m)
  (hf:full'=true→m=h):Rep w N st bl (.slice (if m=l then some p else (some p).map (·.add (l * sz))) (h - l) (m - l)) (.sl sz full' ((ds.take h).drop l)):=by
 generalize hlen:ds.length=len at hr
 cases hr with
 | sl _ _ _ _ _ vs hc hfull hs hp hm hrep=>
  have hll:((ds.take h).drop l).length=h - l:=by simp; omega
  have hget:∀ (i:Nat) (d:D),((ds.take h).drop l)[i]?=some d→ds[l+i]?=some d∧l+i < h:=by
   intro i d hd
   rw [List.getElem?_drop,List.getElem?_take] at hd
   split at hd
   ·exact ⟨hd,by assumption⟩
   ·simp at hd
  have hspot:(ds.take h).drop l≠[]→p.spot=none:=fun hn=>hs fun e=>by subst e; simp at hn
  have key:∀ q:Addr,((ds.take h).drop l≠[]→q=⟨p.block,p.off+l * sz,none⟩)→Rep w N st bl (.slice (some q) (h - l) (m - l)) (.sl sz full' ((ds.take h).drop l)):=by
   intro q hq
   rw [←hll]
   refine .sl sz full' _ q (m - l) (fun i=>vs (l+i)) (by omega) (fun e=>by rw [hll,hf e]) (fun hn=>by rw [hq hn]) (fun i d hd=>hp _ _ (hget i d hd).1) (fun i d hd=>?_) (fun i d hd=>hrep _ _ (hget i d hd).1)
   have hn:(ds.take h).drop l≠[]:=fun e=>by rw [e] at hd; simp at hd
   rw [hq hn]
   have:=hm _ _ (hget i d hd).1
   rw [show p.off+l * sz+i * sz=p.off+(l+i) * sz by rw [Nat.add_mul]; omega]
   exact this
  split
  ·refine key p fun hn=>absurd ?_ hn
   apply List.eq_nil_of_length_eq_zero; omega
  ·simp only [Option.map_some]
   exact key _ fun hn=>add_eq p _ (hspot hn)
theorem rs_cut {N:Nat→Prop} {st:St} {id ver sz off len:Nat} {full full':Bool} {v:Value} {l h m:Nat} (hr:Rep w N st bl v (.rs id ver sz off len full)) (h1:l≤h) (h3:h≤m)
  (hf:full'=true→m=h):∃ p cap,v=.slice (some p) len cap∧(len≤cap∧cap≤9223372036854775807)∧(full=true→cap=len) ∧
   (m≤cap→Rep w N st bl (.slice (if m=l then some p else (some p).map (·.add (l * sz))) (h - l) (m - l)) (.rs id ver sz (off+l) (h - l) full')):=by
 cases hr with
 | rs _ _ _ _ _ _ p cap hid hv hc hfull ha=>
  refine ⟨p,cap,rfl,hc,hfull,fun hm=>?_⟩
  have key:∀ q:Addr,(m - l≠0→cap≠0→p.spot=none→q=⟨p.block,p.off+l * sz,none⟩)→Rep w N st bl (.slice (some q) (h - l) (m - l)) (.rs id ver sz (off+l) (h - l) full'):=by
   intro q hq
   refine .rs id ver sz (off+l) (h - l) full' q (m - l) hid hv (by omega) (fun e=>by rw [hf e]) (fun e=>?_)
   obtain ⟨ha1,c0,e0,f0,hc0,hroom⟩:=ha e
   refine ⟨fun hz=>?_,c0,e0,f0,hc0,?_⟩
   ·have hp:=ha1 (by omega)
    rw [hq hz (by omega) (by rw [hp]),hp,Nat.add_mul]
   ·refine Nat.le_trans (Nat.mul_le_mul_right sz ?_) hroom
    omega
  split
  ·exact key p fun hz=>absurd (by omega) hz
  ·simp only [Option.map_some]
   exact key _ fun _ _ hs=>add_eq p _ hs
theorem sim_slc (C:CR X c bl lb a w) {o:Oper} {t:TypeId} {x:Operand} {x':Opd} {lo hi mx:Option Operand} {lo' hi' mx':Option Opd} {s:Option Nat} (ho:o.op=.slice t x lo hi mx) (h1:opdOK x x'=true)
  (k1:opdO lo lo'=true) (k2:opdO hi hi'=true) (k3:opdO mx mx'=true) (ht:slcOK P t s=true)
  (hty:slcTy s (x'.ev c.1.s)=true) {d:D}
  (hd:sliceD (x'.ev c.1.s) (lo'.map (Opd.ev c.1.s)) (hi'.map (Opd.ev c.1.s)) (mx'.map (Opd.ev c.1.s))=some d):GivesV P X c bl lb a w o d:=by
 have r:=opd_rep C h1
 have he:execOp a.eval o=(do pure (.value (←Instr.sliceAt t (a.eval x) (lo.map a.eval) (hi.map a.eval) (mx.map a.eval)))):=by simp [execOp,ho]
 have hxx:mx.map a.eval≠none→(mx'.map (Opd.ev c.1.s))≠none:=by cases mx <;> cases mx' <;> simp_all [opdO]
 have hhi:(hi'.map (Opd.ev c.1.s))≠none→hi.map a.eval≠none:=by cases hi <;> cases hi' <;> simp_all [opdO]
 unfold sliceD at hd
 split at hd
 ·rename_i str hx
  rw [hx] at hty
  obtain rfl:s=none:=by cases s <;> simp_all [slcTy]
  have hu:P.underlying t=some .string:=by
   simp only [slcOK,kindOK] at ht; split at ht <;> simp_all
  obtain ⟨z,e1,q1⟩:=sr_str C h1 hx
  split at hd
  ·simp at hd
  ·rename_i hmx
   obtain ⟨h',l,e2,e3,rfl⟩:=bind2 hd
   have hm0:mx.map a.eval=none:=by
    rcases Decidable.em (mx.map a.eval=none) with g | g
    ·exact g
    ·exact absurd hmx (hxx g)
   have hz:z.size=str.length:=by rw [←q1]; simp
   have b2:=bound_v C k2 e2
   have b3:=bound_v C k1 e3
   have hr:=bounds_run (P:=P) (w:=w) (isS:=false) (len:=str.length) (cap:=str.length) (mx:=none) (.inl ⟨rfl,rfl⟩) b2 b3 (Nat.le_refl _) (by simp)
   have hle:=b2.le (Nat.le_refl _)
   refine gv (rep_str (z.extract l h') ?_) ?_
   ·rw [ByteArray.data_extract,Array.toList_extract,List.extract_eq_take_drop,q1,List.drop_take]
   ·rw [he,hm0,e1]
    simp [Instr.sliceAt,run_underlying hu,Instr.slice,hz,hr]
 ·rename_i hx
  rw [hx] at hty r
  cases s with
  | none=>simp [slcTy] at hty
  | some sz=>
   have hu:∃ e,P.underlying t=some (.slice e)∧sizeOK P e sz=true:=by
    simp only [slcOK] at ht; split at ht
    ·exact ⟨_,by assumption,ht⟩
    ·simp at ht
   obtain ⟨e,hu,hsz⟩:=hu
   split at hd
   ·simp at hd
   ·rename_i hcon
    obtain ⟨m,h',l,e1,e2,e3,rfl⟩:=bind3 hd
    generalize a.eval x=y at *
    cases (show Rep w (NX X c bl lb) c.2 bl y .nils from r)
    have b1:=bound_v C k3 e1
    have b2:=bound_v C k2 e2
    have b3:=bound_v C k1 e3
    have z1:=b1.le (Nat.le_refl _)
    have z2:=b2.le (Nat.zero_le _)
    have z3:=b3.le (Nat.zero_le _)
    obtain rfl:m=0:=by omega
    obtain rfl:h'=0:=by omega
    obtain rfl:l=0:=by omega
    have hr:=bounds_run (P:=P) (w:=w) (isS:=true) b1 b2 b3 (Nat.le_refl _) (fun g=>by
     have g':=hxx g
     refine hhi fun q=>?_
     cases hq:mx'.map (Opd.ev c.1.s) with
     | none=>exact g' hq
     | some m0=>exact hcon m0 hq q)
    refine gv .nils ?_
    rw [he]
    simp [sliceAt_slice hu hsz hr]
 ·rename_i sz full ds hx
  rw [hx] at hty r
  obtain rfl:s=some sz:=by cases s <;> simp_all [slcTy]
  have hu:∃ e,P.underlying t=some (.slice e)∧sizeOK P e sz=true:=by
   simp only [slcOK] at ht; split at ht
   ·exact ⟨_,by assumption,ht⟩
   ·simp at ht
  obtain ⟨e,hu,hsz⟩:=hu
  obtain ⟨p,cap,hv,hcap,hfull⟩:∃ p cap,a.eval x=.slice (some p) ds.length cap∧ds.length≤cap∧(full=true→cap=ds.length):=by
   generalize a.eval x=y at *
   cases (show Rep w (NX X c bl lb) c.2 bl y (.sl sz full ds) from r)
   exact ⟨_,_,rfl,by assumption,by assumption⟩
  have r':RR X c bl lb w (.slice (some p) ds.length cap) (.sl sz full ds):=by rw [←hv]; exact r
  split at hd
  ·simp at hd
  ·rename_i m0 h0 hmx hhx
   obtain ⟨m,h',l,e1,e2,e3,rfl⟩:=bind3 hd
   rw [←hmx] at e1
   have b1:=bound_v C k3 e1
   have b2:=bound_v C k2 e2
   have b3:=bound_v C k1 e3
   have b2':BoundV (hi.map a.eval) ds.length m h':=by
    rcases b2 with ⟨g,_⟩ | g
    ·exact absurd g (hhi (by rw [hhx]; simp))
    ·exact .inr g
   have b1':BoundV (mx.map a.eval) cap cap m:=by
    rcases b1 with ⟨g,_⟩ | ⟨k,i,g1,g2,g3,g4⟩
    ·have:mx'.map (Opd.ev c.1.s)=none:=by cases mx <;> cases mx' <;> simp_all [opdO]
     rw [this] at hmx; simp at hmx
    ·exact .inr ⟨k,i,g1,g2,by omega,g4⟩
   have z1:m≤ds.length:=b1.le (Nat.zero_le _)
   have z2:h'≤m:=by
    rcases b2' with ⟨g,_⟩ | ⟨_,i,_,g2,g3,rfl⟩
    ·exact absurd g (hhi (by rw [hhx]; simp))
    ·omega
   have z3:=b3.le (Nat.zero_le _)
   have hr:=bounds_run (P:=P) (w:=w) (isS:=true) b1' b2' b3 (Nat.le_refl _) (fun _=>hhi (by rw [hhx]; simp))
   refine gv (sl_cut (m:=m) r' z3 (by omega) z2 (by simp)) ?_
   rw [he,hv]
   simp only [Sem.run_bind,sliceAt_slice hu hsz hr,Result.andThen_ok,Sem.run_pure]
  ·rename_i hmx
   obtain ⟨h',l,e2,e3,rfl⟩:=bind2 hd
   have b2:=bound_v C k2 e2
   have b3:=bound_v C k1 e3
   have hm0:mx.map a.eval=none:=by
    rcases Decidable.em (mx.map a.eval=none) with g | g
    ·exact g
    ·exact absurd hmx (hxx g)
   have z2:=b2.le (Nat.le_refl _)
   have z3:=b3.le (Nat.zero_le _)
   have hr:=bounds_run (P:=P) (w:=w) (isS:=true) (cap:=cap) (mx:=none) (.inl ⟨rfl,rfl⟩) b2 b3 hcap (by simp)
   refine gv (sl_cut (m:=cap) r' z3 z2 (by omega) (by simp; intro g1 g2; rw [hfull g1,g2])) ?_
   rw [he,hv,hm0]
   simp only [Sem.run_bind,sliceAt_slice hu hsz hr,Result.andThen_ok,Sem.run_pure]
 ·rename_i id ver sz off len full hx
  rw [hx] at hty r
  obtain rfl:s=some sz:=by cases s <;> simp_all [slcTy]
  have hu:∃ e,P.underlying t=some (.slice e)∧sizeOK P e sz=true:=by
   simp only [slcOK] at ht; split at ht
   ·exact ⟨_,by assumption,ht⟩
   ·simp at ht
  obtain ⟨e,hu,hsz⟩:=hu
  split at hd
  ·simp at hd
  ·rename_i m0 h0 hmx hhx
   obtain ⟨m,h',l,e1,e2,e3,rfl⟩:=bind3 hd
   rw [←hmx] at e1
   have b1:=bound_v C k3 e1
   have b2:=bound_v C k2 e2
   have b3:=bound_v C k1 e3
   have b2':BoundV (hi.map a.eval) len m h':=by
    rcases b2 with ⟨g,_⟩ | g
    ·exact absurd g (hhi (by rw [hhx]; simp))
    ·exact .inr g
   have z1:m≤len:=b1.le (Nat.zero_le _)
   have z2:h'≤m:=by
    rcases b2' with ⟨g,_⟩ | ⟨_,i,_,g2,g3,rfl⟩
    ·exact absurd g (hhi (by rw [hhx]; simp))
    ·omega
   have z3:=b3.le (Nat.zero_le _)
   obtain ⟨p,cap,hv,hcap,hfull,hres⟩:=rs_cut (l:=l) (h:=h') (m:=m) (full':=m == h') (show Rep w (NX X c bl lb) c.2 bl (a.eval x) (.rs id ver sz off len full) from r) z3 z2 (by simp)
   have b1':BoundV (mx.map a.eval) cap cap m:=by
    rcases b1 with ⟨g,_⟩ | ⟨k,i,g1,g2,g3,g4⟩
    ·have:mx'.map (Opd.ev c.1.s)=none:=by cases mx <;> cases mx' <;> simp_all [opdO]
     rw [this] at hmx; simp at hmx
    ·exact .inr ⟨k,i,g1,g2,by omega,g4⟩
   have hr:=bounds_run (P:=P) (w:=w) (isS:=true) b1' b2' b3 (Nat.le_refl _) (fun _=>hhi (by rw [hhx]; simp))
   refine gv (hres (by omega)) ?_
   rw [he,hv]
   simp only [Sem.run_bind,sliceAt_slice hu hsz hr,Result.andThen_ok,Sem.run_pure]
  ·rename_i hmx
   obtain ⟨h',l,e2,e3,rfl⟩:=bind2 hd
   have b2:=bound_v C k2 e2
   have b3:=bound_v C k1 e3
   have hm0:mx.map a.eval=none:=by
    rcases Decidable.em (mx.map a.eval=none) with g | g
    ·exact g
    ·exact absurd hmx (hxx g)
   have z2:=b2.le (Nat.le_refl _)
   have z3:=b3.le (Nat.zero_le _)
   obtain ⟨p,cap,hv,hcap,hfull,_⟩:=rs_cut (l:=l) (h:=h') (m:=h') (full':=true) (show Rep w (NX X c bl lb) c.2 bl (a.eval x) (.rs id ver sz off len full) from r) z3 (Nat.le_refl _) (by simp)
   obtain ⟨p',cap',hv',_,_,hres⟩:=rs_cut (l:=l) (h:=h') (m:=cap) (full':=full && h' == len) (show Rep w (NX X c bl lb) c.2 bl (a.eval x) (.rs id ver sz off len full) from r) z3 (by omega) (by simp; intro g1 g2; rw [hfull g1,g2])
   rw [hv] at hv'
   simp at hv'
   obtain ⟨rfl,rfl⟩:=hv'
   have hr:=bounds_run (P:=P) (w:=w) (isS:=true) (cap:=cap) (mx:=none) (.inl ⟨rfl,rfl⟩) b2 b3 hcap.1 (by simp)
   refine gv (hres (Nat.le_refl _)) ?_
   rw [he,hv,hm0]
   simp only [Sem.run_bind,sliceAt_slice hu hsz hr,Result.andThen_ok,Sem.run_pure]
 ·simp at hd
end Go.Nt
namespace Go.Nt
variable {P:Program} {X:Cx} {c:Cfg} {bl:Bl} {lb:Nat→Nat} {a:Act} {w:World}
def RelC (X:Cx) (c:Cfg) (a:Act) (w:World):Prop:=∃ bl lb,CR X c bl lb a w
theorem alloc_al (w:World) (o:Obj):Al w (w.alloc o) o:=by
 refine ⟨rfl,rfl,rfl,by simp,fun k hk=>heap_alloc_old w o k hk,heap_alloc_new w o⟩
theorem newVar_run (e:TypeId) (v:Value) (w:World):(newVar e v).run P w=.ok ⟨w.heap.size,0,none⟩ (w.alloc (.cells v.cells e)):=by
 simp [newVar,newRow,newObj,Sem.run]
theorem sr_cells {v:Value} {d:D} (h:SR X c bl lb w v d) (hd:d.cells.all D.okv=true):RR X c bl lb w v d∧v.cells.size=d.cells.length ∧
  ∀ (j:Nat) (x:D),d.cells[j]?=some x→CRep w (NX X c bl lb) c.2 bl v.cells j x:=by
 have hr:RR X c bl lb w v d:=h.rep fun b g off e=>by subst e; simp [D.cells,D.okv] at hd
 refine ⟨hr,hr.cells_size,fun j x hx=>?_⟩
 have hj:j < v.cells.size:=by rw [hr.cells_size]; exact (List.getElem?_eq_some_iff.1 hx).1
 have hv:v.cells[j]?=some v.cells[j]:=by simp [hj]
 refine ⟨?_,v.cells[j],hv,hr.cells hv hx⟩
 by_cases hg:∃ cs,d=.agg cs
 ·obtain ⟨cs,rfl⟩:=hg
  cases hr with
  | agg cs ds hl hc h=>exact hc j x hx
 ·have h2:=(hr.cells_one (fun cs e=>hg ⟨cs,e⟩)).2
  have ho:=all_get hd hx
  rw [h2] at hx
  cases j with
  | zero=>
   simp at hx; subst hx
   cases d <;> first | rfl | exact absurd ⟨_,rfl⟩ hg | (simp [D.okv] at ho; done)
  | succ j=>simp at hx
theorem sim_boxL (C:CR X c bl lb a w) {o:Oper} {e:TypeId} {x:Operand} {x':Opd} {d:Nat} (ho:o.op=.box e x) (hdst:o.dst=some d) (hd:d < X.n) (h1:opdOK x x'=true)
  (hok:(x'.ev c.1.s).cells.all D.okv=true) {K:Act→World→Prop} {Q:Exit→Act→World→Prop}
  (hK:∀ a' w',RelC X (apply c (some d) (.lp d ((getB c.1.b d).1+1) 0,some (d,(getB c.1.b d).1+1,(x'.ev c.1.s).cells),none)) a' w'→K a' w'):o.wp P a w K Q:=by
 obtain ⟨_,hs,hc⟩:=sr_cells (opd_rep C h1) hok
 have hrun:(execOp a.eval o).run P w=.ok (.value (.pointer (some ⟨w.heap.size,0,none⟩))) (w.alloc (.cells (a.eval x).cells e)):=by
  simp [execOp,ho,Instr.box,newVar_run]
 refine wp_val hrun (hK _ _ ?_)
 rw [hdst]
 exact ⟨_,_,C.boxNew hd (alloc_al w _) hs hc⟩
def cellsOK (z:Value) (zero:List D):Bool:=z.cells.size == zero.length && (z.cells.toList.zip zero).all fun p=>constC p.1 p.2
def zerosOK (P:Program) (t:TypeId) (zero:List D):Bool:=
 match (P.info? t).bind (·.zero) with
 | some z=>cellsOK z zero
 | none=>false
theorem zeros_run {t:TypeId} {zero:List D} (h:zerosOK P t zero=true) (w:World) (N:Nat→Prop) (st:St) (bl:Bl) :
  ∃ z,(zeroValue t).run P w=.ok z w∧z.cells.size=zero.length∧∀ (j:Nat) (x:D),zero[j]?=some x→CRep w N st bl z.cells j x:=by
 unfold zerosOK at h
 cases hi:P.info? t with
 | none=>simp [hi] at h
 | some i=>
  cases hz:i.zero with
  | none=>simp [hi,hz] at h
  | some z=>
   simp only [hi,hz,Option.bind_some,cellsOK,Bool.and_eq_true,beq_iff_eq] at h
   refine ⟨z,by simp [zeroValue,typeInfo,hi,hz],h.1,fun j x hx=>?_⟩
   have hj:j < z.cells.size:=by rw [h.1]; exact (List.getElem?_eq_some_iff.1 hx).1
   have hv:z.cells[j]?=some z.cells[j]:=by simp [hj]
   have:=constC_rep (w:=w) (N:=N) (st:=st) (bl:=bl) (zip_all h.2 j z.cells[j] x (by simp) hx)
   exact ⟨this.2.1,_,hv,this.1⟩
theorem sim_allocL (C:CR X c bl lb a w) {o:Oper} {e:TypeId} {d:Nat} {zero:List D} (ho:o.op=.alloc e) (hdst:o.dst=some d) (hd:d < X.n) (hz:zerosOK P e zero=true)
  {K:Act→World→Prop} {Q:Exit→Act→World→Prop}
  (hK:∀ a' w',RelC X (apply c (some d) (.lp d ((getB c.1.b d).1+1) 0,some (d,(getB c.1.b d).1+1,zero),none)) a' w'→K a' w'):o.wp P a w K Q:=by
 obtain ⟨z,hz,hs,hc⟩:=zeros_run hz w (NX X c bl lb) c.2 bl
 have hrun:(execOp a.eval o).run P w=.ok (.value (.pointer (some ⟨w.heap.size,0,none⟩))) (w.alloc (.cells z.cells e)):=by
  simp [execOp,ho,Instr.alloc,hz,newVar_run]
 refine wp_val hrun (hK _ _ ?_)
 rw [hdst]
 exact ⟨_,_,C.boxNew hd (alloc_al w _) hs hc⟩
theorem CR.objNew (C:CR X c bl lb a w) {w':World} {ob:Ob} {o:Obj} (A:Al w w' o)
  (ho:ObRel w' (NN (X.LL c.1.b lb) (c.2++[ob]) (fun i=>if i=c.2.length then w.heap.size else bl i)) (c.2++[ob]) (fun i=>if i=c.2.length then w.heap.size else bl i) w.heap.size ob) :
  CR X (c.1,c.2++[ob]) (fun i=>if i=c.2.length then w.heap.size else bl i) lb a w':=
 C.go (new_ext C.heap A ob) (C.heap.new C.bound A ho)
theorem apply_heap (c:Cfg) (d:Option Nat) (v:D) (st:St):apply c d (v,none,some st)=apply (c.1,st) d (v,none,none):=rfl
theorem apply_val (c:Cfg) (d:Option Nat) (v:D):apply c d (v,none,none)=apply c d (v,none,none):=rfl
theorem fits_cells {d:D} {n:Option Nat} (h:d.fits n=true) (ho:∀ b g off,d≠.lp b g off) (ht:∀ ds,d≠.tup ds):d.cells.length=n.getD 1∧d.okv=true:=by
 cases d <;> cases n <;> simp_all [D.fits,D.cells,D.okv]
theorem fits_all {v:Value} {d:D} {n:Option Nat} (h:SR X c bl lb w v d) (hf:d.fits n=true):d.cells.all D.okv=true∧d.cells.length=n.getD 1∧d.okv=true:=by
 have h1:∀ b g off,d≠.lp b g off:=fun b g off e=>by subst e; cases n <;> simp [D.fits] at hf
 have h2:∀ ds,d≠.tup ds:=fun ds e=>by subst e; cases n <;> simp [D.fits] at hf
 obtain ⟨h3,h4⟩:=fits_cells hf h1 h2
 refine ⟨?_,h3,h4⟩
 have hr:RR X c bl lb w v d:=h.rep h1
 by_cases hg:∃ cs,d=.agg cs
 ·obtain ⟨cs,rfl⟩:=hg
  cases hr with
  | agg cs ds hl hc h=>
   simp only [D.cells,List.all_eq_true]
   intro x hx
   obtain ⟨i,hi⟩:=List.getElem?_of_mem hx
   have:=hc i x hi
   cases x <;> first | rfl | (simp [D.cell] at this; done)
 ·rw [(hr.cells_one (fun cs e=>hg ⟨cs,e⟩)).2]; simp [h4]
theorem sim_boxH (C:CR X c bl lb a w) {o:Oper} {e:TypeId} {v:Value} {x:D} {d:Nat} {n:Option Nat} (hrun:(execOp a.eval o).run P w=.ok (.value (.pointer (some ⟨w.heap.size,0,none⟩))) (w.alloc (.cells v.cells e)))
  (hdst:o.dst=some d) (hd:d < X.n) (hv:SR X c bl lb w v x) (hf:x.fits n=true) {K:Act→World→Prop} {Q:Exit→Act→World→Prop}
  (hK:∀ a' w',RelC X (apply c (some d) (.hp c.2.length 0 (n.getD 1) 0 0,none,some (c.2++[.cells true (n.getD 1) 0 0 false [x]]))) a' w'→K a' w'):o.wp P a w K Q:=by
 obtain ⟨h1,h2,h3⟩:=fits_all hv hf
 obtain ⟨_,hs,hc⟩:=sr_cells hv h1
 have A:=alloc_al w (.cells v.cells e)
 have E:=(new_ext C.heap A (.cells true (n.getD 1) 0 0 false [x])).ext (L:=X.LL c.1.b lb)
 have hsz:=A.size
 have C':=C.objNew (ob:=.cells true (n.getD 1) 0 0 false [x]) A (by
  refine ⟨v.cells,e,0,0,A.new,fun _ _ _=>by omega,⟨by simp [hs,h2],tag_zero⟩,fun i y hy=>?_⟩
  cases i with
  | succ i=>simp at hy
  | zero=>
   simp at hy; subst hy
   exact ⟨h2,h3,by simp,fun j u hu=>by have:=(hc j u hu).ext E (by omega); simpa using this⟩)
 refine wp_val hrun (hK _ _ ?_)
 rw [hdst,apply_heap]
 refine ⟨_,_,C'.put (fun d' e'=>by cases e'; exact hd) fun _=>Rep.slot _ _ ?_⟩
 refine .hp _ _ _ _ _ _ (by simp) (by simp) fun _=>?_
 simp
theorem sim_boxI (C:CR X c bl lb a w) {o:Oper} {e:TypeId} {x:Operand} {x':Opd} {d:Nat} {n:Option Nat} {d':D} (ho:o.op=.box e x) (hdst:o.dst=some d) (hd:d < X.n) (h1:opdOK x x'=true)
  (hb:boxID n (x'.ev c.1.s)=some d') {K:Act→World→Prop} {Q:Exit→Act→World→Prop}
  (hK:∀ a' w',RelC X (apply c (some d) (d',none,none)) a' w'→K a' w'):o.wp P a w K Q:=by
 have hr:=(opd_rep C h1)
 have hf:(x'.ev c.1.s).fits n=true:=by
  unfold boxID at hb
  split at hb
  ·next h=>simp only [Bool.and_eq_true] at h; exact h.1
  ·split at hb
   ·next h=>
    split at hb
    ·next hn=>
     obtain rfl:n=none:=by simpa using hn
     rw [h]; rfl
    ·cases hb
   ·cases hb
 obtain ⟨h2,_,_⟩:=fits_all hr hf
 obtain ⟨hr',hs,hc⟩:=sr_cells hr h2
 have hrun:(execOp a.eval o).run P w=.ok (.value (.pointer (some ⟨w.heap.size,0,none⟩))) (w.alloc (.cells (a.eval x).cells e)):=by
  simp [execOp,ho,Instr.box,newVar_run]
 have A:=alloc_al w (.cells (a.eval x).cells e)
 have hsz:=A.size
 have C':=C.grown A.os A.tape A.output (by omega) A.same
 have E:=(Evo.grown c.2 bl (fun _ hi=>C.heap.lt hi) A.os A.tape A.output (by omega) A.same).ext (L:=X.LL c.1.b lb)
 refine wp_val hrun (hK _ _ ?_)
 rw [hdst]
 refine ⟨_,_,C'.put (fun d' e'=>by cases e'; exact hd) fun _=>Rep.slot _ _ ?_⟩
 have hmem:MemAt (w.alloc (.cells (a.eval x).cells e)) (NX X c bl lb) w.heap.size 0 (a.eval x):=by
  refine ⟨fun g=>?_,by omega,fun j u hu=>?_⟩
  ·rcases g with g | ⟨id,hid,_,g⟩
   ·have:=C.bound _ g; omega
   ·have:=C.heap.lt hid; omega
  ·rw [cell_of_row _ _ _ _ _ _ A.new]; simpa using hu
 unfold boxID at hb
 split at hb
 ·next h=>
  simp only [Bool.and_eq_true] at h
  simp only [Option.some.injEq] at hb
  subst hb
  exact .iptr _ _ (a.eval x) _ hmem h.2 (hr'.ext E (by omega))
 ·split at hb
  ·next hx=>
   split at hb
   ·simp only [Option.some.injEq] at hb
    subst hb
    rw [hx] at hr'
    exact .kp _ _ _ _ _ _ _ (a.eval x) hmem (hr'.ext E (by omega))
   ·cases hb
  ·cases hb
def putA (cur:Array Value) (o:Nat) (vs:List Value):Array Value:=(cur.toList.take o++vs++cur.toList.drop (o+vs.length)).toArray
theorem putA_size (cur:Array Value) (o:Nat) (vs:List Value) (h:o+vs.length≤cur.size):(putA cur o vs).size=cur.size:=by
 simp [putA]; omega
theorem putA_get (cur:Array Value) (o:Nat) (vs:List Value) (h:o+vs.length≤cur.size) (k:Nat):(putA cur o vs)[k]?=if o≤k∧k < o+vs.length then vs[k - o]? else cur[k]?:=by
 simp only [putA,List.getElem?_toArray]
 have hl:(cur.toList.take o).length=o:=by simp; omega
 by_cases h1:k < o
 ·rw [if_neg (by omega),List.append_assoc,List.getElem?_append_left (by omega),List.getElem?_take]
  simp [h1]
 ·by_cases h2:k < o+vs.length
  ·rw [if_pos (by omega),List.append_assoc,List.getElem?_append_right (by omega),List.getElem?_append_left (by omega),hl]
  ·rw [if_neg (by omega),List.append_assoc,List.getElem?_append_right (by omega),List.getElem?_append_right (by omega),List.getElem?_drop,hl]
   simp only [Array.getElem?_toList]
   congr 1; omega
theorem storeCells_run {t:TypeId} {lo hi b:Nat} (o:Nat):∀ (vs:List Value) (i:Nat) (cur:Array Value) (w:World),w.heap[b]?=some (.cells cur t (lo,hi))→(∀ k,k < cur.size→¬ (lo≤k∧k < hi))→o+i+vs.length≤cur.size →
  (∀ v∈vs,v.oneCell'=true)→∃ w',(storeCells ⟨b,o,none⟩ vs i).run P w=.ok () w'∧Wr w w' b (.cells (putA cur (o+i) vs) t (lo,hi))
 | [],i,cur,w,hg,_,_,_=>⟨w,rfl,rfl,rfl,rfl,rfl,fun _ _=>rfl,by rw [hg]; simp [putA]⟩
 | v::vs,i,cur,w,hg,hf,hl,h1=>by
  have hi':o+i < cur.size:=by simp at hl; omega
  have hcell:w.cell? ⟨b,o+i,none⟩=some cur[o+i]:=by simp [World.cell?,hg,hi']
  have hfro:w.frozen? ⟨b,o+i,none⟩=false:=by
   have:=hf _ hi'
   simp only [World.frozen?,hg]
   simpa using this
  have hst:(store ((⟨b,o,none⟩:Addr).add i) v).run P w=.ok () (w.setCell ⟨b,o+i,none⟩ v):=by
   rw [Addr.add_mid,run_store P w _ v _ (h1 v (by simp)),hcell]
   simp [hfro]
  have hg':(w.setCell ⟨b,o+i,none⟩ v).heap[b]?=some (.cells (cur.setIfInBounds (o+i) v) t (lo,hi)):=by
   simp [World.setCell,Array.getElem?_modify,hg]
  obtain ⟨w',hr,W⟩:=storeCells_run o vs (i+1) (cur.setIfInBounds (o+i) v) (w.setCell ⟨b,o+i,none⟩ v) hg' (by simpa using hf) (by simp at hl ⊢; omega) (fun x hx=>h1 x (by simp [hx]))
  refine ⟨w',by simp only [storeCells,Sem.run_bind,hst,Result.andThen_ok]; exact hr,W.os,W.tape,W.output,by rw [W.size]; simp,fun k hk=>?_,?_⟩
  ·rw [W.same k hk]; exact heap_setCell_other w ⟨b,o+i,none⟩ k v hk
  ·rw [W.new]
   congr 2
   apply Array.ext_getElem?
   intro k
   rw [putA_get _ _ _ (by simp at hl ⊢; omega),putA_get _ _ _ (by simp at hl ⊢; omega)]
   simp only [Array.getElem?_setIfInBounds,List.length_cons]
   by_cases q1:k=o+i
   ·subst q1
    rw [if_neg (by omega),if_pos (by omega)]
    simp [hi']
   ·by_cases q2:o+(i+1)≤k∧k < o+(i+1)+vs.length
    ·rw [if_pos q2,if_pos (by omega)]
     rw [show k - (o+i)=(k - (o+(i+1)))+1 by omega]
     simp
    ·have q3:¬ (o+i=k):=fun q=>q1 q.symm
     have q4:¬ (o+i≤k∧k < o+i+(vs.length+1)):=by omega
     rw [if_neg q2,if_neg q3,if_neg q4]
theorem cell_one {N:Nat→Prop} {st:St} {v:Value} {d:D} (h:Rep w N st bl v d) (hc:d.cell=true):v.oneCell'=true:=by
 cases h <;> first | rfl | (simp [D.cell] at hc; done)
theorem splice_get {cs xs:List D} {off:Nat} {r:List D} (h:splice cs off xs=some r):off+xs.length≤cs.length∧r.length=cs.length∧∀ k,r[k]?=if off≤k∧k < off+xs.length then xs[k - off]? else cs[k]?:=by
 unfold splice at h
 split at h
 ·rename_i hle
  simp at h; subst h
  refine ⟨hle,by simp; omega,fun k=>?_⟩
  have hl:(cs.take off).length=off:=by simp; omega
  by_cases h1:k < off
  ·rw [if_neg (by omega),List.getElem?_append_left (by omega),List.getElem?_take]; simp [h1]
  ·by_cases h2:k < off+xs.length
   ·rw [if_pos (by omega),List.getElem?_append_right (by omega),List.getElem?_append_left (by omega),hl]
   ·rw [if_neg (by omega),List.getElem?_append_right (by omega),List.getElem?_append_right (by omega),List.getElem?_drop,hl]
    congr 1; omega
 ·simp at h
theorem storeVar_run {t:TypeId} {n lo hi b o:Nat} {e:TypeId} {cur:Array Value} {v:Value} (hs:sizeOK P t n=true) (hv:v.cells.size=n) (hg:w.heap[b]?=some (.cells cur e (lo,hi)))
  (hf:∀ k,k < cur.size→¬ (lo≤k∧k < hi)) (hl:o+n≤cur.size) (h1:∀ u∈v.cells.toList,u.oneCell'=true) :
  ∃ w',(storeVar t ⟨b,o,none⟩ v).run P w=.ok () w'∧Wr w w' b (.cells (putA cur o v.cells.toList) e (lo,hi)):=by
 obtain ⟨w',hr,W⟩:=storeCells_run (P:=P) o v.cells.toList 0 cur w hg hf (by simp; omega) h1
 exact ⟨w',by simp [storeVar,size_run hs w,hv,hr],W⟩
theorem sim_storeLd (C:CR X c bl lb a w) {o:Oper} {t:TypeId} {p x:Operand} {p':Opd} {dx:D} {n b b' g off:Nat} {cs:List D} (ho:o.op=.store t p x) (hdst:o.dst=none) (h1:opdOK p p'=true) (rx0:SR X c bl lb w (a.eval x) dx)
  (hs:sizeOK P t n=true) (hn:dx.cells.length=n) (hok:dx.okv=true) (hp:p'.ev c.1.s=.lp b' g off) (hb:b'=b∧(getB c.1.b b).1=g∧g≠0) (hsp:splice (getB c.1.b b).2 off dx.cells=some cs)
  {K:Act→World→Prop} {Q:Exit→Act→World→Prop}
  (hK:∀ a' w',RelC X (apply c none (.undef,some (b,g,cs),none)) a' w'→K a' w'):o.wp P a w K Q:=by
 obtain ⟨rfl,rfl,hb0⟩:=hb
 have rp:=opd_rep C h1
 rw [hp] at rp
 obtain ⟨q,hq,_,hq'⟩:=rp.resolve_left hb0
 obtain ⟨rfl,hg0⟩:=hq' rfl
 have rx:=rx0.okv hok
 have hall:dx.cells.all D.okv=true:=by
  have rx:=rx
  generalize dx=d at *
  generalize a.eval x=v at *
  by_cases hg:∃ cs,d=.agg cs
  ·obtain ⟨cs,rfl⟩:=hg
   cases rx with
   | agg cs ds hl hc h=>
    simp only [D.cells,List.all_eq_true]
    intro y hy
    obtain ⟨i,hi⟩:=List.getElem?_of_mem hy
    have:=hc i y hi
    cases y <;> first | rfl | (simp [D.cell] at this; done)
  ·rw [(rx.cells_one (fun cs e=>hg ⟨cs,e⟩)).2]; simp [hok]
 obtain ⟨_,hsz,hc⟩:=sr_cells rx0 hall
 obtain ⟨hbase,cur,e,hcur,hcsz,hcc⟩:=C.boxes b' hg0
 obtain ⟨hle,hlen,hget⟩:=splice_get hsp
 have hone:∀ u∈(a.eval x).cells.toList,u.oneCell'=true:=by
  intro u hu
  obtain ⟨j,hj⟩:=List.getElem?_of_mem hu
  have hj':j < dx.cells.length:=by
   have:=(List.getElem?_eq_some_iff.1 hj).1
   rw [←hsz]; simpa using this
  obtain ⟨h3,v,h4,h5⟩:=hc j _ (List.getElem?_eq_getElem hj')
  have:v=u:=by
   rw [Array.getElem?_toList] at hj
   rw [hj] at h4; simpa using h4.symm
  subst this
  exact cell_one h5 h3
 obtain ⟨w',hr,W⟩:=storeVar_run (P:=P) (o:=off) hs (by rw [hsz,hn]) hcur (by omega) (by rw [hcsz]; omega) hone
 refine wp_skp (w':=w') (by simp [execOp,ho,hq,Instr.storeAt,Instr.sureAddr,hr]) (hK _ _ ?_)
 rw [hdst]
 have hl1:(a.eval x).cells.toList.length=dx.cells.length:=by simpa using hsz
 refine ⟨_,_,C.boxStore hg0 hcur W hlen (by rw [putA_size _ _ _ (by omega),hcsz,hlen]) fun j y hy=>?_⟩
 rw [hget] at hy
 unfold CRep
 rw [putA_get _ _ _ (by omega)]
 by_cases hj:off≤j∧j < off+dx.cells.length
 ·rw [if_pos hj] at hy
  rw [if_pos (by omega),Array.getElem?_toList]
  exact hc _ _ hy
 ·rw [if_neg hj] at hy
  rw [if_neg (by omega)]
  exact hcc j y hy
theorem sim_storeL (C:CR X c bl lb a w) {o:Oper} {t:TypeId} {p x:Operand} {p' x':Opd} {n b b' g off:Nat} {cs:List D} (ho:o.op=.store t p x) (hdst:o.dst=none) (h1:opdOK p p'=true) (h2:opdOK x x'=true)
  (hs:sizeOK P t n=true) (hn:(x'.ev c.1.s).cells.length=n) (hok:(x'.ev c.1.s).okv=true) (hp:p'.ev c.1.s=.lp b' g off) (hb:b'=b∧(getB c.1.b b).1=g∧g≠0) (hsp:splice (getB c.1.b b).2 off (x'.ev c.1.s).cells=some cs)
  {K:Act→World→Prop} {Q:Exit→Act→World→Prop}
  (hK:∀ a' w',RelC X (apply c none (.undef,some (b,g,cs),none)) a' w'→K a' w'):o.wp P a w K Q:=
 sim_storeLd C ho hdst h1 (opd_rep C h2) hs hn hok hp hb hsp hK
end Go.Nt
namespace Go.Nt
variable {P:Program} {X:Cx} {c:Cfg} {bl:Bl} {lb:Nat→Nat} {a:Act} {w:World}
theorem upd_same (bl:Bl) (id:Nat):(fun i=>if i=id then bl id else bl i)=bl:=by
 funext i; split <;> simp_all
structure Freed (w:World) (L:Nat→Prop) (st:St) (bl:Bl) (st':St):Prop where
 heap:HRel w L st' bl
 evo:Evo w st bl w st' bl
theorem Freed.refl {L:Nat→Prop} {st:St} (H:HRel w L st bl):Freed w L st bl st:=⟨H,.refl _ _ _⟩
theorem Freed.trans {L:Nat→Prop} {st st' st'':St} (h:Freed w L st bl st') (k:Freed w L st' bl st''):Freed w L st bl st'':=⟨k.heap,h.evo.trans k.evo⟩
theorem Freed.rep {L:Nat→Prop} {st st':St} (h:Freed w L st bl st') {v:Value} {d:D} (r:Rep w (NN L st bl) st bl v d):Rep w (NN L st' bl) st' bl v d:=r.ext (h.evo.ext (L:=L)) (Nat.le_refl _)
def FZ (h:St→D→Option (D × St)):Prop:=∀ (w:World) (L:Nat→Prop) (st:St) (bl:Bl) (v:Value) (d d':D) (st':St),HRel w L st bl→(∀ b,L b→b < w.heap.size)→Rep w (NN L st bl) st bl v d→h st d=some (d',st') →
 Freed w L st bl st'∧Rep w (NN L st' bl) st' bl v d'∧(d.cell=true→d'.cell=true)∧(d.okv=true→d'.okv=true)∧d'.cells.length=d.cells.length
theorem ob_elem {N:Nat→Prop} {st:St} {b:Nat} {box:Bool} {sz v m:Nat} {fr:Bool} {elems:List D} (h:ObRel w N st bl b (.cells box sz v m fr elems)) {i:Nat} {d:D} (hd:elems[i]?=some d) :
  ∃ u,Rep w N st bl u d∧∀ (j:Nat) (x:Value),u.cells[j]?=some x→w.cell? ⟨b,i * sz+j,none⟩=some x:=by
 obtain ⟨h1,h2,_,h4⟩:=ob_cells h hd
 have hf:part d.cells 0 (match d with | .agg cs=>some cs.length | _=>none)=some d:=by
  cases d <;> first | (simp [part,D.cells]; done) | rfl
 obtain ⟨u,_,hr,hm⟩:=part_run (P:=default) h4 hf
 exact ⟨u,hr,hm⟩
theorem fz0_ok:FZ fz0:=by
 intro w L st bl v d d' st' H hL hr hf
 unfold fz0 at hf
 split at hf
 ·rename_i id ver sz off len full
  split at hf
  ·rename_i sz' ver' mod fr elems hob
   split at hf
   ·rename_i hc
    obtain ⟨rfl,rfl,hle⟩:=hc
    simp only [Option.some.injEq,Prod.mk.injEq] at hf
    obtain ⟨rfl,rfl⟩:=hf
    cases hr with
    | rs _ _ _ _ _ _ p cap hid hv hcap hfull ha=>
     obtain ⟨ha1,_⟩:=ha (by rw [hob]; rfl)
     have hO:=H.obj id hid
     rw [hob] at hO
     have F:Freed w L st bl (if fr=true then st else List.set st id (.cells false sz' ver' (mod+1) true elems)):=by
      cases fr
      ·simp only [Bool.false_eq_true,if_false]
       have E:=upd_ext (w':=w) H hid (by rw [hob]; rfl) (.cells false sz' ver' (mod+1) true elems) (bl id) rfl rfl rfl (Nat.le_refl _) (fun _ _ _=>rfl) (.inl rfl)
        (.inr ⟨by rw [hob]; rfl,rfl,.refl _ _⟩) (by rw [hob]; exact Nat.lt_succ_self _) (by rw [hob]; simp [Ob.isMap])
       have H':=H.upd hL hid E (fun _ _ _=>rfl) (.inl rfl) (by
        have:=hO.ext (E.ext (L:=L)) (Nat.le_refl _) rfl
        obtain ⟨cs,e,lo,hi,k1,_,k3,k4⟩:=this
        exact ⟨cs,e,lo,hi,k1,fun (h:true=false)=>(by simp at h),k3,k4⟩)
       rw [upd_same] at E H'
       exact ⟨H',E⟩
      ·simp only [if_true]; exact .refl H
     have hnl:¬ NN L (if fr=true then st else List.set st id (.cells false sz' ver' (mod+1) true elems)) bl (bl id):=by
      rintro (g | ⟨j,hj,hl,hb⟩)
      ·exact H.out id hid g
      ·have hj':j < st.length:=by cases fr <;> simpa using hj
       have:=H.inj j id hj' hid hb
       subst this
       cases fr
       ·simp only [Bool.false_eq_true,if_false] at hl
        rw [at_set _ _ _ _ hid] at hl
        simp [Ob.live] at hl
       ·simp only [if_true] at hl
        rw [hob] at hl
        simp [Ob.live] at hl
     have hO':=F.heap.obj id (by cases fr <;> simpa using hid)
     have hat:∃ m' f',St.at (if fr=true then st else List.set st id (.cells false sz' ver' (mod+1) true elems)) id=.cells false sz' ver' m' f' elems:=by
      cases fr
      ·exact ⟨mod+1,true,by simp only [Bool.false_eq_true,if_false]; rw [at_set _ _ _ _ hid,if_pos rfl]⟩
      ·exact ⟨mod,true,by simp only [if_true]; exact hob⟩
     obtain ⟨m',f',hat⟩:=hat
     rw [hat] at hO'
     refine ⟨F,?_,fun _=>rfl,fun _=>rfl,rfl⟩
     have hll:((elems.drop off).take len).length=len:=by simp; omega
     have hget:∀ (i:Nat) (d:D),((elems.drop off).take len)[i]?=some d→elems[off+i]?=some d:=by
      intro i d hd
      rw [List.getElem?_take] at hd
      split at hd
      ·rw [List.getElem?_drop] at hd; exact hd
      ·simp at hd
     have hne:(elems.drop off).take len≠[]→p=⟨bl id,off * sz',none⟩:=by
      intro hn
      refine ha1 fun hz=>hn ?_
      apply List.eq_nil_of_length_eq_zero; omega
     generalize hst1:(if fr=true then st else List.set st id (.cells false sz' ver' (mod+1) true elems))=st1 at *
     have hch:∀ i:Nat,∃ u,∀ d,elems[off+i]?=some d→Rep w (NN L st1 bl) st1 bl u d∧∀ (j:Nat) (x:Value),u.cells[j]?=some x→w.cell? ⟨bl id,(off+i) * sz'+j,none⟩=some x:=by
      intro i
      cases he:elems[off+i]? with
      | none=>exact ⟨undef,fun d hd=>by simp at hd⟩
      | some d=>
       obtain ⟨u,h1,h2⟩:=ob_elem hO' he
       exact ⟨u,fun d' hd=>by simp at hd; subst hd; exact ⟨h1,h2⟩⟩
     have key:=Rep.sl (w:=w) (N:=NN L st1 bl) (st:=st1) (bl:=bl) sz' full ((elems.drop off).take len) p cap (fun i=>(hch i).choose) (by omega) (fun e=>by rw [hll]; exact hfull e) (fun hn=>by rw [hne hn])
      (fun i d hd=>by
       obtain ⟨h1,h2,h3,_⟩:=ob_cells hO' (hget i d hd)
       exact ⟨h3 rfl,h1⟩)
      (fun i d hd=>by
       have:=(hch i).choose_spec d (hget i d hd)
       have hn:(elems.drop off).take len≠[]:=fun e=>by rw [e] at hd; simp at hd
       rw [hne hn]
       refine ⟨hnl,H.lt hid,fun j x hx=>?_⟩
       have:=this.2 j x hx
       rw [Nat.add_mul] at this
       exact this)
      (fun i d hd=>((hch i).choose_spec d (hget i d hd)).1)
     rw [hll] at key
     exact key
   ·simp at hf
  ·simp at hf
 ·simp at hf
 ·simp at hf
 ·simp at hf
 ·simp only [Option.some.injEq,Prod.mk.injEq] at hf
  obtain ⟨rfl,rfl⟩:=hf
  exact ⟨.refl H,hr,id,id,rfl⟩
theorem fzL_ok {h:St→D→Option (D × St)} (hh:FZ h) (w:World) (L:Nat→Prop) (bl:Bl) (hL:∀ b,L b→b < w.heap.size):∀ (ds:List D) (st:St) (vs:Nat→Value) (ds':List D) (st':St),HRel w L st bl →
  (∀ (i:Nat) (d:D),ds[i]?=some d→Rep w (NN L st bl) st bl (vs i) d)→fzL h st ds=some (ds',st') →
  Freed w L st bl st'∧ds'.length=ds.length∧∀ (i:Nat) (d d':D),ds[i]?=some d→ds'[i]?=some d'→Rep w (NN L st' bl) st' bl (vs i) d'∧(d.cell=true→d'.cell=true)∧(d.okv=true→d'.okv=true)∧d'.cells.length=d.cells.length
 | [],st,vs,ds',st',H,_,hf=>by
  simp only [fzL,Option.some.injEq,Prod.mk.injEq] at hf
  obtain ⟨rfl,rfl⟩:=hf
  exact ⟨.refl H,rfl,fun i d d' hd=>by simp at hd⟩
 | d::ds,st,vs,ds',st',H,hr,hf=>by
  simp only [fzL] at hf
  cases h1:h st d with
  | none=>simp [h1] at hf
  | some r=>
   obtain ⟨e,st1⟩:=r
   simp only [h1,Option.bind_some] at hf
   cases h2:fzL h st1 ds with
   | none=>simp [h2] at hf
   | some q=>
    obtain ⟨es,st2⟩:=q
    simp only [h2,Option.bind_some,Option.some.injEq,Prod.mk.injEq] at hf
    obtain ⟨rfl,rfl⟩:=hf
    obtain ⟨F1,r1,r2,r3,r4⟩:=hh w L st bl (vs 0) d e st1 H hL (hr 0 d rfl) h1
    obtain ⟨F2,hl,k⟩:=fzL_ok hh w L bl hL ds st1 (fun i=>vs (i+1)) es st2 F1.heap (fun i d hd=>F1.rep (hr (i+1) d hd)) h2
    refine ⟨F1.trans F2,by simp [hl],fun i d0 d' hd hd'=>?_⟩
    cases i with
    | zero=>simp at hd hd'; subst hd; subst hd'; exact ⟨F2.rep r1,r2,r3,r4⟩
    | succ i=>exact k i d0 d' (by simpa using hd) (by simpa using hd')
theorem fz1_ok:FZ fz1:=by
 intro w L st bl v d d' st' H hL hr hf
 unfold fz1 at hf
 split at hf
 ·rename_i cs
  cases h1:fzL fz0 st cs with
  | none=>simp [h1] at hf
  | some r=>
   obtain ⟨es,st1⟩:=r
   simp only [h1,Option.bind_some,Option.some.injEq,Prod.mk.injEq] at hf
   obtain ⟨rfl,rfl⟩:=hf
   cases hr with
   | agg vs _ hl hc hrep=>
    obtain ⟨F,hlen,k⟩:=fzL_ok fz0_ok w L bl hL cs st (fun i=>vs.getD i undef) es st1 H (fun i d hd=>by
     have hi:i < vs.size:=by rw [hl]; exact (List.getElem?_eq_some_iff.1 hd).1
     exact hrep i _ d (by simp [hi]) hd) h1
    have hget:∀ (i:Nat) (d':D),es[i]?=some d'→∃ d,cs[i]?=some d:=fun i d' hd'=>⟨cs[i]'(by rw [←hlen]; exact (List.getElem?_eq_some_iff.1 hd').1),by simp⟩
    refine ⟨F,.agg vs es (by omega) (fun i d' hd'=>?_) (fun i u d' hu hd'=>?_),fun hx=>by simp [D.cell] at hx,fun _=>rfl,by simp [D.cells,hlen]⟩
    ·obtain ⟨d,hd⟩:=hget i d' hd'
     exact (k i d d' hd hd').2.1 (hc i d hd)
    ·obtain ⟨d,hd⟩:=hget i d' hd'
     have:=(k i d d' hd hd').1
     simpa [Array.getD_eq_getD_getElem?,hu] using this
 ·exact fz0_ok w L st bl v d d' st' H hL hr hf
theorem fz_ok:FZ fz:=by
 intro w L st bl v d d' st' H hL hr hf
 unfold fz at hf
 split at hf
 ·rename_i cs
  cases h1:fzL fz1 st cs with
  | none=>simp [h1] at hf
  | some r=>
   obtain ⟨es,st1⟩:=r
   simp only [h1,Option.bind_some,Option.some.injEq,Prod.mk.injEq] at hf
   obtain ⟨rfl,rfl⟩:=hf
   cases hr with
   | tup vs _ hl hrep=>
    obtain ⟨F,hlen,k⟩:=fzL_ok fz1_ok w L bl hL cs st (fun i=>vs.getD i undef) es st1 H (fun i d hd=>by
     have hi:i < vs.size:=by rw [hl]; exact (List.getElem?_eq_some_iff.1 hd).1
     exact hrep i _ d (by simp [hi]) hd) h1
    refine ⟨F,.tup vs es (by omega) (fun i u d' hu hd'=>?_),fun hx=>by simp [D.cell] at hx,fun hx=>by simp [D.okv] at hx,rfl⟩
    have hd:∃ d,cs[i]?=some d:=⟨cs[i]'(by rw [←hlen]; exact (List.getElem?_eq_some_iff.1 hd').1),by simp⟩
    obtain ⟨d,hd⟩:=hd
    have:=(k i d d' hd hd').1
    simpa [Array.getD_eq_getD_getElem?,hu] using this
 ·exact fz1_ok w L st bl v d d' st' H hL hr hf
end Go.Nt
namespace Go.Nt
variable {P:Program} {X:Cx} {c:Cfg} {bl:Bl} {lb:Nat→Nat} {a:Act} {w:World}
theorem pure_cells {d x:D} (h:d.pure=true) (hx:x∈d.cells):x.pure1=true:=by
 by_cases hd:∃ cs,d=.agg cs
 ·obtain ⟨cs,rfl⟩:=hd
  exact List.all_eq_true.1 h x hx
 ·have:d.cells=[d]:=by cases d <;> first | rfl | exact absurd ⟨_,rfl⟩ hd
  rw [this] at hx
  simp at hx; subst hx
  cases x <;> first | exact h | exact absurd ⟨_,rfl⟩ hd
theorem rewrap_ok {d d':D} {cs:List D} (h:rewrap d cs=some d') (hc:∀ x∈cs,x.cell=true):d'.cells=cs∧d'.okv=true∧((∀ x∈cs,x.pure1=true)→d'.pure=true):=by
 unfold rewrap at h
 split at h
 ·simp at h; subst h; exact ⟨rfl,rfl,fun hp=>by simpa [D.pure] using hp⟩
 ·split at h
  ·rename_i x
   simp at h; subst h
   have hx:=hc x (by simp)
   refine ⟨cell_cells hx,?_,fun hp=>D.p1 (hp x (by simp))⟩
   cases x <;> first | rfl | (simp [D.cell] at hx; done)
  ·simp at h
theorem rep_okv {N:Nat→Prop} {st:St} {v:Value} {d:D} (h:Rep w N st bl v d) (ho:d.okv=true):d.cells.all D.okv=true:=by
 by_cases hg:∃ cs,d=.agg cs
 ·obtain ⟨cs,rfl⟩:=hg
  cases h with
  | agg cs ds hl hc h=>
   simp only [D.cells,List.all_eq_true]
   intro y hy
   obtain ⟨i,hi⟩:=List.getElem?_of_mem hy
   have:=hc i y hi
   cases y <;> first | rfl | (simp [D.cell] at this; done)
 ·rw [(h.cells_one (fun cs e=>hg ⟨cs,e⟩)).2]; simp [ho]
theorem rep_crep {N:Nat→Prop} {st:St} {v:Value} {d:D} (h:Rep w N st bl v d) (ho:d.okv=true):∀ (j:Nat) (x:D),d.cells[j]?=some x→CRep w N st bl v.cells j x:=by
 intro j x hx
 have hj:j < v.cells.size:=by rw [h.cells_size]; exact (List.getElem?_eq_some_iff.1 hx).1
 refine ⟨?_,v.cells[j],by simp [hj],h.cells (by simp [hj]) hx⟩
 by_cases hg:∃ cs,d=.agg cs
 ·obtain ⟨cs,rfl⟩:=hg
  cases h with
  | agg cs ds hl hc h=>exact hc j x hx
 ·have h2:=(h.cells_one (fun cs e=>hg ⟨cs,e⟩)).2
  rw [h2] at hx
  cases j with
  | zero=>
   simp at hx; subst hx
   cases d <;> first | rfl | exact absurd ⟨_,rfl⟩ hg | (simp [D.okv] at ho; done)
  | succ j=>simp at hx
theorem rep_one {N:Nat→Prop} {st:St} {v:Value} {d:D} (h:Rep w N st bl v d) (ho:d.okv=true):∀ u∈v.cells.toList,u.oneCell'=true:=by
 intro u hu
 obtain ⟨j,hj⟩:=List.getElem?_of_mem hu
 rw [Array.getElem?_toList] at hj
 have hj':j < d.cells.length:=by rw [←h.cells_size]; exact (Array.getElem?_eq_some_iff.1 hj).1
 obtain ⟨h3,v',h4,h5⟩:=rep_crep h ho j _ (List.getElem?_eq_getElem hj')
 rw [hj] at h4
 simp at h4; subst h4
 exact cell_one h5 h3
theorem store_ob {L:Nat→Prop} {st:St} {t:TypeId} {id ver sz idx off mod n:Nat} {box:Bool} {elems cs:List D} {d d' x:D} {v:Value}
  (H:HRel w L st bl) (hL:∀ b,L b→b < w.heap.size) (hid:id < st.length) (hob:St.at st id=.cells box sz ver mod false elems) (he:elems[idx]?=some d) (hsp:splice d.cells off x.cells=some cs) (hrw:rewrap d cs=some d')
  (hs:sizeOK P t n=true) (hn:x.cells.length=n) (hr:Rep w (NN L st bl) st bl v x) (ho:x.okv=true) (hp:box=false→x.pure=true) :
  ∃ w',(storeVar t ⟨bl id,idx * sz+off,none⟩ v).run P w=.ok () w'∧HRel w' L (List.set st id (.cells box sz ver (mod+1) false (elems.set idx d'))) bl ∧
   Evo w st bl w' (List.set st id (.cells box sz ver (mod+1) false (elems.set idx d'))) bl:=by
 have hO:=H.obj id hid
 rw [hob] at hO
 obtain ⟨cur,e,lo,hi,hcur,hfro0,⟨hlen,htag⟩,hcells⟩:=hO
 have hfro:=hfro0 rfl
 obtain ⟨a1,a2,a3,a4⟩:=hcells idx d he
 obtain ⟨hle,hcl,hget⟩:=splice_get hsp
 have hidx:idx < elems.length:=(List.getElem?_eq_some_iff.1 he).1
 have hmul:(idx+1) * sz≤elems.length * sz:=Nat.mul_le_mul_right sz hidx
 rw [Nat.add_mul,Nat.one_mul] at hmul
 have hvl:v.cells.toList.length=x.cells.length:=by simpa using hr.cells_size
 obtain ⟨w',hrun,W⟩:=storeVar_run (P:=P) (o:=idx * sz+off) hs (by rw [hr.cells_size,hn]) hcur (fun k hk=>hfro k (Nat.le_of_lt hk)) (by omega) (rep_one hr ho)
 have hcs:∀ y∈cs,y.cell=true:=by
  intro y hy
  obtain ⟨j,hj⟩:=List.getElem?_of_mem hy
  rw [hget] at hj
  split at hj
  ·exact (rep_crep hr ho _ _ hj).1
  ·exact (a4 j y hj).1
 obtain ⟨k1,k2,k3⟩:=rewrap_ok hrw hcs
 have E:=upd_ext (w':=w') H hid (by rw [hob]; rfl) (.cells box sz ver (mod+1) false (elems.set idx d')) (bl id) W.os W.tape W.output (Nat.le_of_eq W.size.symm) (fun k _ hk=>W.same k hk) (.inl rfl)
  (.inr ⟨by rw [hob]; rfl,rfl,fun c0 e0 f0 hc0=>by
   rw [hcur] at hc0; cases hc0
   exact ⟨_,_,W.new,putA_size _ _ _ (by omega)⟩⟩) (by rw [hob]; exact Nat.lt_succ_self _) (by rw [hob]; simp [Ob.isMap])
 have X:=E.ext (L:=L)
 refine ⟨w',hrun,?_⟩
 have H':=H.upd hL hid E (fun k _ hk=>W.same k hk) (.inl rfl) (by
  refine ⟨_,e,lo,hi,W.new,fun _=>by rw [putA_size _ _ _ (by omega)]; exact hfro,by rw [putA_size _ _ _ (by omega),List.length_set]; exact ⟨hlen,htag⟩,fun i y hy=>?_⟩
  rw [List.getElem?_set] at hy
  by_cases hi':idx=i
  ·subst hi'
   simp only [if_true,hidx] at hy
   simp at hy; subst hy
   refine ⟨by rw [k1,hcl,a1],k2,fun hb=>k3 fun y hy=>?_,fun j u hu=>?_⟩
   ·obtain ⟨j,hj⟩:=List.getElem?_of_mem hy
    rw [hget] at hj
    split at hj
    ·exact pure_cells (hp hb) (List.mem_of_getElem? hj)
    ·exact pure_cells (a3 hb) (List.mem_of_getElem? hj)
   ·rw [k1,hget] at hu
    unfold CRep
    rw [putA_get _ _ _ (by omega)]
    split at hu
    ·rename_i hj
     rw [if_pos (by omega),Array.getElem?_toList]
     rw [show idx * sz+j - (idx * sz+off)=j - off by omega]
     exact (rep_crep hr ho _ _ hu).ext X (Nat.le_of_eq W.size.symm)
    ·rename_i hj
     rw [if_neg (by omega)]
     exact (a4 j u hu).ext X (Nat.le_of_eq W.size.symm)
  ·rw [if_neg hi'] at hy
   obtain ⟨b1,b2,b3,b4⟩:=hcells i y hy
   refine ⟨b1,b2,b3,fun j u hu=>?_⟩
   have hj:j < sz:=by rw [←b1]; exact (List.getElem?_eq_some_iff.1 hu).1
   unfold CRep
   rw [putA_get _ _ _ (by omega),if_neg ?_]
   ·exact (b4 j u hu).ext X (Nat.le_of_eq W.size.symm)
   ·rintro ⟨g1,g2⟩
    rcases Nat.lt_or_gt_of_ne hi' with g | g
    ·have:=Nat.mul_le_mul_right sz g
     rw [Nat.succ_mul] at this
     omega
    ·have:=Nat.mul_le_mul_right sz g
     rw [Nat.succ_mul] at this
     omega)
 rw [upd_same] at E H'
 exact ⟨H',E⟩
theorem sim_storeH (C:CR X c bl lb a w) {o:Oper} {t:TypeId} {p x:Operand} {p' x':Opd} {n:Nat} {e:Eff} (ho:o.op=.store t p x) (hdst:o.dst=none) (h1:opdOK p p'=true) (h2:opdOK x x'=true)
  (hs:sizeOK P t n=true) (hd:storeD (getB c.1.b) c.2 (p'.ev c.1.s) (x'.ev c.1.s) n none=some e)
  {K:Act→World→Prop} {Q:Exit→Act→World→Prop} (hK:∀ a' w',RelC X (apply c none e) a' w'→K a' w'):o.wp P a w K Q:=by
 unfold storeD at hd
 split at hd
 ·rename_i hc
  obtain ⟨hn,hok⟩:=hc
  simp only at hd
  have rx:=(opd_rep C h2).okv hok
  have rp:=opd_rep C h1
  split at hd
  ·rename_i id ver sz idx off hp
   rw [hp] at rp
   generalize hy:a.eval p=y at rp
   cases (show Rep w (NX X c bl lb) c.2 bl y (.hp id ver sz idx off) from rp) with
   | hp _ _ _ _ _ q hid hv ha=>
    have fin:∀ w',(storeVar t q (a.eval x)).run P w=.ok () w'→(execOp a.eval o).run P w=.ok .skip w':=by
     intro w' hr; simp [execOp,ho,hy,Instr.storeAt,Instr.sureAddr,hr]
    split at hd
    ·rename_i sz' ver' mod elems hob
     split at hd
     ·rename_i hvs
      obtain ⟨rfl,rfl⟩:=hvs
      cases he:elems[idx]? with
      | none=>simp [he] at hd
      | some d=>
       cases hsp:splice d.cells off (x'.ev c.1.s).cells with
       | none=>simp [he,hsp] at hd
       | some cs=>
        cases hrw:rewrap d cs with
        | none=>simp [he,hsp,hrw] at hd
        | some d'=>
         simp [he,hsp,hrw] at hd
         subst hd
         obtain ⟨w',hrun,H',E⟩:=store_ob (P:=P) (t:=t) C.heap C.bound hid hob he hsp hrw hs hn rx hok (by simp)
         rw [←ha (by rw [hob]; rfl)] at hrun
         refine wp_skp (fin w' hrun) (hK _ _ ?_)
         rw [hdst]
         exact ⟨bl,lb,C.go E H'⟩
     ·simp at hd
    ·rename_i box sz0 ver0 mod0 elems0 hob0
     cases hf:fz1 c.2 (x'.ev c.1.s) with
     | none=>simp [hf] at hd
     | some r=>
      obtain ⟨d0,st1⟩:=r
      simp only [hf,Option.bind_some] at hd
      obtain ⟨F,rx',_,ho',hl'⟩:=fz1_ok w _ c.2 bl _ _ _ _ C.heap C.bound rx hf
      split at hd
      ·rename_i hpure
       split at hd
       ·rename_i sz' ver' mod elems hob
        split at hd
        ·rename_i hvs
         obtain ⟨rfl,rfl⟩:=hvs
         cases he:elems[idx]? with
         | none=>simp [he] at hd
         | some d=>
          cases hsp:splice d.cells off d0.cells with
          | none=>simp [he,hsp] at hd
          | some cs=>
           cases hrw:rewrap d cs with
           | none=>simp [he,hsp,hrw] at hd
           | some d'=>
            simp [he,hsp,hrw] at hd
            subst hd
            have hid':id < st1.length:=Nat.lt_of_lt_of_le hid F.evo.len
            obtain ⟨w',hrun,H',E⟩:=store_ob (P:=P) (t:=t) F.heap C.bound hid' hob he hsp hrw hs (by rw [hl',hn]) rx' (ho' hok) (fun _=>hpure)
            have hq:q=⟨bl id,idx * sz'+off,none⟩:=by
             refine ha ?_
             have:=F.evo.ver id hid
             rw [hob] at this
             have h3:(St.at c.2 id).ver≤ver':=this.1
             omega
            rw [←hq] at hrun
            refine wp_skp (fin w' hrun) (hK _ _ ?_)
            rw [hdst]
            exact ⟨bl,lb,C.go (F.evo.trans E) H'⟩
        ·simp at hd
       ·simp at hd
      ·simp at hd
    ·simp at hd
  ·simp at hd
 ·simp at hd
end Go.Nt
