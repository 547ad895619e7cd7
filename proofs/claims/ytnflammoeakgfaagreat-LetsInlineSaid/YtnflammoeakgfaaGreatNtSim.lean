/-
  EQUATIONS FOR 'simp' TO RUN CODE OF THE ABSTRACT MACHINE AT SYMBOLIC DATA.
  No condition.
-/
import Derived.Test.YtnflammoeakgfaaGreatNtLim
import Derived.IntWalk
namespace Go.Nt
variable {T:Nat→Option IFunc} {go:GoF}
@[simp] theorem get_zero (x:D) (l:List D):get (x::l) 0=x:=(rfl)
@[simp] theorem get_succ (x:D) (l:List D) (n:Nat):get (x::l) (n+1)=get l n:=(rfl)
@[simp] theorem get_nil (n:Nat):get [] n=.undef:=by simp [get]
@[simp] theorem getB_nil (n:Nat):getB [] n=(0,[]):=by simp [getB]
attribute [simp] get_put getB_putB putO Opd.ev Io.dst
def kE (T:Nat→Option IFunc) (go:GoF) (d:Option Nat) (s:List D) (b:List (Nat × List D)) (st:St) (os:List Gi):Option Eff→Option Cfg
 | some e=>runOps T go os (apply ⟨⟨s,b⟩,st⟩ d e)
 | none=>none
@[simp] theorem kE_v (d:Option Nat) (s:List D) (b:List (Nat × List D)) (st:St) (os:List Gi) (v:D) :
  kE T go d s b st os (some (v,none,none))=runOps T go os ⟨⟨putO s d v,b⟩,st⟩:=(rfl)
@[simp] theorem kE_b (d:Option Nat) (s:List D) (b:List (Nat × List D)) (st:St) (os:List Gi) (v:D) (x:Nat × Nat × List D) :
  kE T go d s b st os (some (v,some x,none))=runOps T go os ⟨⟨putO s d v,putB b x.1 x.2⟩,st⟩:=(rfl)
@[simp] theorem kE_h (d:Option Nat) (s:List D) (b:List (Nat × List D)) (st st':St) (os:List Gi) (v:D) :
  kE T go d s b st os (some (v,none,some st'))=runOps T go os ⟨⟨putO s d v,b⟩,st'⟩:=(rfl)
@[simp] theorem runOps_nil (c:Cfg):runOps T go [] c=some c:=(rfl)
@[simp] theorem runOps_g0 (io:Io) (os:List Gi) (s:List D) (b:List (Nat × List D)) (st:St) :
  runOps T go (g0 io::os) ⟨⟨s,b⟩,st⟩=kE T go io.dst s b st os (actO T go (Opd.ev s) (getB b) st io):=by
 simp only [runOps,step,Gi.blind,Gi.wanted,if_true,Bool.false_eq_true,if_false]
 cases actO T go (Opd.ev s) (getB b) st io <;> rfl
theorem runOps_g1 (j:Nat) (w t:Bool) (io:Io) (os:List Gi) (s:List D) (b:List (Nat × List D)) (st:St) (h:get s j=.bool t) :
  runOps T go (g1 j w io::os) ⟨⟨s,b⟩,st⟩=if t=w then runOps T go (g0 io::os) ⟨⟨s,b⟩,st⟩ else runOps T go os ⟨⟨putO s io.dst .undef,b⟩,st⟩:=by
 simp only [runOps,step,Gi.blind,Gi.wanted,h,if_true,Bool.false_eq_true,if_false]
 cases t <;> cases w <;> rfl
def kG (T:Nat→Option IFunc) (go:GoF) (w:Bool) (io:Io) (os:List Gi) (s:List D) (b:List (Nat × List D)) (st:St):D→Option Cfg
 | .bool t=>if t=w then runOps T go (g0 io::os) ⟨⟨s,b⟩,st⟩ else runOps T go os ⟨⟨putO s io.dst .undef,b⟩,st⟩
 | .lp ..=>none
 | _=>runOps T go os ⟨⟨putO s io.dst .undef,b⟩,st⟩
@[simp] theorem runOps_kG (j:Nat) (w:Bool) (io:Io) (os:List Gi) (s:List D) (b:List (Nat × List D)) (st:St) :
  runOps T go (g1 j w io::os) ⟨⟨s,b⟩,st⟩=kG T go w io os s b st (get s j):=by
 cases h:get s j with
 | bool t=>exact runOps_g1 j w t io os s b st h
 | _=>simp only [runOps,step,Gi.blind,Gi.wanted,h]; rfl
@[simp] theorem kG_u (w:Bool) (io:Io) (os:List Gi) (s:List D) (b:List (Nat × List D)) (st:St):kG T go w io os s b st (.tup [])=runOps T go os ⟨⟨putO s io.dst .undef,b⟩,st⟩:=(rfl)
@[simp] theorem kG_tt (io:Io) (os:List Gi) (s:List D) (b:List (Nat × List D)) (st:St):kG T go true io os s b st (.bool true)=runOps T go (g0 io::os) ⟨⟨s,b⟩,st⟩:=(rfl)
@[simp] theorem kG_ff (io:Io) (os:List Gi) (s:List D) (b:List (Nat × List D)) (st:St):kG T go false io os s b st (.bool false)=runOps T go (g0 io::os) ⟨⟨s,b⟩,st⟩:=(rfl)
@[simp] theorem kG_tf (io:Io) (os:List Gi) (s:List D) (b:List (Nat × List D)) (st:St):kG T go true io os s b st (.bool false)=runOps T go os ⟨⟨putO s io.dst .undef,b⟩,st⟩:=(rfl)
@[simp] theorem kG_ft (io:Io) (os:List Gi) (s:List D) (b:List (Nat × List D)) (st:St):kG T go false io os s b st (.bool true)=runOps T go os ⟨⟨putO s io.dst .undef,b⟩,st⟩:=(rfl)
@[simp] theorem kseq_n (k:Cfg→Option (Ex × Cfg)) (c:Cfg):kseq k (some (.normal,c))=k c:=(rfl)
@[simp] theorem kseq_r (k:Cfg→Option (Ex × Cfg)) (c:Cfg):kseq k (some (.ret,c))=some (.ret,c):=(rfl)
@[simp] theorem kseq_e (k:Cfg→Option (Ex × Cfg)) (id:Nat) (c:Cfg):kseq k (some (.exit id,c))=some (.exit id,c):=(rfl)
@[simp] theorem kblock_n (id:Nat) (c:Cfg):kblock id (some (.normal,c))=some (.normal,c):=(rfl)
@[simp] theorem kblock_r (id:Nat) (c:Cfg):kblock id (some (.ret,c))=some (.ret,c):=(rfl)
@[simp] theorem kblock_e (id id':Nat) (c:Cfg):kblock id (some (.exit id',c))=some (if id'=id then .normal else .exit id',c):=(rfl)
variable {lp':Ic→Cfg→Option (Ex × Cfg)}
@[simp] theorem rn_skip (c:Cfg):rn T go lp' .skip c=some (.normal,c):=(rfl)
@[simp] theorem rn_ops (l:List Gi) (c:Cfg):rn T go lp' (.ops l) c=(runOps T go l c).map fun c'=>(.normal,c'):=(rfl)
@[simp] theorem rn_seq (a b:Ic) (c:Cfg):rn T go lp' (.seq a b) c=kseq (rn T go lp' b) (rn T go lp' a c):=(rfl)
@[simp] theorem rn_block (id:Nat) (a:Ic) (c:Cfg):rn T go lp' (.block id a) c=kblock id (rn T go lp' a c):=(rfl)
@[simp] theorem rn_loop (a:Ic) (c:Cfg):rn T go lp' (.loop a) c=lp' a c:=(rfl)
@[simp] theorem rn_exit (id:Nat) (c:Cfg):rn T go lp' (.exit id) c=some (.exit id,c):=(rfl)
def kP:Option (List D × St)→Option (Ex × Cfg)
 | some r=>some (.normal,(⟨r.1,[]⟩,r.2))
 | none=>none
@[simp] theorem rn_prim (k:Nat) (s:List D) (st:St):rn T go lp' (.prim k) ⟨⟨s,[]⟩,st⟩=kP (primD k s st):=by simp only [rn]; cases primD k s st <;> rfl
@[simp] theorem kP_some (s:List D) (st:St):kP (some (s,st))=some (.normal,(⟨s,[]⟩,st)):=(rfl)
@[simp] theorem rn_ret (c:Cfg):rn T go lp' .ret c=some (.ret,c):=(rfl)
def kC (T:Nat→Option IFunc) (go:GoF) (lp':Ic→Cfg→Option (Ex × Cfg)) (a b:Ic) (c:Cfg):D→Option (Ex × Cfg)
 | .bool t=>if t then rn T go lp' a c else rn T go lp' b c
 | _=>none
@[simp] theorem rn_cond (x:Opd) (a b:Ic) (c:Cfg):rn T go lp' (.cond x a b) c=kC T go lp' a b c (x.ev c.1.s):=by
 simp only [rn]; cases x.ev c.1.s <;> rfl
@[simp] theorem kC_t (a b:Ic) (c:Cfg):kC T go lp' a b c (.bool true)=rn T go lp' a c:=(rfl)
@[simp] theorem kC_f (a b:Ic) (c:Cfg):kC T go lp' a b c (.bool false)=rn T go lp' b c:=(rfl)
@[simp] theorem kfin_r (res:List Rv) (c:Cfg):kfin res (some (.ret,c))=finish res c:=(rfl)
@[simp] theorem kfin_n (res:List Rv) (c:Cfg):kfin res (some (.normal,c))=finish res c:=(rfl)
attribute [simp] actO val fillD
def kAgg:Option (List D × St)→Option (D × St)
 | some r=>some (.agg r.1,r.2)
 | none=>none
@[simp] theorem kAgg_some (ds:List D) (st:St):kAgg (some (ds,st))=some (.agg ds,st):=(rfl)
def kTup:Option (List D × St)→Option (D × St)
 | some r=>some (.tup r.1,r.2)
 | none=>none
@[simp] theorem kTup_some (ds:List D) (st:St):kTup (some (ds,st))=some (.tup ds,st):=(rfl)
def kfzL2 (d:D):Option (List D × St)→Option (List D × St)
 | some r=>some (d::r.1,r.2)
 | none=>none
@[simp] theorem kfzL2_some (d:D) (ds:List D) (st:St):kfzL2 d (some (ds,st))=some (d::ds,st):=(rfl)
def kfzL (h:St→D→Option (D × St)) (ds:List D):Option (D × St)→Option (List D × St)
 | some r=>(fzL h r.2 ds).bind fun q=>some (r.1::q.1,q.2)
 | none=>none
def kPA (ds:List D):Option (D × St)→Option (List D × St)
 | some r=>if r.1.pure then (pureArgs r.2 ds).bind fun q=>some (r.1::q.1,q.2) else none
 | none=>none
def kPt (o:Nat) (n:Option Nat):Option D→Option D
 | some d=>part d.cells o n
 | none=>none
def kHp (v s x o:Nat) (n:Option Nat):Ob→Option D
 | .cells _ sz v' _ _ el=>if v'=v∧sz=s then (el[x]?).bind fun d=>part d.cells o n else none
 | _=>none
def kSt (b g:Nat):Option (List D)→Option Eff
 | some cs=>some (.undef,some (b,g,cs),none)
 | none=>none
def kHs (st:St) (i v s x' o:Nat) (x:D):Ob→Option Eff
 | .cells true sz' ver' mod false elems=>
  if ver'=v∧sz'=s then (elems[x']?).bind fun d=>(splice d.cells o x.cells).bind fun cs=>(rewrap d cs).bind fun d'=>
   some (.undef,none,some (List.set st i (.cells true s v (mod+1) false (elems.set x' d')))) else none
 | .cells false ..=>
  (fz1 st x).bind fun r=>
   if r.1.pure then
    match St.at r.2 i with
    | .cells false sz' ver' mod false elems=>
     if ver'=v∧sz'=s then (elems[x']?).bind fun d=>(splice d.cells o r.1.cells).bind fun cs=>(rewrap d cs).bind fun d'=>
      some (.undef,none,some (List.set r.2 i (.cells false s v (mod+1) false (elems.set x' d')))) else none
    | _=>none
   else none
 | _=>none
def kIp:Option D→Option D
 | some d=>some (.iptr d)
 | none=>none
def kRL:Option D→Option (List D)→Option (List D)
 | some d,some ds=>some (d::ds)
 | _,_=>none
def kF (st:St):Option (List D)→Option (D × St)
 | some [d]=>some (d,st)
 | some ds=>some (.tup ds,st)
 | none=>none
@[simp] theorem cells_bool (x:Bool):D.cells (.bool x)=[.bool x]:=(rfl)
@[simp] theorem fits_bool (x:Bool):D.fits (.bool x) none=true:=(rfl)
@[simp] theorem okv_bool (x:Bool):D.okv (.bool x)=true:=(rfl)
@[simp] theorem pure0_bool (x:Bool):D.pure0 (.bool x)=true:=(rfl)
@[simp] theorem pureF_bool (x:Bool):D.pureF (.bool x)=true:=(rfl)
@[simp] theorem pure1_bool (x:Bool):D.pure1 (.bool x)=true:=(rfl)
@[simp] theorem pure_bool (x:Bool):D.pure (.bool x)=true:=(rfl)
@[simp] theorem pureT_bool (x:Bool):D.pureT (.bool x)=true:=(rfl)
@[simp] theorem fz0_bool (st:St) (x:Bool):fz0 st (.bool x)=some (.bool x,st):=(rfl)
@[simp] theorem fz1_bool (st:St) (x:Bool):fz1 st (.bool x)=some (.bool x,st):=(rfl)
@[simp] theorem fz_bool (st:St) (x:Bool):fz st (.bool x)=some (.bool x,st):=(rfl)
@[simp] theorem cells_int (k:IntKind) (x:Int):D.cells (.int k x)=[.int k x]:=(rfl)
@[simp] theorem fits_int (k:IntKind) (x:Int):D.fits (.int k x) none=true:=(rfl)
@[simp] theorem okv_int (k:IntKind) (x:Int):D.okv (.int k x)=true:=(rfl)
@[simp] theorem pure0_int (k:IntKind) (x:Int):D.pure0 (.int k x)=true:=(rfl)
@[simp] theorem pureF_int (k:IntKind) (x:Int):D.pureF (.int k x)=true:=(rfl)
@[simp] theorem pure1_int (k:IntKind) (x:Int):D.pure1 (.int k x)=true:=(rfl)
@[simp] theorem pure_int (k:IntKind) (x:Int):D.pure (.int k x)=true:=(rfl)
@[simp] theorem pureT_int (k:IntKind) (x:Int):D.pureT (.int k x)=true:=(rfl)
@[simp] theorem fz0_int (st:St) (k:IntKind) (x:Int):fz0 st (.int k x)=some (.int k x,st):=(rfl)
@[simp] theorem fz1_int (st:St) (k:IntKind) (x:Int):fz1 st (.int k x)=some (.int k x,st):=(rfl)
@[simp] theorem fz_int (st:St) (k:IntKind) (x:Int):fz st (.int k x)=some (.int k x,st):=(rfl)
@[simp] theorem cells_str (x:List UInt8):D.cells (.str x)=[.str x]:=(rfl)
@[simp] theorem fits_str (x:List UInt8):D.fits (.str x) none=true:=(rfl)
@[simp] theorem okv_str (x:List UInt8):D.okv (.str x)=true:=(rfl)
@[simp] theorem pure0_str (x:List UInt8):D.pure0 (.str x)=true:=(rfl)
@[simp] theorem pureF_str (x:List UInt8):D.pureF (.str x)=true:=(rfl)
@[simp] theorem pure1_str (x:List UInt8):D.pure1 (.str x)=true:=(rfl)
@[simp] theorem pure_str (x:List UInt8):D.pure (.str x)=true:=(rfl)
@[simp] theorem pureT_str (x:List UInt8):D.pureT (.str x)=true:=(rfl)
@[simp] theorem fz0_str (st:St) (x:List UInt8):fz0 st (.str x)=some (.str x,st):=(rfl)
@[simp] theorem fz1_str (st:St) (x:List UInt8):fz1 st (.str x)=some (.str x,st):=(rfl)
@[simp] theorem fz_str (st:St) (x:List UInt8):fz st (.str x)=some (.str x,st):=(rfl)
@[simp] theorem cells_nilp:D.cells (.nilp)=[.nilp]:=(rfl)
@[simp] theorem fits_nilp:D.fits (.nilp) none=true:=(rfl)
@[simp] theorem okv_nilp:D.okv (.nilp)=true:=(rfl)
@[simp] theorem pure0_nilp:D.pure0 (.nilp)=true:=(rfl)
@[simp] theorem pureF_nilp:D.pureF (.nilp)=true:=(rfl)
@[simp] theorem pure1_nilp:D.pure1 (.nilp)=true:=(rfl)
@[simp] theorem pure_nilp:D.pure (.nilp)=true:=(rfl)
@[simp] theorem pureT_nilp:D.pureT (.nilp)=true:=(rfl)
@[simp] theorem fz0_nilp (st:St):fz0 st (.nilp)=some (.nilp,st):=(rfl)
@[simp] theorem fz1_nilp (st:St):fz1 st (.nilp)=some (.nilp,st):=(rfl)
@[simp] theorem fz_nilp (st:St):fz st (.nilp)=some (.nilp,st):=(rfl)
@[simp] theorem cells_iptr (x:D):D.cells (.iptr x)=[.iptr x]:=(rfl)
@[simp] theorem fits_iptr (x:D):D.fits (.iptr x) none=true:=(rfl)
@[simp] theorem okv_iptr (x:D):D.okv (.iptr x)=true:=(rfl)
@[simp] theorem pure0_iptr (x:D):D.pure0 (.iptr x)=true:=(rfl)
@[simp] theorem pureF_iptr (x:D):D.pureF (.iptr x)=true:=(rfl)
@[simp] theorem pure1_iptr (x:D):D.pure1 (.iptr x)=true:=(rfl)
@[simp] theorem pure_iptr (x:D):D.pure (.iptr x)=true:=(rfl)
@[simp] theorem pureT_iptr (x:D):D.pureT (.iptr x)=true:=(rfl)
@[simp] theorem fz0_iptr (st:St) (x:D):fz0 st (.iptr x)=some (.iptr x,st):=(rfl)
@[simp] theorem fz1_iptr (st:St) (x:D):fz1 st (.iptr x)=some (.iptr x,st):=(rfl)
@[simp] theorem fz_iptr (st:St) (x:D):fz st (.iptr x)=some (.iptr x,st):=(rfl)
@[simp] theorem cells_nils:D.cells (.nils)=[.nils]:=(rfl)
@[simp] theorem fits_nils:D.fits (.nils) none=true:=(rfl)
@[simp] theorem okv_nils:D.okv (.nils)=true:=(rfl)
@[simp] theorem pure0_nils:D.pure0 (.nils)=true:=(rfl)
@[simp] theorem pureF_nils:D.pureF (.nils)=true:=(rfl)
@[simp] theorem pure1_nils:D.pure1 (.nils)=true:=(rfl)
@[simp] theorem pure_nils:D.pure (.nils)=true:=(rfl)
@[simp] theorem pureT_nils:D.pureT (.nils)=true:=(rfl)
@[simp] theorem fz0_nils (st:St):fz0 st (.nils)=some (.nils,st):=(rfl)
@[simp] theorem fz1_nils (st:St):fz1 st (.nils)=some (.nils,st):=(rfl)
@[simp] theorem fz_nils (st:St):fz st (.nils)=some (.nils,st):=(rfl)
@[simp] theorem cells_sl (k:Nat) (fl:Bool) (ds:List D):D.cells (.sl k fl ds)=[.sl k fl ds]:=(rfl)
@[simp] theorem fits_sl (k:Nat) (fl:Bool) (ds:List D):D.fits (.sl k fl ds) none=true:=(rfl)
@[simp] theorem okv_sl (k:Nat) (fl:Bool) (ds:List D):D.okv (.sl k fl ds)=true:=(rfl)
@[simp] theorem pure0_sl (k:Nat) (fl:Bool) (ds:List D):D.pure0 (.sl k fl ds)=true:=(rfl)
@[simp] theorem pureF_sl (k:Nat) (fl:Bool) (ds:List D):D.pureF (.sl k fl ds)=true:=(rfl)
@[simp] theorem pure1_sl (k:Nat) (fl:Bool) (ds:List D):D.pure1 (.sl k fl ds)=true:=(rfl)
@[simp] theorem pure_sl (k:Nat) (fl:Bool) (ds:List D):D.pure (.sl k fl ds)=true:=(rfl)
@[simp] theorem pureT_sl (k:Nat) (fl:Bool) (ds:List D):D.pureT (.sl k fl ds)=true:=(rfl)
@[simp] theorem fz0_sl (st:St) (k:Nat) (fl:Bool) (ds:List D):fz0 st (.sl k fl ds)=some (.sl k fl ds,st):=(rfl)
@[simp] theorem fz1_sl (st:St) (k:Nat) (fl:Bool) (ds:List D):fz1 st (.sl k fl ds)=some (.sl k fl ds,st):=(rfl)
@[simp] theorem fz_sl (st:St) (k:Nat) (fl:Bool) (ds:List D):fz st (.sl k fl ds)=some (.sl k fl ds,st):=(rfl)
@[simp] theorem cells_nilf:D.cells (.nilf)=[.nilf]:=(rfl)
@[simp] theorem fits_nilf:D.fits (.nilf) none=true:=(rfl)
@[simp] theorem okv_nilf:D.okv (.nilf)=true:=(rfl)
@[simp] theorem pure0_nilf:D.pure0 (.nilf)=true:=(rfl)
@[simp] theorem pureF_nilf:D.pureF (.nilf)=true:=(rfl)
@[simp] theorem pure1_nilf:D.pure1 (.nilf)=true:=(rfl)
@[simp] theorem pure_nilf:D.pure (.nilf)=true:=(rfl)
@[simp] theorem pureT_nilf:D.pureT (.nilf)=true:=(rfl)
@[simp] theorem fz0_nilf (st:St):fz0 st (.nilf)=some (.nilf,st):=(rfl)
@[simp] theorem fz1_nilf (st:St):fz1 st (.nilf)=some (.nilf,st):=(rfl)
@[simp] theorem fz_nilf (st:St):fz st (.nilf)=some (.nilf,st):=(rfl)
@[simp] theorem cells_nilm:D.cells (.nilm)=[.nilm]:=(rfl)
@[simp] theorem fits_nilm:D.fits (.nilm) none=true:=(rfl)
@[simp] theorem okv_nilm:D.okv (.nilm)=true:=(rfl)
@[simp] theorem pure0_nilm:D.pure0 (.nilm)=true:=(rfl)
@[simp] theorem pureF_nilm:D.pureF (.nilm)=true:=(rfl)
@[simp] theorem pure1_nilm:D.pure1 (.nilm)=true:=(rfl)
@[simp] theorem pure_nilm:D.pure (.nilm)=true:=(rfl)
@[simp] theorem pureT_nilm:D.pureT (.nilm)=true:=(rfl)
@[simp] theorem fz0_nilm (st:St):fz0 st (.nilm)=some (.nilm,st):=(rfl)
@[simp] theorem fz1_nilm (st:St):fz1 st (.nilm)=some (.nilm,st):=(rfl)
@[simp] theorem fz_nilm (st:St):fz st (.nilm)=some (.nilm,st):=(rfl)
@[simp] theorem cells_nili:D.cells (.nili)=[.nili]:=(rfl)
@[simp] theorem fits_nili:D.fits (.nili) none=true:=(rfl)
@[simp] theorem okv_nili:D.okv (.nili)=true:=(rfl)
@[simp] theorem pure0_nili:D.pure0 (.nili)=true:=(rfl)
@[simp] theorem pureF_nili:D.pureF (.nili)=true:=(rfl)
@[simp] theorem pure1_nili:D.pure1 (.nili)=true:=(rfl)
@[simp] theorem pure_nili:D.pure (.nili)=true:=(rfl)
@[simp] theorem pureT_nili:D.pureT (.nili)=true:=(rfl)
@[simp] theorem fz0_nili (st:St):fz0 st (.nili)=some (.nili,st):=(rfl)
@[simp] theorem fz1_nili (st:St):fz1 st (.nili)=some (.nili,st):=(rfl)
@[simp] theorem fz_nili (st:St):fz st (.nili)=some (.nili,st):=(rfl)
@[simp] theorem cells_agg (cs:List D):D.cells (.agg cs)=cs:=(rfl)
@[simp] theorem cells_hp (i v s x o:Nat):D.cells (.hp i v s x o)=[.hp i v s x o]:=(rfl)
@[simp] theorem cells_rs (i v s o l:Nat) (fl:Bool):D.cells (.rs i v s o l fl)=[.rs i v s o l fl]:=(rfl)
@[simp] theorem cells_fn (f:Nat) (a b:List D):D.cells (.fn f a b)=[.fn f a b]:=(rfl)
@[simp] theorem cells_mp (f:Nat):D.cells (.mp f)=[.mp f]:=(rfl)
@[simp] theorem fits_agg (cs:List D) (n:Nat):D.fits (.agg cs) (some n)=(cs.length == n):=(rfl)
@[simp] theorem fits_hp (i v s x o:Nat):D.fits (.hp i v s x o) none=true:=(rfl)
@[simp] theorem fits_rs (i v s o l:Nat) (fl:Bool):D.fits (.rs i v s o l fl) none=true:=(rfl)
@[simp] theorem fits_fn (f:Nat) (a b:List D):D.fits (.fn f a b) none=true:=(rfl)
@[simp] theorem fits_mp (f:Nat):D.fits (.mp f) none=true:=(rfl)
@[simp] theorem okv_agg (cs:List D):D.okv (.agg cs)=true:=(rfl)
@[simp] theorem okv_hp (i v s x o:Nat):D.okv (.hp i v s x o)=true:=(rfl)
@[simp] theorem okv_rs (i v s o l:Nat) (fl:Bool):D.okv (.rs i v s o l fl)=true:=(rfl)
@[simp] theorem okv_fn (f:Nat) (a b:List D):D.okv (.fn f a b)=true:=(rfl)
@[simp] theorem okv_mp (f:Nat):D.okv (.mp f)=true:=(rfl)
@[simp] theorem pureF_agg (cs:List D):D.pureF (.agg cs)=cs.all D.pure0:=(rfl)
@[simp] theorem pure_agg (cs:List D):D.pure (.agg cs)=cs.all D.pure1:=(rfl)
@[simp] theorem pureT_agg (cs:List D):D.pureT (.agg cs)=cs.all D.pure1:=(rfl)
@[simp] theorem pureT_tup (cs:List D):D.pureT (.tup cs)=cs.all D.pure:=(rfl)
@[simp] theorem pure0_fn (f:Nat) (a b:List D):D.pure0 (.fn f a b)=(a.isEmpty && b.isEmpty):=(rfl)
@[simp] theorem pure1_fn (f:Nat) (a b:List D):D.pure1 (.fn f a b)=(a.all D.pureF && b.all D.pure0):=(rfl)
@[simp] theorem pure_fn (f:Nat) (a b:List D):D.pure (.fn f a b)=(a.all D.pureF && b.all D.pure0):=(rfl)
@[simp] theorem pureT_fn (f:Nat) (a b:List D):D.pureT (.fn f a b)=(a.all D.pureF && b.all D.pure0):=(rfl)
@[simp] theorem fz0_fn (st:St) (f:Nat) (a b:List D):fz0 st (.fn f a b)=some (.fn f a b,st):=(rfl)
@[simp] theorem fz1_fn (st:St) (f:Nat) (a b:List D):fz1 st (.fn f a b)=some (.fn f a b,st):=(rfl)
@[simp] theorem fz_fn (st:St) (f:Nat) (a b:List D):fz st (.fn f a b)=some (.fn f a b,st):=(rfl)
@[simp] theorem fz1_agg (st:St) (cs:List D):fz1 st (.agg cs)=kAgg (fzL fz0 st cs):=by simp only [fz1]; cases fzL fz0 st cs <;> rfl
@[simp] theorem fz_agg (st:St) (cs:List D):fz st (.agg cs)=kAgg (fzL fz0 st cs):=by simp only [fz,fz1]; cases fzL fz0 st cs <;> rfl
@[simp] theorem fz_tup (st:St) (cs:List D):fz st (.tup cs)=kTup (fzL fz1 st cs):=by simp only [fz]; cases fzL fz1 st cs <;> rfl
@[simp] theorem fz1_rs (st:St) (i v s o l:Nat) (fl:Bool):fz1 st (.rs i v s o l fl)=fz0 st (.rs i v s o l fl):=(rfl)
@[simp] theorem fz_rs (st:St) (i v s o l:Nat) (fl:Bool):fz st (.rs i v s o l fl)=fz0 st (.rs i v s o l fl):=(rfl)
@[simp] theorem fzL_nil (h:St→D→Option (D × St)) (st:St):fzL h st []=some ([],st):=(rfl)
@[simp] theorem fzL_cons (h:St→D→Option (D × St)) (st:St) (d:D) (ds:List D):fzL h st (d::ds)=kfzL h ds (h st d):=by simp only [fzL]; cases h st d <;> rfl
@[simp] theorem kfzL_some (h:St→D→Option (D × St)) (st:St) (d:D) (ds:List D):kfzL h ds (some (d,st))=kfzL2 d (fzL h st ds):=by simp only [kfzL]; cases fzL h st ds <;> rfl
@[simp] theorem pureArgs_nil (st:St):pureArgs st []=some ([],st):=(rfl)
@[simp] theorem pureArgs_cons (st:St) (d:D) (ds:List D):pureArgs st (d::ds)=kPA ds (fz1 st d):=by simp only [pureArgs]; cases fz1 st d <;> rfl
@[simp] theorem kPA_some (st:St) (d:D) (ds:List D):kPA ds (some (d,st))=if d.pure then kfzL2 d (pureArgs st ds) else none:=by simp only [kPA]; split <;> first | rfl | (cases pureArgs st ds <;> rfl)
@[simp] theorem part_none (cs:List D) (o:Nat):part cs o none=cs[o]?:=(rfl)
@[simp] theorem part_some (cs:List D) (o n:Nat):part cs o (some n)=if o+n≤cs.length then some (.agg ((cs.drop o).take n)) else none:=(rfl)
@[simp] theorem loadD_lp (rb:Nat→Nat × List D) (st:St) (b' g o:Nat) (n:Option Nat) (b:Nat) (q:Bool):loadD rb st (.lp b' g o) n (some b) q=if b'=b∧(rb b).1=g∧g≠0 then part (rb b).2 o n else none:=(rfl)
@[simp] theorem loadD_iptr (rb:Nat→Nat × List D) (st:St) (d:D) (n:Option Nat) (q:Bool):loadD rb st (.iptr d) n none q=if d.fits n then some d else none:=(rfl)
@[simp] theorem loadD_hp (rb:Nat→Nat × List D) (st:St) (i v s x o:Nat) (n:Option Nat):loadD rb st (.hp i v s x o) n none false=kHp v s x o n (St.at st i):=by simp only [loadD]; cases St.at st i <;> rfl
@[simp] theorem kHp_cells (v s x o:Nat) (n:Option Nat) (bx:Bool) (sz v' m:Nat) (fr:Bool) (el:List D):kHp v s x o n (.cells bx sz v' m fr el)=if v'=v∧sz=s then kPt o n el[x]? else none:=by simp only [kHp]; split <;> first | rfl | (cases el[x]? <;> rfl)
@[simp] theorem kPt_some (o:Nat) (n:Option Nat) (d:D):kPt o n (some d)=part d.cells o n:=(rfl)
@[simp] theorem storeD_lp (rb:Nat→Nat × List D) (st:St) (b' g o:Nat) (x:D) (n:Nat) (b:Nat):storeD rb st (.lp b' g o) x n (some b)=if x.cells.length=n∧x.okv=true then (if b'=b∧(rb b).1=g∧g≠0 then kSt b g (splice (rb b).2 o x.cells) else none) else none:=by simp only [storeD]; split <;> first | rfl | (split <;> first | rfl | (cases splice (rb b).2 o x.cells <;> rfl))
@[simp] theorem kSt_some (b g:Nat) (cs:List D):kSt b g (some cs)=some (.undef,some (b,g,cs),none):=(rfl)
@[simp] theorem storeD_hp (rb:Nat→Nat × List D) (st:St) (i v s x' o:Nat) (x:D) (n:Nat):storeD rb st (.hp i v s x' o) x n none=if x.cells.length=n∧x.okv=true then kHs st i v s x' o x (St.at st i) else none:=by simp only [storeD]; split <;> first | rfl | (cases St.at st i with | map=>rfl | cells bx _ _ _ fr=>cases bx <;> cases fr <;> rfl)
@[simp] theorem splice_ (cs:List D) (o:Nat) (xs:List D):splice cs o xs=if o+xs.length≤cs.length then some (cs.take o++xs++cs.drop (o+xs.length)) else none:=(rfl)
@[simp] theorem fldD_lp (b g o off:Nat) (n:Option Nat):fldD (.lp b g o) off n=if g=0 then none else some (.lp b g (o+off)):=(rfl)
@[simp] theorem fldD_hp (i v s x o off:Nat) (n:Option Nat):fldD (.hp i v s x o) off n=some (.hp i v s x (o+off)):=(rfl)
@[simp] theorem fldD_iptr (d:D) (off:Nat) (n:Option Nat):fldD (.iptr d) off n=kIp (part d.cells off n):=by simp only [fldD]; cases part d.cells off n <;> rfl
@[simp] theorem kIp_some (d:D):kIp (some d)=some (.iptr d):=(rfl)
@[simp] theorem idxAD_rs (i v s o l:Nat) (fl:Bool) (x sz:Nat) (n:Option Nat):idxAD (.rs i v s o l fl) x sz n none=if s=sz∧x < l then some (.hp i v sz (o+x) 0) else none:=by simp only [idxAD]
@[simp] theorem binD_int (op:BinOp) (k k':IntKind) (a b:Int):binD op (.int k a) (.int k' b)=intD op k k' a b:=(rfl)
@[simp] theorem binD_str (op:BinOp) (a b:List UInt8):binD op (.str a) (.str b)=strD op a b:=(rfl)
@[simp] theorem eqnD_bool (a b:Bool):eqnD .bool (.bool a) (.bool b)=some (a == b):=(rfl)
@[simp] theorem eqnD_ptr_nn:eqnD .ptr .nilp .nilp=some true:=(rfl)
@[simp] theorem nilD_ptr_n:nilD .ptr .nilp=some true:=(rfl)
@[simp] theorem eqnD_ptr_0 (d:D):eqnD .ptr (.iptr d) .nilp=some false:=(rfl)
@[simp] theorem nilD_ptr_0 (d:D):nilD .ptr (.iptr d)=some false:=(rfl)
@[simp] theorem eqnD_ptr_1 (i v s x o:Nat):eqnD .ptr (.hp i v s x o) .nilp=some false:=(rfl)
@[simp] theorem nilD_ptr_1 (i v s x o:Nat):nilD .ptr (.hp i v s x o)=some false:=(rfl)
@[simp] theorem eqnD_slice_nn:eqnD .slice .nils .nils=some true:=(rfl)
@[simp] theorem nilD_slice_n:nilD .slice .nils=some true:=(rfl)
@[simp] theorem eqnD_slice_0 (k:Nat) (fl:Bool) (ds:List D):eqnD .slice (.sl k fl ds) .nils=some false:=(rfl)
@[simp] theorem nilD_slice_0 (k:Nat) (fl:Bool) (ds:List D):nilD .slice (.sl k fl ds)=some false:=(rfl)
@[simp] theorem eqnD_slice_1 (i v s o l:Nat) (fl:Bool):eqnD .slice (.rs i v s o l fl) .nils=some false:=(rfl)
@[simp] theorem nilD_slice_1 (i v s o l:Nat) (fl:Bool):nilD .slice (.rs i v s o l fl)=some false:=(rfl)
@[simp] theorem eqnD_func_nn:eqnD .func .nilf .nilf=some true:=(rfl)
@[simp] theorem nilD_func_n:nilD .func .nilf=some true:=(rfl)
@[simp] theorem eqnD_func_0 (f:Nat) (a b:List D):eqnD .func (.fn f a b) .nilf=some false:=(rfl)
@[simp] theorem nilD_func_0 (f:Nat) (a b:List D):nilD .func (.fn f a b)=some false:=(rfl)
@[simp] theorem eqnD_map_nn:eqnD .map .nilm .nilm=some true:=(rfl)
@[simp] theorem nilD_map_n:nilD .map .nilm=some true:=(rfl)
@[simp] theorem eqnD_map_0 (f:Nat):eqnD .map (.mp f) .nilm=some false:=(rfl)
@[simp] theorem nilD_map_0 (f:Nat):nilD .map (.mp f)=some false:=(rfl)
@[simp] theorem unD_neg (k:IntKind) (n:Int):unD .neg (.int k n)=some (.int k (k.wrap (0 - n))):=(rfl)
@[simp] theorem unD_not (b:Bool):unD .not (.bool b)=some (.bool !b):=(rfl)
@[simp] theorem lenD_str (st:St) (s:List UInt8) (q:Bool):lenD st .str (.str s) q=some (.i s.length):=(rfl)
@[simp] theorem lenD_nils (st:St) (q:Bool):lenD st .slice .nils q=some (.i 0):=(rfl)
@[simp] theorem lenD_nilm (st:St) (q:Bool):lenD st .map .nilm q=some (.i 0):=(rfl)
@[simp] theorem lenD_rs (st:St) (i v s o l:Nat) (fl:Bool) (q:Bool):lenD st .slice (.rs i v s o l fl) q=some (.i l):=(rfl)
@[simp] theorem resD_t (c:Cfg) (n:Nat):resD c (.t n)=if (get c.1.s n).okv then some (get c.1.s n) else none:=(rfl)
@[simp] theorem resD_cell (c:Cfg) (n:Nat) (sz l:Option Nat):resD c (.cell n sz l)=loadD (getB c.1.b) c.2 (get c.1.s n) sz l false:=(rfl)
@[simp] theorem resL_nil (c:Cfg):resL c []=some []:=(rfl)
@[simp] theorem resL_cons (c:Cfg) (r:Rv) (rs:List Rv):resL c (r::rs)=kRL (resD c r) (resL c rs):=by simp only [resL]; cases resD c r <;> cases resL c rs <;> rfl
@[simp] theorem kRL_some (d:D) (ds:List D):kRL (some d) (some ds)=some (d::ds):=(rfl)
@[simp] theorem finish_ (res:List Rv) (c:Cfg):finish res c=kF c.2 (resL c res):=by simp only [finish]; rcases resL c res with _ | _ | ⟨d,_ | ⟨e,r⟩⟩ <;> rfl
@[simp] theorem kF_0 (st:St):kF st (some [])=some (.tup [],st):=(rfl)
@[simp] theorem kF_1 (st:St) (d:D):kF st (some [d])=some (d,st):=(rfl)
@[simp] theorem kF_2 (st:St) (d e:D) (ds:List D):kF st (some (d::e::ds))=some (.tup (d::e::ds),st):=(rfl)
@[simp] theorem bound_none (a b:Nat):boundD none a b=some a:=(rfl)
@[simp] theorem bound_int (k:IntKind) (i:Int) (a b:Nat):boundD (some (.int k i)) a b=if 0≤i∧i≤b then some i.toNat else none:=(rfl)
@[simp] theorem slcTy_str (s:List UInt8):slcTy none (.str s)=true:=(rfl)
@[simp] theorem slcTy_nils (k:Nat):slcTy (some k) .nils=true:=(rfl)
@[simp] theorem slcTy_sl (k k':Nat) (fl:Bool) (ds:List D):slcTy (some k) (.sl k' fl ds)=(k == k'):=(rfl)
@[simp] theorem slcTy_rs (k i v s o l:Nat) (fl:Bool):slcTy (some k) (.rs i v s o l fl)=(k == s):=(rfl)
@[simp] theorem intD_add (k:IntKind) (a b:Int):intD .add k k a b=some (.int k (k.wrap (a+b))):=by simp [intD]
@[simp] theorem intD_sub (k:IntKind) (a b:Int):intD .sub k k a b=some (.int k (k.wrap (a - b))):=by simp [intD]
@[simp] theorem intD_mul (k:IntKind) (a b:Int):intD .mul k k a b=some (.int k (k.wrap (a * b))):=by simp [intD]
@[simp] theorem intD_eql (k:IntKind) (a b:Int):intD .eql k k a b=some (.bool (decide (a=b))):=by simp [intD]; rfl
@[simp] theorem intD_neq (k:IntKind) (a b:Int):intD .neq k k a b=some (.bool (!decide (a=b))):=by simp [intD]; rfl
@[simp] theorem intD_lss (k:IntKind) (a b:Int):intD .lss k k a b=some (.bool (decide (a < b))):=by simp [intD]
@[simp] theorem intD_leq (k:IntKind) (a b:Int):intD .leq k k a b=some (.bool (decide (a≤b))):=by simp [intD]
@[simp] theorem intD_gtr (k:IntKind) (a b:Int):intD .gtr k k a b=some (.bool (decide (b < a))):=by simp [intD]
@[simp] theorem intD_geq (k:IntKind) (a b:Int):intD .geq k k a b=some (.bool (decide (b≤a))):=by simp [intD]
theorem wrap64 (n:Int) (h:-9223372036854775808≤n) (h':n < 9223372036854775808):IntKind.wrap .i64 n=n:=by
 rw [IntKind.wrap_i64]; omega
inductive Fl where
 | nil | emp | part | full
 deriving DecidableEq,Inhabited
def slE (sz:Nat):Fl→List D→D
 | .nil,[]=>.nils
 | .emp,[]=>.sl sz true []
 | .full,ds=>.sl sz true ds
 | _,ds=>.sl sz false ds
@[simp] theorem slE_cells (sz:Nat) (fl:Fl) (ds:List D):(slE sz fl ds).cells=[slE sz fl ds]:=by cases fl <;> cases ds <;> rfl
@[simp] theorem slE_fits (sz:Nat) (fl:Fl) (ds:List D):(slE sz fl ds).fits none=true:=by cases fl <;> cases ds <;> rfl
@[simp] theorem slE_okv (sz:Nat) (fl:Fl) (ds:List D):(slE sz fl ds).okv=true:=by cases fl <;> cases ds <;> rfl
@[simp] theorem slE_pure0 (sz:Nat) (fl:Fl) (ds:List D):(slE sz fl ds).pure0=true:=by cases fl <;> cases ds <;> rfl
@[simp] theorem slE_pure1 (sz:Nat) (fl:Fl) (ds:List D):(slE sz fl ds).pure1=true:=by cases fl <;> cases ds <;> rfl
@[simp] theorem slE_pure (sz:Nat) (fl:Fl) (ds:List D):(slE sz fl ds).pure=true:=by cases fl <;> cases ds <;> rfl
@[simp] theorem slE_pureT (sz:Nat) (fl:Fl) (ds:List D):(slE sz fl ds).pureT=true:=by cases fl <;> cases ds <;> rfl
@[simp] theorem slE_fz0 (st:St) (sz:Nat) (fl:Fl) (ds:List D):fz0 st (slE sz fl ds)=some (slE sz fl ds,st):=by cases fl <;> cases ds <;> rfl
@[simp] theorem slE_fz1 (st:St) (sz:Nat) (fl:Fl) (ds:List D):fz1 st (slE sz fl ds)=some (slE sz fl ds,st):=by cases fl <;> cases ds <;> rfl
@[simp] theorem slE_fz (st:St) (sz:Nat) (fl:Fl) (ds:List D):fz st (slE sz fl ds)=some (slE sz fl ds,st):=by cases fl <;> cases ds <;> rfl
@[simp] theorem slE_len (st:St) (sz:Nat) (fl:Fl) (ds:List D) (q:Bool):lenD st .slice (slE sz fl ds) q=some (.i ds.length):=by cases fl <;> cases ds <;> rfl
@[simp] theorem slE_list (st:St) (sz:Nat) (fl:Fl) (ds:List D):listD st sz (slE sz fl ds)=some ds:=by cases fl <;> cases ds <;> simp [listD,slE]
@[simp] theorem slE_idx (sz:Nat) (fl:Fl) (ds:List D) (i:Nat) (n:Option Nat):idxAD (slE sz fl ds) i sz n none=(ds[i]?).bind fun u=>if u.fits n then some (.iptr u) else none:=by cases fl <;> cases ds <;> simp [idxAD,slE]
@[simp] theorem slE_slcTy (sz:Nat) (fl:Fl) (ds:List D):slcTy (some sz) (slE sz fl ds)=true:=by cases fl <;> cases ds <;> simp [slcTy,slE]
def Fl.sub:Fl→List D→Fl
 | .nil,[]=>.nil
 | .emp,[]=>.full
 | .full,_=>.full
 | _,_=>.part
theorem slE_from (sz:Nat) (fl:Fl) (ds:List D) (k:IntKind) (i:Int) (h:0≤i) (h':i.toNat≤ds.length):sliceD (slE sz fl ds) (some (.int k i)) none none=some (slE sz (fl.sub ds) (ds.drop i.toNat)):=by
 have h2:i≤ds.length:=by omega
 cases fl <;> cases ds <;> simp_all [sliceD,slE,Fl.sub]
@[simp] theorem slE_tail (sz:Nat) (fl:Fl) (d:D) (ds:List D) (k:IntKind):sliceD (slE sz fl (d::ds)) (some (.int k 1)) none none=some (slE sz (fl.sub (d::ds)) ds):=by
 have:=slE_from sz fl (d::ds) k 1 (by omega) (by simp)
 simpa using this
@[simp] theorem at_zero (o:Ob) (st:St):St.at (o::st) 0=o:=(rfl)
@[simp] theorem at_succ (o:Ob) (st:St) (n:Nat):St.at (o::st) (n+1)=St.at st n:=(rfl)
@[simp] theorem rewrap_agg (cs ds:List D):rewrap (.agg cs) ds=some (.agg ds):=(rfl)
def kFz (id ver sz off len:Nat) (full:Bool) (st:St):Ob→Option (D × St)
 | .cells false sz' ver' mod fr elems=>if ver'=ver∧sz'=sz∧off+len≤elems.length then some (.sl sz full ((elems.drop off).take len),if fr then st else List.set st id (.cells false sz ver (mod+1) true elems)) else none
 | _=>none
@[simp] theorem fz0_rs (st:St) (id ver sz off len:Nat) (full:Bool):fz0 st (.rs id ver sz off len full)=kFz id ver sz off len full st (St.at st id):=by
 simp only [fz0]; rcases St.at st id with (_ | _) | _ <;> rfl
@[simp] theorem kFz_cells (id ver sz off len:Nat) (full:Bool) (st:St) (sz' ver' mod:Nat) (fr:Bool) (elems:List D) :
  kFz id ver sz off len full st (.cells false sz' ver' mod fr elems)=if ver'=ver∧sz'=sz∧off+len≤elems.length then some (.sl sz full ((elems.drop off).take len),if fr then st else List.set st id (.cells false sz ver (mod+1) true elems)) else none:=(rfl)
@[simp] theorem cast_inj (m n:Nat):((m:Int)=n)=(m=n):=propext (by omega)
@[simp] theorem cast_lt (m n:Nat):((m:Int) < n)=(m < n):=propext (by omega)
@[simp] theorem cast_le (m n:Nat):((m:Int)≤n)=(m≤n):=propext (by omega)
@[simp] theorem cast_succ0 (n:Nat):((n:Int)+1=0)=False:=eq_false (by omega)
@[simp] theorem cast_succ_le0 (n:Nat):((n:Int)+1≤0)=False:=eq_false (by omega)
@[simp] theorem cast_neg (i:Nat):((i:Int) < 0)=False:=eq_false (by omega)
def Stops (r:Option (Ex × Cfg)) (Q:Ex→List D→List (Nat × List D)→St→Prop):Prop:=∃ e s b st,r=some (e,⟨⟨s,b⟩,st⟩)∧Q e s b st
@[simp] theorem Stops_some (e:Ex) (s:List D) (b:List (Nat × List D)) (st:St) (Q:Ex→List D→List (Nat × List D)→St→Prop):Stops (some (e,⟨⟨s,b⟩,st⟩)) Q↔Q e s b st:=by
 constructor
 ·rintro ⟨e',s',b',st',h,q⟩; cases h; exact q
 ·exact fun h=>⟨e,s,b,st,rfl,h⟩
theorem Stops.use {r:Option (Ex × Cfg)} {Q:Ex→List D→List (Nat × List D)→St→Prop} (h:Stops r Q) (F:Option (Ex × Cfg)→Prop) (k:∀ e s b st,Q e s b st→F (some (e,⟨⟨s,b⟩,st⟩))):F r:=by
 obtain ⟨e,s,b,st,rfl,q⟩:=h
 exact k e s b st q
theorem Stops.mono {r:Option (Ex × Cfg)} {Q Q':Ex→List D→List (Nat × List D)→St→Prop} (h:Stops r Q) (k:∀ e s b st,Q e s b st→Q' e s b st):Stops r Q':=by
 obtain ⟨e,s,b,st,rfl,q⟩:=h
 exact ⟨e,s,b,st,rfl,k e s b st q⟩
noncomputable def kL (T:Nat→Option IFunc) (a:Ic):Option (Ex × Cfg)→Option (Ex × Cfg)
 | some (.normal,d)=>lp T a d
 | r=>r
@[simp] theorem kL_n (a:Ic) (c:Cfg):kL T a (some (.normal,c))=lp T a c:=(rfl)
@[simp] theorem kL_r (a:Ic) (c:Cfg):kL T a (some (.ret,c))=some (.ret,c):=(rfl)
@[simp] theorem kL_e (a:Ic) (id:Nat) (c:Cfg):kL T a (some (.exit id,c))=some (.exit id,c):=(rfl)
theorem lp_kL (a:Ic) (c:Cfg):lp T a c=kL T a (rn T (ev T) (lp T) a c):=lp_eq a c
theorem callD_pure {f:Nat} {fn:IFunc} (hT:T f=some fn) (hm:fn.mode=.pure) {args:List D} {st:St} {r q:D} {st1 st2:St} (hargs:pureArgs st args=some (args,st))
  (h:ev T f args []=some (r,st1)) (hr:fz st1 r=some (q,st2)) (hp:q.pureT=true):callD T (ev T) f args st=some (q,st):=by
 simp only [callD,hT,hm,hargs,Option.bind_some,h,hr,hp,if_true]
def grown (d0:D) (sz:Nat):List D→D × St
 | []=>(d0,[])
 | d::ds=>(.rs 0 ds.length sz 0 (ds.length+1) false,[.cells false sz ds.length ds.length false (d::ds)])
def grownZ (sz:Nat):List D→St
 | []=>[]
 | d::ds=>[.cells false sz ds.length (ds.length+1) true (d::ds)]
def seed (sz:Nat):Fl→D
 | .nil=>.nils
 | _=>.sl sz true []
theorem grow (fl:Fl) (sz:Nat) (ds:List D) (x:D) (h:ds.length≤134217728):appendD (grown (seed sz fl) sz ds).2 (grown (seed sz fl) sz ds).1 [x] sz=some (grown (seed sz fl) sz (ds++[x])):=by
 cases ds with
 | nil=>cases fl <;> simp [appendD,grown,seed,most]
 | cons d ds=>
  simp only [List.length_cons] at h
  have h':ds.length+1≤most:=h
  have ht:ds.length+1 < tagB:=by unfold tagB; omega
  simp [appendD,grown,most] at h' ⊢
  simp [h',ht]
@[simp] theorem grown_cells (fl:Fl) (sz:Nat) (ds:List D):(grown (seed sz fl) sz ds).1.cells=[(grown (seed sz fl) sz ds).1]:=by cases ds <;> cases fl <;> rfl
@[simp] theorem grown_okv (fl:Fl) (sz:Nat) (ds:List D):(grown (seed sz fl) sz ds).1.okv=true:=by cases ds <;> cases fl <;> rfl
@[simp] theorem grown_fits (fl:Fl) (sz:Nat) (ds:List D):(grown (seed sz fl) sz ds).1.fits none=true:=by cases ds <;> cases fl <;> rfl
@[simp] theorem grown_nil (d0:D) (sz:Nat):grown d0 sz []=(d0,[]):=(rfl)
@[simp] theorem grown_len (fl:Fl) (st:St) (sz:Nat) (ds:List D) (q:Bool):lenD st .slice (grown (seed sz fl) sz ds).1 q=some (.i ds.length):=by cases ds <;> cases fl <;> rfl
def Fl.grew:Fl→Fl
 | .nil=>.nil
 | _=>.emp
@[simp] theorem fz0_grown (fl:Fl) (sz:Nat) (ds:List D):fz0 (grown (seed sz fl) sz ds).2 (grown (seed sz fl) sz ds).1=some (slE sz fl.grew ds,grownZ sz ds):=by
 cases ds with
 | nil=>cases fl <;> rfl
 | cons d ds=>cases fl <;> simp [grown,grownZ,slE,Fl.grew,List.take_of_length_le]
@[simp] theorem fz1_grown (fl:Fl) (sz:Nat) (ds:List D):fz1 (grown (seed sz fl) sz ds).2 (grown (seed sz fl) sz ds).1=some (slE sz fl.grew ds,grownZ sz ds):=by
 rw [←fz0_grown]; cases ds <;> cases fl <;> rfl
@[simp] theorem fz_grown (fl:Fl) (sz:Nat) (ds:List D):fz (grown (seed sz fl) sz ds).2 (grown (seed sz fl) sz ds).1=some (slE sz fl.grew ds,grownZ sz ds):=by
 rw [←fz0_grown]; cases ds <;> cases fl <;> rfl
theorem at_last (st:St) (o:Ob):St.at (st++[o]) st.length=o:=by simp [St.at]
theorem at_left (st:St) (o:Ob) (i:Nat) (h:i < st.length):St.at (st++[o]) i=St.at st i:=by
 simp only [St.at,List.getD_eq_getElem?_getD,List.getElem?_append_left h]
@[simp] theorem agree_append (st x:St):agree st (st++x)=true:=by
 induction st with
 | nil=>rfl
 | cons o st ih=>simp [agree,ih]
@[simp] theorem agree_refl (st:St):agree st st=true:=by
 have:=agree_append st []
 rwa [List.append_nil] at this
def grownA (st:St) (d0:D) (sz:Nat):List D→D × St
 | []=>(d0,st)
 | d::ds=>(.rs st.length ds.length sz 0 (ds.length+1) false,st++[.cells false sz ds.length ds.length false (d::ds)])
def grownAZ (st:St) (sz:Nat):List D→St
 | []=>st
 | d::ds=>st++[.cells false sz ds.length (ds.length+1) true (d::ds)]
theorem growA (st:St) (fl:Fl) (sz:Nat) (ds:List D) (x:D) (h:ds.length≤134217728):appendD (grownA st (seed sz fl) sz ds).2 (grownA st (seed sz fl) sz ds).1 [x] sz=some (grownA st (seed sz fl) sz (ds++[x])):=by
 cases ds with
 | nil=>cases fl <;> simp [appendD,grownA,seed,most]
 | cons d ds=>
  simp only [List.length_cons] at h
  have h':ds.length+1≤most:=h
  have ht:ds.length+1 < tagB:=by unfold tagB; omega
  simp [appendD,grownA,most,at_last] at h' ⊢
  simp [h',ht]
@[simp] theorem grownA_cells (st:St) (fl:Fl) (sz:Nat) (ds:List D):(grownA st (seed sz fl) sz ds).1.cells=[(grownA st (seed sz fl) sz ds).1]:=by cases ds <;> cases fl <;> rfl
@[simp] theorem grownA_okv (st:St) (fl:Fl) (sz:Nat) (ds:List D):(grownA st (seed sz fl) sz ds).1.okv=true:=by cases ds <;> cases fl <;> rfl
@[simp] theorem grownA_fits (st:St) (fl:Fl) (sz:Nat) (ds:List D):(grownA st (seed sz fl) sz ds).1.fits none=true:=by cases ds <;> cases fl <;> rfl
@[simp] theorem grownA_nil (st:St) (d0:D) (sz:Nat):grownA st d0 sz []=(d0,st):=(rfl)
@[simp] theorem grownA_len (st st':St) (fl:Fl) (sz:Nat) (ds:List D) (q:Bool):lenD st' .slice (grownA st (seed sz fl) sz ds).1 q=some (.i ds.length):=by cases ds <;> cases fl <;> rfl
@[simp] theorem fz0_grownA (st:St) (fl:Fl) (sz:Nat) (ds:List D):fz0 (grownA st (seed sz fl) sz ds).2 (grownA st (seed sz fl) sz ds).1=some (slE sz fl.grew ds,grownAZ st sz ds):=by
 cases ds with
 | nil=>cases fl <;> rfl
 | cons d ds=>cases fl <;> simp [grownA,grownAZ,slE,Fl.grew,at_last]
@[simp] theorem fz1_grownA (st:St) (fl:Fl) (sz:Nat) (ds:List D):fz1 (grownA st (seed sz fl) sz ds).2 (grownA st (seed sz fl) sz ds).1=some (slE sz fl.grew ds,grownAZ st sz ds):=by
 rw [←fz0_grownA]; cases ds <;> cases fl <;> rfl
@[simp] theorem agree_grownA (st:St) (d0:D) (sz:Nat) (ds:List D):agree st (grownA st d0 sz ds).2=true:=by cases ds <;> simp [grownA]
@[simp] theorem agree_grownAZ (st:St) (sz:Nat) (ds:List D):agree st (grownAZ st sz ds)=true:=by cases ds <;> simp [grownAZ]
theorem at_grownA (st:St) (d0:D) (sz:Nat) (ds:List D) (i:Nat) (h:i < st.length):St.at (grownA st d0 sz ds).2 i=St.at st i:=by
 cases ds with
 | nil=>rfl
 | cons d ds=>exact at_left st _ i h
theorem callD_pop {f:Nat} {fn:IFunc} (hT:T f=some fn) (hm:fn.mode=.pop) {args:List D} {st:St} {r q:D} {st1 st2:St} (hargs:args.all D.okv=true)
  (h:ev T f args st=some (r,st1)) (hr:fz st1 r=some (q,st2)) (hp:q.pureT=true) (ha:agree st st2=true):callD T (ev T) f args st=some (q,st):=by
 simp only [callD,hT,hm,hargs,if_true,h,Option.bind_some,hr,hp,ha,Bool.and_self]
theorem callD_cut {f:Nat} {fn:IFunc} (hT:T f=some fn) (hm:fn.mode=.cut) {args:List D} {st:St} {r q:D} {st1 st2 st3:St} (hargs:args.all D.okv=true)
  (h:ev T f args st=some (r,st1)) (hr:fz st1 r=some (q,st2)) (hp:q.pureT=true) (ha:settled st st2=true) (ht:st2.take st.length=st3):callD T (ev T) f args st=some (q,st3):=by
 simp only [callD,hT,hm,hargs,if_true,h,Option.bind_some,hr,hp,ha,Bool.and_self,ht]
@[simp] theorem storeXD_hp (box:Bool) (st:St) (i v s x' o:Nat) (x:D) (n:Nat):storeXD box st (.hp i v s x' o) x n =
  if x.cells.length=n∧x.okv=true∧(box=true∨x.pure=true) then ((cellU box v s x' o x (St.at st i)).bind fun ob=>some (List.set st i ob)).bind fun s=>some (.undef,none,some s) else none:=(rfl)
@[simp] theorem cellU_cells (box b fr:Bool) (v s i o:Nat) (x:D) (sz' ver' mod:Nat) (elems:List D):cellU box v s i o x (.cells b sz' ver' mod fr elems) =
  if b=box∧fr=false∧ver'=v∧sz'=s then (elems[i]?).bind fun d=>(splice d.cells o x.cells).bind fun cs=>(rewrap d cs).bind fun d'=>some (.cells box s v (mod+1) false (elems.set i d')) else none:=(rfl)
@[simp] theorem strD_eql (a b:List UInt8):strD .eql a b=some (.bool (decide (a=b))):=by
 simp only [strD]; by_cases h:a=b
 ·subst h; simp
 ·have:(a == b)=false:=by simpa using h
  rw [this,decide_eq_false h]
@[simp] theorem strD_neq (a b:List UInt8):strD .neq a b=some (.bool (!decide (a=b))):=by
 simp only [strD]; by_cases h:a=b
 ·subst h; simp
 ·have:(a == b)=false:=by simpa using h
  rw [this,decide_eq_false h]
@[simp] theorem strD_add (a b:List UInt8):strD .add a b=if a.length+b.length≤134217728 then some (.str (a++b)) else none:=(rfl)
@[simp] theorem intD_quo (k:IntKind) (a b:Int):intD .quo k k a b=if b=0 then none else some (.int k (k.wrap (a.tdiv b))):=by simp [intD]
@[simp] theorem intD_rem (k:IntKind) (a b:Int):intD .rem k k a b=if b=0 then none else some (.int k (a.tmod b)):=by simp [intD]
end Go.Nt
