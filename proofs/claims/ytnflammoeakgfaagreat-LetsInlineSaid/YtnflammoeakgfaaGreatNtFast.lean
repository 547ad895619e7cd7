/-
  THE SAME EQUATIONS IN AN ORDER THAT SPARES WORK: a text that imports this has 'simp' run code head first (it does not go into frames and code that is still to come), and part runs at branches that are not decided (with '+contextual' each way knows its truth).
  No condition.
-/
import Derived.Test.YtnflammoeakgfaaGreatLiIr2
namespace Go.Nt
variable {T:Nat→Option IFunc} {go:GoF} {lp':Ic→Cfg→Option (Ex × Cfg)}
@[congr] theorem kseq_cg {k:Cfg→Option (Ex × Cfg)} {x x':Option (Ex × Cfg)} (h:x=x'):kseq k x=kseq k x':=by rw [h]
@[congr] theorem kblock_cg {id:Nat} {x x':Option (Ex × Cfg)} (h:x=x'):kblock id x=kblock id x':=by rw [h]
@[congr] theorem kfin_cg {r:List Rv} {x x':Option (Ex × Cfg)} (h:x=x'):kfin r x=kfin r x':=by rw [h]
@[congr] theorem kL_cg {a:Ic} {x x':Option (Ex × Cfg)} (h:x=x'):kL T a x=kL T a x':=by rw [h]
@[congr] theorem kE_cg {d d':Option Nat} {s:List D} {b:List (Nat × List D)} {st:St} {os:List Gi} {x x':Option Eff} (hd:d=d') (hx:x=x'):kE T go d s b st os x=kE T go d' s b st os x':=by rw [hd,hx]
@[congr] theorem kG_cg {w:Bool} {io:Io} {os:List Gi} {s:List D} {b:List (Nat × List D)} {st:St} {d d':D} (h:d=d'):kG T go w io os s b st d=kG T go w io os s b st d':=by rw [h]
@[congr] theorem kC_cg {a b:Ic} {c:Cfg} {d d':D} (h:d=d'):kC T go lp' a b c d=kC T go lp' a b c d':=by rw [h]
@[congr] theorem Stops_cg {r r':Option (Ex × Cfg)} {Q:Ex→List D→List (Nat × List D)→St→Prop} (h:r=r'):Stops r Q=Stops r' Q:=by rw [h]
@[congr] theorem Ret_cg {r r':Option (D × St)} {Q:D→St→Prop} (h:r=r'):Ret r Q=Ret r' Q:=by rw [h]
@[congr] theorem loadD_cg {rb:Nat→Nat × List D} {st:St} {p p':D} {n l:Option Nat} {q:Bool} (h:p=p'):loadD rb st p n l q=loadD rb st p' n l q:=by rw [h]
attribute [congr] ite_congr
attribute [simp] kC_b kG_b kseq_ite kblock_ite kfin_ite kL_ite kE_ite map_ite obind_ite Stops_ite Ret_ite
attribute [simp ↓] kseq_n kseq_r kseq_e kblock_n kblock_r kblock_e kL_n kL_r kL_e kfin_r kfin_n kseq_ite kblock_ite kfin_ite kL_ite kE_ite map_ite obind_ite Stops_ite Ret_ite Stops_some Ret_some Option.map_some
attribute [simp ↓] rn_skip rn_ops rn_seq rn_block rn_loop rn_exit rn_ret rn_cond runOps_g0 runOps_kG runOps_nil get_put getB_putB
@[simp ↓] theorem ev_t (s:List D) (n:Nat):Opd.ev s (.t n)=get s n:=(rfl)
@[simp ↓] theorem ev_c (s:List D) (d:D):Opd.ev s (.c d)=d:=(rfl)
@[simp ↓] theorem ev_f (s:List D) (n:Nat):Opd.ev s (.f n)=.fn n [] []:=(rfl)
@[simp high] theorem kE_vs (d:Nat) (s:List D) (b:List (Nat × List D)) (st:St) (os:List Gi) (v:D):kE T go (some d) s b st os (some (v,none,none))=runOps T go os ⟨⟨put s d v,b⟩,st⟩:=(rfl)
@[simp high] theorem kE_vn (s:List D) (b:List (Nat × List D)) (st:St) (os:List Gi) (v:D):kE T go none s b st os (some (v,none,none))=runOps T go os ⟨⟨s,b⟩,st⟩:=(rfl)
@[simp high] theorem kE_hs (d:Nat) (s:List D) (b:List (Nat × List D)) (st st':St) (os:List Gi) (v:D):kE T go (some d) s b st os (some (v,none,some st'))=runOps T go os ⟨⟨put s d v,b⟩,st'⟩:=(rfl)
@[simp high] theorem kE_hn (s:List D) (b:List (Nat × List D)) (st st':St) (os:List Gi) (v:D):kE T go none s b st os (some (v,none,some st'))=runOps T go os ⟨⟨s,b⟩,st'⟩:=(rfl)
@[simp high] theorem kE_bs (d:Nat) (s:List D) (b:List (Nat × List D)) (st:St) (os:List Gi) (v:D) (x g:Nat) (cs:List D):kE T go (some d) s b st os (some (v,some (x,g,cs),none))=runOps T go os ⟨⟨put s d v,putB b x (g,cs)⟩,st⟩:=(rfl)
@[simp high] theorem kE_bn (s:List D) (b:List (Nat × List D)) (st:St) (os:List Gi) (v:D) (x g:Nat) (cs:List D):kE T go none s b st os (some (v,some (x,g,cs),none))=runOps T go os ⟨⟨s,putB b x (g,cs)⟩,st⟩:=(rfl)
attribute [simp ↓] kE_vs kE_vn kE_hs kE_hn kE_bs kE_bn
def rdL (rd:Opd→D) (xs:List Opd):List D:=xs.map rd
@[simp ↓] theorem rdL_nil (s:List D):rdL (Opd.ev s) []=[]:=(rfl)
@[simp ↓] theorem rdL_cons (s:List D) (x:Opd) (xs:List Opd):rdL (Opd.ev s) (x::xs)=Opd.ev s x::rdL (Opd.ev s) xs:=(rfl)
def rdO (rd:Opd→D) (x:Option Opd):Option D:=x.map rd
@[simp ↓] theorem rdO_none (s:List D):rdO (Opd.ev s) none=none:=(rfl)
@[simp ↓] theorem rdO_some (s:List D) (x:Opd):rdO (Opd.ev s) (some x)=some (Opd.ev s x):=(rfl)
def rdP (rd:Opd→D) (ps:List (Nat × Nat × Opd)):List (Nat × Nat × D):=ps.map fun p=>(p.1,p.2.1,rd p.2.2)
@[simp ↓] theorem rdP_nil (s:List D):rdP (Opd.ev s) []=[]:=(rfl)
@[simp ↓] theorem rdP_cons (s:List D) (a n:Nat) (x:Opd) (xs:List (Nat × Nat × Opd)):rdP (Opd.ev s) ((a,n,x)::xs)=(a,n,Opd.ev s x)::rdP (Opd.ev s) xs:=(rfl)
def kCall:Option (D × St)→Option Eff
 | some r=>some (r.1,none,some r.2)
 | none=>none
@[simp] theorem kCall_some (r:D) (st:St):kCall (some (r,st))=some (r,none,some st):=(rfl)
theorem kCall_ite {p:Prop} [Decidable p] (x y:Option (D × St)):kCall (if p then x else y)=if p then kCall x else kCall y:=by split <;> rfl
attribute [simp] kCall_ite
def kPick (x a b:D):Option Eff:=match x with
 | .bool t=>val (if t then a else b)
 | _=>none
@[simp] theorem kPick_b (t:Bool) (a b:D):kPick (.bool t) a b=some (if t=true then a else b,none,none):=(rfl)
@[simp high] theorem kPick_bb (t a b:Bool):kPick (.bool t) (.bool a) (.bool b)=some (.bool (if t=true then a else b),none,none):=by cases t <;> rfl
def kNil (x:D):Option Bool→Option Eff
 | some false=>val x
 | _=>none
@[simp] theorem kNil_f (x:D):kNil x (some false)=some (x,none,none):=(rfl)
def kEq (neg:Bool):Option Bool→Option Eff
 | some b=>val (.bool (if neg then !b else b))
 | none=>none
@[simp] theorem kEq_t (b:Bool):kEq true (some b)=some (.bool (!b),none,none):=(rfl)
@[simp] theorem kEq_f (b:Bool):kEq false (some b)=some (.bool b,none,none):=(rfl)
def kFld (off:Nat) (n:Option Nat) (x:D):Option Eff:=match x with
 | .agg cs=>(part cs off n).bind val
 | _=>none
@[simp] theorem kFld_a (off:Nat) (n:Option Nat) (cs:List D):kFld off n (.agg cs)=(part cs off n).bind val:=(rfl)
def kIdx (sz:Nat) (n arr:Option Nat) (x i:D):Option Eff:=match i with
 | .int _ i=>if i < 0 then none else (idxAD x i.toNat sz n arr).bind val
 | _=>none
@[simp] theorem kIdx_i (sz:Nat) (n arr:Option Nat) (x:D) (k:IntKind) (i:Int):kIdx sz n arr x (.int k i)=if i < 0 then none else (idxAD x i.toNat sz n arr).bind val:=(rfl)
def kIxS (x i:D):Option Eff:=match i with
 | .int _ i=>if i < 0 then none else match x with
  | .str s=>(s[i.toNat]?).bind fun b=>val (byteD b)
  | _=>none
 | _=>none
@[simp] theorem kIxS_s (s:List UInt8) (k:IntKind) (i:Int):kIxS (.str s) (.int k i)=if i < 0 then none else (s[i.toNat]?).bind fun b=>val (byteD b):=(rfl)
def kExt (i:Nat) (x:D):Option Eff:=match x with
 | .tup ds=>(ds[i]?).bind val
 | _=>none
@[simp] theorem kExt_t (i:Nat) (ds:List D):kExt i (.tup ds)=(ds[i]?).bind val:=(rfl)
def kCvI (k:IntKind) (x:D):Option Eff:=match x with
 | .int _ n=>val (.int k (k.wrap n))
 | _=>none
@[simp] theorem kCvI_i (k k':IntKind) (n:Int):kCvI k (.int k' n)=some (.int k (k.wrap n),none,none):=(rfl)
def kCvS (x:D):Option Eff:=match x with
 | .str s=>val (.str s)
 | _=>none
@[simp] theorem kCvS_s (s:List UInt8):kCvS (.str s)=some (.str s,none,none):=(rfl)
def kCvB:Option (List D)→Option Eff
 | some l=>(l.mapM unbyte).bind fun s=>val (.str s)
 | none=>none
@[simp] theorem kCvB_s (l:List D):kCvB (some l)=(l.mapM unbyte).bind fun s=>val (.str s):=(rfl)
def kMM (mx:Bool) (x y:D):Option Eff:=match x,y with
 | .int k a,.int k' b=>if k=k' then val (.int k (if mx then (if b > a then b else a) else (if b < a then b else a))) else none
 | _,_=>none
@[simp] theorem kMM_i (mx:Bool) (k k':IntKind) (a b:Int):kMM mx (.int k a) (.int k' b)=if k=k' then val (.int k (if mx then (if b > a then b else a) else (if b < a then b else a))) else none:=(rfl)
def kAp (st:St) (sz:Nat) (s:D):Option (List D)→Option Eff
 | some l=>kCall (appendD st s l sz)
 | none=>none
@[simp] theorem kAp_s (st:St) (sz:Nat) (s:D) (l:List D):kAp st sz s (some l)=kCall (appendD st s l sz):=(rfl)
def kApT (ty:Nat) (st:St) (sz:Nat) (s:D):Option (List D)→Option Eff
 | some l=>kCall (appendTD ty st s l sz)
 | none=>none
@[simp] theorem kApT_s (ty:Nat) (st:St) (sz:Nat) (s:D) (l:List D):kApT ty st sz s (some l)=kCall (appendTD ty st s l sz):=(rfl)
def kCallV (T:Nat→Option IFunc) (go:GoF) (xs:List D) (st:St) (f:D):Option Eff:=match f with
 | .fn g first cap=>kCall (callD T go g (first++xs++cap) st)
 | _=>none
@[simp] theorem kCallV_f (xs:List D) (st:St) (g:Nat) (a b:List D):kCallV T go xs st (.fn g a b)=kCall (callD T go g (a++xs++b) st):=(rfl)
def kBuild (zero:List D) (ps:List (Nat × Nat × D)):Option Eff:=if ps.all (fun p=>p.2.2.okv) then (fillD zero ps).bind fun cs=>val (.agg cs) else none
@[simp] theorem kBuild_ (zero:List D) (ps:List (Nat × Nat × D)):kBuild zero ps=if ps.all (fun p=>p.2.2.okv) then (fillD zero ps).bind fun cs=>val (.agg cs) else none:=(rfl)
def kBsl (sz:Nat) (agg:Bool) (xs:List D):Option Eff:=if xs.all fun v=>v.fits (if agg then some sz else none) && (v.cells.length == sz && v.pure) then val (.sl sz true xs) else none
@[simp] theorem kBsl_ (sz:Nat) (agg:Bool) (xs:List D):kBsl sz agg xs=if xs.all fun v=>v.fits (if agg then some sz else none) && (v.cells.length == sz && v.pure) then val (.sl sz true xs) else none:=(rfl)
def kBoxH (n:Option Nat) (st:St) (x:D):Option Eff:=if x.fits n then some (.hp st.length 0 (n.getD 1) 0 0,none,some (st++[.cells true (n.getD 1) 0 0 false [x]])) else none
@[simp] theorem kBoxH_ (n:Option Nat) (st:St) (x:D):kBoxH n st x=if x.fits n then some (.hp st.length 0 (n.getD 1) 0 0,none,some (st++[.cells true (n.getD 1) 0 0 false [x]])) else none:=(rfl)
def kBoxI (n:Option Nat) (x:D):Option Eff:=(boxID n x).bind val
def kBoxJ (n:Option Nat) (x:D):Option Eff:=(match x with | .hp id ver sz i o=>if n.isNone then some (D.kp id ver sz i o) else none | _=>none).bind val
@[simp] theorem kBoxI_ (n:Option Nat) (x:D):kBoxI n x=if x.fits n && x.pure then val (.iptr x) else kBoxJ n x:=by unfold kBoxI kBoxJ boxID; split <;> rfl
@[simp] theorem kBoxJ_hp (id ver sz i o:Nat):kBoxJ none (.hp id ver sz i o)=val (.kp id ver sz i o):=(rfl)
def kBoxL (d g n:Nat) (cs:List D):Option Eff:=if cs.length=n∧cs.all D.okv=true then some (.lp d (g+1) 0,some (d,g+1,cs),none) else none
@[simp] theorem kBoxL_ (d g n:Nat) (cs:List D):kBoxL d g n cs=if cs.length=n∧cs.all D.okv=true then some (.lp d (g+1) 0,some (d,g+1,cs),none) else none:=(rfl)
def kMkfn (f:Nat) (first cap:List D):Option Eff:=if first.all D.okv && cap.all D.okv then val (.fn f first cap) else none
@[simp] theorem kMkfn_ (f:Nat) (first cap:List D):kMkfn f first cap=if first.all D.okv && cap.all D.okv then val (.fn f first cap) else none:=(rfl)
def kSlc (s:Option Nat) (x:D) (lo hi mx:Option D):Option Eff:=if slcTy s x then (sliceD x lo hi mx).bind val else none
@[simp] theorem kSlc_ (s:Option Nat) (x:D) (lo hi mx:Option D):kSlc s x lo hi mx=if slcTy s x then (sliceD x lo hi mx).bind val else none:=(rfl)
variable {rd:Opd→D} {rb:Nat→Nat × List D} {st:St}
@[simp ↓] theorem a_mv (d:Nat) (x:Opd):actO T go rd rb st (.mv d x)=some (rd x,none,none):=(rfl)
@[simp ↓] theorem a_mvn:actO T go rd rb st .mvn=some (.undef,none,none):=(rfl)
@[simp ↓] theorem a_pick (d:Nat) (x a b:Opd):actO T go rd rb st (.pick d x a b)=kPick (rd x) (rd a) (rd b):=by simp only [actO]; cases rd x <;> rfl
@[simp ↓] theorem a_boxLn (d n:Nat) (zero:List D):actO T go rd rb st (.boxL d n none zero)=kBoxL d (rb d).1 n zero:=(rfl)
@[simp ↓] theorem a_boxLs (d n:Nat) (x:Opd) (zero:List D):actO T go rd rb st (.boxL d n (some x) zero)=kBoxL d (rb d).1 n (rd x).cells:=(rfl)
@[simp ↓] theorem a_boxH (d:Nat) (n:Option Nat) (x:Opd):actO T go rd rb st (.boxH d n x)=kBoxH n st (rd x):=(rfl)
@[simp ↓] theorem a_boxI (d:Nat) (n:Option Nat) (x:Opd):actO T go rd rb st (.boxI d n x)=kBoxI n (rd x):=(rfl)
@[simp ↓] theorem a_build (d:Nat) (zero:List D) (ps:List (Nat × Nat × Opd)):actO T go rd rb st (.build d zero ps)=kBuild zero (rdP rd ps):=by simp only [actO,kBuild,rdP,List.all_map]; rfl
@[simp ↓] theorem a_bsl (d sz:Nat) (agg:Bool) (xs:List Opd):actO T go rd rb st (.bsl d sz agg xs)=kBsl sz agg (rdL rd xs):=(rfl)
@[simp ↓] theorem a_load (d:Nat) (p:Opd) (n l:Option Nat) (q:Bool):actO T go rd rb st (.load d p n l q)=(loadD rb st (rd p) n l q).bind val:=(rfl)
@[simp ↓] theorem a_store (p x:Opd) (n:Nat) (l:Option Nat):actO T go rd rb st (.store p x n l)=storeD rb st (rd p) (rd x) n l:=(rfl)
@[simp ↓] theorem a_storeX (box:Bool) (p x:Opd) (n:Nat):actO T go rd rb st (.storeX box p x n)=storeXD box st (rd p) (rd x) n:=(rfl)
@[simp ↓] theorem a_nilc (d:Option Nat) (x:Opd):actO T go rd rb st (.nilc d x)=kNil (rd x) (nilD .ptr (rd x)):=by simp only [actO]; rcases nilD .ptr (rd x) with _ | (_ | _) <;> rfl
@[simp ↓] theorem a_bin (d:Nat) (op:BinOp) (x y:Opd):actO T go rd rb st (.bin d op x y)=(binD op (rd x) (rd y)).bind val:=(rfl)
@[simp ↓] theorem a_eqn (d:Nat) (neg:Bool) (k:Kd) (x y:Opd):actO T go rd rb st (.eqn d neg k x y)=kEq neg (eqnD k (rd x) (rd y)):=by simp only [actO,kEq]; cases eqnD k (rd x) (rd y) <;> rfl
@[simp ↓] theorem a_un (d:Nat) (op:UnOp) (x:Opd):actO T go rd rb st (.un d op x)=(unD op (rd x)).bind val:=(rfl)
@[simp ↓] theorem a_cvI (d:Nat) (k:IntKind) (x:Opd):actO T go rd rb st (.conv d (.int k) x)=kCvI k (rd x):=by simp only [actO]; cases rd x <;> rfl
@[simp ↓] theorem a_cvS (d:Nat) (x:Opd):actO T go rd rb st (.conv d .same x)=kCvS (rd x):=by simp only [actO]; cases rd x <;> rfl
@[simp ↓] theorem a_cvB (d:Nat) (x:Opd):actO T go rd rb st (.conv d .bytesstr x)=kCvB (listD st 1 (rd x)):=by simp only [actO]; cases listD st 1 (rd x) <;> rfl
@[simp ↓] theorem a_mkfn (d f:Nat) (first cap:List Opd):actO T go rd rb st (.mkfn d f first cap)=kMkfn f (rdL rd first) (rdL rd cap):=(rfl)
@[simp ↓] theorem a_fldA (d:Nat) (x:Opd) (off:Nat) (n:Option Nat):actO T go rd rb st (.fldA d x off n)=(fldD (rd x) off n).bind val:=(rfl)
@[simp ↓] theorem a_fld (d:Nat) (x:Opd) (off:Nat) (n:Option Nat):actO T go rd rb st (.fld d x off n)=kFld off n (rd x):=by simp only [actO]; cases rd x <;> rfl
@[simp ↓] theorem a_idxA (d:Nat) (x i:Opd) (sz:Nat) (n arr:Option Nat):actO T go rd rb st (.idxA d x i sz n arr)=kIdx sz n arr (rd x) (rd i):=by simp only [actO]; cases rd i <;> rfl
@[simp ↓] theorem a_idxS (d:Nat) (x i:Opd) (n:Option Nat) (sz:Nat):actO T go rd rb st (.idx d x i n sz none)=kIxS (rd x) (rd i):=by simp only [actO]; cases rd i <;> first | rfl | (cases rd x <;> rfl)
@[simp ↓] theorem a_slc (d:Nat) (s:Option Nat) (x:Opd) (lo hi mx:Option Opd):actO T go rd rb st (.slc d s x lo hi mx)=kSlc s (rd x) (rdO rd lo) (rdO rd hi) (rdO rd mx):=(rfl)
@[simp ↓] theorem a_ext (d:Nat) (x:Opd) (i:Nat):actO T go rd rb st (.ext d x i)=kExt i (rd x):=by simp only [actO]; cases rd x <;> rfl
@[simp ↓] theorem a_call (d:Option Nat) (f:Nat) (xs:List Opd):actO T go rd rb st (.call d f xs)=kCall (callD T go f (rdL rd xs) st):=by simp only [actO,rdL]; cases callD T go f (xs.map rd) st <;> rfl
@[simp ↓] theorem a_callR (d:Option Nat) (f:Nat) (xs:List Opd):actO T go rd rb st (.callR d f xs)=(callRD T go f (rdL rd xs) st).bind val:=(rfl)
@[simp ↓] theorem a_callQ (d:Option Nat) (f:Nat) (xs:List Opd):actO T go rd rb st (.callQ d f xs)=(callQD T go f (rdL rd xs)).bind val:=(rfl)
@[simp ↓] theorem a_callV (d:Option Nat) (f:Opd) (xs:List Opd):actO T go rd rb st (.callV d f xs)=kCallV T go (rdL rd xs) st (rd f):=by
 simp only [actO,rdL]
 cases rd f with
 | fn g a b=>simp only [kCallV]; cases callD T go g (a++xs.map rd++b) st <;> rfl
 | _=>rfl
@[simp ↓] theorem a_len (d:Nat) (k:Kd) (x:Opd) (q:Bool):actO T go rd rb st (.len d k x q)=(lenD st k (rd x) q).bind val:=(rfl)
@[simp ↓] theorem a_app (d:Nat) (s x:Opd) (sz:Nat):actO T go rd rb st (.app d s x sz)=kAp st sz (rd s) (srcD st sz (rd x)):=by
 simp only [actO]; cases srcD st sz (rd x) with
 | none=>rfl
 | some l=>simp only [Option.bind_some,kAp]; cases appendD st (rd s) l sz <;> rfl
@[simp ↓] theorem a_appT (d:Nat) (s x:Opd) (sz ty:Nat):actO T go rd rb st (.appT d s x sz ty)=kApT ty st sz (rd s) (srcD st sz (rd x)):=by
 simp only [actO]; cases srcD st sz (rd x) with
 | none=>rfl
 | some l=>simp only [Option.bind_some,kApT]; cases appendTD ty st (rd s) l sz <;> rfl
@[simp ↓] theorem a_mm (d:Nat) (mx:Bool) (x y:Opd):actO T go rd rb st (.mm d mx x y)=kMM mx (rd x) (rd y):=by simp only [actO]; cases rd x <;> first | rfl | (cases rd y <;> rfl)
@[simp] theorem listD_sl (st:St) (sz:Nat) (fl:Bool) (ds:List D):listD st sz (.sl sz fl ds)=some ds:=by simp [listD]
@[simp] theorem listD_nils (st:St) (sz:Nat):listD st sz .nils=some []:=(rfl)
@[simp] theorem srcD_sl (st:St) (sz:Nat) (fl:Bool) (ds:List D):srcD st sz (.sl sz fl ds)=some ds:=by simp [srcD]
@[simp] theorem srcD_nils (st:St) (sz:Nat):srcD st sz .nils=some []:=(rfl)
@[simp] theorem srcD_slE (st:St) (sz:Nat) (fl:Fl) (ds:List D):srcD st sz (slE sz fl ds)=some ds:=by
 have:=slE_list st sz fl ds
 cases fl <;> cases ds <;> exact this
def kSlcA (st:St) (n:Nat) (x:D) (lo hi:Option D):Option Eff:=match x with
  | .hp id ver sz 0 0=>match St.at st id with
   | .cells box sz' ver' mod false [.agg cs]=>
    if ver'=ver∧sz'=sz∧sz=n∧cs.length=n∧cs.all D.pure1=true then
     (boundD hi n n).bind fun h=>(boundD lo 0 h).bind fun l=>
      some (.sl 1 (h == n) ((cs.drop l).take (h - l)),none,some (List.set st id (.cells box sz ver (mod+1) true [.agg cs])))
    else none
   | _=>none
  | _=>none
@[simp ↓] theorem a_slcA {T:Nat→Option IFunc} {go:GoF} {rd:Opd→D} {rb:Nat→Nat × List D} {st:St} (d:Nat) (x:Opd) (lo hi:Option Opd) (n:Nat):actO T go rd rb st (.slcA d x lo hi n)=kSlcA st n (rd x) (rdO rd lo) (rdO rd hi):=(rfl)
def kCapn:D→Option Eff
 | .nils=>val (.i 0)
 | _=>none
@[simp] theorem kCapn_nils:kCapn .nils=val (.i 0):=(rfl)
@[simp ↓] theorem a_capn {T:Nat→Option IFunc} {go:GoF} {rd:Opd→D} {rb:Nat→Nat × List D} {st:St} (d:Nat) (x:Opd):actO T go rd rb st (.capn d x)=kCapn (rd x):=by simp only [actO]; cases rd x <;> rfl
def kAppz (st:St) (sz:Nat) (zero:D):D→D→Option Eff
 | .nils,.int _ k=>if 0 < k∧k≤most then some (.rs st.length 0 sz 0 k.toNat false,none,some (st++[.cells false sz 0 0 false (List.replicate k.toNat zero)])) else none
 | _,_=>none
@[simp] theorem kAppz_nils (st:St) (sz:Nat) (zero:D) (i:IntKind) (k:Int):kAppz st sz zero .nils (.int i k)=if 0 < k∧k≤most then some (.rs st.length 0 sz 0 k.toNat false,none,some (st++[.cells false sz 0 0 false (List.replicate k.toNat zero)])) else none:=(rfl)
@[simp ↓] theorem a_appz {T:Nat→Option IFunc} {go:GoF} {rd:Opd→D} {rb:Nat→Nat × List D} {st:St} (d:Nat) (s n:Opd) (sz:Nat) (zero:D):actO T go rd rb st (.appz d s n sz zero)=kAppz st sz zero (rd s) (rd n):=by
 simp only [actO]; cases rd s <;> first | rfl | (cases rd n <;> rfl)
def kStoF (rb:Nat→Nat × List D) (p:D) (n b:Nat):Option (D × St)→Option Eff
 | some r=>(storeD rb r.2 p r.1 n (some b)).bind fun e=>some (.undef,e.2.1,some r.2)
 | none=>none
@[simp] theorem kStoF_some (rb:Nat→Nat × List D) (p:D) (n b:Nat) (r:D × St):kStoF rb p n b (some r)=(storeD rb r.2 p r.1 n (some b)).bind fun e=>some (.undef,e.2.1,some r.2):=(rfl)
@[simp ↓] theorem a_stoF {T:Nat→Option IFunc} {go:GoF} {rd:Opd→D} {rb:Nat→Nat × List D} {st:St} (p x:Opd) (n b:Nat):actO T go rd rb st (.stoF p x n b)=kStoF rb (rd p) n b (fz1 st (rd x)):=by
 simp only [actO]; cases fz1 st (rd x) <;> rfl
@[simp ↓] theorem a_no {T:Nat→Option IFunc} {go:GoF} {rd:Opd→D} {rb:Nat→Nat × List D} {st:St} (d:Option Nat):actO T go rd rb st (.no d)=none:=(rfl)
end Go.Nt
