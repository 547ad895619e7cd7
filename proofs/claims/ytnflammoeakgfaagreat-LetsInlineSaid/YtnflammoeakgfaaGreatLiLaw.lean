/-
  ONE LIST OF TERMS BEHIND ANOTHER (slices.Concat of two), walked.
  No condition.
-/
import Derived.Test.YtnflammoeakgfaaGreatLiFi
import Derived.KernelRfl
set_option linter.unusedSimpArgs false
set_option maxRecDepth 20000
namespace Go.Nt.Li
open Go Go.Nt
theorem c85 (n:Int) (hn:0≤n∧n≤100000000) (st:St):callD T (ev T) 85 [.nils,.int .i64 n] st=some (if n=0 then (.nils,st) else (.rs st.length 0 6 0 0 false,st++[.cells false 6 0 0 false (List.replicate n.toNat (.agg zT))])):=by
 rw [callD_rawE (fn:=F85) rfl rfl (by simp)]
 have go:Ret (ev T 85 [.nils,.int .i64 n] st) fun r st'=>(r,st')=(if n=0 then (.nils,st) else (.rs st.length 0 6 0 0 false,st++[.cells false 6 0 0 false (List.replicate n.toNat (.agg zT))])):=by
  refine Ret_wp (fn:=F85) rfl ?_
  rw [F85]
  have h0:¬ n < 0:=by omega
  have hm:n≤(most:Int):=by have:(most:Int)=134217728:=rfl; omega
  have w0:IntKind.wrap .i64 0=0:=by rw [wrap64] <;> omega
  have w1:IntKind.wrap .i64 n=n:=by rw [wrap64] <;> omega
  by_cases hz:n=0
  ·subst hz; simp [w0,lenD]
  ·have hp:0 < n:=by omega
   simp [h0,hp,w0,w1,lenD,hz,sliceD,boundD,slcTy,hm]
   omega
 obtain ⟨r,st',h1,h2⟩:=go
 rw [h1,h2]
def catF (l:List Tm):Fl:=if l=[] then .nil else .part
theorem app_row (v m:Nat) (els:List D) (len:Nat) (l:List Tm) (hl:l≠[]) (hv:v≤1000) (hlen:len≤els.length) (he:els.length≤3000000) (hb:l.length≤1000000) :
  appendD [.cells false 6 v m false els] (.rs 0 v 6 0 len false) (encTs l) 6=some (.rs 0 (v+1) 6 0 (len+l.length) false,[.cells false 6 (v+1) (m+1) false (els.take len++encTs l)]):=by
 have h1:¬ most < l.length:=by unfold most; omega
 have h2:els.length≤most:=by unfold most; omega
 have h3:v+1 < tagB:=by unfold tagB; omega
 have h4:encTs l≠[]:=by cases l with | nil=>exact absurd rfl hl | cons a b=>simp
 simp [appendD,h1,h2,h3,h4,hlen]
theorem app_row0 (v m:Nat) (els:List D) (len:Nat) (l:List Tm) (hl:l=[]) (hlen:len≤els.length) (he:els.length≤3000000) :
  appendD [.cells false 6 v m false els] (.rs 0 v 6 0 len false) (encTs l) 6=some (.rs 0 v 6 0 len false,[.cells false 6 v m false els]):=by
 subst hl
 have h2:els.length≤most:=by unfold most; omega
 simp [appendD,h2,hlen]
theorem app_nil (st:St) (l:List Tm) (hl:l=[]):appendD st .nils (encTs l) 6=some (.nils,st):=by
 subst hl; simp [appendD]
theorem c53 (a b:List Tm) (fa fb:Fl) (ha:a.length≤1000000) (hb:b.length≤1000000) (st:St) :
  callD T (ev T) 53 [.sl 1 true [slE 6 fa (encTs a),slE 6 fb (encTs b)]] st=some (slE 6 (catF (a++b)) (encTs (a++b)),st):=by
 refine callD_pureR (fn:=F53) rfl rfl (by simp) (by simp) ?_
 refine Ret_wp (fn:=F53) rfl ?_
 rw [F53]
 have wz:IntKind.wrap .i64 0=0:=by rw [wrap64] <;> omega
 have w0:IntKind.wrap .i64 1=1:=by rw [wrap64] <;> omega
 have w2:IntKind.wrap .i64 2=2:=by rw [wrap64] <;> omega
 have wa:IntKind.wrap .i64 (a.length:Int)=a.length:=by rw [wrap64] <;> omega
 have wb:IntKind.wrap .i64 ((a.length:Int)+b.length)=((a.length+b.length:Nat):Int):=by rw [wrap64] <;> omega
 have q:=c85 ((a.length+b.length:Nat):Int) (by omega) []
 have h0:¬ ((a.length:Int) < 0):=by omega
 have h1:¬ (((a.length+b.length:Nat):Int) < 0):=by omega
 have le:∀ A B st q,lenD st .slice (.sl 1 true [A,B]) q=some (.i 2):=fun _ _ _ _=>rfl
 have i0:idxAD (.sl 1 true [slE 6 fa (encTs a),slE 6 fb (encTs b)]) 0 1 none none=some (.iptr (slE 6 fa (encTs a))):=by simp [idxAD]
 have i1:idxAD (.sl 1 true [slE 6 fa (encTs a),slE 6 fb (encTs b)]) 1 1 none none=some (.iptr (slE 6 fb (encTs b))):=by simp [idxAD]
 have sa:∀ st,srcD st 6 (slE 6 fa (encTs a))=some (encTs a):=fun st=>by simp
 have sb:∀ st,srcD st 6 (slE 6 fb (encTs b))=some (encTs b):=fun st=>by simp
 have la:∀ st q,lenD st .slice (slE 6 fa (encTs a)) q=some (.i a.length):=fun st q=>by simp
 have lb:∀ st q,lenD st .slice (slE 6 fb (encTs b)) q=some (.i b.length):=fun st q=>by simp
 have fA:(slE 6 fa (encTs a)).fits none=true:=by simp
 have fB:(slE 6 fb (encTs b)).fits none=true:=by simp
 generalize slE 6 fa (encTs a)=A at *
 generalize slE 6 fb (encTs b)=B at *
 have cn:a++b≠[]→slE 6 (catF (a++b)) (encTs (a++b))=.sl 6 false (encTs (a++b)):=by
  generalize a++b=l
  intro hl
  cases l with
  | nil=>exact absurd rfl hl
  | cons x r=>rfl
 by_cases hz:a=[]∧b=[]
 ·have e:a++b=[]:=by rw [hz.1,hz.2]; rfl
  have za:(a.length:Int)=0:=by rw [hz.1]; rfl
  have zb:(b.length:Int)=0:=by rw [hz.2]; rfl
  have c0:slE 6 (catF ([]:List Tm)) (encTs [])=.nils:=rfl
  have zn:(((a.length+b.length:Nat):Int))=0:=by omega
  rw [zn,if_pos rfl] at q
  have n1:=fun st=>app_nil st a hz.1
  have n2:=fun st=>app_nil st b hz.2
  rw [e,c0]
  simp [WL_un L53_0.eq_1,WL_un L53_1.eq_1,wz,w0,w2,q,le,i0,i1,sa,sb,la,lb,fA,fB,za,zb,n1,n2]
 ·have hn:¬ (((a.length+b.length:Nat):Int)=0):=by
   intro g
   exact hz ⟨List.eq_nil_of_length_eq_zero (by omega),List.eq_nil_of_length_eq_zero (by omega)⟩
  rw [if_neg hn] at q
  simp only [List.length_nil,List.nil_append,Int.toNat_natCast] at q
  rw [cn (fun e=>hz (List.append_eq_nil_iff.1 e)),encTs_append]
  have hr:(List.replicate (a.length+b.length) (D.agg zT)).length≤3000000:=by simp; omega
  generalize List.replicate (a.length+b.length) (D.agg zT)=z at *
  have A1:=app_row 0 0 z 0 a
  have A0:=fun e=>app_row0 0 0 z 0 a e (by omega) hr
  have B1:=app_row 0 0 z 0 b
  have B2:=app_row 1 1 (encTs a) a.length b
  have B0:=fun e=>app_row0 1 1 (encTs a) a.length b e (by simp) (by simp; omega)
  have la':(encTs a).length=a.length:=by simp
  have lb':(encTs b).length=b.length:=by simp
  by_cases ea:a=[]
  ·have eb:b≠[]:=fun e=>hz ⟨ea,e⟩
   replace B1:=B1 eb (by omega) (by omega) hr hb
   replace A0:=A0 ea
   have za:a.length=0:=by rw [ea]; rfl
   have ze:encTs a=[]:=by rw [ea]; rfl
   simp only [List.take_zero,List.nil_append,Nat.zero_add] at B1
   rw [ze] at A0 sa ⊢
   simp only [za,Nat.zero_add] at *
   have wbb:IntKind.wrap .i64 (b.length:Int)=b.length:=by rw [wrap64] <;> omega
   generalize encTs b=eb' at *
   simp [WL_un L53_0.eq_1,WL_un L53_1.eq_1,wz,w0,w2,wb,wbb,h0,h1,q,le,i0,i1,sa,sb,la,lb,fA,fB,A0,B1,-Int.natCast_add]
   exact ⟨by omega,List.take_of_length_le (by omega)⟩
  ·replace A1:=A1 ea (by omega) (by omega) hr ha
   simp only [List.take_zero,List.nil_append,Nat.zero_add] at A1
   by_cases eb:b=[]
   ·replace B0:=B0 eb
    have zb:b.length=0:=by rw [eb]; rfl
    have ze:encTs b=[]:=by rw [eb]; rfl
    rw [ze] at B0 sb ⊢
    have tk:(encTs a).length=a.length:=by simp
    simp only [zb,Nat.add_zero] at *
    generalize encTs a=ea' at *
    simp [WL_un L53_0.eq_1,WL_un L53_1.eq_1,wz,w0,w2,wa,wb,h0,h1,q,le,i0,i1,sa,sb,la,lb,fA,fB,A1,B0,-Int.natCast_add]
    exact ⟨by omega,List.take_of_length_le (by omega)⟩
   ·replace B2:=B2 eb (by omega) (by omega) (by simp; omega) hb
    generalize encTs a=ea' at *
    generalize encTs b=eb' at *
    have tk:List.take a.length ea'=ea':=List.take_of_length_le (by omega)
    rw [tk] at B2
    simp [WL_un L53_0.eq_1,WL_un L53_1.eq_1,wz,w0,w2,wa,wb,h0,h1,q,le,i0,i1,sa,sb,la,lb,fA,fB,A1,B2,la',lb',-Int.natCast_add]
    exact List.take_of_length_le (by simp; omega)
end Go.Nt.Li
set_option linter.unusedSimpArgs false
set_option maxRecDepth 20000
namespace Go.Nt.Li
open Go Go.Nt
def setF (fl:Fl) (t:Tm) (i:Nat) (x:Tm):Tm:=.mk t.k t.n t.s fl (t.l.set i x) t.a t.b
theorem setF_er {fl fl':Fl} {t t' x x':Tm} (i:Nat) (ht:er t=er t') (hx:er x=er x'):er (setF fl t i x)=er (setF fl' t' i x'):=by
 obtain ⟨h1,h2,h3,h4⟩:=(er_iff t t').1 ht
 refine (er_iff _ _).2 ⟨h1,h2,h3,?_⟩
 show (t.l.set i x).map er=(t'.l.set i x').map er
 rw [List.map_set,List.map_set,h4,hx]
theorem setF_good {fl:Fl} {t x:Tm} (i:Nat) (gt:good t) (gx:good x):good (setF fl t i x):=by
 obtain ⟨g1,g2,g3,g4,g5,g6,g7⟩:=(good_iff t).1 gt
 refine (good_iff _).2 ⟨g1,g2,g3,g4,g5,by show (t.l.set i x).length≤_; simpa using g6,fun u hu=>?_⟩
 rcases List.mem_or_eq_of_mem_set (show u∈t.l.set i x from hu) with h | rfl
 ·exact g7 u h
 ·exact gx
theorem setF_low {B:Int} {fl:Fl} {t x:Tm} (i:Nat) (lt:lowN B t) (lx:lowN B x):lowN B (setF fl t i x):=by
 obtain ⟨h1,h2⟩:=(lowN_iff B t).1 lt
 refine (lowN_iff B _).2 ⟨h1,fun u hu=>?_⟩
 rcases List.mem_or_eq_of_mem_set (show u∈t.l.set i x from hu) with h | rfl
 ·exact h2 u h
 ·exact lx
theorem cntTs_set:∀ (l:List Tm) (i:Nat) (x:Tm),cntTs (l.set i x)≤cntTs l+cntT x
 | [],_,_=>by simp [cntTs]
 | y::l,0,x=>by rw [List.set_cons_zero,cntTs,cntTs]; omega
 | y::l,i+1,x=>by have:=cntTs_set l i x; rw [List.set_cons_succ,cntTs,cntTs]; omega
theorem setF_cnt (fl:Fl) (t:Tm) (i:Nat) (x:Tm):cntT (setF fl t i x)≤cntT t+cntT x:=by
 have:=cntTs_set t.l i x
 rw [cntT_eq (setF fl t i x),cntT_eq t]
 show cntTs (t.l.set i x)+1≤_
 omega
theorem c51 (fl:Fl) (l:List Tm) (hl:l.length≤1000000) (hne:l≠[]) (st:St):callD T (ev T) 51 [slE 6 fl (encTs l)] st=some (.rs st.length 0 6 0 l.length false,st++[.cells false 6 0 0 false (encTs l)]):=by
 rw [callD_rawE (fn:=F51) rfl rfl (by simp)]
 have m1:¬ most < l.length:=by unfold most; omega
 have he:(encTs l).isEmpty=false:=by cases l with | nil=>exact absurd rfl hne | cons a b=>rfl
 have q1:eqnD .slice (slE 6 fl (encTs l)) .nils=some false:=by
  cases l with
  | nil=>exact absurd rfl hne
  | cons a b=>cases fl <;> rfl
 have q2:appendD st (.sl 6 true []) (encTs l) 6=some (.rs st.length 0 6 0 l.length false,st++[.cells false 6 0 0 false (encTs l)]):=by simp [appendD,m1,he]
 have go:Ret (ev T 51 [slE 6 fl (encTs l)] st) fun r st'=>r=.rs st.length 0 6 0 l.length false∧st'=st++[.cells false 6 0 0 false (encTs l)]:=by
  refine Ret_wp (fn:=F51) rfl ?_
  rw [F51]
  simp [q1,q2]
 obtain ⟨r,st',g,rfl,rfl⟩:=go
 exact g
theorem c37_0 (t x:Tm) (st:St) (fl:Fl):callD T (ev T) 37 [encT t,slE 1 fl [],encT x] st=some (.tup [encT x,.bool true],st):=by
 refine callD_pureR (fn:=F37) rfl rfl (by simp) (by simp) ?_
 refine Ret_wp (fn:=F37) rfl ?_
 rw [F37]
 simp [splice]
 rw [encT_eq]
theorem c37_s (t:Tm) (gt:good t) (i:Nat) (hi:i < t.l.length) (p:List Int) (x u:Tm) (fl:Fl) (h:∀ fl st,callD T (ev T) 37 [encT t.l[i],slE 1 fl (nI p),encT x] st=some (.tup [encT u,.bool true],st)) (st:St) :
  callD T (ev T) 37 [encT t,slE 1 fl (nI ((i:Int)::p)),encT x] st=some (.tup [encT (setF .part t i u),.bool true],st):=by
 have hl:=good_len gt
 refine callD_pureR (fn:=F37) rfl rfl (by simp) (by simp) ?_
 refine Ret_wp (fn:=F37) rfl ?_
 rw [F37]
 have h0:¬ (i:Int) < 0:=by omega
 have h1:¬ (t.l.length:Int)≤i:=by omega
 have hne:t.l≠[]:=fun e=>by rw [e] at hi; simp at hi
 have q:=c51 t.fl t.l hl hne []
 have h':=fun fl=>h fl []
 rw [encT_eq u] at h'
 have el:(encTs t.l)[i]?=some (encT t.l[i]):=by simp [hi]
 simp only [List.length_nil,List.nil_append] at q
 simp [h0,h1,hi,splice,←encT_eq x,←encT_eq t,h',q,kHs]
 rw [←encT_eq u,List.take_of_length_le (by simp),encT_eq (setF .part t i u)]
 have e1:(encTs t.l).set i (encT u)=encTs (t.l.set i u):=by simp [encTs_map,List.map_set]
 rw [e1]
 rfl
theorem c72_0 (t:Tm) (st:St) (fl:Fl):callD T (ev T) 72 [encT t,slE 1 fl []] st=some (encT t,st):=by
 refine callD_pureR (fn:=F72) rfl rfl (by simp) (by simp) ?_
 refine Ret_wp (fn:=F72) rfl ?_
 rw [F72]
 simp [splice]
 rw [encT_eq]
theorem c72_s (t:Tm) (i:Nat) (hi:i < t.l.length) (p:List Int) (u:Tm) (fl:Fl) (h:∀ fl st,callD T (ev T) 72 [encT t.l[i],slE 1 fl (nI p)] st=some (encT u,st)) (st:St) :
  callD T (ev T) 72 [encT t,slE 1 fl (nI ((i:Int)::p))] st=some (encT u,st):=by
 refine callD_pureR (fn:=F72) rfl rfl (by simp) (by simp) ?_
 refine Ret_wp (fn:=F72) rfl ?_
 rw [F72]
 have h0:¬ (i:Int) < 0:=by omega
 have h':=fun fl=>h fl []
 rw [encT_eq u] at h'
 simp [h0,hi,splice,h']
 rw [encT_eq u]
theorem c73_0 (t x:Tm) (st:St) (fl:Fl):callD T (ev T) 73 [encT t,slE 1 fl [],encT x] st=some (encT x,st):=by
 refine callD_pureR (fn:=F73) rfl rfl (by simp) (by simp) ?_
 refine Ret_wp (fn:=F73) rfl ?_
 rw [F73]
 simp [splice]
 rw [encT_eq]
theorem l73 (t:Tm) (gt:good t) (i:Nat) (hi:i < t.l.length) (p:List Int) (x u:Tm) (fl:Fl) (h:∀ fl st,callD T (ev T) 73 [encT t.l[i],slE 1 fl (nI p),encT x] st=some (encT u,st)) :
  ∀ (r j:Nat) (s:List D) (bx:List (Nat × List D)),r=t.l.length - j→j≤t.l.length→get s 1=slE 1 fl (nI ((i:Int)::p))→get s 3=.lp 3 1 0→getB bx 3=(1,clT t)→get s 5=.lp 5 1 0→getB bx 5=(1,clT x) →
   get s 7=(grown (seed 6 .emp) 6 (encTs ((t.l.set i u).take j))).1→get s 8=.i j →
  Stops (lp T L73_0 ⟨⟨s,bx⟩,(grown (seed 6 .emp) 6 (encTs ((t.l.set i u).take j))).2⟩) fun e s' _ st'=>e=.exit 0∧get s' 7=(grown (seed 6 .emp) 6 (encTs (t.l.set i u))).1∧st'=(grown (seed 6 .emp) 6 (encTs (t.l.set i u))).2:=by
 intro r
 have hll:=good_len gt
 have hlen:(t.l.set i u).length=t.l.length:=by simp
 induction r with
 | zero=>
  intro j s bx hr hj h1 h3 b3 h5 b5 h7 h8
  have e:j=t.l.length:=by omega
  subst e
  rw [List.take_of_length_le (by omega)] at h7 ⊢
  refine Stops_wp L73_0.eq_1 ?_
  simp [h3,b3,h7,h8]
 | succ r ih=>
  intro j s bx hr hj h1 h3 b3 h5 b5 h7 h8
  have hlt:j < t.l.length:=by omega
  have hw:IntKind.wrap .i64 ((j:Int)+1)=((j+1:Nat):Int):=by rw [wrap64] <;> omega
  have gr:=grow .emp 6 (encTs ((t.l.set i u).take j)) (encT ((t.l.set i u)[j]'(by omega))) (by simp; omega)
  have et:encTs ((t.l.set i u).take (j+1))=encTs ((t.l.set i u).take j)++[encT ((t.l.set i u)[j]'(by omega))]:=by
   rw [List.take_succ_eq_append_getElem (by omega),encTs_append]; simp
  have nx:=fun s' bx'=>ih (j+1) s' bx' (by omega) (by omega)
  rw [et] at nx
  have hX:(t.l.set i u)[j]'(by omega)=if i=j then u else t.l[j]:=List.getElem_set _
  generalize (t.l.set i u)[j]'(by omega)=X at *
  clear ih et
  generalize t.l.set i u=L at *
  generalize grown (seed 6 .emp) 6 (encTs (L.take j)++[encT X])=G at *
  obtain ⟨g1,g2⟩:=G
  by_cases hij:i=j
  ·rw [if_pos hij] at hX
   subst hX hij
   have h':=h
   refine Stops_wp L73_0.eq_1 ?_
   simp [h1,h3,b3,h5,b5,h7,h8,hlt,hw,←encT_eq,h',gr,-Int.natCast_add]
   refine nx _ _ ?_ ?_ ?_ ?_ ?_ ?_ ?_ <;> simp [h1,h3,b3,h5,b5]
  ·rw [if_neg hij] at hX
   subst hX
   have hne:¬ ((j:Int)=i):=by omega
   refine Stops_wp L73_0.eq_1 ?_
   simp [h1,h3,b3,h5,b5,h7,h8,hlt,hne,hw,gr,-Int.natCast_add]
   refine nx _ _ ?_ ?_ ?_ ?_ ?_ ?_ ?_ <;> simp [h1,h3,b3,h5,b5]
theorem c73_s (t:Tm) (gt:good t) (i:Nat) (hi:i < t.l.length) (p:List Int) (x u:Tm) (fl:Fl) (h:∀ fl st,callD T (ev T) 73 [encT t.l[i],slE 1 fl (nI p),encT x] st=some (encT u,st)) (st:St) :
  callD T (ev T) 73 [encT t,slE 1 fl (nI ((i:Int)::p)),encT x] st=some (encT (setF .emp t i u),st):=by
 refine callD_pureR (fn:=F73) rfl rfl (by simp) (by simp) ?_
 refine Ret_wp (fn:=F73) rfl ?_
 rw [F73]
 have lo:=fun s bx=>l73 t gt i hi p x u fl h t.l.length 0 s bx (by omega) (by omega)
 rw [List.take_zero] at lo
 simp
 refine WL.useB L73_0_p L73_0_w (WB:=L73_0.wrB) rfl (lo _ _ ?_ ?_ ?_ ?_ ?_ ?_ ?_) ?_
 iterate 7 simp [grown,seed]
 rintro e s' b' st' ⟨rfl,p1,rfl⟩ hf hfb
 have g3:=hf 3 rfl
 have g6:=hf 6 rfl
 have gb3:=hfb 3 rfl
 have gb6:=hfb 6 rfl
 simp at g3 g6 gb3 gb6
 simp [g3,g6,gb3,gb6,p1,fillD,splice]
 rw [encT_eq (setF .emp t i u)]
 rfl
end Go.Nt.Li
set_option linter.unusedSimpArgs false
set_option maxRecDepth 20000
namespace Go.Nt.Li
open Go Go.Nt
def Res (y:Tm) (b:Bool):Option Tm→Prop
 | none=>b=false∧er y=er T0
 | some z=>b=true∧er y=er z
theorem Res.det {y y':Tm} {b b':Bool} {o:Option Tm} (h:Res y b o) (h':Res y' b' o):b=b'∧er y=er y':=by
 cases o <;> exact ⟨h.1.trans h'.1.symm,h.2.trans h'.2.symm⟩
def joinS (ah:List Tm) (X:Tm):Option Tm:=if anyL (nmP 0) 0 X=true then none else some (blT .nil (ah++(mapT qE (raF (-1) 0) 0 X).l))
theorem encT_bl (fl:Fl) (l:List Tm):encT (blT fl l)=.agg [.int .i64 29,.int .i64 0,.str [],slE 6 fl (encTs l),.int .i64 0,.int .i64 0]:=by rw [encT_eq]; rfl
theorem blT_er {f f':Fl} {l l':List Tm} (h:l.map er=l'.map er):er (blT f l)=er (blT f' l'):=(er_iff _ _).2 ⟨rfl,rfl,rfl,h⟩
theorem joinS_er {ah:List Tm} {X Y y:Tm} {b:Bool} (h:er X=er Y) (r:Res y b (joinS ah X)):Res y b (joinS ah Y):=by
 unfold joinS at *
 rw [anyL_er (fun _ _=>rfl) X Y 0 h] at r
 split
 ·next hc=>rw [if_pos hc] at r; exact r
 ·next hc=>
  rw [if_neg hc] at r
  refine ⟨r.1,r.2.trans (blT_er ?_)⟩
  rw [List.map_append,List.map_append,((er_iff _ _).1 (mapT_er (fun d t u h=>raF_er (-1) 0 d t u h) X Y 0 h)).2.2.2]
theorem c33 (fa:Fl) (ah:List Tm) (p r X:Tm) (gx:good X) (lx:lowN 1099511628777 X) (cx:cntT X≤500000) (gah:∀ u,u∈ah→good u) (lah:ah.length≤1000) (st:St) :
  ∃ y b,callD T (ev T) 33 [cutD fa ah p r,encT X] st=some (.tup [encT y,.bool b],st)∧good y∧Res y b (joinS ah X):=by
 have lo:lowN 1000000000000000 X:=by
  have up:∀ (x:Tm),lowN 1099511628777 x→lowN 1000000000000000 x:=by
   intro x
   induction x using Tm.ind with
   | h x ih=>
    intro hx
    obtain ⟨p1,p2⟩:=(lowN_iff _ x).1 hx
    exact (lowN_iff _ x).2 ⟨fun h=>by have:=p1 h; omega,fun y hy=>ih y hy (p2 y hy)⟩
  exact up X lx
 have q:=c61 (-1) 0 (by omega) (by omega) X gx lo (by omega) []
 have ea:anyL (loP (-1) 0) 0 X=anyL (nmP 0) 0 X:=anyL_er (fun d n=>loP_m d n) X X 0 rfl
 rw [ea] at q
 have gz:=low_ok gx lx (by omega)
 have gx0:=(good_iff _).1 gz
 cases hm:anyL (nmP 0) 0 X with
 | true=>
  rw [hm] at q
  have hj:joinS ah X=none:=by unfold joinS; rw [if_pos hm]
  refine ⟨T0,false,?_,good_K 0 (by unfold in64; omega),by rw [hj]; exact ⟨rfl,rfl⟩⟩
  refine callD_pureR (fn:=F33) rfl rfl (by simp) (by simp) ?_
  refine Ret_wp (fn:=F33) rfl ?_
  rw [F33]
  simp only [if_true,Bool.not_true,encT_0] at q
  simp [←encT_eq X,q,splice,fillD]
  rw [encT_0]
 | false=>
  rw [hm] at q
  have hj:joinS ah X=some (blT .nil (ah++(mapT qE (raF (-1) 0) 0 X).l)):=by unfold joinS; rw [if_neg (by rw [hm]; decide)]
  have q2:=c53 ah (mapT qP (raF (-1) 0) 0 X).l fa (mapT qP (raF (-1) 0) 0 X).fl (by omega) gx0.2.2.2.2.2.1 []
  have hl:(mapT qP (raF (-1) 0) 0 X).l.length≤500000:=by
   have e:(mapT qP (raF (-1) 0) 0 X).l.length≤cntT X:=by
    have:=mapT_cnt (q:=qP) (f:=raF (-1) 0) (c:=1) (D:=500000) (by omega) (fun d u _=>raF_cnt (-1) 0 d u) X 0 cx
    have a:=cntT_eq (mapT qP (raF (-1) 0) 0 X)
    have b:=cntTs_len (mapT qP (raF (-1) 0) 0 X).l
    omega
   omega
  have hr:er (blT (catF (ah++(mapT qP (raF (-1) 0) 0 X).l)) (ah++(mapT qP (raF (-1) 0) 0 X).l))=er (blT .nil (ah++(mapT qE (raF (-1) 0) 0 X).l)):=blT_er (by
   rw [List.map_append,List.map_append,((er_iff _ _).1 (mapT_er (q:=qP) (q':=qE) (fun d t u h=>raF_er (-1) 0 d t u h) X X 0 rfl)).2.2.2])
  refine ⟨blT (catF (ah++(mapT qP (raF (-1) 0) 0 X).l)) (ah++(mapT qP (raF (-1) 0) 0 X).l),true,?_,?_,by rw [hj]; exact ⟨rfl,hr⟩⟩
  ·generalize mapT qP (raF (-1) 0) 0 X=Z at *
   refine callD_pureR (fn:=F33) rfl rfl (by simp) (by simp) ?_
   refine Ret_wp (fn:=F33) rfl ?_
   rw [F33]
   simp only [Bool.not_false,Bool.false_eq_true,if_false,encT_eq Z] at q
   rw [encT_bl]
   simp [←encT_eq X,q,q2,splice,fillD]
  ·refine (good_iff _).2 ⟨(show in64 29 by unfold in64; decide),(show in64 0 by unfold in64; decide),(show ([]:List UInt8).length≤_ by simp),(show in64 0 by unfold in64; decide),(show in64 0 by unfold in64; decide),?_,fun u hu=>?_⟩
   ·show (ah++(mapT qP (raF (-1) 0) 0 X).l).length≤1000000
    simp only [List.length_append]; omega
   ·rcases List.mem_append.1 (show u∈ah++(mapT qP (raF (-1) 0) 0 X).l from hu) with h | h
    ·exact gah u h
    ·exact gx0.2.2.2.2.2.2 u h
def CondE (m e r:Tm):Prop:=qtT e=true∧setR 0 0 r=false∧(∀ n,n∈loT e→n < 0∨setR (n+1) 0 r=false)∧¬ ∃ x,x∈glT e∧WrP m r x
def IsE (m:Tm) (ah:List Tm) (e r y:Tm) (b:Bool):Prop:=(CondE m e r∧Res y b (joinS ah (mapT qE (puF (upR e) 0) 0 r)))∨(¬ CondE m e r∧Res y b none)
theorem IsE.det {m:Tm} {ah:List Tm} {e r y y':Tm} {b b':Bool} (h:IsE m ah e r y b) (h':IsE m ah e r y' b'):b=b'∧er y=er y':=by
 rcases h with ⟨c,h⟩ | ⟨c,h⟩ <;> rcases h' with ⟨c',h'⟩ | ⟨c',h'⟩
 ·exact h.det h'
 ·exact absurd c c'
 ·exact absurd c' c
 ·exact h.det h'
theorem c20 (m:Tm) (gm:good m) (hm:cntT m≤400) (fa:Fl) (ah:List Tm) (p r e:Tm) (hk:p.k=20) (hp:p.l=[e]) (ge:good e) (le:lowN 1099511627776 e) (ce:cntT e≤400) (gr:good r) (lr:lowN 1099511627776 r) (cr:cntT r≤400) (gah:∀ u,u∈ah→good u) (lah:ah.length≤1000) (st:St) :
  ∃ y b,callD T (ev T) 20 [cutD fa ah p r,encT m] st=some (.tup [encT y,.bool b],st)∧good y∧IsE m ah e r y b:=by
 have up:∀ (x:Tm),lowN 1099511627777 x→lowN 1000000000000000 x:=by
  intro x
  induction x using Tm.ind with
  | h x ih=>
   intro hx
   obtain ⟨p1,p2⟩:=(lowN_iff _ x).1 hx
   exact (lowN_iff _ x).2 ⟨fun h=>by have:=p1 h; omega,fun y hy=>ih y hy (p2 y hy)⟩
 have up1:∀ (x:Tm),lowN 1099511627776 x→lowN 1099511627777 x:=by
  intro x
  induction x using Tm.ind with
  | h x ih=>
   intro hx
   obtain ⟨p1,p2⟩:=(lowN_iff _ x).1 hx
   exact (lowN_iff _ x).2 ⟨fun h=>by have:=p1 h; omega,fun y hy=>ih y hy (p2 y hy)⟩
 have q27:=fun st=>c27 fa ah p r st
 rw [if_pos (show p.k=20∧p.l.length=1 from ⟨hk,by rw [hp]; rfl⟩),decide_eq_true (show p.k=20∧p.l.length=1 from ⟨hk,by rw [hp]; rfl⟩),show p.l.headD T0=e by rw [hp]; rfl,encT_eq e] at q27
 have q28:=c28 e ge (by omega)
 have q29:=c29 r gr 0 (by omega)
 rw [show ((0:Nat):Int)=0 from rfl] at q29
 obtain ⟨b30,q30,h30⟩:=c30 fa ah p r gr cr e ge le []
 obtain ⟨b32,q32,h32⟩:=c32 m r e gm gr ge hm cr ce []
 have q35:=c35 e ge (up e (up1 e le)) (by omega)
 rw [loP_1,anyL_no,if_neg (by decide)] at q35
 obtain ⟨gu,lu,cu⟩:=upP_ok ge le ce
 have q34:=c34 (upP e) gu (up _ lu) (by omega) 0 r gr (up r (up1 r lr)) (by omega)
 obtain ⟨gx,lx,cx⟩:=sub_ok gu lu cu gr lr cr
 obtain ⟨y,b,q33,gy,hy⟩:=c33 fa ah p r _ gx lx (by omega) gah lah []
 have hy':=joinS_er (mapT_er (q':=qE) (fun d t u h=>put_er (up_er e) d t u h) r r 0 rfl) hy
 have e0:=asg_0 0 (by omega) r
 have en:(∀ n,n∈loT e→n < 0∨asg (n+1) r=false)↔∀ n,n∈loT e→n < 0∨setR (n+1) 0 r=false:=by
  constructor
  ·intro h n hn
   rcases h n hn with h | h
   ·exact .inl h
   ·by_cases h0:n < 0
    ·exact .inl h0
    ·exact .inr (by rw [←asg_0 _ (by omega)]; exact h)
  ·intro h n hn
   rcases h n hn with h | h
   ·exact .inl h
   ·by_cases h0:n < 0
    ·exact .inl h0
    ·exact .inr (by rw [asg_0 _ (by omega)]; exact h)
 rw [en] at h30
 rw [e0] at q29
 have bad:¬ CondE m e r→(∀ y b,callD T (ev T) 20 [cutD fa ah p r,encT m] st=some (.tup [encT y,.bool b],st)→y=T0→b=false→∃ y b,callD T (ev T) 20 [cutD fa ah p r,encT m] st=some (.tup [encT y,.bool b],st)∧good y∧IsE m ah e r y b):=by
  rintro hc y b hq rfl rfl
  exact ⟨T0,false,hq,good_K 0 (by unfold in64; omega),.inr ⟨hc,rfl,rfl⟩⟩
 unfold upP at q34 q33
 generalize mapT qP (raF 1 0) 0 e=E1 at *
 generalize mapT qP (pgF E1 0) 0 r=X at *
 cases hq:qtT e with
 | false=>
  refine bad (fun c=>by rw [c.1] at hq; cases hq) T0 false ?_ rfl rfl
  rw [hq] at q28
  refine callD_pureR (fn:=F20) rfl rfl (by simp) (by simp) ?_
  refine Ret_wp (fn:=F20) rfl ?_
  rw [F20]
  simp [q27,←encT_eq e,q28,splice,fillD]
  rw [encT_0]
 | true=>
  rw [hq] at q28
  cases hs:setR 0 0 r with
  | true=>
   refine bad (fun c=>by rw [c.2.1] at hs; cases hs) T0 false ?_ rfl rfl
   rw [hs] at q29
   refine callD_pureR (fn:=F20) rfl rfl (by simp) (by simp) ?_
   refine Ret_wp (fn:=F20) rfl ?_
   rw [F20]
   simp [q27,←encT_eq e,←encT_eq r,q28,q29,splice,fillD]
   rw [encT_0]
  | false=>
   rw [hs] at q29
   cases b30 with
   | false=>
    refine bad (fun c=>by have:=h30.2 c.2.2.1; cases this) T0 false ?_ rfl rfl
    refine callD_pureR (fn:=F20) rfl rfl (by simp) (by simp) ?_
    refine Ret_wp (fn:=F20) rfl ?_
    rw [F20]
    simp [q27,←encT_eq e,←encT_eq r,q28,q29,q30,splice,fillD]
    rw [encT_0]
   | true=>
    cases b32 with
    | true=>
     refine bad (fun c=>c.2.2.2 (h32.1 rfl)) T0 false ?_ rfl rfl
     refine callD_pureR (fn:=F20) rfl rfl (by simp) (by simp) ?_
     refine Ret_wp (fn:=F20) rfl ?_
     rw [F20]
     simp [q27,←encT_eq e,←encT_eq r,←encT_eq m,q28,q29,q30,q32,splice,fillD]
     rw [encT_0]
    | false=>
     refine ⟨y,b,?_,gy,.inl ⟨⟨hq,hs,h30.1 rfl,fun h=>by have:=h32.2 h; cases this⟩,hy'⟩⟩
     refine callD_pureR (fn:=F20) rfl rfl (by simp) (by simp) ?_
     refine Ret_wp (fn:=F20) rfl ?_
     rw [F20]
     rw [encT_eq y] at q33
     simp [q27,←encT_eq e,←encT_eq r,←encT_eq m,q28,q29,q30,q32,q35,q34,q33,splice,fillD]
     rw [encT_eq y]
end Go.Nt.Li
set_option linter.unusedSimpArgs false
set_option maxRecDepth 20000
namespace Go.Nt.Li
open Go Go.Nt
theorem front_lt {t:Tm} (h:0≤frontT t):(frontT t).toNat < t.l.length∧((frontT t).toNat:Int)=frontT t:=by
 refine ⟨?_,by omega⟩
 unfold frontT at *
 split
 ·next hc=>exact hc.2
 ·next hc=>
  rw [if_neg hc] at h
  split
  ·next hd=>exact hd.2
  ·next hd=>rw [if_neg hd] at h; omega
def hdT (r:Tm):Tm:=r.l.headD T0
def frP (r:Tm):Tm:=((hdT r).l[(frontT (hdT r)).toNat]?).getD T0
def pu2 (fl:Fl) (r x:Tm):Tm:=setF fl r 0 (setF fl (hdT r) (frontT (hdT r)).toNat x)
def CondN (m e r:Tm):Prop:=qtT e=true∧r.l≠[]∧0≤frontT (hdT r)∧(¬ ∃ x,x∈glT e∧WrP m (frP r) x)∧anyL (nmP 0) 0 (pu2 .emp r (tK 5))=false
def IsN (m:Tm) (ah:List Tm) (e r y:Tm) (b:Bool):Prop:=(CondN m e r∧Res y b (joinS ah (pu2 .emp r (mapT qE (puF (upR e) 0) 0 (frP r)))))∨(¬ CondN m e r∧Res y b none)
theorem IsN.det {m:Tm} {ah:List Tm} {e r y y':Tm} {b b':Bool} (h:IsN m ah e r y b) (h':IsN m ah e r y' b'):b=b'∧er y=er y':=by
 rcases h with ⟨c,h⟩ | ⟨c,h⟩ <;> rcases h' with ⟨c',h'⟩ | ⟨c',h'⟩
 ·exact h.det h'
 ·exact absurd c c'
 ·exact absurd c' c
 ·exact h.det h'
theorem low_up {A B:Int} (h:A≤B) (x:Tm):lowN A x→lowN B x:=by
 induction x using Tm.ind with
 | h x ih=>
  intro hx
  obtain ⟨p1,p2⟩:=(lowN_iff _ x).1 hx
  exact (lowN_iff _ x).2 ⟨fun h=>by have:=p1 h; omega,fun y hy=>ih y hy (p2 y hy)⟩
theorem c21 (m:Tm) (gm:good m) (hm:cntT m≤400) (fa:Fl) (ah:List Tm) (p r e:Tm) (hk:p.k=20) (hp:p.l=[e]) (ge:good e) (le:lowN 1099511627776 e) (ce:cntT e≤400) (gr:good r) (lr:lowN 1099511627776 r) (cr:cntT r≤400) (gah:∀ u,u∈ah→good u) (lah:ah.length≤1000) (st:St) :
  ∃ y b,callD T (ev T) 21 [cutD fa ah p r,encT m] st=some (.tup [encT y,.bool b],st)∧good y∧IsN m ah e r y b:=by
 have q27:=fun st=>c27 fa ah p r st
 rw [if_pos (show p.k=20∧p.l.length=1 from ⟨hk,by rw [hp]; rfl⟩),decide_eq_true (show p.k=20∧p.l.length=1 from ⟨hk,by rw [hp]; rfl⟩),show p.l.headD T0=e by rw [hp]; rfl,encT_eq e] at q27
 have q28:=c28 e ge (by omega)
 have bad:¬ CondN m e r→(callD T (ev T) 21 [cutD fa ah p r,encT m] st=some (.tup [encT T0,.bool false],st))→∃ y b,callD T (ev T) 21 [cutD fa ah p r,encT m] st=some (.tup [encT y,.bool b],st)∧good y∧IsN m ah e r y b:=by
  intro hc hq
  exact ⟨T0,false,hq,good_K 0 (by unfold in64; omega),.inr ⟨hc,rfl,rfl⟩⟩
 cases hq:qtT e with
 | false=>
  refine bad (fun c=>by rw [c.1] at hq; cases hq) ?_
  rw [hq] at q28
  refine callD_pureR (fn:=F21) rfl rfl (by simp) (by simp) ?_
  refine Ret_wp (fn:=F21) rfl ?_
  rw [F21]
  simp [q27,←encT_eq e,q28,splice,fillD]
  rw [encT_0]
 | true=>
  rw [hq] at q28
  by_cases hne:r.l=[]
  ·refine bad (fun c=>c.2.1 hne) ?_
   refine callD_pureR (fn:=F21) rfl rfl (by simp) (by simp) ?_
   refine Ret_wp (fn:=F21) rfl ?_
   rw [F21]
   have hz:(r.l=[])=True:=eq_true hne
   simp [q27,←encT_eq e,q28,hz,splice,fillD]
   rw [encT_0]
  ·have h0:0 < r.l.length:=List.length_pos_iff.2 hne
   have hx:hdT r=r.l[0]:=by unfold hdT; rw [List.headD_eq_head?_getD,List.head?_eq_getElem?,List.getElem?_eq_getElem h0]; rfl
   have gx:good r.l[0]:=good_mem gr (List.getElem_mem h0)
   have cx:=cntTs_mem (List.getElem_mem h0)
   have er':=cntT_eq r
   have lx:=((lowN_iff _ r).1 lr).2 _ (List.getElem_mem h0)
   have q36:=c36 r.l[0] gx
   by_cases hf:frontT r.l[0] < 0
   ·refine bad (fun c=>by have:=c.2.2.1; rw [hx] at this; omega) ?_
    refine callD_pureR (fn:=F21) rfl rfl (by simp) (by simp) ?_
    refine Ret_wp (fn:=F21) rfl ?_
    rw [F21]
    simp [q27,←encT_eq e,q28,hne,h0,q36,hf,splice,fillD]
    rw [encT_0]
   ·obtain ⟨hn,hni⟩:=front_lt (t:=r.l[0]) (by omega)
    have gf:=good_mem gx (List.getElem_mem hn)
    have cf:=cntTs_mem (List.getElem_mem hn)
    have ex':=cntT_eq r.l[0]
    have lf:=((lowN_iff _ r.l[0]).1 lx).2 _ (List.getElem_mem hn)
    have hfr:frP r=r.l[0].l[(frontT r.l[0]).toNat]:=by unfold frP; rw [hx,List.getElem?_eq_getElem hn]; rfl
    obtain ⟨b32,q32,h32⟩:=c32 m _ e gm gf ge hm (by omega) ce []
    have q37:∀ x st,callD T (ev T) 37 [encT r,.sl 1 true [.i 0,.int .i64 (frontT r.l[0])],encT x] st=some (.tup [encT (pu2 .part r x),.bool true],st):=fun x st=>by
     have:=c37_s r gr 0 h0 [frontT r.l[0]] x (setF .part r.l[0] (frontT r.l[0]).toNat x) .full (fun fl st=>by
      have:=c37_s r.l[0] gx (frontT r.l[0]).toNat hn [] x x fl (fun fl st=>c37_0 _ x st fl) st
      rw [hni] at this
      exact this) st
     unfold pu2
     rw [hx]
     exact this
    have gpu:∀ {x:Tm},good x→good (pu2 .part r x):=fun g=>by unfold pu2; rw [hx]; exact setF_good 0 gr (setF_good _ gx g)
    have lpu:∀ {B:Int} {x:Tm},1099511627776≤B→lowN B x→lowN B (pu2 .part r x):=fun hB l=>by unfold pu2; rw [hx]; exact setF_low 0 (low_up hB _ lr) (setF_low _ (low_up hB _ lx) l)
    have cpu:∀ x:Tm,cntT (pu2 .part r x)≤800+cntT x:=fun x=>by
     unfold pu2
     rw [hx]
     have a:=setF_cnt .part r 0 (setF .part r.l[0] (frontT r.l[0]).toNat x)
     have b:=setF_cnt .part r.l[0] (frontT r.l[0]).toNat x
     omega
    have q37n:=q37 (tK 5)
    rw [encT_K] at q37n
    have gk:good (tK 5):=good_K 5 (by unfold in64; omega)
    have lk:lowN 1099511627776 (tK 5):=(lowN_iff _ _).2 ⟨fun h=>absurd (show (5:Int)=7 from h) (by decide),fun u hu=>by cases hu⟩
    have ck:cntT (tK 5)=1:=by rw [cntT_eq]; rfl
    have q38:=c38 0 (pu2 .part r (tK 5)) (gpu gk) (lpu (by omega) (low_up (by omega) _ lk)) (by have:=cpu (tK 5); omega)
    have e38:anyL (fnP 0) 0 (pu2 .part r (tK 5))=anyL (nmP 0) 0 (pu2 .emp r (tK 5)):=anyL_er (fun d n=>fnP_n 0 (by omega) d n) _ _ 0 (setF_er 0 rfl (setF_er _ rfl rfl))
    rw [e38] at q38
    have q35:=c35 e ge (low_up (by omega) _ le) (by omega)
    rw [loP_1,anyL_no,if_neg (by decide)] at q35
    obtain ⟨gu,lu,cu⟩:=upP_ok ge le ce
    have q34:=c34 (upP e) gu (low_up (by omega) _ lu) (by omega) 0 _ gf (low_up (by omega) _ lf) (by omega)
    obtain ⟨gX,lX,cX⟩:=sub_ok gu lu cu gf lf (by omega)
    obtain ⟨y,b,q33,gy,hy⟩:=c33 fa ah p r (pu2 .part r (mapT qP (pgF (upP e) 0) 0 (r.l[0].l[(frontT r.l[0]).toNat]))) (gpu gX) (lpu (by omega) lX) (by have:=cpu (mapT qP (pgF (upP e) 0) 0 (r.l[0].l[(frontT r.l[0]).toNat])); omega) gah lah []
    have hy':Res y b (joinS ah (pu2 .emp r (mapT qE (puF (upR e) 0) 0 (frP r)))):=by
     rw [hfr]
     refine joinS_er ?_ hy
     exact setF_er 0 rfl (setF_er _ rfl (mapT_er (fun d t u h=>put_er (up_er e) d t u h) _ _ 0 rfl))
    rw [←hfr] at h32
    have q37x:=q37 (mapT qP (pgF (upP e) 0) 0 (r.l[0].l[(frontT r.l[0]).toNat]))
    have hc2:∀ {P:Prop},(anyL (nmP 0) 0 (pu2 .emp r (tK 5))=true→¬ CondN m e r):=fun h c=>by rw [c.2.2.2.2] at h; cases h
    unfold upP at q34 q33 q37x
    clear q37 gpu lpu cpu hy hfr e38 hc2
    have nf:¬ frontT r.l[0] < 0:=hf
    have eN:frontT (hdT r)=frontT r.l[0]:=by rw [hx]
    have cN:∀ h:anyL (nmP 0) 0 (pu2 .emp r (tK 5))=true,¬ CondN m e r:=fun h c=>by rw [c.2.2.2.2] at h; cases h
    have cY:b32=false→anyL (nmP 0) 0 (pu2 .emp r (tK 5))=false→CondN m e r:=fun h1 h2=>⟨hq,hne,by rw [hx]; omega,fun h=>(by have:=h32.2 h; rw [h1] at this; cases this),h2⟩
    have cW:b32=true→¬ CondN m e r:=fun h c=>c.2.2.2.1 (h32.1 h)
    clear h32
    generalize mapT qP (raF 1 0) 0 e=E1 at *
    generalize pu2 .part r (tK 5)=W0 at *
    generalize anyL (nmP 0) 0 (pu2 .emp r (tK 5))=bm at *
    generalize hpX:pu2 .part r (mapT qP (pgF E1 0) 0 (r.l[0].l[(frontT r.l[0]).toNat]))=PX at *
    generalize mapT qP (pgF E1 0) 0 (r.l[0].l[(frontT r.l[0]).toNat])=X at *
    have hfn:(frontT r.l[0]).toNat < r.l[0].l.length:=hn
    cases b32 with
    | true=>
     refine bad (cW rfl) ?_
     refine callD_pureR (fn:=F21) rfl rfl (by simp) (by simp) ?_
     refine Ret_wp (fn:=F21) rfl ?_
     rw [F21]
     rw [encT_eq W0] at q37n
     simp [q27,←encT_eq e,←encT_eq r,←encT_eq m,q28,hne,h0,q36,nf,hfn,q37n,q32,←encT_eq (r.l[0].l[(frontT r.l[0]).toNat]),splice,fillD]
     rw [encT_0]
    | false=>
     cases bm with
     | true=>
      refine bad (cN rfl) ?_
      refine callD_pureR (fn:=F21) rfl rfl (by simp) (by simp) ?_
      refine Ret_wp (fn:=F21) rfl ?_
      rw [F21]
      rw [encT_eq W0] at q37n
      simp [q27,←encT_eq e,←encT_eq r,←encT_eq m,q28,hne,h0,q36,nf,hfn,q37n,q32,←encT_eq (r.l[0].l[(frontT r.l[0]).toNat]),←encT_eq W0,q38,splice,fillD]
      rw [encT_0]
     | false=>
      refine ⟨y,b,?_,gy,.inl ⟨cY rfl rfl,hy'⟩⟩
      refine callD_pureR (fn:=F21) rfl rfl (by simp) (by simp) ?_
      refine Ret_wp (fn:=F21) rfl ?_
      rw [F21]
      rw [encT_eq W0] at q37n
      rw [encT_eq y] at q33
      rw [encT_eq PX] at q37x
      simp [q27,←encT_eq e,←encT_eq r,←encT_eq m,q28,hne,h0,q36,nf,hfn,q37n,q32,←encT_eq (r.l[0].l[(frontT r.l[0]).toNat]),←encT_eq W0,q38,q35,q34,q37x,←encT_eq PX,q33,splice,fillD]
      rw [encT_eq y]
end Go.Nt.Li
set_option linter.unusedSimpArgs false
set_option maxRecDepth 20000
namespace Go.Nt.Li
open Go Go.Nt
theorem RowT.fz1' {st:St} {d:D} {L:List Tm} {K:Nat} (h:RowT st d L K):∃ fl st',fz1 st d=some (slE 6 fl (encTs L),st'):=by
 obtain ⟨fl,st',e⟩:=h.fz
 refine ⟨fl,st',?_⟩
 rw [←e]
 rcases h with rfl | ⟨id,ver,md,rfl,_⟩ <;> rfl
theorem RowT.nil (st:St):RowT st (.sl 6 true []) [] 0:=.inl rfl
theorem c15 (fl:Fl) (l:List Tm) (st:St):callD T (ev T) 15 [slE 6 fl (encTs l)] st=some (encT (blT fl l),st):=by
 have q:∀ st,callD T (ev T) 16 [.i 29,slE 6 fl (encTs l)] st=some (encT (blT fl l),st):=fun st=>by
  refine callD_pureR (fn:=F16) rfl rfl (by simp) (by simp) ?_
  refine Ret_wp (fn:=F16) rfl ?_
  rw [F16,encT_bl]
  simp [splice,fillD]
 refine callD_pureR (fn:=F15) rfl rfl (by simp) (by simp) ?_
 refine Ret_wp (fn:=F15) rfl ?_
 rw [F15]
 rw [encT_bl] at q ⊢
 simp [q,splice]
theorem c15r {st:St} {d:D} {l:List Tm} {K:Nat} (h:RowT st d l K):∃ fl st',callD T (ev T) 15 [d] st=some (encT (blT fl l),st'):=by
 obtain ⟨fl,st',e⟩:=h.fz1'
 exact ⟨fl,st',callD_args (fn:=F15) rfl rfl (by simp only [pureArgs,e,Option.bind_some,slE_pure,if_true]) (by simp) (c15 fl l st')⟩
theorem c41 (t:Tm) (gt:good t) (i:Nat) (hi:i < t.l.length) (st:St):∃ fl,callD T (ev T) 41 [encT t,.i i] st=some (encT (blT fl (t.l.drop (i+1))),st):=by
 have hl:=good_len gt
 have hw:IntKind.wrap .i64 ((i:Int)+1)=((i+1:Nat):Int):=by rw [wrap64] <;> omega
 have e2:=slE_from 6 t.fl (encTs t.l) .i64 ((i+1:Nat):Int) (by omega) (by simp; omega)
 simp only [Int.toNat_natCast,encTs_drop] at e2
 obtain ⟨d1,st1,qa,h1⟩:=(RowT.nil []).app (by omega) (by simp) (t.l.drop (i+1)) (by simp; omega)
 rw [List.nil_append] at h1
 obtain ⟨fl,st2,q⟩:=c15r h1
 rw [encT_bl] at q
 refine ⟨fl,callD_pureR (fn:=F41) rfl rfl (by simp) (by simp) ?_⟩
 refine Ret_wp (fn:=F41) rfl ?_
 rw [F41,encT_bl]
 simp [hw,e2,qa,q,splice,-Int.natCast_add]
theorem upR_ok {e:Tm} (ge:good e) (le:lowN 1099511627776 e) (ce:cntT e≤400):good (upR e)∧lowN 1099511627777 (upR e)∧cntT (upR e)≤400:=by
 obtain ⟨h1,h2⟩:=mapT_ok (q:=qE) (f:=raF 1 0) (A:=1099511627776) (B:=1099511627777) (D:=400) (fun d u _ h7 gu lu=>raF_ok (by omega) (by omega) (by omega) (by omega) (by omega) d u h7 gu lu) e 0 ge le (by omega)
 have:=mapT_cnt (q:=qE) (f:=raF 1 0) (c:=1) (D:=400) (by omega) (fun d u _=>raF_cnt 1 0 d u) e 0 ce
 exact ⟨h1,h2,by unfold upR; omega⟩
theorem subR_ok {e r:Tm} (ge:good e) (le:lowN 1099511627777 e) (ce:cntT e≤400) (gr:good r) (lr:lowN 1099511627776 r) (cr:cntT r≤400):good (mapT qE (puF e 0) 0 r)∧lowN 1099511628777 (mapT qE (puF e 0) 0 r)∧cntT (mapT qE (puF e 0) 0 r)≤160000:=by
 obtain ⟨h1,h2⟩:=mapT_ok (q:=qE) (f:=puF e 0) (A:=1099511627776) (B:=1099511628777) (D:=400) (fun d u hd h7 gu lu=>by
  unfold puF
  by_cases hc:(0:Int)≤0∧(if u.n < d then -1 else u.n - d)=0
  ·rw [if_pos hc]
   exact mapT_ok (D:=400) (fun d' u' _ h7 gu lu=>raF_ok (by omega) (by omega) (by omega) (by omega) (by omega) d' u' h7 gu lu) e 0 ge le (by omega)
  ·rw [if_neg hc]; exact ⟨gu,low_up (by omega) _ lu⟩) r 0 gr lr (by omega)
 refine ⟨h1,h2,?_⟩
 have:=mapT_cnt (q:=qE) (f:=puF e 0) (c:=400) (D:=400) (by omega) (fun d u hu=>by
  unfold puF
  have:=cntT_eq u
  by_cases hc:(0:Int)≤0∧(if u.n < d then -1 else u.n - d)=0
  ·rw [if_pos hc]
   have:=mapT_cnt (q:=qE) (f:=raF d 0) (c:=1) (D:=400) (by omega) (fun d' u' _=>raF_cnt d 0 d' u') e 0 ce
   omega
  ·rw [if_neg hc]; omega) r 0 cr
 omega
theorem c40 (t:Tm) (gt:good t) (i:Nat) (hi:i < t.l.length) (hl:t.l.length≤1000) (Y:Tm) (gy:good Y) (ly:lowN 1099511628777 Y) (cy:cntT Y≤500000) (st:St) :
  ∃ y b,callD T (ev T) 40 [encT t,.i i,encT Y] st=some (.tup [encT y,.bool b],st)∧Res y b (joinS (t.l.take i) Y):=by
 have q65:=c65 0 Y gy (by omega)
 rw [show decide ((0:Int)≤0)=true from rfl,Bool.true_and] at q65
 have q66:=c66 (-1) 0 (by omega) (by omega) Y gy (low_up (by omega) _ ly) 0 (by omega)
 rw [show ((0:Nat):Int)=0 from rfl] at q66
 cases hm:anyL (nmP 0) 0 Y with
 | true=>
  rw [hm] at q65
  have hj:joinS (t.l.take i) Y=none:=by unfold joinS; rw [if_pos hm]
  refine ⟨T0,false,?_,by rw [hj]; exact ⟨rfl,rfl⟩⟩
  refine callD_pureR (fn:=F40) rfl rfl (by simp) (by simp) ?_
  refine Ret_wp (fn:=F40) rfl ?_
  rw [F40]
  simp [←encT_eq Y,q65,splice,fillD]
  rw [encT_0]
 | false=>
  rw [hm] at q65
  have hj:joinS (t.l.take i) Y=some (blT .nil (t.l.take i++(mapT qE (raF (-1) 0) 0 Y).l)):=by unfold joinS; rw [if_neg (by rw [hm]; decide)]
  obtain ⟨fa,e1⟩:=slice_to t.fl t.l i (by omega)
  obtain ⟨d1,st1,qa,h1⟩:=(RowT.nil []).app (by omega) (by simp) (t.l.take i) (by simp; omega)
  rw [List.nil_append] at h1
  have hzl:(mapT qE (raF (-1) 0) 0 Y).l.length≤500000:=by
   have:=mapT_cnt (q:=qE) (f:=raF (-1) 0) (c:=1) (D:=500000) (by omega) (fun d u _=>raF_cnt (-1) 0 d u) Y 0 cy
   have a:=cntT_eq (mapT qE (raF (-1) 0) 0 Y)
   have b:=cntTs_len (mapT qE (raF (-1) 0) 0 Y).l
   omega
  generalize mapT qE (raF (-1) 0) 0 Y=Z at *
  obtain ⟨d2,st2,qb,h2⟩:=h1.app (by omega) (by simp; omega) Z.l (by omega)
  obtain ⟨fl,st3,q⟩:=c15r h2
  rw [hj]
  refine ⟨blT fl (t.l.take i++Z.l),true,?_,rfl,blT_er rfl⟩
  refine callD_pureR (fn:=F40) rfl rfl (by simp) (by simp) ?_
  refine Ret_wp (fn:=F40) rfl ?_
  rw [encT_bl] at q ⊢
  rw [encT_eq Z] at q66
  rw [F40]
  simp [←encT_eq Y,q65,q66,e1,qa,qb,q,splice]
theorem c68 (m t e:Tm) (gm:good m) (gt:good t) (ge:good e) (hm:cntT m≤400) (ht:cntT t≤400) (he:cntT e≤400) (st:St):∃ p,callD T (ev T) 68 [encT m,encT t,encT e] st=some (.bool p,st)∧(p=true↔∃ x,x∈glT e∧WrP m t x):=by
 obtain ⟨fl,q1⟩:=c102 e ge (by omega) []
 have g2:=glT_len e
 obtain ⟨f1,R,f2,W,f,q2,w1,w2⟩:=c103 m t gm gt hm ht []
 obtain ⟨p,hp⟩:∃ p:Bool,p=true↔∃ x,x∈glT e∧x∈W:=by
  rcases Classical.em (∃ x,x∈glT e∧x∈W) with h | h
  ·exact ⟨true,by simp [h]⟩
  ·exact ⟨false,by simp only [h]; simp⟩
 refine ⟨p,?_,by rw [hp]; simp only [w2]⟩
 have q3:=c101 fl f2 (glT e) W (by omega) w1 [] p hp
 refine callD_pureR (fn:=F68) rfl rfl (by simp) (by simp) ?_
 refine Ret_wp (fn:=F68) rfl ?_
 rw [F68]
 simp [←encT_eq,q1,q2,q3]
def Q42 (st:St) (P:Prop) (ex:Ex) (s':List D) (b':List (Nat × List D)) (st':St):Prop:=(ex=.exit 0∧st'=st∧P∧getB b' 6=(1,zT))∨(ex=.ret∧get s' 7=.bool false∧getB b' 6=(1,[.int .i64 0,.int .i64 0,.str [],.nils,.int .i64 0,.int .i64 0])∧¬ P)
theorem l42 (r:Tm) (gr:good r) (cr:cntT r≤400) (fl:Fl) (l:List Int) (hl:l.length≤1000000) (hb:∀ n,n∈l→n≤1000000000000000):∀ (q i:Nat) (s:List D) (bx:List (Nat × List D)) (st:St),q=l.length - i→i≤l.length →
  get s 6=.lp 6 1 0→getB bx 6=(1,zT)→get s 9=.lp 9 1 0→getB bx 9=(1,clT r)→get s 10=slE 1 fl (nI l)→get s 11=.i i→Stops (lp T L42_0 ⟨⟨s,bx⟩,st⟩) (Q42 st (∀ n,n∈l.drop i→n < 0∨setR (n+1) 0 r=false)):=by
 intro q
 induction q with
 | zero=>
  intro i s bx st hr hi h6 b6 h9 b9 h10 h11
  have e:i=l.length:=by omega
  subst e
  refine Stops_wp L42_0.eq_1 ?_
  simp [h10,h11]
  exact .inl ⟨rfl,rfl,by simp,b6⟩
 | succ q ih=>
  intro i s bx st hr hi h6 b6 h9 b9 h10 h11
  have hlt:i < l.length:=by omega
  have hw:IntKind.wrap .i64 ((i:Int)+1)=((i+1:Nat):Int):=by rw [wrap64] <;> omega
  have hn:=hb _ (List.getElem_mem hlt)
  have nx:=fun s' bx'=>ih (i+1) s' bx' st (by omega) (by omega)
  have hd:(∀ n,n∈l.drop i→n < 0∨setR (n+1) 0 r=false)↔((l[i] < 0∨setR (l[i]+1) 0 r=false)∧∀ n,n∈l.drop (i+1)→n < 0∨setR (n+1) 0 r=false):=by
   rw [List.drop_eq_getElem_cons hlt]
   simp only [List.mem_cons]
   exact ⟨fun h=>⟨h _ (.inl rfl),fun n hn=>h n (.inr hn)⟩,fun h n hn=>hn.elim (fun e=>e ▸ h.1) (h.2 n)⟩
  rw [hd]
  generalize (∀ n,n∈l.drop (i+1)→n < 0∨setR (n+1) 0 r=false)=P at *
  by_cases h0:l[i] < 0
  ·have h0':¬ (0:Int)≤l[i]:=by omega
   have e:((l[i] < 0∨setR (l[i]+1) 0 r=false)∧P)=P:=propext ⟨fun h=>h.2,fun h=>⟨.inl h0,h⟩⟩
   rw [e]
   refine Stops_wp L42_0.eq_1 ?_
   simp [h9,b9,h10,h11,hlt,h0',hw,-Int.natCast_add]
   refine nx _ _ ?_ ?_ ?_ ?_ ?_ ?_ <;> simp [h6,b6,h9,b9,h10]
  ·have h0':(0:Int)≤l[i]:=by omega
   have hw2:IntKind.wrap .i64 (l[i]+1)=l[i]+1:=by rw [wrap64] <;> omega
   have q67:=c67 (l[i]+1) r gr (by omega) st
   rw [decide_eq_true (show (0:Int)≤l[i]+1 by omega),Bool.true_and] at q67
   cases hs:setR (l[i]+1) 0 r with
   | true=>
    rw [hs] at q67
    have e:((l[i] < 0∨true=false)∧P)=False:=eq_false fun h=>h.1.elim h0 (by decide)
    rw [e]
    refine Stops_wp L42_0.eq_1 ?_
    simp [h6,b6,h9,b9,h10,h11,hlt,h0',hw2,←encT_eq r,q67,splice,fillD]
    exact .inr ⟨rfl,by simp,by simp,id⟩
   | false=>
    rw [hs] at q67
    have e:((l[i] < 0∨false=false)∧P)=P:=propext ⟨fun h=>h.2,fun h=>⟨.inr rfl,h⟩⟩
    rw [e]
    refine Stops_wp L42_0.eq_1 ?_
    simp [h6,b6,h9,b9,h10,h11,hlt,h0',hw2,←encT_eq r,q67,hw,-Int.natCast_add]
    refine nx _ _ ?_ ?_ ?_ ?_ ?_ ?_ <;> simp [h6,b6,h9,b9,h10]
theorem blT_ok {t:Tm} (gt:good t) (lt:lowN 1099511627776 t) (ct:cntT t≤400) (k:Nat) (fl:Fl):good (blT fl (t.l.drop k))∧lowN 1099511627776 (blT fl (t.l.drop k))∧cntT (blT fl (t.l.drop k))≤400:=by
 have g:=(good_iff t).1 gt
 have l2:=((lowN_iff _ t).1 lt).2
 refine ⟨(good_iff _).2 ⟨(show in64 29 by unfold in64; decide),(show in64 0 by unfold in64; decide),(show ([]:List UInt8).length≤_ by simp),(show in64 0 by unfold in64; decide),(show in64 0 by unfold in64; decide),?_,fun u hu=>?_⟩,(lowN_iff _ _).2 ⟨fun h=>absurd (show (29:Int)=7 from h) (by decide),fun u hu=>l2 u (List.mem_of_mem_drop hu)⟩,?_⟩
 ·show (t.l.drop k).length≤_
  have:=g.2.2.2.2.2.1
  simp; omega
 ·exact g.2.2.2.2.2.2 u (List.mem_of_mem_drop hu)
 ·have a:=cntT_eq t
  have b:cntTs (t.l.drop k)≤cntTs t.l:=by
   have:=cntTs_app (t.l.take k) (t.l.drop k)
   rw [List.take_append_drop] at this; omega
  rw [cntT_eq]
  show cntTs (t.l.drop k)+1≤400
  omega
theorem lo_low (B:Int) (e:Tm):lowN B e→∀ n,n∈loT e→n≤B:=by
 induction e using Tm.ind with
 | h e ih=>
  intro le n hn
  obtain ⟨h1,h2⟩:=(lowN_iff B e).1 le
  rw [loT_eq] at hn
  by_cases h7:e.k=7
  ·rw [if_pos h7,List.mem_singleton] at hn; subst hn; exact h1 h7
  ·rw [if_neg h7] at hn
   have parts:∀ l:List Tm,(∀ y,y∈l→y∈e.l)→n∈loTs l→n≤B:=by
    intro l
    induction l with
    | nil=>intro _ h; rw [loTs] at h; cases h
    | cons y r ir=>
     intro hy h
     rw [loTs,List.mem_append] at h
     rcases h with h | h
     ·exact ih y (hy y (by simp)) (h2 y (hy y (by simp))) n h
     ·exact ir (fun z hz=>hy z (by simp [hz])) h
   exact parts e.l (fun _ h=>h) hn
theorem c42 (m:Tm) (gm:good m) (hm:cntT m≤400) (t:Tm) (gt:good t) (lt:lowN 1099511627776 t) (ct:cntT t≤400) (i:Nat) (hi:i < t.l.length) (e:Tm) (hp:t.l[i].l=[e]) (st:St) :
  ∃ y b fr,callD T (ev T) 42 [encT m,encT t,.i i] st=some (.tup [encT y,.bool b],st)∧IsE m (t.l.take i) e (blT fr (t.l.drop (i+1))) y b:=by
 have em:=cntT_eq t
 have tl:=cntTs_len t.l
 have gp:=good_mem gt (List.getElem_mem hi)
 have cp:=cntTs_mem (List.getElem_mem hi)
 have ep:=cntT_eq t.l[i]
 have he:e∈t.l[i].l:=by rw [hp]; simp
 have ge:=good_mem gp he
 have ce:=cntTs_mem he
 have le:=((lowN_iff _ _).1 (((lowN_iff _ t).1 lt).2 _ (List.getElem_mem hi))).2 e he
 obtain ⟨fr,q41⟩:=c41 t gt i hi []
 obtain ⟨gr,lr,cr⟩:=blT_ok gt lt ct (i+1) fr
 generalize hr:blT fr (t.l.drop (i+1))=r at *
 have q39:=c39 e ge
 have q67:=c67 0 r gr (by omega)
 rw [show decide ((0:Int)≤0)=true from rfl,Bool.true_and] at q67
 obtain ⟨b68,q68,h68⟩:=c68 m r e gm gr ge hm cr (by omega) []
 obtain ⟨fl,q69⟩:=c69 e ge (by omega) []
 have ll:=loT_len e
 have lo:=fun s bx st=>l42 r gr cr fl (loT e) (by omega) (fun n hn=>by have:=lo_low _ e le n hn; omega) (loT e).length 0 s bx st (by omega) (by omega)
 rw [List.drop_zero] at lo
 have q66:=c66 1 0 (by omega) (by omega) e ge (low_up (by omega) _ le) 0 (by omega)
 rw [show ((0:Nat):Int)=0 from rfl] at q66
 obtain ⟨gu,lu,cu⟩:=upR_ok ge le (by omega)
 have q70:=c70 (upR e) gu (low_up (by omega) _ lu) (by omega) 0 r gr (by omega)
 obtain ⟨gX,lX,cX⟩:=subR_ok gu lu cu gr lr cr
 obtain ⟨y,b,q40,hy⟩:=c40 t gt i hi (by omega) _ gX lX (by omega) []
 have bad:¬ CondE m e r→callD T (ev T) 42 [encT m,encT t,.i i] st=some (.tup [encT T0,.bool false],st)→∃ y b fr',callD T (ev T) 42 [encT m,encT t,.i i] st=some (.tup [encT y,.bool b],st)∧IsE m (t.l.take i) e (blT fr' (t.l.drop (i+1))) y b:=
  fun hc hq=>⟨T0,false,fr,hq,by rw [hr]; exact .inr ⟨hc,rfl,rfl⟩⟩
 unfold upR at q70 q40
 have hee:(encTs t.l[i].l)[0]?=some (encT e):=by rw [hp]; simp
 generalize hZ:mapT qE (raF 1 0) 0 e=E1 at *
 generalize hXX:mapT qE (puF E1 0) 0 r=X at *
 rw [encT_eq r] at q41
 have h0:¬ (i:Int) < 0:=by omega
 cases hq:qtT e with
 | false=>
  refine bad (fun c=>by rw [c.1] at hq; cases hq) ?_
  rw [hq] at q39
  refine callD_pureR (fn:=F42) rfl rfl (by simp) (by simp) ?_
  refine Ret_wp (fn:=F42) rfl ?_
  rw [F42]
  simp [h0,hi,hp,←encT_eq t,q41,←encT_eq r,←encT_eq e,q39,splice,fillD]
  rw [encT_0]
 | true=>
  rw [hq] at q39
  cases hs:setR 0 0 r with
  | true=>
   refine bad (fun c=>by rw [c.2.1] at hs; cases hs) ?_
   rw [hs] at q67
   refine callD_pureR (fn:=F42) rfl rfl (by simp) (by simp) ?_
   refine Ret_wp (fn:=F42) rfl ?_
   rw [F42]
   simp [h0,hi,hp,←encT_eq t,q41,←encT_eq r,←encT_eq e,q39,q67,splice,fillD]
   rw [encT_0]
  | false=>
   rw [hs] at q67
   cases b68 with
   | true=>
    refine bad (fun c=>c.2.2.2 (h68.1 rfl)) ?_
    refine callD_pureR (fn:=F42) rfl rfl (by simp) (by simp) ?_
    refine Ret_wp (fn:=F42) rfl ?_
    rw [F42]
    simp [h0,hi,hp,←encT_eq t,q41,←encT_eq r,←encT_eq e,←encT_eq m,q39,q67,q68,splice,fillD]
    rw [encT_0]
   | false=>
    have hw:¬ ∃ x,x∈glT e∧WrP m r x:=fun h=>by have:=h68.2 h; cases this
    by_cases hP:∀ n,n∈loT e→n < 0∨setR (n+1) 0 r=false
    ·refine ⟨y,b,fr,?_,by rw [hr]; exact .inl ⟨⟨hq,hs,hP,hw⟩,hy⟩⟩
     refine callD_pureR (fn:=F42) rfl rfl (by simp) (by simp) ?_
     refine Ret_wp (fn:=F42) rfl ?_
     rw [F42]
     simp [h0,hi,hp,←encT_eq t,q41,←encT_eq r,←encT_eq e,←encT_eq m,q39,q67,q68,q69,splice,fillD]
     refine WL.useB L42_0_p L42_0_w (WB:=L42_0.wrB) rfl (lo _ _ _ ?_ ?_ ?_ ?_ ?_ ?_) ?_
     iterate 6 simp
     rintro e' s' b' st' p hf hfb
     rcases p with ⟨rfl,rfl,_,gb6⟩ | ⟨_,_,_,hn⟩
     ·have g2:=hf 2 rfl
      have g4:=hf 4 rfl
      have g6:=hf 6 rfl
      have g8:=hf 8 rfl
      have g9:=hf 9 rfl
      have gb4:=hfb 4 rfl
      have gb8:=hfb 8 rfl
      have gb9:=hfb 9 rfl
      simp at g2 g4 g6 g8 g9 gb4 gb8 gb9
      rw [encT_eq y] at q40
      simp [g2,g4,g6,g8,g9,gb4,gb6,gb8,gb9,←encT_eq t,←encT_eq r,←encT_eq e,q66,q70,q40,splice]
      rw [encT_eq y]
     ·exact absurd hP hn
    ·refine bad (fun c=>hP c.2.2.1) ?_
     refine callD_pureR (fn:=F42) rfl rfl (by simp) (by simp) ?_
     refine Ret_wp (fn:=F42) rfl ?_
     rw [F42]
     simp [h0,hi,hp,←encT_eq t,q41,←encT_eq r,←encT_eq e,←encT_eq m,q39,q67,q68,q69,splice,fillD]
     refine WL.useB L42_0_p L42_0_w (WB:=L42_0.wrB) rfl (lo _ _ _ ?_ ?_ ?_ ?_ ?_ ?_) ?_
     iterate 6 simp
     rintro e' s' b' st' p hf hfb
     rcases p with ⟨_,_,p,_⟩ | ⟨rfl,p1,p2,_⟩
     ·exact absurd p hP
     ·have g6:=hf 6 rfl
      simp at g6
      simp [g6,p1,p2]
      rw [encT_0]
end Go.Nt.Li
set_option linter.unusedSimpArgs false
set_option maxRecDepth 20000
namespace Go.Nt.Li
open Go Go.Nt
theorem c43 (m:Tm) (gm:good m) (hm:cntT m≤400) (t:Tm) (gt:good t) (lt:lowN 1099511627776 t) (ct:cntT t≤400) (i:Nat) (hi:i < t.l.length) (e:Tm) (hp:t.l[i].l=[e]) (st:St) :
  ∃ y b fr,callD T (ev T) 43 [encT m,encT t,.i i] st=some (.tup [encT y,.bool b],st)∧IsN m (t.l.take i) e (blT fr (t.l.drop (i+1))) y b:=by
 have em:=cntT_eq t
 have tl:=cntTs_len t.l
 have gp:=good_mem gt (List.getElem_mem hi)
 have cp:=cntTs_mem (List.getElem_mem hi)
 have ep:=cntT_eq t.l[i]
 have he:e∈t.l[i].l:=by rw [hp]; simp
 have ge:=good_mem gp he
 have ce:=cntTs_mem he
 have le:=((lowN_iff _ _).1 (((lowN_iff _ t).1 lt).2 _ (List.getElem_mem hi))).2 e he
 obtain ⟨fr,q41⟩:=c41 t gt i hi []
 obtain ⟨gr,lr,cr⟩:=blT_ok gt lt ct (i+1) fr
 generalize hr:blT fr (t.l.drop (i+1))=r at *
 have q39:=c39 e ge
 have bad:¬ CondN m e r→callD T (ev T) 43 [encT m,encT t,.i i] st=some (.tup [encT T0,.bool false],st)→∃ y b fr',callD T (ev T) 43 [encT m,encT t,.i i] st=some (.tup [encT y,.bool b],st)∧IsN m (t.l.take i) e (blT fr' (t.l.drop (i+1))) y b:=
  fun hc hq=>⟨T0,false,fr,hq,by rw [hr]; exact .inr ⟨hc,rfl,rfl⟩⟩
 have h0:¬ (i:Int) < 0:=by omega
 rw [encT_eq r] at q41
 cases hq:qtT e with
 | false=>
  refine bad (fun c=>by rw [c.1] at hq; cases hq) ?_
  rw [hq] at q39
  refine callD_pureR (fn:=F43) rfl rfl (by simp) (by simp) ?_
  refine Ret_wp (fn:=F43) rfl ?_
  rw [F43]
  simp [h0,hi,hp,←encT_eq t,q41,←encT_eq r,←encT_eq e,q39,splice,fillD]
  rw [encT_0]
 | true=>
  rw [hq] at q39
  by_cases hne:r.l=[]
  ·refine bad (fun c=>c.2.1 hne) ?_
   have hz:(r.l=[])=True:=eq_true hne
   refine callD_pureR (fn:=F43) rfl rfl (by simp) (by simp) ?_
   refine Ret_wp (fn:=F43) rfl ?_
   rw [F43]
   simp [h0,hi,hp,←encT_eq t,q41,←encT_eq r,←encT_eq e,q39,hz,splice,fillD]
   rw [encT_0]
  ·have hr0:0 < r.l.length:=List.length_pos_iff.2 hne
   have hx:hdT r=r.l[0]:=by unfold hdT; rw [List.headD_eq_head?_getD,List.head?_eq_getElem?,List.getElem?_eq_getElem hr0]; rfl
   have gx:good r.l[0]:=good_mem gr (List.getElem_mem hr0)
   have cx:=cntTs_mem (List.getElem_mem hr0)
   have er':=cntT_eq r
   have lx:=((lowN_iff _ r).1 lr).2 _ (List.getElem_mem hr0)
   have q71:=c71 r.l[0] gx
   by_cases hf:frontT r.l[0] < 0
   ·refine bad (fun c=>by have:=c.2.2.1; rw [hx] at this; omega) ?_
    refine callD_pureR (fn:=F43) rfl rfl (by simp) (by simp) ?_
    refine Ret_wp (fn:=F43) rfl ?_
    rw [F43]
    simp [h0,hi,hp,←encT_eq t,q41,←encT_eq r,←encT_eq e,q39,hne,hr0,q71,hf,splice,fillD]
    rw [encT_0]
   ·obtain ⟨hn,hni⟩:=front_lt (t:=r.l[0]) (by omega)
    have gf:=good_mem gx (List.getElem_mem hn)
    have cf:=cntTs_mem (List.getElem_mem hn)
    have ex':=cntT_eq r.l[0]
    have lf:=((lowN_iff _ r.l[0]).1 lx).2 _ (List.getElem_mem hn)
    have hfr:frP r=r.l[0].l[(frontT r.l[0]).toNat]:=by unfold frP; rw [hx,List.getElem?_eq_getElem hn]; rfl
    have q72:∀ st,callD T (ev T) 72 [encT r,.sl 1 true [.i 0,.int .i64 (frontT r.l[0])]] st=some (encT (frP r),st):=fun st=>by
     have:=c72_s r 0 hr0 [frontT r.l[0]] (frP r) .full (fun fl st=>by
      have:=c72_s r.l[0] (frontT r.l[0]).toNat hn [] (frP r) fl (fun fl st=>by rw [hfr]; exact c72_0 _ st fl) st
      rw [hni] at this
      exact this) st
     exact this
    have q73:∀ x st,callD T (ev T) 73 [encT r,.sl 1 true [.i 0,.int .i64 (frontT r.l[0])],encT x] st=some (encT (pu2 .emp r x),st):=fun x st=>by
     have:=c73_s r gr 0 hr0 [frontT r.l[0]] x (setF .emp r.l[0] (frontT r.l[0]).toNat x) .full (fun fl st=>by
      have:=c73_s r.l[0] gx (frontT r.l[0]).toNat hn [] x x fl (fun fl st=>c73_0 _ x st fl) st
      rw [hni] at this
      exact this) st
     unfold pu2
     rw [hx]
     exact this
    have gpu:∀ {x:Tm},good x→good (pu2 .emp r x):=fun g=>by unfold pu2; rw [hx]; exact setF_good 0 gr (setF_good _ gx g)
    have lpu:∀ {B:Int} {x:Tm},1099511627776≤B→lowN B x→lowN B (pu2 .emp r x):=fun hB l=>by unfold pu2; rw [hx]; exact setF_low 0 (low_up hB _ lr) (setF_low _ (low_up hB _ lx) l)
    have cpu:∀ x:Tm,cntT (pu2 .emp r x)≤800+cntT x:=fun x=>by
     unfold pu2
     rw [hx]
     have a:=setF_cnt .emp r 0 (setF .emp r.l[0] (frontT r.l[0]).toNat x)
     have b:=setF_cnt .emp r.l[0] (frontT r.l[0]).toNat x
     omega
    rw [←hfr] at gf cf lf
    obtain ⟨b68,q68,h68⟩:=c68 m (frP r) e gm gf ge hm (by omega) (by omega) []
    have q73n:=q73 (tK 5)
    rw [encT_K] at q73n
    have gk:good (tK 5):=good_K 5 (by unfold in64; omega)
    have ck:cntT (tK 5)=1:=by rw [cntT_eq]; rfl
    have q65:=c65 0 (pu2 .emp r (tK 5)) (gpu gk) (by have:=cpu (tK 5); omega)
    rw [show decide ((0:Int)≤0)=true from rfl,Bool.true_and] at q65
    have q66:=c66 1 0 (by omega) (by omega) e ge (low_up (by omega) _ le) 0 (by omega)
    rw [show ((0:Nat):Int)=0 from rfl] at q66
    obtain ⟨gu,lu,cu⟩:=upR_ok ge le (by omega)
    have q70:=c70 (upR e) gu (low_up (by omega) _ lu) (by omega) 0 (frP r) gf (by omega)
    obtain ⟨gX,lX,cX⟩:=subR_ok gu lu cu gf lf (by omega)
    obtain ⟨y,b,q40,hy⟩:=c40 t gt i hi (by omega) (pu2 .emp r (mapT qE (puF (upR e) 0) 0 (frP r))) (gpu gX) (lpu (by omega) lX) (by have:=cpu (mapT qE (puF (upR e) 0) 0 (frP r)); omega) []
    have q73x:=q73 (mapT qE (puF (upR e) 0) 0 (frP r))
    have cN:anyL (nmP 0) 0 (pu2 .emp r (tK 5))=true→¬ CondN m e r:=fun h c=>by rw [c.2.2.2.2] at h; cases h
    have cY:b68=false→anyL (nmP 0) 0 (pu2 .emp r (tK 5))=false→CondN m e r:=fun h1 h2=>⟨hq,hne,by rw [hx]; omega,fun h=>(by have:=h68.2 h; rw [h1] at this; cases this),h2⟩
    have cW:b68=true→¬ CondN m e r:=fun h c=>c.2.2.2.1 (h68.1 h)
    unfold upR at q70 q40 q73x
    have nf:¬ frontT r.l[0] < 0:=hf
    clear q73 gpu lpu cpu h68 hfr
    generalize mapT qE (raF 1 0) 0 e=E1 at *
    generalize pu2 .emp r (tK 5)=W0 at *
    generalize anyL (nmP 0) 0 W0=bm at *
    generalize pu2 .emp r (mapT qE (puF E1 0) 0 (frP r))=PX at *
    generalize mapT qE (puF E1 0) 0 (frP r)=X at *
    generalize hFp:frP r=Fp at *
    rw [encT_eq Fp] at q72
    cases b68 with
    | true=>
     refine bad (cW rfl) ?_
     refine callD_pureR (fn:=F43) rfl rfl (by simp) (by simp) ?_
     refine Ret_wp (fn:=F43) rfl ?_
     rw [F43]
     simp [h0,hi,hp,←encT_eq t,q41,←encT_eq r,←encT_eq e,←encT_eq m,q39,hne,hr0,q71,nf,q72,←encT_eq Fp,q68,splice,fillD]
     rw [encT_0]
    | false=>
     cases bm with
     | true=>
      refine bad (cN rfl) ?_
      refine callD_pureR (fn:=F43) rfl rfl (by simp) (by simp) ?_
      refine Ret_wp (fn:=F43) rfl ?_
      rw [F43]
      simp [h0,hi,hp,←encT_eq t,q41,←encT_eq r,←encT_eq e,←encT_eq m,q39,hne,hr0,q71,nf,q72,←encT_eq Fp,q68,q73n,q65,splice,fillD]
      rw [encT_0]
     | false=>
      refine ⟨y,b,fr,?_,by rw [hr]; exact .inl ⟨cY rfl rfl,by rw [hFp]; exact hy⟩⟩
      refine callD_pureR (fn:=F43) rfl rfl (by simp) (by simp) ?_
      refine Ret_wp (fn:=F43) rfl ?_
      rw [F43]
      rw [encT_eq y] at q40
      simp [h0,hi,hp,←encT_eq t,q41,←encT_eq r,←encT_eq e,←encT_eq m,q39,hne,hr0,q71,nf,q72,←encT_eq Fp,q68,q73n,q65,q66,q70,q73x,q40,splice,fillD]
      rw [encT_eq y]
def OkI (t:Tm) (i:Int):Prop:=t.k=29∧t.n=0∧t.s=[]∧0≤i∧∃ h:i.toNat < t.l.length,t.l[i.toNat].k=20∧t.l[i.toNat].l.length=1
theorem c22 (m t:Tm) (gm:good m) (gt:good t) (i:Int) (rule:Int) (hr:rule=46∨rule=47) (st:St) (y:Tm) (b:Bool)
  (hs:OkI t i→callD T (ev T) (if rule=46 then 42 else 43) [encT m,encT t,.int .i64 i] []=some (.tup [encT y,.bool b],[])) (hn:¬ OkI t i→y=T0∧b=false) :
  callD T (ev T) 22 [encT m,.sl 6 true [],.int .i64 rule,.sl 1 true [.int .i64 i],encT t] st=some (.tup [encT y,.bool b],st):=by
 have hl:=good_len gt
 have le:∀ i st q,lenD st .slice (.sl 1 true [D.int .i64 i]) q=some (.i 1):=fun _ _ _=>rfl
 have ix:∀ i,idxAD (.sl 1 true [D.int .i64 i]) 0 1 none none=some (.iptr (.int .i64 i)):=fun _=>by simp [idxAD]
 have no:¬ OkI t i→callD T (ev T) 22 [encT m,.sl 6 true [],.int .i64 rule,.sl 1 true [.int .i64 i],encT t] st=some (.tup [encT T0,.bool false],st)→callD T (ev T) 22 [encT m,.sl 6 true [],.int .i64 rule,.sl 1 true [.int .i64 i],encT t] st=some (.tup [encT y,.bool b],st):=fun h q=>by
  obtain ⟨rfl,rfl⟩:=hn h; exact q
 by_cases h0:i < 0
 ·refine no (fun c=>by have:=c.2.2.2.1; omega) ?_
  refine callD_pureR (fn:=F22) rfl rfl (by simp) (by simp) ?_
  refine Ret_wp (fn:=F22) rfl ?_
  rw [F22]
  simp [le,ix,h0,splice,fillD]
  rw [encT_0]
 ·obtain ⟨n,rfl⟩:∃ n:Nat,i=n:=⟨i.toNat,by omega⟩
  by_cases h1:t.l.length≤n
  ·refine no (fun c=>by obtain ⟨_,_,_,_,h,_⟩:=c; simp at h; omega) ?_
   have h1':(t.l.length:Int)≤n:=by omega
   refine callD_pureR (fn:=F22) rfl rfl (by simp) (by simp) ?_
   refine Ret_wp (fn:=F22) rfl ?_
   rw [F22]
   simp [le,ix,h0,h1',splice,fillD]
   rw [encT_0]
  ·have h1':¬ (t.l.length:Int)≤n:=by omega
   have hlt:n < t.l.length:=by omega
   by_cases h29:t.k=29
   ·by_cases hn0:t.n=0
    ·by_cases hs0:t.s=[]
     ·by_cases h20:t.l[n].k=20
      ·by_cases hl1:t.l[n].l.length=1
       ·have hl1':(t.l[n].l.length:Int)=1:=by omega
        have ok:OkI t n:=⟨h29,hn0,hs0,by omega,by simpa using hlt,by simpa using h20,by simpa using hl1⟩
        have q:=hs ok
        have h0':¬ ((n:Int) < 0):=h0
        rw [encT_eq y] at q
        rcases hr with rfl | rfl
        ·simp only [if_true] at q
         rw [encT_eq t,h29,hn0,hs0] at q
         refine callD_pureR (fn:=F22) rfl rfl (by simp) (by simp) ?_
         refine Ret_wp (fn:=F22) rfl ?_
         rw [F22]
         simp [le,ix,h0',h1',hlt,h29,hn0,hs0,h20,hl1',←encT_eq m,q,splice,fillD]
         rw [encT_eq y]
        ·rw [if_neg (by decide)] at q
         rw [encT_eq t,h29,hn0,hs0] at q
         refine callD_pureR (fn:=F22) rfl rfl (by simp) (by simp) ?_
         refine Ret_wp (fn:=F22) rfl ?_
         rw [F22]
         simp [le,ix,h0',h1',hlt,h29,hn0,hs0,h20,hl1',←encT_eq m,q,splice,fillD]
         rw [encT_eq y]
       ·have hl1':¬ (t.l[n].l.length:Int)=1:=by omega
        refine no (fun c=>by obtain ⟨_,_,_,_,h,_,h2⟩:=c; simp at h2; exact hl1 (by rw [h2])) ?_
        refine callD_pureR (fn:=F22) rfl rfl (by simp) (by simp) ?_
        refine Ret_wp (fn:=F22) rfl ?_
        rw [F22]
        rcases hr with rfl | rfl <;> simp [le,ix,h0,h1',hlt,h29,hn0,hs0,h20,hl1',splice,fillD] <;> rw [encT_0]
      ·refine no (fun c=>by obtain ⟨_,_,_,_,h,h2,_⟩:=c; simp at h2; exact h20 h2) ?_
       refine callD_pureR (fn:=F22) rfl rfl (by simp) (by simp) ?_
       refine Ret_wp (fn:=F22) rfl ?_
       rw [F22]
       rcases hr with rfl | rfl <;> simp [le,ix,h0,h1',hlt,h29,hn0,hs0,h20,splice,fillD] <;> rw [encT_0]
     ·refine no (fun c=>hs0 c.2.2.1) ?_
      refine callD_pureR (fn:=F22) rfl rfl (by simp) (by simp) ?_
      refine Ret_wp (fn:=F22) rfl ?_
      rw [F22]
      simp [le,ix,h0,h1',h29,hn0,hs0,splice,fillD]
      rw [encT_0]
    ·refine no (fun c=>hn0 c.2.1) ?_
     refine callD_pureR (fn:=F22) rfl rfl (by simp) (by simp) ?_
     refine Ret_wp (fn:=F22) rfl ?_
     rw [F22]
     simp [le,ix,h0,h1',h29,hn0,splice,fillD]
     rw [encT_0]
   ·refine no (fun c=>h29 c.1) ?_
    refine callD_pureR (fn:=F22) rfl rfl (by simp) (by simp) ?_
    refine Ret_wp (fn:=F22) rfl ?_
    rw [F22]
    simp [le,ix,h0,h1',h29,splice,fillD]
    rw [encT_0]
end Go.Nt.Li
set_option linter.unusedSimpArgs false
set_option maxRecDepth 20000
namespace Go.Nt.Li
open Go Go.Nt
theorem wrB (f:Fl) (l:List Tm):wrT (blT f l)=wrTs l:=by rw [wrT_eq,wr0,if_neg (fun h=>absurd (show (29:Int)=22 from h.1.1) (by decide))]; rfl
theorem caB (f:Fl) (l:List Tm):caT (blT f l)=caTs l:=by rw [caT_eq,ca0,if_neg (show ¬ (blT f l).k=16 from fun h=>absurd (show (29:Int)=16 from h) (by decide))]; rfl
theorem WrP_fl (m:Tm) (f f':Fl) (l:List Tm) (x:Int) (h:WrP m (blT f l) x):WrP m (blT f' l) x:=by
 unfold WrP at *
 rw [wrB,caB] at *
 exact h
theorem setR_fl (a:Int) (ha:0≤a) (f f':Fl) (l:List Tm):setR a 0 (blT f l)=setR a 0 (blT f' l):=by
 rw [←asg_0 a ha,←asg_0 a ha]
 exact asg_er _ _ a (blT_er rfl)
theorem CondE_fl {m e:Tm} (f f':Fl) (l:List Tm) (h:CondE m e (blT f l)):CondE m e (blT f' l):=by
 obtain ⟨h1,h2,h3,h4⟩:=h
 refine ⟨h1,by rw [setR_fl 0 (by omega) f' f]; exact h2,fun n hn=>?_,fun ⟨x,hx,hw⟩=>h4 ⟨x,hx,WrP_fl m f' f l x hw⟩⟩
 by_cases h0:n < 0
 ·exact .inl h0
 ·rcases h3 n hn with h | h
  ·exact .inl h
  ·exact .inr (by rw [setR_fl (n+1) (by omega) f' f]; exact h)
theorem puF_er (e:Tm) (d:Nat) (t u:Tm) (h:er t=er u):er (puF e 0 d t)=er (puF e 0 d u):=by
 obtain ⟨_,h2,_,_⟩:=(er_iff t u).1 h
 unfold puF
 rw [h2]
 by_cases hc:(0:Int)≤0∧(if u.n < d then -1 else u.n - d)=0
 ·rw [if_pos hc,if_pos hc]
 ·rw [if_neg hc,if_neg hc]; exact h
theorem IsE_fl {m:Tm} {ah:List Tm} {e y:Tm} {b:Bool} (f f':Fl) (l:List Tm) (h:IsE m ah e (blT f l) y b):IsE m ah e (blT f' l) y b:=by
 rcases h with ⟨c,h⟩ | ⟨c,h⟩
 ·exact .inl ⟨CondE_fl f f' l c,joinS_er (mapT_er (fun d t u h=>puF_er _ d t u h) _ _ 0 (blT_er rfl)) h⟩
 ·exact .inr ⟨fun c'=>c (CondE_fl f' f l c'),h⟩
theorem pu2_fl (f f':Fl) (l:List Tm) (x:Tm):er (pu2 .emp (blT f l) x)=er (pu2 .emp (blT f' l) x):=setF_er 0 (blT_er rfl) rfl
theorem CondN_fl {m e:Tm} (f f':Fl) (l:List Tm) (h:CondN m e (blT f l)):CondN m e (blT f' l):=by
 obtain ⟨h1,h2,h3,h4,h5⟩:=h
 exact ⟨h1,h2,h3,h4,by rw [←h5]; exact anyL_er (fun _ _=>rfl) _ _ 0 (pu2_fl f' f l _)⟩
theorem IsN_fl {m:Tm} {ah:List Tm} {e y:Tm} {b:Bool} (f f':Fl) (l:List Tm) (h:IsN m ah e (blT f l) y b):IsN m ah e (blT f' l) y b:=by
 rcases h with ⟨c,h⟩ | ⟨c,h⟩
 ·exact .inl ⟨CondN_fl f f' l c,joinS_er (pu2_fl f f' l _) h⟩
 ·exact .inr ⟨fun c'=>c (CondN_fl f' f l c'),h⟩
def IsI (m t:Tm) (i:Int) (y:Tm) (b:Bool):Prop:=
 (¬ OkI t i∧b=false∧er y=er T0)∨(OkI t i∧∃ e,(t.l[i.toNat]?.getD T0).l=[e]∧∃ y1 b1,IsE m (t.l.take i.toNat) e (blT .nil (t.l.drop (i.toNat+1))) y1 b1 ∧
  ((b1=true∧b=true∧er y=er y1)∨(b1=false∧IsN m (t.l.take i.toNat) e (blT .nil (t.l.drop (i.toNat+1))) y b)))
theorem IsI.det {m t:Tm} {i:Int} {y y':Tm} {b b':Bool} (h:IsI m t i y b) (h':IsI m t i y' b'):b=b'∧er y=er y':=by
 rcases h with ⟨o,h1,h2⟩ | ⟨o,e,he,y1,b1,h1,h2⟩ <;> rcases h' with ⟨o',k1,k2⟩ | ⟨o',e',he',z1,c1,k1,k2⟩
 ·exact ⟨h1.trans k1.symm,h2.trans k2.symm⟩
 ·exact absurd o' o
 ·exact absurd o o'
 ·rw [he] at he'
  cases he'
  obtain ⟨d1,d2⟩:=h1.det k1
  subst d1
  rcases h2 with ⟨p1,p2,p3⟩ | ⟨p1,p2⟩ <;> rcases k2 with ⟨r1,r2,r3⟩ | ⟨r1,r2⟩
  ·exact ⟨p2.trans r2.symm,(p3.trans d2).trans r3.symm⟩
  ·rw [p1] at r1; cases r1
  ·rw [p1] at r1; cases r1
  ·exact p2.det r2
theorem low_ok' {t:Tm} (lt:lowN 1099511627776 t) (i:Nat) (hi:i < t.l.length) (e:Tm) (he:e∈t.l[i].l):lowN 1099511627776 e:=
 ((lowN_iff _ _).1 (((lowN_iff _ t).1 lt).2 _ (List.getElem_mem hi))).2 e he
theorem c8 (m:Tm) (gm:good m) (hm:cntT m≤400) (t:Tm) (gt:good t) (lt:lowN 1099511627776 t) (ct:cntT t≤400) (i:Int) (st:St) :
  ∃ y b,callD T (ev T) 8 [encT m,encT t,.int .i64 i] st=some (.tup [encT y,.bool b],st)∧good y∧IsI m t i y b:=by
 have em:=cntT_eq t
 have tl:=cntTs_len t.l
 have g0:good T0:=good_K 0 (by unfold in64; omega)
 by_cases hb:t.k=29∧t.n=0∧t.s=[]∧0≤i∧i < t.l.length
 ·obtain ⟨h29,hn,hs,h0,hlt⟩:=hb
  obtain ⟨n,rfl⟩:∃ n:Nat,i=n:=⟨i.toNat,by omega⟩
  have hi:n < t.l.length:=by omega
  obtain ⟨fa,fr,q19⟩:=c19 t gt h29 hn hs n hi []
  obtain ⟨gr,lr,cr⟩:=blT_ok gt lt ct (n+1) fr
  have gah:∀ u,u∈t.l.take n→good u:=fun u hu=>good_mem gt (List.mem_of_mem_take hu)
  have lah:(t.l.take n).length≤1000:=by simp; omega
  have gp:=good_mem gt (List.getElem_mem hi)
  have cp:=cntTs_mem (List.getElem_mem hi)
  have ep:=cntT_eq t.l[n]
  by_cases hv:t.l[n].k=20∧t.l[n].l.length=1
  ·obtain ⟨e,he⟩:=List.length_eq_one_iff.1 hv.2
   have hem:e∈t.l[n].l:=by rw [he]; simp
   have ge:=good_mem gp hem
   have ce:=cntTs_mem hem
   have le:=low_ok' lt n hi e hem
   obtain ⟨y1,b1,q20,gy1,hE⟩:=c20 m gm hm fa (t.l.take n) t.l[n] _ e hv.1 he ge le (by omega) gr lr cr gah lah []
   obtain ⟨y2,b2,q21,gy2,hN⟩:=c21 m gm hm fa (t.l.take n) t.l[n] _ e hv.1 he ge le (by omega) gr lr cr gah lah []
   have hE':=IsE_fl fr .nil _ hE
   have hN':=IsN_fl fr .nil _ hN
   have ok:OkI t n:=⟨h29,hn,hs,by omega,by simpa using hi,by simpa using hv.1,by simpa using hv.2⟩
   have he':(t.l[((n:Int)).toNat]?.getD T0).l=[e]:=by simp [hi,he]
   generalize blT fr (t.l.drop (n+1))=r at *
   rw [encT_eq y1] at q20
   rw [encT_eq y2] at q21
   cases b1 with
   | true=>
    refine ⟨y1,true,?_,gy1,.inr ⟨ok,e,he',y1,true,by simpa using hE',.inl ⟨rfl,rfl,rfl⟩⟩⟩
    refine callD_pureR (fn:=F8) rfl rfl (by simp) (by simp) ?_
    refine Ret_wp (fn:=F8) rfl ?_
    rw [F8]
    simp [←encT_eq t,q19,←encT_eq m,q20,splice,fillD]
    rw [encT_eq y1]
   | false=>
    refine ⟨y2,b2,?_,gy2,.inr ⟨ok,e,he',y1,false,by simpa using hE',.inr ⟨rfl,by simpa using hN'⟩⟩⟩
    refine callD_pureR (fn:=F8) rfl rfl (by simp) (by simp) ?_
    refine Ret_wp (fn:=F8) rfl ?_
    rw [F8]
    simp [←encT_eq t,q19,←encT_eq m,q20,q21,splice,fillD]
    rw [encT_eq y2]
  ·have q27:=fun st=>c27 fa (t.l.take n) t.l[n] (blT fr (t.l.drop (n+1))) st
   rw [if_neg hv,decide_eq_false hv,encT_0] at q27
   have nok:¬ OkI t n:=fun c=>by
    obtain ⟨_,_,_,_,h,h2,h3⟩:=c
    simp at h2 h3
    exact hv ⟨h2,by rw [h3]⟩
   refine ⟨T0,false,?_,g0,.inl ⟨nok,rfl,rfl⟩⟩
   have q20:∀ st,callD T (ev T) 20 [cutD fa (t.l.take n) t.l[n] (blT fr (t.l.drop (n+1))),encT m] st=some (.tup [encT T0,.bool false],st):=fun st=>by
    generalize blT fr (t.l.drop (n+1))=r at *
    refine callD_pureR (fn:=F20) rfl rfl (by simp) (by simp) ?_
    refine Ret_wp (fn:=F20) rfl ?_
    rw [F20]
    simp [q27,splice,fillD]
    rw [encT_0]
   have q21:∀ st,callD T (ev T) 21 [cutD fa (t.l.take n) t.l[n] (blT fr (t.l.drop (n+1))),encT m] st=some (.tup [encT T0,.bool false],st):=fun st=>by
    generalize blT fr (t.l.drop (n+1))=r at *
    refine callD_pureR (fn:=F21) rfl rfl (by simp) (by simp) ?_
    refine Ret_wp (fn:=F21) rfl ?_
    rw [F21]
    simp [q27,splice,fillD]
    rw [encT_0]
   generalize blT fr (t.l.drop (n+1))=r at *
   rw [encT_0] at q20 q21
   refine callD_pureR (fn:=F8) rfl rfl (by simp) (by simp) ?_
   refine Ret_wp (fn:=F8) rfl ?_
   rw [F8]
   simp [←encT_eq t,q19,←encT_eq m,q20,q21,splice,fillD]
   rw [encT_0]
 ·obtain ⟨d,q19,d1,d2,d3⟩:=c19n t gt i hb []
  have nok:¬ OkI t i:=fun c=>hb ⟨c.1,c.2.1,c.2.2.1,c.2.2.2.1,by obtain ⟨_,_,_,h0,h,_⟩:=c; omega⟩
  refine ⟨T0,false,?_,g0,.inl ⟨nok,rfl,rfl⟩⟩
  refine callD_pureR (fn:=F8) rfl rfl (by simp) (by simp) ?_
  refine Ret_wp (fn:=F8) rfl ?_
  rw [F8]
  simp [←encT_eq t,q19,d1,d2,d3,splice,fillD]
  rw [encT_0]
theorem c9 (m:Tm) (gm:good m) (hm:cntT m≤400) (t:Tm) (gt:good t) (lt:lowN 1099511627776 t) (ct:cntT t≤400) (i:Int) (st:St) :
  ∃ y b,callD T (ev T) 9 [encT m,encT t,.int .i64 i] st=some (.tup [encT y,.bool b],st)∧IsI m t i y b:=by
 have both:∀ y1 b1 y2 b2,(∀ st,callD T (ev T) 22 [encT m,.sl 6 true [],.int .i64 46,.sl 1 true [.int .i64 i],encT t] st=some (.tup [encT y1,.bool b1],st))→(∀ st,callD T (ev T) 22 [encT m,.sl 6 true [],.int .i64 47,.sl 1 true [.int .i64 i],encT t] st=some (.tup [encT y2,.bool b2],st)) →
   callD T (ev T) 9 [encT m,encT t,.int .i64 i] st=some (.tup [encT (if b1=true then y1 else y2),.bool (if b1=true then true else b2)],st):=by
  intro y1 b1 y2 b2 q1 q2
  refine callD_pureR (fn:=F9) rfl rfl (by simp) (by simp) ?_
  refine Ret_wp (fn:=F9) rfl ?_
  rw [F9]
  rw [encT_eq y1] at q1
  rw [encT_eq y2] at q2
  cases b1 with
  | true=>
   simp [←encT_eq t,←encT_eq m,q1,splice,fillD]
   rw [encT_eq y1]
  | false=>
   simp [←encT_eq t,←encT_eq m,q1,q2,splice,fillD]
   rw [encT_eq y2]
 by_cases ok:OkI t i
 ·obtain ⟨h29,hn,hs,h0,hi,h20,h1⟩:=ok
  obtain ⟨n,rfl⟩:∃ n:Nat,i=n:=⟨i.toNat,by omega⟩
  simp only [Int.toNat_natCast] at hi h20 h1
  obtain ⟨e,he⟩:=List.length_eq_one_iff.1 h1
  have ok:OkI t n:=⟨h29,hn,hs,by omega,by simpa using hi,by simpa using h20,by simpa using h1⟩
  obtain ⟨y1,b1,f1,q1,hE⟩:=c42 m gm hm t gt lt ct n hi e he []
  obtain ⟨y2,b2,f2,q2,hN⟩:=c43 m gm hm t gt lt ct n hi e he []
  have hE':=IsE_fl f1 .nil _ hE
  have hN':=IsN_fl f2 .nil _ hN
  have he':(t.l[((n:Int)).toNat]?.getD T0).l=[e]:=by simp [hi,he]
  have q:=both y1 b1 y2 b2 (fun st=>c22 m t gm gt n 46 (.inl rfl) st y1 b1 (fun _=>q1) (fun h=>absurd ok h)) (fun st=>c22 m t gm gt n 47 (.inr rfl) st y2 b2 (fun _=>q2) (fun h=>absurd ok h))
  cases b1 with
  | true=>exact ⟨y1,true,q,.inr ⟨ok,e,he',y1,true,by simpa using hE',.inl ⟨rfl,rfl,rfl⟩⟩⟩
  | false=>exact ⟨y2,b2,q,.inr ⟨ok,e,he',y1,false,by simpa using hE',.inr ⟨rfl,by simpa using hN'⟩⟩⟩
 ·have q:=both T0 false T0 false (fun st=>c22 m t gm gt i 46 (.inl rfl) st T0 false (fun h=>absurd h ok) (fun _=>⟨rfl,rfl⟩)) (fun st=>c22 m t gm gt i 47 (.inr rfl) st T0 false (fun h=>absurd h ok) (fun _=>⟨rfl,rfl⟩))
  exact ⟨T0,false,q,.inl ⟨ok,rfl,rfl⟩⟩
theorem e7:∃ st',ev T 7 [] []=some (.bool true,st'):=by
 have h:(evT T 400 7 [] []).map (·.1)=some (.bool true):=by kernel_rfl
 obtain ⟨⟨r,st'⟩,h1,h2⟩:=Option.map_eq_some_iff.1 h
 simp only at h2
 subst h2
 exact ⟨st',evT_ev 400 7 [] [] _ h1⟩
theorem c7 (st:St):callD T (ev T) 7 [] st=some (.bool true,st):=by
 obtain ⟨st',h⟩:=e7
 exact callD_pure (fn:=F7) (st2:=st') rfl rfl (by simp) h (by simp) (by simp)
theorem ev3 (m t:Tm) (hm:m.ok) (ht:t.ok) (i:Int):ev T 3 [encT m,encT t,.int .i64 i] []=some (.bool true,[]):=by
 have q7:=c7
 obtain ⟨b1,q1,h1⟩:=c4 m hm []
 obtain ⟨b2,q2,h2⟩:=c4 t ht []
 have go:Ret (ev T 3 [encT m,encT t,.int .i64 i] []) fun r st'=>(r,st')=(.bool true,[]):=by
  refine Ret_wp (fn:=F3) rfl ?_
  rw [F3]
  cases b1 with
  | true=>simp [←encT_eq m,←encT_eq t,q1,q7,splice]
  | false=>
   cases b2 with
   | true=>simp [←encT_eq m,←encT_eq t,q1,q2,q7,splice]
   | false=>
    have cm:=h1 rfl
    have ct:=h2 rfl
    have em:=cntT_eq m
    have ml:=cntTs_len m.l
    have gm:=good_of m hm (by omega)
    have gt:=good_of t ht (by omega)
    obtain ⟨b3,q3,h3⟩:=c5 t gt []
    cases b3 with
    | true=>simp [←encT_eq m,←encT_eq t,q1,q2,q3,q7,splice]
    | false=>
     have lt:=h3 rfl
     have q6:=fun st=>c6 gm (by omega) (by omega) st
     cases hr:rightE m with
     | false=>
      rw [hr] at q6
      simp [←encT_eq m,←encT_eq t,q1,q2,q3,q6,q7,splice]
     | true=>
      rw [hr] at q6
      obtain ⟨x,bx,q8,gx,hx⟩:=c8 m gm cm t gt lt ct i []
      obtain ⟨y,by',q9,hy⟩:=c9 m gm cm t gt lt ct i []
      obtain ⟨d1,d2⟩:=hx.det hy
      subst d1
      have q10:=c10 x gx y
      rw [sameT_er x y d2] at q10
      rw [encT_eq x] at q8
      rw [encT_eq y] at q9
      simp [←encT_eq m,←encT_eq t,q1,q2,q3,q6,q8,q9,←encT_eq x,←encT_eq y,q10,q7,eqnD,splice]
 obtain ⟨r,st',h,e⟩:=go
 rw [h,e]
end Go.Nt.Li
