/-
  RIGHT MODULES, walked (1): the looker in the heap; rows that grow beside it; a term without names.
  No condition.
-/
import Derived.Test.YtnflammoeakgfaaGreatNtIfW
import Derived.Test.YtnflammoeakgfaaGreatLiRG
import Derived.Test.YtnflammoeakgfaaGreatLiRE
import Derived.Test.YtnflammoeakgfaaGreatLiAdd
set_option linter.unusedSimpArgs false
namespace Go.Nt.Li
open Go Go.Nt
def Grow (st st':St):Prop:=st.length≤st'.length∧∀ i,i < st.length→St.at st' i=St.at st i
theorem Grow.refl (st:St):Grow st st:=⟨Nat.le_refl _,fun _ _=>rfl⟩
theorem Grow.trans {a b c:St} (h:Grow a b) (k:Grow b c):Grow a c:=⟨Nat.le_trans h.1 k.1,fun i hi=>by rw [k.2 i (by have:=h.1; omega),h.2 i hi]⟩
def lidOf:D→Nat
 | .rs id ..=>id
 | _=>0
def RawT (st0 st:St) (L:D) (l:List Tm):Prop:=
 (l=[]∧L=.nils)∨∃ id md,l≠[]∧L=.rs id (l.length - 1) 6 0 l.length false∧St.at st id=.cells false 6 (l.length - 1) md false (encTs l)∧st0.length≤id∧id < st.length
theorem RawT.nil (st0 st:St):RawT st0 st .nils []:=.inl ⟨rfl,rfl⟩
theorem RawT.facts {st0 st:St} {L:D} {l:List Tm} (h:RawT st0 st L l):L.okv=true∧L.cells=[L]∧L.fits none=true∧∀ st' q,lenD st' .slice L q=some (.i l.length):=by
 rcases h with ⟨rfl,rfl⟩ | ⟨id,md,_,rfl,_,_,_⟩
 ·exact ⟨rfl,rfl,rfl,fun _ _=>rfl⟩
 ·exact ⟨rfl,rfl,rfl,fun _ _=>rfl⟩
theorem RawT.keep {st0 st st':St} {L:D} {l:List Tm} (h:RawT st0 st L l) (hl:st.length≤st'.length) (ha:l≠[]→St.at st' (lidOf L)=St.at st (lidOf L)):RawT st0 st' L l:=by
 rcases h with h | ⟨id,md,h0,rfl,h1,h2,h3⟩
 ·exact .inl h
 ·exact .inr ⟨id,md,h0,rfl,by rw [←h1]; exact ha h0,h2,by omega⟩
theorem RawT.grow {st0 st st':St} {L:D} {l:List Tm} (h:RawT st0 st L l) (g:Grow st st'):RawT st0 st' L l:=by
 rcases h with h | ⟨id,md,h0,rfl,h1,h2,h3⟩
 ·exact .inl h
 ·exact .inr ⟨id,md,h0,rfl,by rw [g.2 _ h3]; exact h1,h2,by have:=g.1; omega⟩
theorem RawT.older {s0 st0 st:St} {L:D} {l:List Tm} (h:RawT st0 st L l) (hs:s0.length≤st0.length):RawT s0 st L l:=by
 rcases h with h | ⟨id,md,h0,rfl,h1,h2,h3⟩
 ·exact .inl h
 ·exact .inr ⟨id,md,h0,rfl,h1,by omega,h3⟩
theorem RawT.app {st0 st:St} {L:D} {l:List Tm} (h:RawT st0 st L l) (hb:l.length≤1000000) (hs:st0.length≤st.length) (x:Tm) :
  ∃ L' st',appendD st L [encT x] 6=some (L',st')∧RawT st0 st' L' (l++[x])∧st.length≤st'.length∧(∀ i,i < st.length→(l=[]∨i≠lidOf L)→St.at st' i=St.at st i)∧(lidOf L'=lidOf L∧l≠[]∨l=[]∧lidOf L'=st.length):=by
 rcases h with ⟨rfl,rfl⟩ | ⟨id,md,h0,rfl,h1,h2,h3⟩
 ·refine ⟨.rs st.length 0 6 0 1 false,st++[.cells false 6 0 0 false [encT x]],by simp [appendD,most],.inr ⟨st.length,0,by simp,by simp,by simp [at_last],hs,by simp⟩,by simp,fun i hi _=>at_lt _ _ hi,.inr ⟨rfl,rfl⟩⟩
 ·have hp:0 < l.length:=List.length_pos_iff.2 h0
  have e1:l.length - 1+1=l.length:=by omega
  have ht:l.length < tagB:=by unfold tagB; omega
  have hm:l.length≤most:=by unfold most; omega
  refine ⟨.rs id l.length 6 0 (l.length+1) false,List.set st id (.cells false 6 l.length (md+1) false (encTs (l++[x]))),?_,.inr ⟨id,md+1,by simp,by simp,?_,h2,by simpa using h3⟩,by simp,fun i hi hne=>?_,.inl ⟨rfl,h0⟩⟩
  ·have e2:List.take l.length (encTs l)=encTs l:=List.take_of_length_le (by simp)
   have hm2:l.length≤134217728:=by omega
   simp [appendD,h1,ht,hm,hm2,most,e1,e2,encTs_append]
  ·rw [at_set _ _ _ _ h3,if_pos rfl]; simp
  ·rw [at_set _ _ _ _ h3,if_neg (by rcases hne with q | q; exact absurd q h0; exact q)]
theorem RawT.fz {st0 st:St} {L:D} {l:List Tm} (h:RawT st0 st L l):∃ st',fz0 st L=some (slE 6 (pfl l) (encTs l),st')∧st'.length=st.length∧∀ i,i < st0.length→St.at st' i=St.at st i:=by
 rcases h with ⟨rfl,rfl⟩ | ⟨id,md,h0,rfl,h1,h2,h3⟩
 ·exact ⟨st,rfl,rfl,fun _ _=>rfl⟩
 ·refine ⟨List.set st id (.cells false 6 (l.length - 1) (md+1) true (encTs l)),?_,by simp,fun i hi=>by rw [at_set _ _ _ _ h3,if_neg (by omega)]⟩
  have e2:List.take l.length (encTs l)=encTs l:=List.take_of_length_le (by simp)
  have e3:slE 6 (pfl l) (encTs l)=.sl 6 false (encTs l):=by cases l with | nil=>exact absurd rfl h0 | cons a b=>rfl
  rw [fz0_rs,h1,e3]
  simp [e2]
theorem RawT.fzG {st0 st:St} {L:D} {l:List Tm} (h:RawT st0 st L l) (g:Grow st0 st):∃ st',fz0 st L=some (slE 6 (pfl l) (encTs l),st')∧Grow st0 st':=by
 obtain ⟨st',h1,h2,h3⟩:=h.fz
 exact ⟨st',h1,by rw [Grow,h2]; exact ⟨g.1,fun i hi=>by rw [h3 i hi,g.2 i hi]⟩⟩
def outR (k n:Int) (L:D):D:=.agg [.int .i64 k,.int .i64 n,.str [],L,.int .i64 0,.int .i64 0]
theorem encT_clean (t:Tm):encT (cleanT t)=outR t.k t.n (slE 6 (pfl (t.l.map cleanT)) (encTs (t.l.map cleanT))):=by
 rw [cleanT_eq,encT_eq,outR]; simp
 cases t.l <;> rfl
end Go.Nt.Li
set_option linter.unusedSimpArgs false
namespace Go.Nt.Li
open Go Go.Nt
theorem slice_from (fl:Fl) (l:List Tm) (h:l≠[]) (n:Nat) (hn:n≤l.length):∃ fl',sliceD (slE 6 fl (encTs l)) (some (.int .i64 n)) none none=some (slE 6 fl' (encTs (l.drop n))):=by
 have e:∃ b,slE 6 fl (encTs l)=.sl 6 b (encTs l):=by
  cases l with
  | nil=>exact absurd rfl h
  | cons x r=>cases fl <;> exact ⟨_,rfl⟩
 obtain ⟨b,e⟩:=e
 rw [e]
 have e2:List.take l.length (encTs l)=encTs l:=List.take_of_length_le (by simp)
 refine ⟨if b then .full else .part,?_⟩
 have e3:∀ ds,slE 6 (if b then .full else .part) ds=.sl 6 b ds:=by intro ds; cases b <;> rfl
 rw [e3]
 have hn':(n:Int)≤l.length:=by omega
 simp [sliceD,boundD,e2,hn,hn',encTs_drop]
end Go.Nt.Li
set_option linter.unusedSimpArgs false
namespace Go.Nt.Li
open Go Go.Nt
theorem l56 (t:Tm):good t→∀ (s:List D) (bx:List (Nat × List D)) (st:St),get s 1=.lp 1 1 0→getB bx 1=(1,clT t) →
  Stops (lp T L56_0 ⟨⟨s,bx⟩,st⟩) fun e _ b' st'=>e=.exit 0∧st'=st∧getB b' 1=(1,clT (rootT t)):=by
 induction t using Tm.ind with
 | h t ih=>
  intro gt s bx st h1 b1
  refine Stops_wp L56_0.eq_1 ?_
  by_cases hk:t.k=12∨t.k=13
  ·cases hl:t.l with
   | nil=>
    rw [root_in hk,hl]
    rcases hk with hk | hk <;> simp [h1,b1,hk,hl]
   | cons x r=>
    rw [root_in hk,hl]
    have nx:=fun s' bx'=>ih x (by rw [hl]; simp) (good_mem gt (by rw [hl]; simp)) s' bx' st
    rcases hk with hk | hk
    ·simp [h1,b1,hk,hl,splice]
     refine nx _ _ ?_ ?_ <;> simp [h1]
    ·simp [h1,b1,hk,hl,splice]
     refine nx _ _ ?_ ?_ <;> simp [h1]
  ·rw [root_out hk]
   have h12:¬ t.k=12:=fun h=>hk (.inl h)
   have h13:¬ t.k=13:=fun h=>hk (.inr h)
   simp [h1,b1,h12,h13]
theorem c56 (t:Tm) (gt:good t) (st:St):callD T (ev T) 56 [encT t] st=some (encT (rootT t),st):=by
 refine callD_pureR (fn:=F56) rfl rfl (by simp) (by simp) ?_
 refine Ret_wp (fn:=F56) rfl ?_
 rw [F56]
 have lo:=fun s bx st=>l56 t gt s bx st
 simp
 refine WL.useB L56_0_p L56_0_w (WB:=L56_0.wrB) rfl (lo _ _ _ ?_ ?_) ?_
 iterate 2 simp
 rintro e s' b' st' ⟨rfl,rfl,p1⟩ hf hb
 have e1:=hf 1 rfl
 have e2:=hf 2 rfl
 have b2:=hb 2 rfl
 simp at e1 e2 b2
 simp [p1,e1,e2,b2,splice,←encT_eq]
theorem plain_3 {t x:Tm} {r:List Tm} (hk:t.k=3) (hl:t.l=x::r):plainT t=plainT x:=by
 cases t; simp only [Tm.k,Tm.l] at hk hl; subst hk; subst hl; rw [plainT.eq_def]; simp
theorem plain_n {t:Tm} (hk:t.k≠3):plainT t=!decide (t.k=4):=by
 cases t; simp only [Tm.k] at hk; rw [plainT.eq_def]; simp [hk,Tm.k] <;> rfl
theorem cells_part {m t:Tm} (hk:t.k=3) (h:cellsV m t≠0):∃ x r,t.l=x::r∧cellsV m x≠0:=by
 unfold cellsV at h ⊢
 rw [arrM_eq,if_neg (by omega),if_pos hk] at h
 split at h
 ·next x hx=>
  refine ⟨x,[],hx,fun q=>h ?_⟩
  rw [q]
  simp [prod]
 ·exact absurd rfl h
end Go.Nt.Li
set_option linter.unusedSimpArgs false
namespace Go.Nt.Li
open Go Go.Nt
theorem l139 (t:Tm) (hl:t.l.length≤1000000) (hc:∀ u,u∈t.l→∀ st,callD T (ev T) 139 [encT u] st=some (encT (bareE u),st)) :
  ∀ (r i:Nat) (s:List D) (bx:List (Nat × List D)),r=t.l.length - i→i≤t.l.length→get s 1=.lp 1 1 0→getB bx 1=(1,clT t)→get s 3=(grown (seed 6 .emp) 6 (encTs ((t.l.map bareE).take i))).1→get s 4=.int .i64 i →
  Stops (lp T L139_0 ⟨⟨s,bx⟩,(grown (seed 6 .emp) 6 (encTs ((t.l.map bareE).take i))).2⟩) fun e s' _ st'=>e=.exit 0∧get s' 3=(grown (seed 6 .emp) 6 (encTs (t.l.map bareE))).1∧st'=(grown (seed 6 .emp) 6 (encTs (t.l.map bareE))).2:=by
 intro r
 induction r with
 | zero=>
  intro i s bx hr hi h1 b1 h3 h4
  have e:i=t.l.length:=by omega
  subst e
  have q:(t.l.map bareE).take t.l.length=t.l.map bareE:=List.take_of_length_le (by simp)
  rw [q] at h3 ⊢
  refine Stops_wp L139_0.eq_1 ?_
  simp [h1,b1,h3,h4]
 | succ r ihr=>
  intro i s bx hr hi h1 b1 h3 h4
  have hlt:i < t.l.length:=by omega
  have hw:IntKind.wrap .i64 ((i:Int)+1)=((i+1:Nat):Int):=by rw [wrap64] <;> omega
  have c0:=hc _ (List.getElem_mem hlt)
  have gr:=grow .emp 6 (encTs ((t.l.map bareE).take i)) (encT (bareE t.l[i])) (by simp; omega)
  have q:encTs ((t.l.map bareE).take (i+1))=encTs ((t.l.map bareE).take i)++[encT (bareE t.l[i])]:=by
   rw [List.take_succ_eq_append_getElem (by simpa using hlt),encTs_append]; simp
  have nx:=fun s' bx'=>ihr (i+1) s' bx' (by omega) (by omega)
  rw [q] at nx
  generalize (t.l.map bareE)=L at *
  generalize grown (seed 6 .emp) 6 (encTs (L.take i)++[encT (bareE t.l[i])])=G at *
  obtain ⟨g1,g2⟩:=G
  refine Stops_wp L139_0.eq_1 ?_
  simp [h1,b1,h3,h4,hlt,hw,←encT_eq,c0,gr,-Int.natCast_add]
  refine nx _ _ ?_ ?_ ?_ ?_ <;> simp [h1,b1]
theorem c139 (t:Tm):good t→∀ st,callD T (ev T) 139 [encT t] st=some (encT (bareE t),st):=by
 induction t using Tm.ind with
 | h t ih=>
  intro gt st
  refine callD_pureR (fn:=F139) rfl rfl (by simp) (by simp) ?_
  refine Ret_wp (fn:=F139) rfl ?_
  rw [F139,bareE_eq]
  have lo:=fun s bx=>l139 t (good_len gt) (fun u hu st=>ih u hu (good_mem gt hu) st) t.l.length 0 s bx (by omega) (by omega)
  simp [splice,fillD] at lo ⊢
  refine WL.useB L139_0_p L139_0_w (WB:=L139_0.wrB) rfl (lo _ _ ?_ ?_ ?_ ?_) ?_
  iterate 4 simp [seed]
  rintro e s' b' st' ⟨rfl,q3,rfl⟩ hf hb
  have e1:=hf 1 rfl
  have e2:=hf 2 rfl
  have b1:=hb 1 rfl
  have b2:=hb 2 rfl
  simp at e1 e2 b1 b2
  simp [q3,e1,e2,b1,b2,splice,fillD,encT,Fl.grew]
theorem slE_pfl (l:List Tm):slE 6 (pfl l) (encTs l)=slE 6 .nil (encTs l):=by cases l <;> rfl
theorem nlE_k (t:Tm):(nlE t).k=t.k:=by rw [nlE_eq,k_mk]
theorem nlE_n (t:Tm):(nlE t).n=t.n:=by rw [nlE_eq,n_mk]
theorem nlE_s (t:Tm):(nlE t).s=[]:=by rw [nlE_eq,s_mk]
theorem nlE_a (t:Tm):(nlE t).a=0:=by rw [nlE_eq,a_mk]
theorem nlE_b (t:Tm):(nlE t).b=0:=by rw [nlE_eq,b_mk]
theorem nlE_fl (t:Tm):(nlE t).fl=.nil:=by rw [nlE_eq,fl_mk]
theorem nlE_l (t:Tm):(nlE t).l=t.l.map nlE:=by rw [nlE_eq,l_mk]
theorem nl_out (t:Tm):encT (nlE t)=outR t.k t.n (slE 6 (pfl (t.l.map nlE)) (encTs (t.l.map nlE))):=by
 rw [nlE_eq,encT_eq,outR]; simp
 cases t.l <;> rfl
theorem l50 (t:Tm) (st0:St) (hl:t.l.length≤1000000)
  (ih:∀ u,u∈t.l→∀ st,∃ L st',callD T (ev T) 50 [encT u] st=some (outR u.k u.n L,st')∧RawT st st' L (u.l.map nlE)∧Grow st st') :
  ∀ (r i:Nat) (s:List D) (bx:List (Nat × List D)) (L:D) (st:St),r=t.l.length - i→i≤t.l.length→Grow st0 st→RawT st0 st L ((t.l.take i).map nlE) →
   get s 1=.lp 1 1 0→getB bx 1=(1,clT t)→get s 4=.int .i64 i→get s 3=.lp 3 1 0→getB bx 3=(1,[.int .i64 t.k,.int .i64 t.n,.str [],L,.int .i64 0,.int .i64 0]) →
  Stops (lp T L50_0 ⟨⟨s,bx⟩,st⟩) fun e _ b' st'=>e=.exit 0∧∃ L',getB b' 3=(1,[.int .i64 t.k,.int .i64 t.n,.str [],L',.int .i64 0,.int .i64 0])∧RawT st0 st' L' (t.l.map nlE)∧Grow st0 st':=by
 intro r
 induction r with
 | zero=>
  intro i s bx L st hr hi hg hR h1 b1 h4 h3 b3
  have e:i=t.l.length:=by omega
  subst e
  refine Stops_wp L50_0.eq_1 ?_
  rw [List.take_length] at hR
  simp [h1,b1,h4,h3,b3]
  exact ⟨hR,hg⟩
 | succ r ihr=>
  intro i s bx L st hr hi hg hR h1 b1 h4 h3 b3
  have hlt:i < t.l.length:=by omega
  have hw:IntKind.wrap .i64 ((i:Int)+1)=((i+1:Nat):Int):=by rw [wrap64] <;> omega
  obtain ⟨L1,st1,q,R1,g1⟩:=ih t.l[i] (List.getElem_mem hlt) st
  obtain ⟨st2,f1,g2⟩:=R1.fzG g1
  have hR2:RawT st0 st2 L _:=hR.grow g2
  have hg2:=hg.trans g2
  have hlen:((t.l.take i).map nlE).length≤1000000:=by simp; omega
  obtain ⟨L3,st3,a1,R3,hl3,a3,_⟩:=hR2.app hlen hg2.1 (nlE t.l[i])
  have hg3:Grow st0 st3:=⟨by have:=hg2.1; omega,fun j hj=>by
   rw [a3 j (by have:=hg2.1; omega) ?_,hg2.2 j hj]
   rcases hR2 with ⟨h,_⟩ | ⟨id,md,_,rfl,_,h2,_⟩
   ·exact .inl h
   ·exact .inr (by simp only [lidOf]; omega)⟩
  have e1:(t.l.take i).map nlE++[nlE t.l[i]]=(t.l.take (i+1)).map nlE:=by
   rw [←List.map_singleton,←List.map_append,List.take_append_getElem hlt]
  rw [e1] at R3
  have nx:=fun s' bx'=>ihr (i+1) s' bx' L3 st3 (by omega) (by omega) hg3 R3
  obtain ⟨x1,x2,x3,x4⟩:=hR.facts
  obtain ⟨y1,y2,y3,y4⟩:=R1.facts
  obtain ⟨z1,z2,z3,z4⟩:=R3.facts
  rw [nl_out] at a1
  rw [outR] at q a1
  refine Stops_wp L50_0.eq_1 ?_
  simp [h1,b1,h4,h3,b3,hlt,hw,←encT_eq,q,f1,a1,x1,x2,x3,x4,y1,y2,y3,z1,z2,z3,splice,-Int.natCast_add]
  refine nx _ _ ?_ ?_ ?_ ?_ ?_ <;> simp [h1,b1,h3]
theorem c50 (t:Tm):good t→∀ st,∃ L st',callD T (ev T) 50 [encT t] st=some (outR t.k t.n L,st')∧RawT st st' L (t.l.map nlE)∧Grow st st':=by
 induction t using Tm.ind with
 | h t ih=>
  intro gt st
  have hl:=good_len gt
  have lo:=fun s bx=>l50 t st hl (fun u hu st=>ih u hu (good_mem gt hu) st) t.l.length 0 s bx .nils st (by omega) (by omega) (Grow.refl st) (RawT.nil st st)
  rw [callD_rawE (fn:=F50) rfl rfl (by simp)]
  have go:Ret (ev T 50 [encT t] st) fun r st'=>∃ L,r=outR t.k t.n L∧RawT st st' L (t.l.map nlE)∧Grow st st':=by
   refine Ret_wp (fn:=F50) rfl ?_
   rw [F50]
   simp [splice,fillD]
   refine WL.useB L50_0_p L50_0_w (WB:=L50_0.wrB) rfl (lo _ _ ?_ ?_ ?_ ?_ ?_) ?_
   iterate 5 simp
   rintro e s' b' st' ⟨rfl,L',p3,R,g⟩ hf hb
   obtain ⟨x1,x2,x3,x4⟩:=R.facts
   have e1:=hf 2 rfl
   have e3:=hf 3 rfl
   have e4:=hb 2 rfl
   simp at e1 e3 e4
   simp [p3,x1,x2,x3,splice,e1,e3,e4]
   exact ⟨L',rfl,R,g⟩
  obtain ⟨r,st',h1,L,rfl,R,g⟩:=go
  exact ⟨L,st',h1,R,g⟩
theorem l10 (a b:Tm) (hl:a.l.length≤1000000) (hlen:a.l.length=b.l.length) (ih:∀ u,u∈a.l→∀ v,∀ st,callD T (ev T) 10 [encT u,encT v] st=some (.bool (sameT u v),st)) :
  ∀ (r i:Nat) (s:List D) (bx:List (Nat × List D)),r=a.l.length - i→i≤a.l.length→get s 2=.lp 2 1 0→getB bx 2=(1,clT a)→get s 3=.lp 3 1 0→getB bx 3=(1,clT b)→get s 5=.int .i64 i →
  Stops (lp T L10_0 ⟨⟨s,bx⟩,[]⟩) fun e s' _ _=>if sameT.sameTs (a.l.drop i) (b.l.drop i) then e=.exit 0 else e=.ret∧get s' 4=.bool false:=by
 intro r
 induction r with
 | zero=>
  intro i s bx hr hi h2 b2 h3 b3 h5
  have e:i=a.l.length:=by omega
  subst e
  refine Stops_wp L10_0.eq_1 ?_
  rw [List.drop_length,hlen,List.drop_length]
  simp [h2,b2,h3,b3,h5,hlen,sameT.sameTs]
 | succ r ihr=>
  intro i s bx hr hi h2 b2 h3 b3 h5
  have hlt:i < a.l.length:=by omega
  have hlt':i < b.l.length:=by omega
  have hw:IntKind.wrap .i64 ((i:Int)+1)=((i+1:Nat):Int):=by rw [wrap64] <;> omega
  have nx:=fun s' bx'=>ihr (i+1) s' bx' (by omega) (by omega)
  have q:=ih a.l[i] (List.getElem_mem hlt) b.l[i] []
  rw [List.drop_eq_getElem_cons hlt,List.drop_eq_getElem_cons hlt',sameT.sameTs]
  refine Stops_wp L10_0.eq_1 ?_
  cases hs:sameT a.l[i] b.l[i] with
  | true=>
   rw [hs] at q
   rw [Bool.true_and]
   simp [h2,b2,h3,b3,h5,hlt,hlt',hw,←encT_eq,q,-Int.natCast_add]
   refine nx _ _ ?_ ?_ ?_ ?_ ?_ <;> simp [h2,b2,h3,b3]
  | false=>
   rw [hs] at q
   simp [h2,b2,h3,b3,h5,hlt,hlt',hw,←encT_eq,q,-Int.natCast_add]
theorem c10 (a:Tm):good a→∀ (b:Tm) (st:St),callD T (ev T) 10 [encT a,encT b] st=some (.bool (sameT a b),st):=by
 induction a using Tm.ind with
 | h a ih=>
  intro ga b st
  refine callD_pureR (fn:=F10) rfl rfl (by simp) (by simp) ?_
  refine Ret_wp (fn:=F10) rfl ?_
  rw [F10,sameT_eq a b]
  by_cases hk:a.k=b.k
  case neg=>simp [hk]
  by_cases hn:a.n=b.n
  case neg=>simp [hk,hn]
  by_cases hs:a.s=b.s
  case neg=>simp [hk,hn,hs]
  by_cases hl:a.l.length=b.l.length
  ·have lo:=fun s bx=>l10 a b (good_len ga) hl (fun u hu v st=>ih u hu (good_mem ga hu) v st) a.l.length 0 s bx (by omega) (by omega)
   rw [List.drop_zero,List.drop_zero] at lo
   have hl':((a.l.length:Int)=b.l.length)=True:=eq_true (by omega)
   generalize sameT.sameTs a.l b.l=q at *
   simp [hk,hn,hs,hl]
   refine WL.use L10_0_p L10_0_w (lo _ _ ?_ ?_ ?_ ?_ ?_) ?_
   iterate 5 simp [hk,hn,hs]
   rintro e s' b' st' h hf
   cases q with
   | true=>simp at h; subst h; simp
   | false=>simp at h; obtain ⟨rfl,q2⟩:=h; simp [q2]
  ·have hl':((a.l.length:Int)=b.l.length)=False:=eq_false (by omega)
   have hq:=sameTs_len a.l b.l hl
   simp [hk,hn,hs,hl,hl',hq]
theorem l14 (a b:Tm) (gb:good b) (hlen:a.l.length=b.l.length) (ih:∀ u,u∈a.l→∀ v,good v→∀ st,callD T (ev T) 14 [encT u,encT v] st=some (.bool (placedT u v),st)) :
  ∀ (r i:Nat) (s:List D) (bx:List (Nat × List D)),r=a.l.length - i→i≤a.l.length→get s 2=.lp 2 1 0→getB bx 2=(1,clT a)→get s 3=.lp 3 1 0→getB bx 3=(1,clT b)→get s 5=.int .i64 i →
  Stops (lp T L14_0 ⟨⟨s,bx⟩,[]⟩) fun e s' _ _=>if placedT.placedTs (a.l.drop i) (b.l.drop i) then e=.exit 0 else e=.ret∧get s' 4=.bool false:=by
 intro r
 induction r with
 | zero=>
  intro i s bx hr hi h2 b2 h3 b3 h5
  have e:i=a.l.length:=by omega
  subst e
  refine Stops_wp L14_0.eq_1 ?_
  rw [List.drop_length,hlen,List.drop_length]
  simp [h2,b2,h3,b3,h5,hlen,placedT.placedTs]
 | succ r ihr=>
  intro i s bx hr hi h2 b2 h3 b3 h5
  have hlt:i < a.l.length:=by omega
  have hlt':i < b.l.length:=by omega
  have hbl:=good_len gb
  have hw:IntKind.wrap .i64 ((i:Int)+1)=((i+1:Nat):Int):=by rw [wrap64] <;> omega
  have nx:=fun s' bx'=>ihr (i+1) s' bx' (by omega) (by omega)
  have q:=ih a.l[i] (List.getElem_mem hlt) b.l[i] (good_mem gb (List.getElem_mem hlt')) []
  rw [List.drop_eq_getElem_cons hlt,List.drop_eq_getElem_cons hlt',placedT.placedTs]
  refine Stops_wp L14_0.eq_1 ?_
  cases hs:placedT a.l[i] b.l[i] with
  | true=>
   rw [hs] at q
   rw [Bool.true_and]
   simp [h2,b2,h3,b3,h5,hlt,hlt',hw,←encT_eq,q,-Int.natCast_add]
   refine nx _ _ ?_ ?_ ?_ ?_ ?_ <;> simp [h2,b2,h3,b3]
  | false=>
   rw [hs] at q
   simp [h2,b2,h3,b3,h5,hlt,hlt',hw,←encT_eq,q,-Int.natCast_add]
theorem c14 (a:Tm):∀ (b:Tm),good b→∀ (st:St),callD T (ev T) 14 [encT a,encT b] st=some (.bool (placedT a b),st):=by
 induction a using Tm.ind with
 | h a ih=>
  intro b gb st
  refine callD_pureR (fn:=F14) rfl rfl (by simp) (by simp) ?_
  refine Ret_wp (fn:=F14) rfl ?_
  rw [F14,placedT_eq a b]
  by_cases hk:a.k=b.k
  case neg=>simp [hk]
  by_cases hn:a.n=b.n
  case neg=>simp [hk,hn]
  by_cases hs:a.s=b.s
  case neg=>simp [hk,hn,hs]
  by_cases ha:a.a=b.a
  case neg=>simp [hk,hn,hs,ha]
  by_cases hb:a.b=b.b
  case neg=>simp [hk,hn,hs,ha,hb]
  by_cases hl:a.l.length=b.l.length
  ·have lo:=fun s bx=>l14 a b gb hl (fun u hu v gv st=>ih u hu v gv st) a.l.length 0 s bx (by omega) (by omega)
   rw [List.drop_zero,List.drop_zero] at lo
   have hl':((a.l.length:Int)=b.l.length)=True:=eq_true (by omega)
   generalize placedT.placedTs a.l b.l=q at *
   simp [hk,hn,hs,ha,hb,hl]
   refine WL.use L14_0_p L14_0_w (lo _ _ ?_ ?_ ?_ ?_ ?_) ?_
   iterate 5 simp [hk,hn,hs,ha,hb]
   rintro e s' b' st' h hf
   cases q with
   | true=>simp at h; subst h; simp
   | false=>simp at h; obtain ⟨rfl,q2⟩:=h; simp [q2]
  ·have hl':((a.l.length:Int)=b.l.length)=False:=eq_false (by omega)
   have hq:=placedTs_len a.l b.l hl
   simp [hk,hn,hs,ha,hb,hl,hl',hq]
theorem l111 (t:Tm) (hl:t.l.length≤1000000) (ih:∀ u,u∈t.l→∀ st,callD T (ev T) 111 [encT u] st=some (.bool (freeT u),st)) :
  ∀ (r i:Nat) (s:List D) (bx:List (Nat × List D)),r=t.l.length - i→i≤t.l.length→get s 1=.lp 1 1 0→getB bx 1=(1,clT t)→get s 3=.int .i64 i →
  Stops (lp T L111_0 ⟨⟨s,bx⟩,[]⟩) fun e s' _ _=>if (t.l.drop i).all freeT then e=.exit 0 else e=.ret∧get s' 2=.bool false:=by
 intro r
 induction r with
 | zero=>
  intro i s bx hr hi h1 b1 h3
  have e:i=t.l.length:=by omega
  subst e
  refine Stops_wp L111_0.eq_1 ?_
  rw [List.drop_length]
  simp [h1,b1,h3]
 | succ r ihr=>
  intro i s bx hr hi h1 b1 h3
  have hlt:i < t.l.length:=by omega
  have hw:IntKind.wrap .i64 ((i:Int)+1)=((i+1:Nat):Int):=by rw [wrap64] <;> omega
  have nx:=fun s' bx'=>ihr (i+1) s' bx' (by omega) (by omega)
  have q:=ih t.l[i] (List.getElem_mem hlt) []
  rw [List.drop_eq_getElem_cons hlt,List.all_cons]
  generalize List.all (t.l.drop (i+1)) freeT=g at *
  refine Stops_wp L111_0.eq_1 ?_
  cases hs:freeT t.l[i] with
  | true=>
   rw [hs] at q
   rw [Bool.true_and]
   simp [h1,b1,h3,hlt,hw,←encT_eq,q,-Int.natCast_add]
   refine nx _ _ ?_ ?_ ?_ <;> simp [h1,b1]
  | false=>
   rw [hs] at q
   simp [h1,b1,h3,hlt,hw,←encT_eq,q,-Int.natCast_add]
theorem c111 (t:Tm):good t→∀ (st:St),callD T (ev T) 111 [encT t] st=some (.bool (freeT t),st):=by
 induction t using Tm.ind with
 | h t ih=>
  intro gt st
  refine callD_pureR (fn:=F111) rfl rfl (by simp) (by simp) ?_
  refine Ret_wp (fn:=F111) rfl ?_
  rw [F111,freeT_eq t]
  have lo:=fun s bx=>l111 t (good_len gt) (fun u hu st=>ih u hu (good_mem gt hu) st) t.l.length 0 s bx (by omega) (by omega)
  rw [List.drop_zero] at lo
  generalize t.l.all freeT=q at *
  by_cases hk:t.k=4
  ·simp [hk]
  ·simp [hk]
   refine WL.use L111_0_p L111_0_w (lo _ _ ?_ ?_ ?_) ?_
   iterate 3 simp [hk]
   rintro e s' b' st' h hf
   cases q with
   | true=>simp at h; subst h; simp
   | false=>simp at h; obtain ⟨rfl,q2⟩:=h; simp [q2]
end Go.Nt.Li
set_option linter.unusedSimpArgs false
namespace Go.Nt.Li
open Go Go.Nt
theorem callD_args {f:Nat} {fn:IFunc} (hT:T f=some fn) (hm:fn.mode=.pure) {args args':List D} {st st':St} {q:D} (h1:pureArgs st args=some (args',st')) (h2:pureArgs st' args'=some (args',st'))
  (h:callD T (ev T) f args' st'=some (q,st')):callD T (ev T) f args st=some (q,st'):=by
 simp only [callD,hT,hm,h2,Option.bind_some] at h
 simp only [callD,hT,hm,h1,Option.bind_some,h]
def shapedP (p:Tm):Bool:=p.k == 34 && p.l.length == 1
def shaped (d:Tm):Bool:=d.k == 30 && (!d.l.isEmpty && d.l.all shapedP)
theorem l46 (v:Tm) (hv:v.l.length≤9223372036854775807) :
  ∀ (r i:Nat) (s:List D) (bx:List (Nat × List D)),r=v.l.length - i→i≤v.l.length→get s 1=.lp 1 1 0→getB bx 1=(1,clT v)→get s 3=.int .i64 i →
  Stops (lp T L46_0 ⟨⟨s,bx⟩,[]⟩) fun e s' _ st'=>st'=[]∧(if (v.l.drop i).all shapedP then e=.exit 0 else e=.ret∧get s' 2=.bool false):=by
 intro r
 induction r with
 | zero=>
  intro i s bx hr hi h1 b1 h3
  have e:i=v.l.length:=by omega
  subst e
  rw [lp_kL,L46_0,List.drop_length]
  simp [h1,b1,h3]
 | succ r ihr=>
  intro i s bx hr hi h1 b1 h3
  rw [lp_kL,L46_0]
  have hlt:i < v.l.length:=by omega
  have hw:IntKind.wrap .i64 ((i:Int)+1)=i+1:=by rw [wrap64] <;> omega
  rw [List.drop_eq_getElem_cons hlt,List.all_cons]
  by_cases hk:v.l[i].k=34
  ·by_cases hl:v.l[i].l.length=1
   ·have e:shapedP v.l[i]=true:=by simp [shapedP,hk,hl]
    simp [h1,b1,h3,hlt,hw,hk,hl,e]
    rw [←L46_0]
    have:=ihr (i+1)
    simp only [List.all_eq_true] at this
    refine this _ _ (by omega) (by omega) ?_ b1 ?_
    iterate 2 simp [h1]
   ·have e:shapedP v.l[i]=false:=by simp [shapedP,hl]
    have e2:¬ ((v.l[i].l.length:Int)=1):=by omega
    simp [h1,b1,h3,hlt,hw,hk,hl,e,e2]
  ·have e:shapedP v.l[i]=false:=by simp [shapedP,hk]
   simp [h1,b1,h3,hlt,hw,hk,e]
theorem c46 (v:Tm) (hv:v.l.length≤9223372036854775807) (st:St):callD T (ev T) 46 [encT v] st=some (.bool (shaped v),st):=by
 refine callD_pure (fn:=F46) rfl rfl (by simp) (r:=.bool (shaped v)) (st1:=[]) (st2:=[]) ?_ (by simp) (by simp)
 rw [ev_eq 46 F46 rfl,F46]
 unfold shaped
 by_cases hk:v.k=30
 ·by_cases hl:v.l=[]
  ·simp [hk,hl]
  ·have e2:¬ v.l.length=0:=by simpa using hl
   have e3:¬ ((v.l.length:Int)=0):=by omega
   simp [hk,hl,e2,e3]
   refine (l46 v hv _ 0 _ _ rfl (by omega) ?_ ?_ ?_).use (fun r=>kfin _ (kseq _ (kblock 0 r))=_) ?_
   iterate 3 simp [hk]
   rintro e s' b' st ⟨rfl,h⟩
   cases hs:v.l.all shapedP with
   | true=>simp [hs] at h; simp [h,hl]
   | false=>simp [hs] at h; simp [h.1,h.2]
 ·simp [hk]
def recW (m:Tm):Nat→List Int→Int→Int
 | 0,_,_=>0
 | r+1,inn,n=>if h:0≤n∧n < m.l.length then (if n∈inn then 0 else if shaped (m.l[n.toNat]'(by omega)) then sumM (arrM (recW m r (inn++[n]))) (m.l[n.toNat]'(by omega)).l 0 else 0) else 0
theorem recW_in (m:Tm) (r:Nat) (inn:List Int) (n:Int):0≤recW m r inn n∧recW m r inn n≤64:=by
 induction r generalizing inn n with
 | zero=>simp [recW]
 | succ r ih=>
  rw [recW]
  split
  ·split
   ·omega
   ·split
    ·exact sumM_in _ (arrM_in _ (ih _)) _ _ (by omega)
    ·omega
  ·omega
theorem countP_lt' {α:Type} (p q:α→Bool) (l:List α) (h:∀ x,q x=true→p x=true) (x:α) (hx:x∈l) (h1:p x=true) (h2:q x=false):l.countP q < l.countP p:=by
 induction l with
 | nil=>cases hx
 | cons y l ih=>
  have hle:l.countP q≤l.countP p:=List.countP_mono_left fun z _=>h z
  simp only [List.countP_cons]
  cases hx with
  | head=>simp [h1,h2]; omega
  | tail _ hx=>
   have:=ih hx
   by_cases g:q y=true
   ·simp [g,h y g]; omega
   ·simp [g]; split <;> omega
def avail (m:Tm) (inn:List Int):Nat:=List.countP (fun i:Nat=>!(inn.contains (i:Int))) (List.range m.l.length)
theorem avail_le (m:Tm) (inn:List Int):avail m inn≤m.l.length:=by
 have:=List.countP_le_length (p:=fun i:Nat=>!(inn.contains (i:Int))) (l:=List.range m.l.length)
 simpa [avail] using this
theorem avail_lt (m:Tm) (inn:List Int) (n:Int) (h:0≤n∧n < m.l.length) (hn:¬ n∈inn):avail m (inn++[n]) < avail m inn:=by
 refine countP_lt' _ _ _ (fun x hx=>?_) n.toNat (by simp; omega) ?_ ?_
 ·simp at hx ⊢; exact fun g=>hx.1 g
 ·have:(n.toNat:Int)=n:=by omega
  simp [this,hn]
 ·have:(n.toNat:Int)=n:=by omega
  simp [this]
theorem l81 (w:List Int) (hw':w.length≤1000000) (fl:Fl) (n:Int) :
  ∀ (r i:Nat) (s:List D) (bx:List (Nat × List D)),r=w.length - i→i≤w.length→get s 2=slE 1 fl (encW w)→get s 8=.int .i64 n→get s 9=.int .i64 i→get s 3=.lp 3 1 0→get s 4=.lp 4 1 0 →
  Stops (lp T L81_0 ⟨⟨s,bx⟩,[]⟩) fun e s' b' st'=>st'=[]∧b'=bx∧(if n∈w.drop i then e=.ret∧get s' 6=.int .i64 0 else e=.exit 0∧get s' 2=slE 1 fl (encW w)∧get s' 8=.int .i64 n∧get s' 3=.lp 3 1 0∧get s' 4=.lp 4 1 0):=by
 intro r
 induction r with
 | zero=>
  intro i s bx hr hi h2 h8 h9 h3 h4
  have e:i=w.length:=by omega
  subst e
  rw [lp_kL,L81_0,List.drop_length]
  simp [h2,h8,h9,h3,h4]
 | succ r ihr=>
  intro i s bx hr hi h2 h8 h9 h3 h4
  rw [lp_kL,L81_0]
  have hlt:i < w.length:=by omega
  have hw:IntKind.wrap .i64 ((i:Int)+1)=i+1:=by rw [wrap64] <;> omega
  have q:(n∈w.drop i)=(n=w[i]∨n∈w.drop (i+1)):=by rw [List.drop_eq_getElem_cons hlt,List.mem_cons]
  simp only [q]
  by_cases hn:w[i]=n
  ·simp [h2,h8,h9,h3,h4,hlt,hw,hn]
  ·have hn':¬ n=w[i]:=fun h=>hn h.symm
   simp [h2,h8,h9,h3,h4,hlt,hw,hn,hn']
   rw [←L81_0]
   refine ihr (i+1) _ _ (by omega) (by omega) ?_ ?_ ?_ ?_ ?_
   iterate 5 simp [h2,h8,h3,h4]
theorem at_set_last (st:St) (o o':Ob):St.at (List.set (st++[o]) st.length o') st.length=o':=by simp [St.at]
theorem app2 (st:St) (ds:List D) (x:D) (h:ds.length≤1000000):∃ (r1:D) (s1:St) (id ver:Nat) (s2:St),appendD st (.sl 1 true []) ds 1=some (r1,s1)∧appendD s1 r1 [x] 1=some (.rs id ver 1 0 (ds.length+1) false,s2) ∧
  ∃ s3,fz1 s2 (.rs id ver 1 0 (ds.length+1) false)=some (.sl 1 false (ds++[x]),s3):=by
 cases ds with
 | nil=>
  refine ⟨.sl 1 true [],st,st.length,0,st++[.cells false 1 0 0 false [x]],?_,?_,List.set (st++[.cells false 1 0 0 false [x]]) st.length (.cells false 1 0 1 true [x]),?_⟩
  ·simp [appendD]
  ·simp [appendD,most]
  ·simp [at_last]
 | cons d l=>
  have h':¬ most < (d::l).length:=by unfold most; omega
  have h2:l.length+1≤67108864:=by simp at h; omega
  refine ⟨.rs st.length 0 1 0 (l.length+1) false,st++[.cells false 1 0 0 false (d::l)],st.length,1,List.set (st++[.cells false 1 0 0 false (d::l)]) st.length (.cells false 1 1 1 false (d::l++[x])),?_,?_,List.set (List.set (st++[.cells false 1 0 0 false (d::l)]) st.length (.cells false 1 1 1 false (d::l++[x]))) st.length (.cells false 1 1 2 true (d::l++[x])),?_⟩
  ·simp only [appendD,if_neg h']; simp [most]
  ·simp [appendD,at_last,most,tagB]; omega
  ·have e:List.take (l.length+1) (l++[x])=l++[x]:=List.take_of_length_le (by simp)
   simp [at_last,e]
theorem l81b (m d:Tm) (fl:Fl) (w:List Int) (n:Int) (f:Tm→Int) (hf:∀ t,0≤f t∧f t≤64) (hd:d.ok) (hs:d.l.all shapedP=true) (hw':w.length≤1000000)
  (hc:∀ t st,t.ok→callD T (ev T) 81 [encT m,encT t,slE 1 .part (encW (w++[n]))] st=some (.int .i64 (f t),st)) :
  ∀ (r i:Nat) (acc:Int) (s:List D) (bx:List (Nat × List D)) (st:St),r=d.l.length - i→i≤d.l.length→0≤acc∧acc≤64→get s 2=slE 1 fl (encW w)→get s 3=.lp 3 1 0→getB bx 3=(1,clT m)→get s 8=.int .i64 n →
  get s 10=.lp 10 1 0→getB bx 10=(1,clT d)→get s 11=.int .i64 acc→get s 12=.int .i64 i →
  Stops (lp T L81_1 ⟨⟨s,bx⟩,st⟩) fun e s' _ _=>e=.exit 2∧get s' 11=.int .i64 (sumM f (d.l.drop i) acc)∨e=.ret∧get s' 6=.int .i64 0∧sumM f (d.l.drop i) acc=0:=by
 obtain ⟨k1,k2,k4,k5,k6,k7,k3⟩:=(Tm.ok_iff d).1 hd
 intro r
 induction r with
 | zero=>
  intro i acc s bx st hr hi ha h2 h3 b3 h8 h10 b10 h11 h12
  have e:i=d.l.length:=by omega
  subst e
  rw [lp_kL,L81_1,List.drop_length]
  simp [h2,h3,b3,h8,h10,b10,h11,h12,sumM]
 | succ r ihr=>
  intro i acc s bx st hr hi ha h2 h3 b3 h8 h10 b10 h11 h12
  have hlt:i < d.l.length:=by omega
  have hw:IntKind.wrap .i64 ((i:Int)+1)=i+1:=by rw [wrap64] <;> omega
  rw [lp_kL,L81_1,List.drop_eq_getElem_cons hlt,sumM]
  have hok:=k3 _ (List.getElem_mem hlt)
  have hsh:shapedP d.l[i]=true:=List.all_eq_true.1 hs _ (List.getElem_mem hlt)
  simp [shapedP] at hsh
  obtain ⟨hk,hl1⟩:=hsh
  match hl:d.l[i].l,hl1 with
  | [x],_=>
   have hxo:=((Tm.ok_iff _).1 hok).2.2.2.2.2.2 x (by rw [hl]; simp)
   obtain ⟨r1,s1,id,ver,s2,a1,a2,s3,a3⟩:=app2 st (encW w) (.int .i64 n) (by simpa using hw')
   have hx:callD T (ev T) 81 [encT m,encT x,.rs id ver 1 0 ((encW w).length+1) false] s2=some (.int .i64 (f x),s3):=by
    refine callD_args (fn:=F81) rfl rfl (args':=[encT m,encT x,slE 1 .part (encW (w++[n]))]) ?_ (by simp) (hc x s3 hxo)
    simp only [pureArgs_cons,encT_fz1,kPA_some,encT_pure,if_true,a3,pureArgs_nil]
    simp [slE]
   have hfx:=hf x
   have hw2:IntKind.wrap .i64 (acc+f x)=acc+f x:=by rw [wrap64] <;> omega
   have e4:∀ st,srcD st 1 (slE 1 fl (encW w))=some (encW w):=by
    intro st
    have:srcD st 1 (slE 1 fl (encW w))=listD st 1 (slE 1 fl (encW w)):=by cases fl <;> cases w <;> rfl
    rw [this,slE_list]
   have e5:∀ st,srcD st 1 (.sl 1 true [.int .i64 n])=some [.int .i64 n]:=fun st=>rfl
   simp only [encW,List.length_map] at a1 a2 hx e4
   by_cases h0:f x=0
   ·have hw3:IntKind.wrap .i64 acc=acc:=by rw [wrap64] <;> omega
    simp [h2,h3,b3,h8,h10,b10,h11,h12,hlt,hk,hl,←encT_eq,a1,a2,e4,e5,hx,h0,hw3]
   ·by_cases h1:64 < acc+f x
    ·simp [h2,h3,b3,h8,h10,b10,h11,h12,hlt,hk,hl,←encT_eq,a1,a2,e4,e5,hx,h0,h1,hw2]
    ·simp [h2,h3,b3,h8,h10,b10,h11,h12,hlt,hk,hl,←encT_eq,a1,a2,e4,e5,hx,h0,h1,hw2,hw]
     rw [←L81_1]
     refine ihr (i+1) (acc+f x) _ _ _ (by omega) (by omega) (by omega) ?_ ?_ b3 ?_ ?_ b10 ?_ ?_
     iterate 6 simp [h2,h3,h8,h10]
theorem c81 (m:Tm) (hm:m.ok):∀ (r:Nat) (w:List Int),avail m w < r→w.length+r≤1000000→∀ (t:Tm),t.ok→∀ (fl:Fl) (st:St),
  callD T (ev T) 81 [encT m,encT t,slE 1 fl (encW w)] st=some (.int .i64 (arrM (recW m r w) t),st):=by
 intro r
 induction r with
 | zero=>intro w hw; omega
 | succ r ihr=>
  intro w hav hwr t
  obtain ⟨m1,m2,m4,m5,m6,m7,m3⟩:=(Tm.ok_iff m).1 hm
  induction t using Tm.ind with
  | h t ih=>
   intro ht fl st
   obtain ⟨k1,k2,k4,k5,k6,k7,k3⟩:=(Tm.ok_iff t).1 ht
   have go:∃ st1,ev T 81 [encT m,encT t,slE 1 fl (encW w)] []=some (.int .i64 (arrM (recW m (r+1) w) t),st1):=by
    have fin:∀ {x:Option (D × St)} {y:D},x=some (y,[])→∃ st1,x=some (y,st1):=fun h=>⟨[],h⟩
    rw [ev_eq 81 F81 rfl,F81,arrM_eq]
    by_cases h1:t.k=1
    ·cases hl:t.l with
     | nil=>apply fin; simp [h1,hl]
     | cons x l=>apply fin; simp [h1,hl]
    ·by_cases h2:t.k=2
     ·cases hl:t.l with
      | nil=>apply fin; simp [h1,h2,hl]
      | cons x l=>apply fin; simp [h1,h2,hl]
     ·by_cases h3:t.k=3
      ·match hl:t.l with
       | []=>apply fin; simp [h1,h2,h3,hl]
       | x::y::l=>
        have e:¬ ((l.length:Int)+1+1=1):=by omega
        apply fin; simp [h1,h2,h3,hl,e]
       | [x]=>
        have hx:=ih x (by rw [hl]; simp) (k3 x (by rw [hl]; simp)) fl []
        have hb:=arrM_in _ (recW_in m (r+1) w) x
        unfold prod
        by_cases g1:t.n < 1
        ·have g1':¬ 1≤t.n:=by omega
         apply fin; simp [h1,h2,h3,hl,g1,g1']
        ·by_cases g2:16 < t.n
         ·have g1':1≤t.n:=by omega
          have g2':¬ t.n≤16:=by omega
          apply fin; simp [h1,h2,h3,hl,g1,g1',g2,g2']
         ·have g1':1≤t.n:=by omega
          have g2':t.n≤16:=by omega
          have hc:arrM (recW m (r+1) w) x * t.n=t.n * arrM (recW m (r+1) w) x:=Int.mul_comm _ _
          have hb1:t.n * arrM (recW m (r+1) w) x≤16 * 64:=Int.mul_le_mul (by omega) hb.2 hb.1 (by omega)
          have hb0:0≤t.n * arrM (recW m (r+1) w) x:=Int.mul_nonneg (by omega) hb.1
          have hw:IntKind.wrap .i64 (t.n * arrM (recW m (r+1) w) x)=t.n * arrM (recW m (r+1) w) x:=by rw [wrap64] <;> omega
          by_cases g3:64 < t.n * arrM (recW m (r+1) w) x
          ·apply fin; simp [h1,h2,h3,hl,g1,g1',g2,g2',←encT_eq,hx,hc,hw,g3]
          ·apply fin; simp [h1,h2,h3,hl,g1,g1',g2,g2',←encT_eq,hx,hc,hw,g3]
      ·by_cases h4:t.k=4
       ·cases hl:t.l with
        | nil=>
         by_cases g1:t.n < 0
         ·have g:¬ (0≤t.n∧t.n < m.l.length):=by omega
          rw [recW,dif_neg g]
          apply fin; simp [h1,h2,h3,h4,hl,g1]
         ·by_cases g2:(m.l.length:Int)≤t.n
          ·have g:¬ (0≤t.n∧t.n < m.l.length):=by omega
           rw [recW,dif_neg g]
           apply fin; simp [h1,h2,h3,h4,hl,g1,g2]
          ·have g:0≤t.n∧t.n < m.l.length:=by omega
           have g3:t.n.toNat < m.l.length:=by omega
           rw [recW,dif_pos g]
           simp [h1,h2,h3,h4,hl,g1,g2]
           refine (l81 w (by omega) fl t.n _ 0 _ _ rfl (by omega) ?_ ?_ ?_ ?_ ?_).use (fun r=>∃ st1,kfin _ (kseq _ (kblock 0 r))=some (_,st1)) ?_
           iterate 5 simp [h1,h2,h3,h4,hl]
           rintro e s' b' st ⟨rfl,rfl,h⟩
           by_cases hin:t.n∈w
           ·simp [hin] at h
            apply fin; simp [h.1,h.2,hin]
           ·simp [hin] at h
            obtain ⟨rfl,q2,q8,q3,q4⟩:=h
            have hdok:=m3 _ (List.getElem_mem g3)
            have c:=c46 m.l[t.n.toNat] ((Tm.ok_iff _).1 hdok).2.2.2.2.2.1 []
            cases hsh:shaped m.l[t.n.toNat] with
            | false=>apply fin; simp [hin,q2,q8,q3,q4,g1,g3,←encT_eq,c,hsh]
            | true=>
             have hshp:m.l[t.n.toNat].l.all shapedP=true:=by simp [shaped] at hsh; simpa using hsh.2.2
             simp [hin,q2,q8,q3,q4,g1,g3,←encT_eq,c,hsh]
             refine (l81b m m.l[t.n.toNat] fl w t.n (arrM (recW m r (w++[t.n]))) (arrM_in _ (recW_in m r _)) hdok hshp (by omega) (fun t' st ht'=>ihr (w++[t.n]) (by have:=avail_lt m w t.n g hin; omega) (by simp; omega) t' ht' .part st)
              _ 0 0 _ _ [] rfl (by omega) (by omega) ?_ ?_ ?_ ?_ ?_ ?_ ?_ ?_).use (fun r=>∃ st1,kfin _ (kseq _ (kblock 2 r))=some (_,st1)) ?_
             iterate 8 simp [q2,q8,q3,q4]
             rintro e s'' b'' st'' (⟨rfl,q⟩ | ⟨rfl,q,q'⟩)
             ·simp at q; exact ⟨st'',by simp [q]⟩
             ·simp at q'; exact ⟨st'',by simp [q,q']⟩
        | cons x l=>apply fin; simp [h1,h2,h3,h4,hl]
       ·apply fin; simp [h1,h2,h3,h4]
   obtain ⟨st1,h⟩:=go
   exact callD_pure (fn:=F81) (st2:=st1) rfl rfl (by simp) h (by simp) (by simp)
def cellsW (m t:Tm):Int:=arrM (recW m (m.l.length+1) []) t
theorem c48 (m t:Tm) (hm:m.ok) (hb:m.l.length≤1000) (ht:t.ok) (st:St):callD T (ev T) 48 [encT m,encT t] st=some (.int .i64 (cellsW m t),st):=by
 refine callD_pure (fn:=F48) rfl rfl (by simp) (r:=.int .i64 (cellsW m t)) (st1:=[]) (st2:=[]) ?_ (by simp) (by simp)
 have h:=c81 m hm (m.l.length+1) [] (by have:=avail_le m []; omega) (by simp; omega) t ht .full []
 simp [slE] at h
 rw [ev_eq 48 F48 rfl,F48]
 simp [←encT_eq,h,cellsW]
end Go.Nt.Li
set_option linter.unusedSimpArgs false
namespace Go.Nt.Li
open Go Go.Nt
def baseT:Tm→Option Int
 | .mk k n _ _ l _ _=>if (k=1∨k=2)∧l=[] then none else if k=3 then (match l with | [x]=>baseT x | _=>none) else if k=4∧l=[] then some n else none
theorem baseT_eq (t:Tm):baseT t=if (t.k=1∨t.k=2)∧t.l=[] then none else if t.k=3 then (match t.l with | [x]=>baseT x | _=>none) else if t.k=4∧t.l=[] then some t.n else none:=by
 cases t with
 | mk k n s fl l a b=>
  match l with
  | []=>simp [baseT,Tm.k,Tm.n,Tm.l]
  | [x]=>simp [baseT,Tm.k,Tm.n,Tm.l]
  | x::y::l=>simp [baseT,Tm.k,Tm.n,Tm.l]
theorem prod0 (n:Int):prod n 0=0:=by unfold prod; split <;> simp
theorem arrM_congr (f g:Int→Int) (t:Tm) (h:∀ n,baseT t=some n→f n=g n):arrM f t=arrM g t:=by
 induction t using Tm.ind with
 | h t ih=>
  rw [baseT_eq] at h
  rw [arrM_eq,arrM_eq]
  split
  ·rfl
  ·next h1=>
   rw [if_neg h1] at h
   split
   ·next h2=>
    rw [if_pos h2] at h
    split
    ·next x hx=>rw [hx] at h; rw [ih x (by rw [hx]; simp) h]
    ·rfl
   ·next h2=>
    rw [if_neg h2] at h
    split
    ·next h3=>rw [if_pos h3] at h; exact h _ rfl
    ·rfl
theorem arrM_ne (f:Int→Int) (t:Tm) (n:Int) (hb:baseT t=some n) (h:arrM f t≠0):f n≠0:=by
 induction t using Tm.ind with
 | h t ih=>
  rw [baseT_eq] at hb
  rw [arrM_eq] at h
  split at hb
  ·cases hb
  ·next h1=>
   rw [if_neg h1] at h
   split at hb
   ·next h2=>
    rw [if_pos h2] at h
    split at hb
    ·next x hx=>
     rw [hx] at h
     refine ih x (by rw [hx]; simp) hb fun e=>h ?_
     simp only [e,prod0]
    ·cases hb
   ·next h2=>
    rw [if_neg h2] at h
    split at hb
    ·next h3=>cases hb; rw [if_pos h3] at h; exact h
    ·cases hb
def Uses (m:Tm) (a b:Int):Prop:=∃ (_:0≤a∧a < m.l.length) (p x:Tm),p∈(m.l[a.toNat]'(by omega)).l∧p.l=[x]∧baseT x=some b
theorem sumM_ne (f:Tm→Int) (l:List Tm) (acc:Int) (h:sumM f l acc≠0) (p x:Tm) (hp:p∈l) (hx:p.l=[x]):f x≠0:=by
 induction l generalizing acc with
 | nil=>cases hp
 | cons q l ih=>
  rw [sumM] at h
  split at h
  ·next y hy=>
   split at h
   ·split at h
    ·exact absurd rfl h
    ·next g=>
     cases hp with
     | head=>rw [hx] at hy; cases hy; exact fun e=>g (.inl e)
     | tail _ hp=>exact ih _ h hp
   ·exact absurd rfl h
  ·exact absurd rfl h
theorem uses_ne (m:Tm) (r:Nat) (a b:Int) (hu:Uses m a b) (h:recM m (r+1) a≠0):recM m r b≠0:=by
 obtain ⟨ha,p,x,hp,hx,hb⟩:=hu
 rw [recM,dif_pos ha] at h
 split at h
 ·exact arrM_ne _ x b hb (sumM_ne _ _ _ h p x hp hx)
 ·exact absurd rfl h
inductive Path (m:Tm):Int→Nat→Int→Prop
 | one (a b:Int) (h:Uses m a b):Path m a 1 b
 | more (a b c:Int) (j:Nat) (h:Path m a j b) (k:Uses m b c):Path m a (j+1) c
theorem path_ne (m:Tm) {a b:Int} {j:Nat} (h:Path m a j b):∀ r,recM m r a≠0→j < r∧recM m (r - j) b≠0:=by
 induction h with
 | one b h=>
  intro r hr
  match r,hr with
  | 0,hr=>simp [recM] at hr
  | r+1,hr=>
   have q:=uses_ne m r _ _ h hr
   have:r≠0:=by rintro rfl; simp [recM] at q
   exact ⟨by omega,q⟩
 | more b c j h k ih=>
  intro r hr
  obtain ⟨h1,h2⟩:=ih r hr
  obtain ⟨q,hq⟩:∃ q,r - j=q+1:=⟨r - j - 1,by omega⟩
  rw [hq] at h2
  have e:=uses_ne m q _ _ k h2
  have:q≠0:=by rintro rfl; simp [recM] at e
  exact ⟨by omega,by rw [show r - (j+1)=q by omega]; exact e⟩
theorem path_pos (m:Tm) {a b:Int} {j:Nat} (h:Path m a j b):0 < j:=by cases h <;> omega
theorem cycle (m:Tm) (a:Int) (j:Nat) (h:Path m a j a):∀ r,recM m r a=0:=by
 intro r
 induction r using Nat.strongRecOn with
 | ind r ih=>
  refine Classical.byContradiction fun hr=>?_
  obtain ⟨h1,h2⟩:=path_ne m h r hr
  have:=path_pos m h
  exact h2 (ih (r - j) (by omega))
theorem sumM_bad (f:Tm→Int) (l:List Tm) (acc:Int) (h:l.all shapedP=false):sumM f l acc=0:=by
 induction l generalizing acc with
 | nil=>simp at h
 | cons p l ih=>
  rw [sumM]
  split
  ·next x hx=>
   split
   ·next hk=>
    split
    ·rfl
    ·refine ih _ ?_
     have:shapedP p=true:=by simp [shapedP,hk,hx]
     simpa [this] using h
   ·rfl
  ·rfl
theorem sumM_congr (f g:Tm→Int) (l:List Tm) (h:∀ p x,p∈l→p.l=[x]→f x=g x) (acc:Int):sumM f l acc=sumM g l acc:=by
 induction l generalizing acc with
 | nil=>rfl
 | cons p l ih=>
  rw [sumM,sumM]
  split
  ·next x hx=>
   rw [h p x (List.mem_cons_self ..) hx,ih fun p x hp=>h p x (List.mem_cons_of_mem _ hp)]
  ·rfl
theorem rec_eq (m:Tm):∀ (r:Nat) (w:List Int) (n:Int),(∀ a,a∈w→∃ j,Path m a j n)→recW m r w n=recM m r n:=by
 intro r
 induction r with
 | zero=>intro w n _ <;> rfl
 | succ r ih=>
  intro w n hw
  by_cases hin:n∈w
  ·obtain ⟨j,hj⟩:=hw n hin
   rw [cycle m n j hj,recW]
   split
   ·rfl
   ·rfl
  ·rw [recW,recM]
   split
   ·next hn=>
    cases hs:(m.l[n.toNat]'(by omega)).l.all shapedP with
    | true=>
     by_cases hk:(m.l[n.toNat]'(by omega)).k=30
     ·rw [if_pos hk]
      by_cases hl:(m.l[n.toNat]'(by omega)).l=[]
      ·simp [shaped,hl,sumM]
      ·have:shaped (m.l[n.toNat]'(by omega))=true:=by simp only [shaped,hs,hk]; simp [hl]
       rw [if_pos this]
       refine sumM_congr _ _ _ (fun p x hp hx=>arrM_congr _ _ x fun b hb=>ih _ b ?_) 0
       intro a ha
       have u:Uses m n b:=⟨hn,p,x,hp,hx,hb⟩
       rcases List.mem_append.1 ha with ha | ha
       ·obtain ⟨j,hj⟩:=hw a ha
        exact ⟨j+1,.more _ _ _ _ hj u⟩
       ·simp at ha; subst ha; exact ⟨1,.one _ _ u⟩
     ·have:shaped (m.l[n.toNat]'(by omega))=false:=by simp [shaped,hk]
      rw [if_neg hk,this] <;> rfl
    | false=>
     have:shaped (m.l[n.toNat]'(by omega))=false:=by simp only [shaped,hs]; simp
     rw [this,sumM_bad (arrM (recM m r)) _ _ hs]
     simp
   ·rfl
theorem cells_eq (m t:Tm):cellsW m t=cellsV m t:=arrM_congr _ _ t fun n _=>rec_eq m _ [] n fun a ha=>by cases ha
end Go.Nt.Li
set_option linter.unusedSimpArgs false
namespace Go.Nt.Li
open Go Go.Nt
theorem c82 (st:St):callD T (ev T) 82 [] st=some (encT (tK 1),st):=by
 refine callD_pureR (fn:=F82) rfl rfl (by simp) (by simp) ?_
 refine Ret_wp (fn:=F82) rfl ?_
 rw [F82,encT_K]
 simp [splice,fillD]
theorem c83 (st:St):callD T (ev T) 83 [] st=some (encT (tK 2),st):=by
 refine callD_pureR (fn:=F83) rfl rfl (by simp) (by simp) ?_
 refine Ret_wp (fn:=F83) rfl ?_
 rw [F83,encT_K]
 simp [splice,fillD]
theorem c141 (t:Tm) (k:Int) (st:St):callD T (ev T) 141 [encT t,.int .i64 k] st=some (.bool (isT t k),st):=by
 refine callD_pureR (fn:=F141) rfl rfl (by simp) (by simp) ?_
 refine Ret_wp (fn:=F141) rfl ?_
 rw [F141]
 unfold isT
 by_cases hk:t.k=k
 ·cases hl:t.l <;> simp [hk,hl]
 ·simp [hk]
theorem c49 (t:Tm) (st:St):callD T (ev T) 49 [encT t] st=some (encT (litT t),st):=by
 have q1:=c82
 have q2:=c83
 rw [encT_K] at q1 q2
 refine callD_pureR (fn:=F49) rfl rfl (by simp) (by simp) ?_
 refine Ret_wp (fn:=F49) rfl ?_
 rw [F49]
 unfold litT
 by_cases h5:t.k=5
 ·rw [if_pos h5,encT_K]
  simp [h5,q1,splice]
 ·by_cases h6:t.k=6
  ·rw [if_neg h5,if_pos h6,encT_K]
   simp [h5,h6,q2,splice]
  ·rw [if_neg h5,if_neg h6,encT_0]
   simp [h5,h6,splice,fillD]
def badG (a e:Int):D:=.agg [.int .i64 0,.int .i64 0,.str [],.nils,.int .i64 0,.int .i64 0,.int .i64 0,.int .i64 0,.str [],.nils,.int .i64 0,.int .i64 0,.int .i64 a,.int .i64 e]
theorem c107 (t:Tm) (e:Int) (st:St):callD T (ev T) 107 [encT t,.int .i64 e] st=some (badG t.a e,st):=by
 refine callD_pureR (fn:=F107) rfl rfl (by simp) (by simp [badG]) ?_
 refine Ret_wp (fn:=F107) rfl ?_
 rw [F107,badG]
 simp [splice,fillD]
theorem c79 (m t:Tm) (gm:good m) (hb:m.l.length≤1000) (gt:good t) (st:St):callD T (ev T) 79 [encT m,encT t] st=some (.bool (decide (cellsV m t≠0) && freeT t),st):=by
 have q1:=fun st=>c48 m t (good_ok _ gm) hb (good_ok _ gt) st
 rw [cells_eq] at q1
 have q2:=c111 t gt
 have hc:=arrM_in _ (recM_in m (m.l.length+1)) t
 refine callD_pureR (fn:=F79) rfl rfl (by simp) (by simp) ?_
 refine Ret_wp (fn:=F79) rfl ?_
 rw [F79]
 change 0≤cellsV m t∧_ at hc
 by_cases h0:cellsV m t=0
 ·simp [←encT_eq,q1,h0]
 ·have h1:0 < cellsV m t:=by omega
  simp [←encT_eq,q1,q2,h0,h1]
theorem c143 (m:Tm) (n:Int) (hn:in64 n) (st:St):callD T (ev T) 143 [encT m,.int .i64 n] st=some (.tup [encT (typField m n).1,.bool (typField m n).2],st):=by
 refine callD_pureR (fn:=F143) rfl rfl (by simp) (by simp) ?_
 refine Ret_wp (fn:=F143) rfl ?_
 rw [F143]
 unfold typField
 have hq:IntKind.wrap .i64 (n.tdiv 64)=n.tdiv 64:=by
  have h1:=Int.mul_tdiv_add_tmod n 64
  have h2:=Int.tmod_lt_of_pos n (by omega:(0:Int) < 64)
  have h3:-64 < n.tmod 64:=by have:=Int.lt_tmod_of_pos n (by omega:(0:Int) < 64); omega
  unfold in64 at hn
  rw [wrap64] <;> omega
 by_cases h0:n < 0
 ·have g:¬ (0≤n∧n.tdiv 64 < m.l.length):=by omega
  simp [h0,g,encT_K,splice,fillD]
 ·have hd:=Int.tdiv_nonneg (by omega:0≤n) (by omega:(0:Int)≤64)
  have hm0:=Int.tmod_nonneg (64:Int) (by omega:0≤n)
  by_cases h1:n.tdiv 64 < m.l.length
  ·have g:0≤n∧n.tdiv 64 < m.l.length:=⟨by omega,h1⟩
   have h1':¬ (m.l.length:Int)≤n.tdiv 64:=by omega
   have h2:(n.tdiv 64).toNat < m.l.length:=by omega
   have hd':¬ n.tdiv 64 < 0:=by omega
   have hm':¬ n.tmod 64 < 0:=by omega
   rw [dif_pos g]
   generalize hD:m.l[(n.tdiv 64).toNat]=d at *
   by_cases h3:d.k=30
   ·cases hp:d.l[(n.tmod 64).toNat]? with
    | none=>
     have h4:(d.l.length:Int)≤n.tmod 64:=by rw [List.getElem?_eq_none_iff] at hp; omega
     simp [h0,h1,h1',h2,h3,h4,hq,hd',hm',hp,hD,encT_K,splice,fillD]
    | some p=>
     have h4:(n.tmod 64).toNat < d.l.length:=by
      by_cases c:(n.tmod 64).toNat < d.l.length
      ·exact c
      ·rw [List.getElem?_eq_none (by omega)] at hp; cases hp
     have h4':¬ (d.l.length:Int)≤n.tmod 64:=by omega
     have hp2:d.l[(n.tmod 64).toNat]=p:=by rw [List.getElem?_eq_getElem h4] at hp; simpa using hp
     by_cases h5:p.k=34
     ·by_cases h6:p.l.length=1
      ·match hpl:p.l,h6 with
       | [x],_=>simp [h0,h1,h1',h2,h3,h4,h4',h5,hpl,hq,hd',hm',hp,hp2,hD,splice,fillD,←encT_eq]
      ·have h6':¬ ((p.l.length:Int)=1):=by omega
       simp [h0,h1,h1',h2,h3,h4,h4',h5,h6,h6',hq,hd',hm',hp,hp2,hD,encT_K,splice,fillD]
     ·simp [h0,h1,h1',h2,h3,h4,h4',h5,hq,hd',hm',hp,hp2,hD,encT_K,splice,fillD]
   ·cases hp:d.l[(n.tmod 64).toNat]? <;> simp [h0,h1,h1',h2,h3,hq,hd',hm',hp,hD,encT_K,splice,fillD]
  ·have g:¬ (0≤n∧n.tdiv 64 < m.l.length):=by omega
   have h1':(m.l.length:Int)≤n.tdiv 64:=by omega
   simp [h0,h1,h1',g,hq,encT_K,splice,fillD]
end Go.Nt.Li
set_option linter.unusedSimpArgs false
namespace Go.Nt.Li
open Go Go.Nt
variable {m:Tm} {locs:List Tm}
theorem c106 (t:Tm) (st:St):callD T (ev T) 106 [encT t] st=some (.bool (shapedT t),st):=by
 refine callD_pureR (fn:=F106) rfl rfl (by simp) (by simp) ?_
 refine Ret_wp (fn:=F106) rfl ?_
 rw [F106]
 unfold shapedT
 by_cases h5:t.k=5
 ·simp [h5]
 by_cases h7:t.k=7
 ·simp [h7]
 by_cases h8:t.k=8
 ·simp [h8]
 by_cases h9:t.k=9
 ·simp [h9]
 by_cases h18:t.k=18
 ·simp [h18]
 by_cases h6:t.k=6
 ·by_cases q:t.l=[]
  ·by_cases n0:t.n=0
   ·simp [h6,q,n0]
   ·by_cases n1:t.n=1 <;> simp [h6,q,n0,n1]
  ·simp [h6,q]
 by_cases h11:t.k=11
 ·by_cases q:t.l.length=1
  ·by_cases n0:t.n=1
   ·simp [h11,q,n0]
   ·by_cases n1:t.n=2 <;> simp [h11,q,n0,n1]
  ·simp [h11,q]
 by_cases h10:t.k=10
 ·by_cases q:t.l.length=2
  ·by_cases n0:1≤t.n
   ·simp [h10,q,n0]
   ·simp [h10,q,n0]
  ·simp [h10,q]
 by_cases h13:t.k=13
 ·simp [h13]
 by_cases h12:t.k=12
 ·simp [h12]
 have e1:decide ((1:Int)≤t.l.length)=decide (0 < t.l.length):=decide_eq_decide.2 (by omega)
 by_cases h14:t.k=14
 ·simp [h14,e1]
 by_cases h15:t.k=15
 ·simp [h15,e1]
 by_cases h16:t.k=16
 ·simp [h16]
 by_cases h17:t.k=17
 ·simp [h17]
 simp [h5,h6,h7,h8,h9,h10,h11,h12,h13,h14,h15,h16,h17,h18]
theorem shaped_bad (d:Tm) (h:d.k=30):shaped d=(!d.l.any badPart && decide (0 < d.l.length)):=by
 unfold shaped
 have e:d.l.all shapedP=!d.l.any badPart:=by
  induction d.l with
  | nil=>rfl
  | cons p l ih=>
   rw [List.all_cons,List.any_cons,ih]
   by_cases h1:p.k=34 <;> by_cases h2:p.l.length=1 <;> simp [shapedP,badPart,h1,h2]
 rw [e]
 cases hl:d.l with
 | nil=>simp [h]
 | cons p l=>simp [h]
theorem c138 (gm:good m) (n kind:Int) (hk:kind=30∨kind=31∨kind=32∨kind=33) (st:St):callD T (ev T) 138 [encT m,.int .i64 n,.int .i64 kind] st=some (.bool (declT m n kind).2,st):=by
 refine callD_pureR (fn:=F138) rfl rfl (by simp) (by simp) ?_
 refine Ret_wp (fn:=F138) rfl ?_
 rw [F138]
 unfold declT
 by_cases g:0≤n∧n < m.l.length
 ·have g1:¬ n < 0:=by omega
  have g2:¬ (m.l.length:Int)≤n:=by omega
  have g3:n.toNat < m.l.length:=by omega
  rw [dif_pos g]
  have gd:=good_mem gm (List.getElem_mem g3)
  generalize hD:m.l[n.toNat]=d at *
  by_cases hd:d.k=kind
  ·rw [if_pos hd]
   rcases hk with rfl | rfl | rfl | rfl
   ·have q:=c46 d (by have:=good_len gd; omega)
    rw [shaped_bad d hd,encT_eq d,hd] at q
    cases hb:d.l.any badPart with
    | true=>rw [hb] at q; simp [g1,g2,g3,hD,hd,←encT_eq,q,splice,-List.any_eq_true]
    | false=>rw [hb] at q; simp [g1,g2,g3,hD,hd,←encT_eq,q,splice,-List.any_eq_true]
   ·match hl:d.l with
    | []=>simp [g1,g2,g3,hD,hd,hl,splice]
    | [x]=>
     have q:=c49 x
     rw [encT_eq (litT x)] at q
     simp [g1,g2,g3,hD,hd,hl,←encT_eq x,q,splice]
    | x::y::r=>simp [g1,g2,g3,hD,hd,hl,splice]
   ·simp [g1,g2,g3,hD,hd,splice]
   ·simp [g1,g2,g3,hD,hd,splice]
  ·rw [if_neg hd]
   simp [g1,g2,g3,hD,hd,splice]
 ·rw [dif_neg g]
  by_cases g1:n < 0
  ·simp [g1]
  ·have g2:(m.l.length:Int)≤n:=by omega
   simp [g1,g2]
theorem c108 (gm:good m) (fl:Fl) (t:Tm) (st:St):callD T (ev T) 108 [encT m,slE 6 fl (encTs locs),encT t] st=some (.bool (namedT m locs t).2,st):=by
 refine callD_pureR (fn:=F108) rfl rfl (by simp) (by simp) ?_
 refine Ret_wp (fn:=F108) rfl ?_
 rw [F108]
 unfold namedT
 by_cases h7:t.k=7
 ·by_cases g:0≤t.n∧t.n < locs.length
  ·simp [h7,g.1,g.2,localT_some g]
  ·have e:localT locs t.n=none:=by rw [localT,if_neg g]
   by_cases g1:0≤t.n
   ·have g2:¬ t.n < locs.length:=by omega
    have g2':(locs.length:Int)≤t.n:=by omega
    simp [h7,g1,g2,g2',e]
   ·simp [h7,g1,e]
 by_cases h8:t.k=8
 ·have q:=c138 gm t.n 31 (by simp)
  cases hd:(declT m t.n 31).2 <;> (rw [hd] at q; simp [h8,←encT_eq,q,hd])
 by_cases h9:t.k=9
 ·have q:=c138 gm t.n 32 (by simp)
  cases hd:(declT m t.n 32).2 <;> (rw [hd] at q; simp [h9,←encT_eq,q,hd])
 by_cases h15:t.k=15
 ·have q:=c138 gm t.n 30 (by simp)
  simp [h15,←encT_eq,q]
 by_cases h16:t.k=16
 ·have q:=c138 gm t.n 33 (by simp)
  simp [h16,←encT_eq,q]
 by_cases h17:t.k=17
 ·simp [h17]
 simp [h7,h8,h9,h15,h16,h17]
theorem declT_some {n kind:Int} (h:(declT m n kind).2=true):∃ g:0≤n∧n < m.l.length,(declT m n kind).1=m.l[n.toNat]'(by omega)∧(declT m n kind).1.k=kind:=by
 unfold declT at h ⊢
 split at h
 ·next g=>
  refine ⟨g,?_⟩
  rw [dif_pos g]
  split at h
  ·next hk=>
   rw [if_pos hk]
   split
   ·exact ⟨rfl,hk⟩
   split
   ·exact ⟨rfl,hk⟩
   split
   ·exact ⟨rfl,hk⟩
   next n1 n2 n3=>
   rw [if_neg n1,if_neg n2,if_neg n3] at h
   split at h
   ·cases h
   ·next hb=>rw [if_neg hb]; exact ⟨rfl,hk⟩
  ·cases h
 ·cases h
theorem declT_one {n kind:Int} (hk:kind=31∨kind=32) (h:(declT m n kind).2=true):∃ x,(declT m n kind).1.l=[x]:=by
 unfold declT at h ⊢
 split at h
 ·next g=>
  rw [dif_pos g]
  split at h
  ·next hk'=>
   rw [if_pos hk']
   rcases hk with rfl | rfl
   ·simp at h ⊢; exact List.length_eq_one_iff.1 h.1
   ·simp at h ⊢; exact List.length_eq_one_iff.1 h
  ·cases h
 ·cases h
theorem c109 (gm:good m) (fl:Fl) (gl:∀ t,t∈locs→good t) (hll:locs.length≤1000000) (t:Tm) (h:(namedT m locs t).2=true) (st:St):callD T (ev T) 109 [encT m,slE 6 fl (encTs locs),encT t] st=some (encT (aloneE m locs t),st):=by
 refine callD_pureR (fn:=F109) rfl rfl (by simp) (by simp) ?_
 refine Ret_wp (fn:=F109) rfl ?_
 rw [F109]
 unfold aloneE
 by_cases h7:t.k=7
 ·rw [if_pos (.inl h7)]
  unfold namedT at h ⊢
  rw [if_pos h7] at h ⊢
  by_cases g:0≤t.n∧t.n < locs.length
  ·rw [localT_some g]
   have w1:IntKind.wrap .i64 ((locs.length:Int) - 1)=locs.length - 1:=by rw [wrap64] <;> omega
   have w2:IntKind.wrap .i64 ((locs.length:Int) - 1 - t.n)=locs.length - 1 - t.n:=by rw [wrap64] <;> omega
   have w3:¬ (locs.length:Int) - 1 - t.n < 0:=by omega
   have w4:((locs.length:Int) - 1 - t.n).toNat=locs.length - 1 - t.n.toNat:=by omega
   have w5:locs.length - 1 - t.n.toNat < locs.length:=by omega
   have q:=c139 _ (gl _ (List.getElem_mem w5))
   rw [encT_eq (bareE _)] at q
   simp [h7,w1,w2,w3,w4,w5,←encT_eq locs[locs.length - 1 - t.n.toNat],q,splice]
   rw [encT_eq]
  ·rw [localT,if_neg g] at h; cases h
 by_cases h9:t.k=9
 ·rw [if_pos (.inr h9)]
  unfold namedT at h ⊢
  rw [if_neg h7,if_neg (by omega),if_pos h9] at h ⊢
  cases hd:(declT m t.n 32).2 with
  | false=>rw [hd] at h; cases h
  | true=>
   obtain ⟨g,e,_⟩:=declT_some hd
   obtain ⟨x,hx⟩:=declT_one (.inr rfl) hd
   have g1:¬ t.n < 0:=by omega
   have g3:t.n.toNat < m.l.length:=by omega
   rw [e] at hx
   have gx:good x:=good_mem (good_mem gm (List.getElem_mem g3)) (by rw [hx]; simp)
   have q:=c139 x gx
   rw [encT_eq (bareE _)] at q
   rw [if_pos rfl,e,hx]
   simp [h9,g1,g3,hx,←encT_eq x,q,splice]
   rw [encT_eq]
 rw [if_neg (by omega)]
 by_cases h8:t.k=8
 ·rw [if_pos h8]
  unfold namedT at h ⊢
  rw [if_neg h7,if_pos h8] at h ⊢
  cases hd:(declT m t.n 31).2 with
  | false=>rw [hd] at h; cases h
  | true=>
   obtain ⟨g,e,_⟩:=declT_some hd
   obtain ⟨x,hx⟩:=declT_one (.inl rfl) hd
   have g1:¬ t.n < 0:=by omega
   have g3:t.n.toNat < m.l.length:=by omega
   rw [e] at hx
   have q:=c49 x
   rw [encT_eq (litT _)] at q
   rw [if_pos rfl,e,hx]
   simp [h8,g1,g3,hx,←encT_eq x,q,splice]
   rw [encT_eq]
 rw [if_neg h8]
 by_cases h18:t.k=18
 ·have q:=c82
  rw [encT_K] at q
  rw [if_pos h18,encT_K]
  simp [h18,q,splice]
 ·have q:=c49 t
  rw [encT_eq (litT t)] at q
  rw [if_neg h18]
  simp [h7,h8,h9,h18,←encT_eq t,q,splice]
  rw [encT_eq]
set_option maxHeartbeats 4000000 in
set_option maxRecDepth 20000 in
theorem c140 (op:Int) (a b:Tm) (ho:1≤op∧op≤13) (st:St):callD T (ev T) 140 [.int .i64 op,encT a,encT b] st=some (encT (binT op a b),st):=by
 have q1:=c141 a
 have q2:=c141 b
 have q3:=c82
 have q4:=c83
 rw [encT_K] at q3 q4
 refine callD_pureR (fn:=F140) rfl rfl (by simp) (by simp) ?_
 refine Ret_wp (fn:=F140) rfl ?_
 rw [F140]
 unfold binT
 have tw:∀ x:Tm,(isT x 1=true∧isT x 2=false)∨(isT x 1=false∧isT x 2=true)∨(isT x 1=false∧isT x 2=false):=by
  intro x
  unfold isT
  by_cases h1:x.k=1
  ·cases hl:x.l <;> simp [h1]
  ·by_cases h2:x.k=2
   ·cases hl:x.l <;> simp [h2]
   ·simp [h1,h2]
 rcases (show op=1∨op=2∨op=3∨op=4∨op=5∨op=6∨op=7∨op=8∨op=9∨op=10∨op=11∨op=12∨op=13 by omega) with rfl | rfl | rfl | rfl | rfl | rfl | rfl | rfl | rfl | rfl | rfl | rfl | rfl
 all_goals rcases tw a with ⟨ha1,ha2⟩ | ⟨ha1,ha2⟩ | ⟨ha1,ha2⟩ <;> rcases tw b with ⟨hb1,hb2⟩ | ⟨hb1,hb2⟩ | ⟨hb1,hb2⟩
 all_goals simp [←encT_eq,q1,q2,q3,q4,ha1,ha2,hb1,hb2,splice,fillD,encT_K]
end Go.Nt.Li
set_option linter.unusedSimpArgs false
namespace Go.Nt.Li
open Go Go.Nt
variable {m:Tm} {locs:List Tm}
theorem l142 (d t:Tm) (n:Int) (hd:d.l.length≤1000000) (hn:0≤n∧n≤1000000) :
  ∀ (r i:Nat) (s:List D) (bx:List (Nat × List D)) (st:St),r=d.l.length - i→i≤d.l.length→get s 4=.lp 4 1 0→getB bx 4=(1,clT t)→get s 9=.lp 9 1 0→getB bx 9=(1,clT d)→get s 10=.int .i64 i→get s 2=.int .i64 n →
  Stops (lp T L142_0 ⟨⟨s,bx⟩,st⟩) fun e s' _ _=>match byName t.s i (d.l.drop i) with | some (j,_)=>e=.ret∧get s' 6=.int .i64 (n * 64+j) | none=>e=.exit 0:=by
 intro r
 induction r with
 | zero=>
  intro i s bx st hr hi h4 b4 h9 b9 h10 h2
  have e:i=d.l.length:=by omega
  subst e
  refine Stops_wp L142_0.eq_1 ?_
  rw [List.drop_length,byName]
  simp [h4,b4,h9,b9,h10,h2]
 | succ r ihr=>
  intro i s bx st hr hi h4 b4 h9 b9 h10 h2
  have hlt:i < d.l.length:=by omega
  have hw:IntKind.wrap .i64 ((i:Int)+1)=((i+1:Nat):Int):=by rw [wrap64] <;> omega
  have w1:IntKind.wrap .i64 (n * 64)=n * 64:=by rw [wrap64] <;> omega
  have nx:=fun s' bx'=>ihr (i+1) s' bx' st (by omega) (by omega)
  rw [List.drop_eq_getElem_cons hlt,byName]
  refine Stops_wp L142_0.eq_1 ?_
  by_cases h64:i < 64
  ·have w2:IntKind.wrap .i64 (n * 64+i)=n * 64+i:=by rw [wrap64] <;> omega
   have h64':(i:Int) < 64:=by omega
   by_cases hs:d.l[i].s=t.s
   ·simp [h4,b4,h9,b9,h10,h2,hlt,h64,h64',hs,hw,w1,w2,-Int.natCast_add]
   ·rw [if_neg (fun q=>hs q.1)]
    generalize byName t.s (i+1) (d.l.drop (i+1))=bn at *
    simp [h4,b4,h9,b9,h10,h2,hlt,h64,h64',hs,hw,w1,w2,-Int.natCast_add]
    refine nx _ _ ?_ ?_ ?_ ?_ ?_ ?_ <;> simp [h4,b4,h9,b9,h2]
  ·rw [if_neg (fun q=>h64 q.2)]
   have e:byName t.s (i+1) (d.l.drop (i+1))=none:=by
    rcases byName_up t.s (d.l.drop (i+1)) (i+1) with h | ⟨j,f,h,hj,hj',_⟩
    ·exact h
    ·omega
   rw [e]
   have h64':¬ (i:Int) < 64:=by omega
   simp [h4,b4,h9,b9,h10,h2,hlt,h64,h64',hw,w1,-Int.natCast_add]
theorem c142 (gm:good m) (t of:Tm) (hn:in64 t.n) (st:St) :
  callD T (ev T) 142 [encT m,encT t,.int .i64 of.n] st=some (.int .i64 (if (fieldT m t.n t.s of).2.2 then (fieldT m t.n t.s of).1 else -1),st):=by
 have q1:=c138 gm of.n 30 (by simp)
 have q2:=c143 m t.n hn
 refine callD_pureR (fn:=F142) rfl rfl (by simp) (by simp) ?_
 refine Ret_wp (fn:=F142) rfl ?_
 rw [F142]
 unfold fieldT
 cases hd:(declT m of.n 30).2 with
 | false=>rw [hd] at q1; simp [←encT_eq m,q1]
 | true=>
  rw [hd] at q1
  by_cases hs:t.s=[]
  ·have hq:IntKind.wrap .i64 (t.n.tdiv 64)=t.n.tdiv 64:=by
    have h1:=Int.mul_tdiv_add_tmod t.n 64
    have h2:=Int.tmod_lt_of_pos t.n (by omega:(0:Int) < 64)
    have h3:-64 < t.n.tmod 64:=by have:=Int.lt_tmod_of_pos t.n (by omega:(0:Int) < 64); omega
    unfold in64 at hn
    rw [wrap64] <;> omega
   rw [encT_eq (typField m t.n).1] at q2
   cases hf:(typField m t.n).2 with
   | false=>rw [hf] at q2; simp [←encT_eq m,q1,q2,hs,hf,splice]
   | true=>
    rw [hf] at q2
    by_cases hk:t.n.tdiv 64=of.n
    ·have hq':=hq
     rw [hk] at hq'
     simp [←encT_eq m,q1,q2,hs,hf,hk,hq',splice]
    ·simp [←encT_eq m,q1,q2,hs,hf,hk,hq,splice]
  ·obtain ⟨g,e,_⟩:=declT_some hd
   have g1:¬ of.n < 0:=by omega
   have g3:of.n.toNat < m.l.length:=by omega
   have gd:=good_mem gm (List.getElem_mem g3)
   have hml:=good_len gm
   rw [e]
   have lo:=fun s bx st=>l142 m.l[of.n.toNat] t of.n (good_len gd) (by omega) _ 0 s bx st rfl (by omega)
   rw [List.drop_zero] at lo
   generalize hD:m.l[of.n.toNat]=d at *
   simp only [if_true,if_neg hs]
   generalize byName t.s 0 d.l=bn at *
   simp [←encT_eq m,q1,hs,g1,g3,hD,splice]
   refine WL.use L142_0_p L142_0_w (lo _ _ _ ?_ ?_ ?_ ?_ ?_ ?_) ?_
   iterate 6 simp [hD]
   rintro e s' b' st' h hf
   cases bn with
   | none=>simp at h; subst h; simp
   | some p=>obtain ⟨j,f⟩:=p; simp at h; obtain ⟨rfl,q6⟩:=h; simp [q6]
theorem same_bare (x:Tm):∀ a,sameT a (bareE x)=sameT a (bareT x):=by
 induction x using Tm.ind with
 | h x ih=>
  intro a
  rw [sameT_eq,sameT_eq,bareE_eq,bareT_eq]
  have:∀ (l:List Tm) (r:List Tm),(∀ u,u∈r→u∈x.l)→sameT.sameTs l (r.map bareE)=sameT.sameTs l (r.map bareT):=by
   intro l
   induction l with
   | nil=>intro r _; cases r <;> rfl
   | cons y l ihl=>
    intro r hr
    cases r with
    | nil=>rfl
    | cons z r=>simp only [List.map_cons,sameT.sameTs]; rw [ih z (hr z (by simp)),ihl r (fun u hu=>hr u (by simp [hu]))]
  simp only [k_mk,n_mk,s_mk,l_mk,this a.l x.l (fun u hu=>hu)]
theorem l144 (ts ps:List Tm) (fl fl':Fl) (hl:ts.length=ps.length) (hb:ps.length≤1000000) (gt:∀ t,t∈ts→good t) (gp:∀ p,p∈ps→good p) :
  ∀ (r i:Nat) (s:List D) (bx:List (Nat × List D)) (st:St),r=ps.length - i→i≤ps.length→get s 0=slE 6 fl (encTs ts)→get s 1=slE 6 fl' (encTs ps)→get s 5=.int .i64 i →
  Stops (lp T L144_0 ⟨⟨s,bx⟩,st⟩) fun e s' _ _=>if allT (ts.drop i) (ps.drop i) then e=.exit 0 else e=.ret∧get s' 4=.bool false:=by
 intro r
 induction r with
 | zero=>
  intro i s bx st hr hi h0 h1 h5
  have e:i=ps.length:=by omega
  subst e
  refine Stops_wp L144_0.eq_1 ?_
  rw [List.drop_length,←hl,List.drop_length]
  simp [h0,h1,h5,hl,allT]
 | succ r ihr=>
  intro i s bx st hr hi h0 h1 h5
  have hlt:i < ps.length:=by omega
  have hlt':i < ts.length:=by omega
  have hw:IntKind.wrap .i64 ((i:Int)+1)=((i+1:Nat):Int):=by rw [wrap64] <;> omega
  have nx:=fun s' bx'=>ihr (i+1) s' bx' st (by omega) (by omega)
  rw [List.drop_eq_getElem_cons hlt,List.drop_eq_getElem_cons hlt',allT]
  generalize allT (ts.drop (i+1)) (ps.drop (i+1))=A at *
  have gpi:=gp _ (List.getElem_mem hlt)
  have gti:=gt _ (List.getElem_mem hlt')
  refine Stops_wp L144_0.eq_1 ?_
  match hp:ps[i].l with
  | []=>simp [h0,h1,h5,hlt,hlt',hp,hw,-Int.natCast_add]
  | x::y::rr=>
   have hc:¬ ((rr.length:Int)+1+1=1):=by omega
   simp [h0,h1,h5,hlt,hlt',hp,hw,hc,-Int.natCast_add]
  | [x]=>
   have q1:=c139 x (good_mem gpi (by rw [hp]; simp)) st
   have q2:=c10 ts[i] gti (bareE x) st
   rw [same_bare] at q2
   cases hs:sameT ts[i] (bareT x) with
   | true=>
    rw [hs] at q2
    simp [h0,h1,h5,hlt,hlt',hp,hw,←encT_eq,q1,q2,hs,-Int.natCast_add]
    refine nx _ _ ?_ ?_ ?_ <;> simp [h0,h1]
   | false=>
    rw [hs] at q2
    simp [h0,h1,h5,hlt,hlt',hp,hw,←encT_eq,q1,q2,hs,-Int.natCast_add]
theorem c144 (ts ps:List Tm) (fl fl':Fl) (hb:ps.length≤1000000) (gt:∀ t,t∈ts→good t) (gp:∀ p,p∈ps→good p) (st:St):callD T (ev T) 144 [slE 6 fl (encTs ts),slE 6 fl' (encTs ps)] st=some (.bool (allT ts ps),st):=by
 refine callD_pureR (fn:=F144) rfl rfl (by simp) (by simp) ?_
 refine Ret_wp (fn:=F144) rfl ?_
 rw [F144]
 by_cases hl:ts.length=ps.length
 ·have lo:=fun s bx st=>l144 ts ps fl fl' hl hb gt gp ps.length 0 s bx st (by omega) (by omega)
  rw [List.drop_zero,List.drop_zero] at lo
  generalize allT ts ps=A at *
  simp [hl]
  refine WL.use L144_0_p L144_0_w (lo _ _ _ ?_ ?_ ?_) ?_
  iterate 3 simp
  rintro e s' b' st' h hf
  cases A with
  | true=>simp at h; subst h; simp
  | false=>simp at h; obtain ⟨rfl,q2⟩:=h; simp [q2]
 ·have hl':¬ ((ts.length:Int)=ps.length):=by omega
  simp [hl,hl',allT_len ts ps hl]
end Go.Nt.Li
set_option linter.unusedSimpArgs false
set_option maxRecDepth 20000
namespace Go.Nt.Li
open Go Go.Nt
variable {m:Tm} {locs:List Tm}
def ruleD:Except Int (Tm × Int)→D
 | .ok (a,n)=>.tup [encT a,.int .i64 n,.int .i64 0]
 | .error e=>.tup [encT T0,.int .i64 0,.int .i64 e]
theorem ruleD_pure (r:Except Int (Tm × Int)):(ruleD r).pureT=true:=by
 rcases r with e | ⟨a,n⟩ <;> simp [ruleD]
theorem rE10 (m:Tm) (n:Int) (s:List UInt8) (d a b:Tm):ruleE m 10 n s d [a,b]=if (binT n a b).k=0 then .error 10 else .ok (binT n a b,n):=by
 unfold ruleE ruleT; by_cases h:(binT n a b).k=0 <;> simp [h]
theorem rE11 (m:Tm) (n:Int) (s:List UInt8) (d a:Tm):ruleE m 11 n s d [a]=if (n=1∧isT a 1=true)∨(n=2∧isT a 2=true) then .ok (a,n) else .error 10:=by
 unfold ruleE ruleT; by_cases h:(n=1∧isT a 1=true)∨(n=2∧isT a 2=true) <;> simp [h]
theorem rE12 (m:Tm) (n:Int) (s:List UInt8) (d a b:Tm):ruleE m 12 n s d [a,b]=if (a.k=3∧a.l.length=1)∧isT b 1=true then .ok (a.l.headD T0,n) else .error 10:=by
 unfold ruleE ruleT; by_cases h:(a.k=3∧a.l.length=1)∧isT b 1=true <;> simp [h]
theorem rE13 (m:Tm) (n:Int) (s:List UInt8) (d a:Tm):ruleE m 13 n s d [a]=if a.k=4∧a.l=[] then (if (fieldT m n s a).2.2 then .ok (bareE (typField m (fieldT m n s a).1).1,(fieldT m n s a).1) else .error 8) else .error 10:=by
 unfold ruleE; simp
theorem rE14 (m:Tm) (n:Int) (s:List UInt8) (d:Tm) (p:List Tm):ruleE m 14 n s d p=if p.all (fun t=>sameT t (p.headD T0))=true then (if cellsV m (.mk 3 p.length [] .full [p.headD T0] 0 0)=0 then .error 11 else .ok (.mk 3 p.length [] .full [p.headD T0] 0 0,n)) else .error 10:=by
 unfold ruleE ruleT listT
 by_cases h:p.all (fun t=>sameT t (p.headD T0))=true
 ·by_cases h2:cellsV m (.mk 3 p.length [] .full [p.headD T0] 0 0)=0
  ·simp only [h,h2]; simp
  ·simp only [h,h2]; simp
 ·simp only [h]; simp
theorem rE15 (m:Tm) (n:Int) (s:List UInt8) (d:Tm) (p:List Tm):ruleE m 15 n s d p=if allT p d.l=true then .ok (.mk 4 n [] .nil [] 0 0,n) else .error 10:=by
 unfold ruleE ruleT; by_cases h:allT p d.l=true <;> simp [h]
theorem rE16 (m:Tm) (n:Int) (s:List UInt8) (d:Tm) (p:List Tm):ruleE m 16 n s d p=if allT p (d.l.headD T0).l=true then .ok (bareE (d.l.tail.headD T0),n) else .error 10:=by
 unfold ruleE; simp
theorem slE_one (fl:Fl) (a:Tm) (l:List Tm):∃ b,slE 6 fl (encTs (a::l))=.sl 6 b (encTs (a::l)):=by cases fl <;> exact ⟨_,rfl⟩
theorem c107_10 (t:Tm) (a b d:Tm) (hk:t.k=10) (hn:1≤t.n∧t.n≤13) (fl:Fl) (st:St):callD T (ev T) 110 [encT m,encT t,slE 6 fl (encTs [a,b])] st=some (ruleD (ruleE m 10 t.n t.s d [a,b]),st):=by
 have q:=c140 t.n a b hn
 rw [encT_eq (binT t.n a b)] at q
 refine callD_pureR (fn:=F110) rfl rfl (by simp) (ruleD_pure _) ?_
 refine Ret_wp (fn:=F110) rfl ?_
 rw [F110,rE10]
 by_cases h:(binT t.n a b).k=0
 ·rw [if_pos h]
  simp [hk,←encT_eq a,←encT_eq b,q,h,splice,fillD,ruleD,encT_K]
 ·rw [if_neg h]
  simp [hk,←encT_eq a,←encT_eq b,q,h,splice,fillD,ruleD]
  rw [encT_eq]
theorem c107_11 (t:Tm) (a d:Tm) (hk:t.k=11) (hn:t.n=1∨t.n=2) (fl:Fl) (st:St):callD T (ev T) 110 [encT m,encT t,slE 6 fl (encTs [a])] st=some (ruleD (ruleE m 11 t.n t.s d [a]),st):=by
 have q:=c141 a
 refine callD_pureR (fn:=F110) rfl rfl (by simp) (ruleD_pure _) ?_
 refine Ret_wp (fn:=F110) rfl ?_
 rw [F110,rE11]
 rcases hn with hn | hn <;> cases h1:isT a 1 <;> cases h2:isT a 2
 all_goals simp [hk,hn,h1,h2,←encT_eq a,q,splice,fillD,ruleD,encT_K]
 all_goals rw [encT_eq]
theorem c107_12 (t:Tm) (a b d:Tm) (hk:t.k=12) (fl:Fl) (st:St):callD T (ev T) 110 [encT m,encT t,slE 6 fl (encTs [a,b])] st=some (ruleD (ruleE m 12 t.n t.s d [a,b]),st):=by
 have q:=c141 b
 refine callD_pureR (fn:=F110) rfl rfl (by simp) (ruleD_pure _) ?_
 refine Ret_wp (fn:=F110) rfl ?_
 rw [F110,rE12]
 by_cases h3:a.k=3
 ·match hl:a.l with
  | []=>simp [hk,h3,hl,←encT_eq b,q,splice,fillD,ruleD,encT_K]
  | x::y::r=>
   have hc:¬ ((r.length:Int)+1+1=1):=by omega
   simp [hk,h3,hl,hc,←encT_eq b,q,splice,fillD,ruleD,encT_K]
  | [x]=>
   cases h1:isT b 1
   ·simp [hk,h3,hl,h1,←encT_eq b,q,splice,fillD,ruleD,encT_K]
   ·simp [hk,h3,hl,h1,←encT_eq b,q,splice,fillD,ruleD]
    rw [encT_eq]
 ·simp [hk,h3,splice,fillD,ruleD,encT_K]
theorem c107_13 (gm:good m) (t:Tm) (gt:good t) (a d:Tm) (hk:t.k=13) (fl:Fl) (st:St):callD T (ev T) 110 [encT m,encT t,slE 6 fl (encTs [a])] st=some (ruleD (ruleE m 13 t.n t.s d [a]),st):=by
 have hn:in64 t.n:=((good_iff t).1 gt).2.1
 have q:=c142 gm t a hn
 rw [encT_eq t,hk] at q
 refine callD_pureR (fn:=F110) rfl rfl (by simp) (ruleD_pure _) ?_
 refine Ret_wp (fn:=F110) rfl ?_
 rw [F110,rE13]
 by_cases h4:a.k=4
 ·cases hl:a.l with
  | cons x r=>
   have hc:¬ ((r.length:Int)+1=0):=by omega
   simp [hk,h4,hl,hc,←encT_eq m,splice,fillD,ruleD,encT_K]
  | nil=>
   cases hf:(fieldT m t.n t.s a).2.2 with
   | false=>
    rw [hf] at q
    simp [hk,h4,hl,←encT_eq m,q,splice,fillD,ruleD,encT_K]
   | true=>
    rw [hf] at q
    have gf:=fieldT_good gm hn t.s a
    have h0:¬ (fieldT m t.n t.s a).1 < 0:=by
     have e:=field_again hf
     unfold fieldT at e hf ⊢
     split at hf
     ·next hd=>
      rw [if_pos hd] at e ⊢
      obtain ⟨g,_⟩:=declT_some hd
      split at hf
      ·next hs=>
       rw [if_pos hs]
       simp only [Bool.and_eq_true] at hf
       have:=hf.1
       unfold typField at this
       split at this
       ·next g'=>simp only; omega
       ·cases this
      ·next hs=>
       rw [if_neg hs]
       split
       ·simp only; omega
       ·simp only; omega
     ·cases hf
    have q2:=c143 m (fieldT m t.n t.s a).1 gf.2
    have q3:=c139 _ (typField_good gm (fieldT m t.n t.s a).1)
    rw [encT_eq (typField m (fieldT m t.n t.s a).1).1] at q2
    rw [encT_eq (bareE _)] at q3
    simp only [if_true] at q ⊢
    generalize (fieldT m t.n t.s a).1=N at *
    simp [hk,h4,hl,←encT_eq m,←encT_eq (typField m N).1,q,q2,q3,h0,splice,fillD,ruleD]
    rw [encT_eq]
 ·simp [hk,h4,splice,fillD,ruleD,encT_K]
theorem l110 (p0:Tm) (l:List Tm) (fl:Fl) (hl:l.length≤1000000) (gp:∀ t,t∈p0::l→good t) :
  ∀ (r i:Nat) (s:List D) (bx:List (Nat × List D)) (st:St),r=(p0::l).length - i→i≤(p0::l).length→get s 2=slE 6 fl (encTs (p0::l))→get s 12=.int .i64 i→get s 6=.lp 6 1 0→getB bx 6=(1,z6) →
  Stops (lp T L110_0 ⟨⟨s,bx⟩,st⟩) fun e s' b' _=>if ((p0::l).drop i).all (fun t=>sameT t p0) then e=.exit 0∧getB b' 6=(1,z6) else e=.ret∧getB b' 6=(1,z6)∧get s' 7=.int .i64 0∧get s' 8=.int .i64 10:=by
 intro r
 induction r with
 | zero=>
  intro i s bx st hr hi h2 h12 h6 b6
  have e:i=(p0::l).length:=by omega
  subst e
  refine Stops_wp L110_0.eq_1 ?_
  rw [List.drop_length]
  simp [h2,h12,h6,b6,-encTs_cons]
 | succ r ihr=>
  intro i s bx st hr hi h2 h12 h6 b6
  have hlt:i < (p0::l).length:=by omega
  have hw:IntKind.wrap .i64 ((i:Int)+1)=((i+1:Nat):Int):=by rw [wrap64] <;> simp at hlt <;> omega
  have nx:=fun s' bx'=>ihr (i+1) s' bx' st (by omega) (by omega)
  have q:=c10 (p0::l)[i] (gp _ (List.getElem_mem hlt)) p0 st
  have e0:(encTs (p0::l))[0]?=some (encT p0):=by simp
  have ei:(encTs (p0::l))[i]?=some (encT (p0::l)[i]):=by rw [encTs_get,List.getElem?_eq_getElem hlt]; rfl
  have hlc:(i:Int) < ((encTs (p0::l)).length:Int):=by rw [encTs_len]; omega
  rw [List.drop_eq_getElem_cons hlt,List.all_cons]
  generalize List.all ((p0::l).drop (i+1)) (fun t=>sameT t p0)=A at *
  generalize encTs (p0::l)=es at *
  generalize (p0::l)[i]=pi at *
  refine Stops_wp L110_0.eq_1 ?_
  cases hs:sameT pi p0 with
  | true=>
   rw [hs] at q
   rw [Bool.true_and]
   simp [h2,h12,h6,b6,hlc,hw,e0,ei,←encT_eq,q,-Int.natCast_add]
   refine nx _ _ ?_ ?_ ?_ ?_ <;> simp [h2,h6,b6]
  | false=>
   rw [hs] at q
   simp [h2,h12,h6,b6,hlc,hw,e0,ei,←encT_eq,q,splice,fillD,-Int.natCast_add]
theorem c107_14 (gm:good m) (hb:m.l.length≤1000) (t:Tm) (d p0:Tm) (l:List Tm) (hl:l.length < 1000000) (gp:∀ t,t∈p0::l→good t) (hk:t.k=14) (fl:Fl) (st:St) :
  callD T (ev T) 110 [encT m,encT t,slE 6 fl (encTs (p0::l))] st=some (ruleD (ruleE m 14 t.n t.s d (p0::l)),st):=by
 have go:good (.mk 3 ((p0::l).length:Nat) [] .full [p0] 0 0):=(good_iff _).2 ⟨by simp [in64],by simp only [n_mk,List.length_cons,in64]; omega,by simp,by simp [in64],by simp [in64],by simp,fun u hu=>by simp at hu; subst hu; exact gp _ (by simp)⟩
 have q:=fun st=>c48 m _ (good_ok _ gm) hb (good_ok _ go) st
 rw [cells_eq,encT_eq (.mk 3 _ _ _ _ _ _)] at q
 refine callD_pureR (fn:=F110) rfl rfl (by simp) (ruleD_pure _) ?_
 refine Ret_wp (fn:=F110) rfl ?_
 rw [F110,rE14]
 have lo:=fun s bx st=>l110 p0 l fl (by omega) gp (p0::l).length 0 s bx st (by omega) (by omega)
 rw [List.drop_zero] at lo
 have hd:(p0::l).headD T0=p0:=rfl
 rw [hd]
 have e0:(encTs (p0::l))[0]?=some (encT p0):=by simp
 generalize List.all (p0::l) (fun t=>sameT t p0)=A at *
 have hlen:=encTs_len (p0::l)
 generalize hc:cellsV m (.mk 3 ((p0::l).length:Nat) [] .full [p0] 0 0)=C at *
 simp only [k_mk,n_mk,s_mk,fl_mk,l_mk,a_mk,b_mk] at q
 rw [show slE 6 .full (encTs [p0])=.sl 6 true [encT p0] by simp [slE]] at q
 generalize (p0::l).length=N at *
 generalize encTs (p0::l)=es at *
 simp [hk,splice,fillD]
 refine WL.useB L110_0_p L110_0_w (WB:=L110_0.wrB) rfl (lo _ _ _ ?_ ?_ ?_ ?_) ?_
 iterate 4 simp
 rintro e s' b' st' h hf hbx
 have e2:=hf 2 rfl
 have e3:=hf 3 rfl
 have e4:=hf 4 rfl
 have e6:=hf 6 rfl
 have b3:=hbx 3 rfl
 have b4:=hbx 4 rfl
 simp at e2 e3 e4 e6 b3 b4
 cases A with
 | false=>
  simp at h
  obtain ⟨rfl,b6,q7,q8⟩:=h
  simp [e6,b6,q7,q8,ruleD,encT_K]
 | true=>
  simp at h
  obtain ⟨rfl,b6⟩:=h
  by_cases hC:C=0
  ·simp [e2,e3,e4,e6,b3,b4,b6,e0,hlen,←encT_eq m,q,hC,splice,fillD,ruleD,encT_K]
  ·simp [e2,e3,e4,e6,b3,b4,b6,e0,hlen,←encT_eq m,q,hC,splice,fillD,ruleD]
   simp [encT,slE]
theorem c107_15 (gm:good m) (t:Tm) (p:List Tm) (hl:p.length≤1000000) (gp:∀ t,t∈p→good t) (hk:t.k=15) (hn:(declT m t.n 30).2=true) (fl:Fl) (st:St) :
  callD T (ev T) 110 [encT m,encT t,slE 6 fl (encTs p)] st=some (ruleD (ruleE m 15 t.n t.s (declT m t.n 30).1 p),st):=by
 obtain ⟨g,e,_⟩:=declT_some hn
 have g1:¬ t.n < 0:=by omega
 have g3:t.n.toNat < m.l.length:=by omega
 have gd:=good_mem gm (List.getElem_mem g3)
 have q:=fun st=>c144 p m.l[t.n.toNat].l fl m.l[t.n.toNat].fl (good_len gd) gp (fun u hu=>good_mem gd hu) st
 refine callD_pureR (fn:=F110) rfl rfl (by simp) (ruleD_pure _) ?_
 refine Ret_wp (fn:=F110) rfl ?_
 rw [F110,rE15,e]
 by_cases hA:allT p m.l[t.n.toNat].l=true
 case neg=>
  rw [if_neg hA]
  rw [eq_false_of_ne_true hA] at q
  simp [hk,g1,g3,q,splice,fillD,ruleD,encT_K]
 case pos=>
  rw [if_pos hA]
  rw [hA] at q
  simp [hk,g1,g3,q,splice,fillD,ruleD]
  simp [encT,slE]
theorem c107_16 (gm:good m) (t:Tm) (p:List Tm) (hl:p.length≤1000000) (gp:∀ t,t∈p→good t) (hk:t.k=16) (hn:(declT m t.n 33).2=true) (fl:Fl) (st:St) :
  callD T (ev T) 110 [encT m,encT t,slE 6 fl (encTs p)] st=some (ruleD (ruleE m 16 t.n t.s (declT m t.n 33).1 p),st):=by
 obtain ⟨g,e,_⟩:=declT_some hn
 have g1:¬ t.n < 0:=by omega
 have g3:t.n.toNat < m.l.length:=by omega
 have gd:=good_mem gm (List.getElem_mem g3)
 have h3:(declT m t.n 33).1.l.length=3:=by
  unfold declT at hn ⊢
  rw [dif_pos g] at hn ⊢
  split at hn
  ·next hk=>rw [if_pos hk]; simpa using hn
  ·cases hn
 rw [e] at h3
 rw [e]
 refine callD_pureR (fn:=F110) rfl rfl (by simp) (ruleD_pure _) ?_
 refine Ret_wp (fn:=F110) rfl ?_
 rw [F110]
 generalize hD:m.l[t.n.toNat]=d at *
 match hdl:d.l,h3 with
 | [x,y,z],_=>
  have gx:=good_mem gd (by rw [hdl]; simp:x∈d.l)
  have gy:=good_mem gd (by rw [hdl]; simp:y∈d.l)
  have q:=fun st=>c144 p x.l fl x.fl (good_len gx) gp (fun u hu=>good_mem gx hu) st
  have q2:=c139 y gy
  rw [encT_eq (bareE y)] at q2
  have r16:ruleE m 16 t.n t.s d p=if allT p x.l=true then .ok (bareE y,t.n) else .error 10:=by rw [rE16,hdl]; rfl
  rw [r16]
  by_cases hA:allT p x.l=true
  case neg=>
   rw [if_neg hA]
   rw [eq_false_of_ne_true hA] at q
   simp [hk,g1,g3,hD,hdl,q,splice,fillD,ruleD,encT_K]
  case pos=>
   rw [if_pos hA]
   rw [hA] at q
   simp [hk,g1,g3,hD,hdl,←encT_eq y,q,q2,splice,fillD,ruleD]
   rw [encT_eq]
end Go.Nt.Li
set_option linter.unusedSimpArgs false
namespace Go.Nt.Li
open Go Go.Nt
variable {m:Tm} {locs:List Tm}
theorem named_decl15 {t:Tm} (h:t.k=15):namedT m locs t=declT m t.n 30:=by unfold namedT; simp [h]
theorem named_decl16 {t:Tm} (h:t.k=16):namedT m locs t=declT m t.n 33:=by unfold namedT; simp [h]
theorem named_17 {t:Tm} (h:t.k=17):(namedT m locs t).2=false:=by unfold namedT; simp [h]
theorem c110 (gm:good m) (hb:m.l.length≤1000) (t:Tm) (gt:good t) (hs:shapedT t=true) (hn:(namedT m locs t).2=true) (h0:¬ (t.l=[]∧t.k≠16)) (p:List Tm) (hp:p.length=t.l.length) (hl:p.length < 1000000) (gp:∀ u,u∈p→good u) (fl:Fl) (st:St) :
  callD T (ev T) 110 [encT m,encT t,slE 6 fl (encTs p)] st=some (ruleD (ruleE m t.k t.n t.s (namedT m locs t).1 p),st):=by
 have hs':=hs
 unfold shapedT at hs
 have len0:t.l.length=0→t.k=16:=fun h=>Classical.byContradiction fun hk=>h0 ⟨List.length_eq_zero_iff.1 h,hk⟩
 by_cases k0:t.k=5∨t.k=7∨t.k=8∨t.k=9∨t.k=18
 ·rw [if_pos k0] at hs; have:=len0 (by simpa using hs); omega
 rw [if_neg k0] at hs
 by_cases k6:t.k=6
 ·rw [if_pos k6] at hs; simp only [Bool.and_eq_true,decide_eq_true_eq] at hs; have:=len0 hs.1; omega
 rw [if_neg k6] at hs
 by_cases k11:t.k=11
 ·rw [if_pos k11] at hs; simp only [Bool.and_eq_true,Bool.or_eq_true,decide_eq_true_eq] at hs
  rw [hs.1] at hp
  match p,hp with
  | [a],_=>rw [k11]; exact c107_11 t a _ k11 hs.2 fl st
 rw [if_neg k11] at hs
 by_cases k10:t.k=10
 ·rw [if_pos k10] at hs; simp only [Bool.and_eq_true,decide_eq_true_eq] at hs
  rw [hs.1] at hp
  match p,hp with
  | [a,b],_=>rw [k10]; exact c107_10 t a b _ k10 hs.2 fl st
 rw [if_neg k10] at hs
 by_cases k13:t.k=13
 ·rw [if_pos k13] at hs; simp only [decide_eq_true_eq] at hs
  rw [hs] at hp
  match p,hp with
  | [a],_=>rw [k13]; exact c107_13 gm t gt a _ k13 fl st
 rw [if_neg k13] at hs
 by_cases k12:t.k=12
 ·rw [if_pos k12] at hs; simp only [decide_eq_true_eq] at hs
  rw [hs] at hp
  match p,hp with
  | [a,b],_=>rw [k12]; exact c107_12 t a b _ k12 fl st
 rw [if_neg k12] at hs
 by_cases k14:t.k=14
 ·rw [if_pos (.inl k14)] at hs; simp only [decide_eq_true_eq] at hs
  cases p with
  | nil=>simp at hp; omega
  | cons a l=>rw [k14]; exact c107_14 gm hb t _ a l (by simp at hl; omega) gp k14 fl st
 by_cases k15:t.k=15
 ·rw [named_decl15 k15] at hn ⊢; rw [k15]; exact c107_15 gm t p (by omega) gp k15 hn fl st
 by_cases k16:t.k=16
 ·rw [named_decl16 k16] at hn ⊢; rw [k16]; exact c107_16 gm t p (by omega) gp k16 hn fl st
 rw [if_neg (by omega)] at hs
 simp only [Bool.or_eq_true,decide_eq_true_eq] at hs
 have k17:t.k=17:=by omega
 rw [named_17 k17] at hn; cases hn
def RawE (st:St) (L:D) (l:List Tm):Prop:=
 (l=[]∧L=.sl 6 true [])∨∃ id md,l≠[]∧L=.rs id (l.length - 1) 6 0 l.length false∧St.at st id=.cells false 6 (l.length - 1) md false (encTs l)∧id < st.length
theorem RawE.nil (st:St):RawE st (.sl 6 true []) []:=.inl ⟨rfl,rfl⟩
theorem RawE.facts {st:St} {L:D} {l:List Tm} (h:RawE st L l):L.okv=true∧L.cells=[L]∧L.fits none=true∧∀ st' q,lenD st' .slice L q=some (.i l.length):=by
 rcases h with ⟨rfl,rfl⟩ | ⟨id,md,_,rfl,_,_⟩
 ·exact ⟨rfl,rfl,rfl,fun _ _=>rfl⟩
 ·exact ⟨rfl,rfl,rfl,fun _ _=>rfl⟩
theorem RawE.keep {st st':St} {L:D} {l:List Tm} (h:RawE st L l) (hl:st.length≤st'.length) (ha:l≠[]→St.at st' (lidOf L)=St.at st (lidOf L)):RawE st' L l:=by
 rcases h with h | ⟨id,md,h0,rfl,h1,h2⟩
 ·exact .inl h
 ·exact .inr ⟨id,md,h0,rfl,by rw [←h1]; exact ha h0,by omega⟩
theorem RawE.app {st:St} {L:D} {l:List Tm} (h:RawE st L l) (hb:l.length≤1000000) (x:Tm) :
  ∃ L' st',appendD st L [encT x] 6=some (L',st')∧RawE st' L' (l++[x])∧st.length≤st'.length∧(∀ i,i < st.length→(l=[]∨i≠lidOf L)→St.at st' i=St.at st i)∧(lidOf L'=lidOf L∧l≠[]∨l=[]∧lidOf L'=st.length):=by
 rcases h with ⟨rfl,rfl⟩ | ⟨id,md,h0,rfl,h1,h3⟩
 ·refine ⟨.rs st.length 0 6 0 1 false,st++[.cells false 6 0 0 false [encT x]],by simp [appendD,most],.inr ⟨st.length,0,by simp,by simp,by simp [at_last],by simp⟩,by simp,fun i hi _=>at_lt _ _ hi,.inr ⟨rfl,rfl⟩⟩
 ·have hp:0 < l.length:=List.length_pos_iff.2 h0
  have e1:l.length - 1+1=l.length:=by omega
  have ht:l.length < tagB:=by unfold tagB; omega
  have hm:l.length≤most:=by unfold most; omega
  refine ⟨.rs id l.length 6 0 (l.length+1) false,List.set st id (.cells false 6 l.length (md+1) false (encTs (l++[x]))),?_,.inr ⟨id,md+1,by simp,by simp,?_,by simpa using h3⟩,by simp,fun i hi hne=>?_,.inl ⟨rfl,h0⟩⟩
  ·have e2:List.take l.length (encTs l)=encTs l:=List.take_of_length_le (by simp)
   have hm2:l.length≤134217728:=by omega
   simp [appendD,h1,ht,hm,hm2,most,e1,e2,encTs_append]
  ·rw [at_set _ _ _ _ h3,if_pos rfl]; simp
  ·rw [at_set _ _ _ _ h3,if_neg (by rcases hne with q | q; exact absurd q h0; exact q)]
theorem RawE.fz {st:St} {L:D} {l:List Tm} (h:RawE st L l):∃ st',fz0 st L=some (slE 6 .emp (encTs l),st')∧st'.length=st.length∧∀ i,(l=[]∨i≠lidOf L)→St.at st' i=St.at st i:=by
 rcases h with ⟨rfl,rfl⟩ | ⟨id,md,h0,rfl,h1,h3⟩
 ·exact ⟨st,rfl,rfl,fun _ _=>rfl⟩
 ·refine ⟨List.set st id (.cells false 6 (l.length - 1) (md+1) true (encTs l)),?_,by simp,fun i hi=>by rw [at_set _ _ _ _ h3,if_neg (by rcases hi with q | q; exact absurd q h0; exact q)]⟩
  have e2:List.take l.length (encTs l)=encTs l:=List.take_of_length_le (by simp)
  have e3:slE 6 .emp (encTs l)=.sl 6 false (encTs l):=by cases l with | nil=>exact absurd rfl h0 | cons a b=>rfl
  rw [fz0_rs,h1,e3]
  simp [e2]
theorem RawE.lid {st:St} {L:D} {l:List Tm} (h:RawE st L l):l=[]∨lidOf L < st.length:=by
 rcases h with ⟨rfl,_⟩ | ⟨id,md,_,rfl,_,h3⟩
 ·exact .inl rfl
 ·exact .inr h3
theorem RawE.fz1 {st:St} {L:D} {l:List Tm} (h:RawE st L l):fz1 st L=fz0 st L:=by
 rcases h with ⟨rfl,rfl⟩ | ⟨id,md,_,rfl,_,_⟩ <;> rfl
end Go.Nt.Li
set_option linter.unusedSimpArgs false
set_option maxRecDepth 20000
namespace Go.Nt.Li
open Go Go.Nt
variable {m:Tm} {locs:List Tm}
theorem bareE_good (t:Tm):good t→good (bareE t):=by
 induction t using Tm.ind with
 | h t ih=>
  intro gt
  obtain ⟨k1,k2,k3,k4,k5,k6,k7⟩:=(good_iff t).1 gt
  rw [bareE_eq]
  exact (good_iff _).2 ⟨k1,k2,k3,by simp [in64],by simp [in64],by simpa using k6,fun u hu=>by
   simp only [l_mk,List.mem_map] at hu
   obtain ⟨v,hv,rfl⟩:=hu
   exact ih v hv (k7 v hv)⟩
theorem ruleE_good (hm:good m) {k n:Int} (hn:in64 n) (s:List UInt8) {d:Tm} (hd:good d) {p:List Tm} (hp:∀ t,t∈p→good t) (hl:p.length≤1000000) {a:Tm} {n':Int} (h:ruleE m k n s d p=.ok (a,n')):good a∧in64 n':=by
 unfold ruleE at h
 split at h
 ·split at h
  ·next a'=>
   split at h
   ·split at h
    ·simp only [Except.ok.injEq,Prod.mk.injEq] at h
     obtain ⟨rfl,rfl⟩:=h
     exact ⟨bareE_good _ (typField_good hm _),(fieldT_good hm hn s a').2⟩
    ·cases h
   ·cases h
  ·cases h
 split at h
 ·split at h
  ·simp only [Except.ok.injEq,Prod.mk.injEq] at h
   obtain ⟨rfl,rfl⟩:=h
   refine ⟨bareE_good _ (good_head fun t ht=>?_),hn⟩
   exact good_mem hd (List.mem_of_mem_tail ht)
  ·cases h
 split at h
 ·simp only [Except.ok.injEq,Prod.mk.injEq] at h
  obtain ⟨rfl,rfl⟩:=h
  exact ⟨(ruleT_good hm hn s hd hp hl).1,hn⟩
 ·cases h
theorem aloneE_good (gm:good m) (gl:∀ t,t∈locs→good t) (t:Tm):good (aloneE m locs t):=by
 unfold aloneE
 split
 ·exact bareE_good _ (namedT_good gm gl t)
 split
 ·exact namedT_good gm gl t
 split
 ·exact good_K 1 (by simp [in64])
 ·exact litT_good t
theorem ofE_good (gm:good m) (gl:∀ t,t∈locs→good t) (t:Tm):good t→∀ a s,ofE m locs t=.ok (a,s)→good a∧good s:=by
 induction t using Tm.ind with
 | h t ih=>
  intro gt a s h
  obtain ⟨k1,k2,k3,k4,k5,k6,k7⟩:=(good_iff t).1 gt
  rw [ofE_eq] at h
  split at h
  ·cases h
  split at h
  ·cases h
  split at h
  ·simp only [Except.ok.injEq,Prod.mk.injEq] at h
   obtain ⟨rfl,rfl⟩:=h
   exact ⟨aloneE_good gm gl t,(good_iff _).2 ⟨k1,k2,by simp,by simp [in64],by simp [in64],by simp,fun u hu=>by cases hu⟩⟩
  have hofs:∀ (l:List Tm),(∀ u,u∈l→u∈t.l)→∀ ts ss,ofsE m locs l=.ok (ts,ss)→(∀ x,x∈ts→good x)∧(∀ x,x∈ss→good x)∧ts.length=l.length∧ss.length=l.length:=by
   intro l
   induction l with
   | nil=>intro _ ts ss h; rw [ofsE] at h; cases h; simp
   | cons x l ihl=>
    intro hl ts ss h
    rw [ofsE] at h
    split at h
    ·cases h
    next a1 s1 e1=>
    split at h
    ·cases h
    next ts1 ss1 e2=>
    cases h
    obtain ⟨g1,g2⟩:=ih x (hl x (by simp)) (k7 x (hl x (by simp))) _ _ e1
    obtain ⟨g3,g4,g5,g6⟩:=ihl (fun u hu=>hl u (by simp [hu])) _ _ e2
    exact ⟨fun y hy=>by rcases List.mem_cons.1 hy with rfl | q; exact g1; exact g3 y q,fun y hy=>by rcases List.mem_cons.1 hy with rfl | q; exact g2; exact g4 y q,by simp [g5],by simp [g6]⟩
  split at h
  ·cases h
  next ts ss e=>
  obtain ⟨g3,g4,g5,g6⟩:=hofs t.l (fun u hu=>hu) _ _ e
  split at h
  ·cases h
  next ty n' er=>
  cases h
  obtain ⟨g7,g8⟩:=ruleE_good gm k2 t.s (namedT_good gm gl t) g3 (by omega) er
  exact ⟨g7,(good_iff _).2 ⟨k1,g8,by simp,by simp [in64],by simp [in64],by simp; omega,g4⟩⟩
theorem ofsE_good (gm:good m) (gl:∀ t,t∈locs→good t):∀ (l:List Tm),(∀ u,u∈l→good u)→∀ ts ss,ofsE m locs l=.ok (ts,ss)→(∀ x,x∈ts→good x)∧(∀ x,x∈ss→good x)∧ts.length=l.length∧ss.length=l.length
 | [],_,ts,ss,h=>by rw [ofsE] at h; cases h; simp
 | x::l,hl,ts,ss,h=>by
  rw [ofsE] at h
  split at h
  ·cases h
  next a1 s1 e1=>
  split at h
  ·cases h
  next ts1 ss1 e2=>
  cases h
  obtain ⟨g1,g2⟩:=ofE_good gm gl x (hl x (by simp)) _ _ e1
  obtain ⟨g3,g4,g5,g6⟩:=ofsE_good gm gl l (fun u hu=>hl u (by simp [hu])) _ _ e2
  exact ⟨fun y hy=>by rcases List.mem_cons.1 hy with rfl | q; exact g1; exact g3 y q,fun y hy=>by rcases List.mem_cons.1 hy with rfl | q; exact g2; exact g4 y q,by simp [g5],by simp [g6]⟩
theorem ruleE_err {k n:Int} {s:List UInt8} {d:Tm} {p:List Tm} {e:Int} (h:ruleE m k n s d p=.error e):e≠0:=by
 unfold ruleE at h
 split at h
 ·split at h
  ·split at h
   ·split at h <;> cases h; simp
   ·cases h; simp
  ·cases h; simp
 split at h
 ·split at h <;> cases h; simp
 split at h
 ·cases h
 ·next q=>cases h; exact q
theorem ofE_err (t:Tm):∀ a e,ofE m locs t=.error (a,e)→e≠0:=by
 induction t using Tm.ind with
 | h t ih=>
  intro a e h
  rw [ofE_eq] at h
  split at h
  ·cases h; simp
  split at h
  ·cases h; simp
  split at h
  ·cases h
  have hofs:∀ (l:List Tm),(∀ u,u∈l→u∈t.l)→∀ a e,ofsE m locs l=.error (a,e)→e≠0:=by
   intro l
   induction l with
   | nil=>intro _ a e h; rw [ofsE] at h; cases h
   | cons x l ihl=>
    intro hl a e h
    rw [ofsE] at h
    split at h
    ·next e1=>cases h; exact ih x (hl x (by simp)) _ _ e1
    split at h
    ·next e2=>cases h; exact ihl (fun u hu=>hl u (by simp [hu])) _ _ e2
    ·cases h
  split at h
  ·next e1=>cases h; exact hofs t.l (fun u hu=>hu) _ _ e1
  split at h
  ·next e1=>cases h; exact ruleE_err e1
  ·cases h
def gotE:Er (Tm × Tm)→D
 | .ok (a,s)=>.agg [.int .i64 a.k,.int .i64 a.n,.str a.s,slE 6 a.fl (encTs a.l),.int .i64 a.a,.int .i64 a.b,.int .i64 s.k,.int .i64 s.n,.str s.s,slE 6 s.fl (encTs s.l),.int .i64 s.a,.int .i64 s.b,.int .i64 0,.int .i64 0]
 | .error (x,y)=>badG x y
theorem gotE_pure (r:Er (Tm × Tm)):(gotE r).pureT=true:=by rcases r with ⟨x,y⟩ | ⟨a,s⟩ <;> simp [gotE,badG]
def z14:List D:=[.int .i64 0,.int .i64 0,.str [],.nils,.int .i64 0,.int .i64 0,.int .i64 0,.int .i64 0,.str [],.nils,.int .i64 0,.int .i64 0,.int .i64 0,.int .i64 0]
def Q65 (R:Er (List Tm × List Tm)) (ts ss:List Tm) (e:Ex) (s':List D) (b':List (Nat × List D)) (st':St):Prop:=
 match R with
 | .error (x,y)=>e=.ret∧getB b' 6=(1,[.int .i64 0,.int .i64 0,.str [],.nils,.int .i64 0,.int .i64 0,.int .i64 0,.int .i64 0,.str [],.nils,.int .i64 0,.int .i64 0,.int .i64 x,.int .i64 y])
 | .ok (ts',ss')=>e=.exit 0∧getB b' 6=(1,z14)∧RawE st' (get s' 7) (ts++ts')∧RawE st' (get s' 8) (ss++ss')∧(ts++ts'=[]∨lidOf (get s' 7)≠lidOf (get s' 8))
theorem l75 (t:Tm) (fl:Fl) (hl:t.l.length≤1000000) (hc:∀ u,u∈t.l→∀ st,callD T (ev T) 75 [encT m,slE 6 fl (encTs locs),encT u] st=some (gotE (ofE m locs u),st)) :
  ∀ (r i:Nat) (s:List D) (bx:List (Nat × List D)) (st:St) (L7 L8:D) (ts ss:List Tm),r=t.l.length - i→i≤t.l.length→RawE st L7 ts→RawE st L8 ss→ts.length=i→ss.length=i→(ts=[]∨lidOf L7≠lidOf L8) →
   get s 3=.lp 3 1 0→getB bx 3=(1,clT m)→get s 1=slE 6 fl (encTs locs)→get s 5=.lp 5 1 0→getB bx 5=(1,clT t)→get s 6=.lp 6 1 0→getB bx 6=(1,z14)→get s 7=L7→get s 8=L8→get s 9=.int .i64 i →
  Stops (lp T L75_0 ⟨⟨s,bx⟩,st⟩) fun e s' b' st'=>Q65 (ofsE m locs (t.l.drop i)) ts ss e s' b' st':=by
 intro r
 induction r with
 | zero=>
  intro i s bx st L7 L8 ts ss hr hi R7 R8 n7 n8 hne h3 b3 h1 h5 b5 h6 b6 h7 h8 h9
  have e:i=t.l.length:=by omega
  refine Stops_wp L75_0.eq_1 ?_
  rw [e,List.drop_length,ofsE]
  simp [h5,b5,h9,e,Q65,h7,h8,b6]
  exact ⟨R7,R8,hne⟩
 | succ r ihr=>
  intro i s bx st L7 L8 ts ss hr hi R7 R8 n7 n8 hne h3 b3 h1 h5 b5 h6 b6 h7 h8 h9
  have hlt:i < t.l.length:=by omega
  have hw:IntKind.wrap .i64 ((i:Int)+1)=((i+1:Nat):Int):=by rw [wrap64] <;> omega
  have q:=hc _ (List.getElem_mem hlt)
  rw [List.drop_eq_getElem_cons hlt,ofsE]
  refine Stops_wp L75_0.eq_1 ?_
  cases hO:ofE m locs t.l[i] with
  | error v=>
   obtain ⟨x,y⟩:=v
   have hy:=ofE_err _ _ _ hO
   rw [hO] at q
   simp [gotE,badG] at q
   simp [h3,b3,h1,h5,b5,h6,b6,h9,hlt,←encT_eq m,←encT_eq t.l[i],q,hy,Q65,splice,z14,-Int.natCast_add]
  | ok v=>
   obtain ⟨a,sf⟩:=v
   rw [hO] at q
   simp [gotE] at q
   obtain ⟨M7,st1,p1,S7,g1,o1,d1⟩:=R7.app (by omega) a
   have S8:RawE st1 L8 ss:=R8.keep g1 fun hs=>o1 _ (by rcases R8.lid with h | h; exact absurd h hs; exact h) (by
    rcases hne with h | h
    ·exact .inl h
    ·exact .inr (fun q=>h q.symm))
   obtain ⟨M8,st2,p2,T8,g2,o2,d2⟩:=S8.app (by omega) sf
   have hM:lidOf M7≠lidOf M8:=by
    rcases S7.lid with h | h
    ·simp at h
    ·rcases d2 with ⟨e2,hs⟩ | ⟨hs,e2⟩
     ·rcases d1 with ⟨e1,ht⟩ | ⟨ht,e1⟩
      ·rw [e1,e2]
       rcases hne with h | h
       ·exact absurd h ht
       ·exact h
      ·rw [ht] at n7; rw [←n7] at n8; exact absurd (List.length_eq_zero_iff.1 n8) hs
     ·omega
   have T7:RawE st2 M7 (ts++[a]):=S7.keep g2 fun _=>o2 _ (by rcases S7.lid with h | h; simp at h; exact h) (by
    rcases d2 with ⟨e2,hs⟩ | ⟨hs,e2⟩
    ·exact .inr (by rw [←e2]; exact hM)
    ·exact .inl hs)
   have nx:=fun s' bx'=>ihr (i+1) s' bx' st2 M7 M8 (ts++[a]) (ss++[sf]) (by omega) (by omega) T7 T8 (by simp; omega) (by simp; omega) (.inr hM)
   obtain ⟨x1,x2,x3,x4⟩:=S7.facts
   obtain ⟨y1,y2,y3,y4⟩:=T8.facts
   have cv:∀ e s' b' st',Q65 (ofsE m locs (t.l.drop (i+1))) (ts++[a]) (ss++[sf]) e s' b' st'→Q65 (match ofsE m locs (t.l.drop (i+1)) with
     | .error e=>.error e
     | .ok (ts,ss)=>.ok (a::ts,sf::ss)) ts ss e s' b' st':=by
    intro e s' b' st' h
    cases hR:ofsE m locs (t.l.drop (i+1)) with
    | error v=>rw [hR] at h; exact h
    | ok v=>rw [hR] at h; obtain ⟨t1,t2⟩:=v; simpa [Q65] using h
   simp only
   generalize hG:Q65 (match ofsE m locs (t.l.drop (i+1)) with
     | .error e=>.error e
     | .ok (ts,ss)=>.ok (a::ts,sf::ss)) ts ss=G at *
   simp [h3,b3,h1,h5,b5,h6,b6,h7,h8,h9,hlt,hw,←encT_eq m,←encT_eq t.l[i],←encT_eq a,←encT_eq sf,q,p1,p2,x1,x2,x3,y1,y2,y3,splice,-Int.natCast_add]
   refine Stops.mono (nx _ _ ?_ ?_ ?_ ?_ ?_ ?_ ?_ ?_ ?_ ?_) (fun e s' b' st' h=>cv e s' b' st' h)
   all_goals simp [h3,b3,h1,h5,b5,h6,b6]
end Go.Nt.Li
set_option linter.unusedSimpArgs false
set_option maxRecDepth 20000
namespace Go.Nt.Li
open Go Go.Nt
variable {m:Tm} {locs:List Tm}
theorem c75 (gm:good m) (hb:m.l.length≤1000) (gl:∀ t,t∈locs→good t) (hll:locs.length≤1000000) (fl:Fl) (t:Tm):good t→cntT t < 1000000→∀ (st:St),callD T (ev T) 75 [encT m,slE 6 fl (encTs locs),encT t] st=some (gotE (ofE m locs t),st):=by
 induction t using Tm.ind with
 | h t ih=>
  intro gt hct st
  have hcl:∀ u,u∈t.l→cntT u < 1000000:=fun u hu=>by have:=cntTs_mem hu; have:=cntT_eq t; omega
  have htl:t.l.length < 1000000:=by have:=cntT_eq t; have:=cntTs_len t.l; omega
  have q1:=c106 t
  have q2:=fun st=>c108 (locs:=locs) gm fl t st
  have qb:=fun e st=>c107 t e st
  refine callD_pureR (fn:=F75) rfl rfl (by simp) (gotE_pure _) ?_
  refine Ret_wp (fn:=F75) rfl ?_
  rw [F75,ofE_eq]
  by_cases hs:shapedT t=false
  ·rw [if_pos hs]
   rw [hs] at q1
   simp [badG] at qb
   simp [←encT_eq t,q1,qb,gotE,badG,splice]
  rw [if_neg hs]
  have hs':shapedT t=true:=by simpa using hs
  rw [hs'] at q1
  by_cases hn:(namedT m locs t).2=false
  ·rw [if_pos hn]
   rw [hn] at q2
   simp [badG] at qb
   simp [←encT_eq t,←encT_eq m,q1,q2,qb,gotE,badG,splice]
  rw [if_neg hn]
  have hn':(namedT m locs t).2=true:=by simpa using hn
  rw [hn'] at q2
  by_cases h0:t.l=[]∧t.k≠16
  ·rw [if_pos h0]
   have q3:=fun st=>c109 gm fl gl hll t hn' st
   rw [encT_eq (aloneE m locs t)] at q3
   have e1:t.l.length=0:=by rw [h0.1]; rfl
   simp [←encT_eq t,←encT_eq m,q1,q2,q3,e1,h0.2,gotE,splice,fillD]
   simp [slE]
  rw [if_neg h0]
  have lo:=fun s bx st=>l75 (m:=m) (locs:=locs) t fl (by omega) (fun u hu st=>ih u hu (good_mem gt hu) (hcl u hu) st) t.l.length 0 s bx st (.sl 6 true []) (.sl 6 true []) [] [] (by omega) (by omega) (RawE.nil _) (RawE.nil _) rfl rfl (.inl rfl)
  rw [List.drop_zero] at lo
  have go:∀ s bx,get s 3=.lp 3 1 0→getB bx 3=(1,clT m)→get s 1=slE 6 fl (encTs locs)→get s 5=.lp 5 1 0→getB bx 5=(1,clT t)→get s 6=.lp 6 1 0→getB bx 6=(1,z14)→get s 7=.sl 6 true []→get s 8=.sl 6 true []→get s 9=.int .i64 0→_:=fun s bx g1 g2 g3 g4 g5 g6 g7 g8 g9 g10=>lo s bx [] g1 g2 g3 g4 g5 g6 g7 g8 g9 g10
  have hz:z14=[.int .i64 0,.int .i64 0,.str [],.nils,.int .i64 0,.int .i64 0,.int .i64 0,.int .i64 0,.str [],.nils,.int .i64 0,.int .i64 0,.int .i64 0,.int .i64 0]:=rfl
  have h0':t.l.length=0→t.k=16:=fun h=>Classical.byContradiction fun hk=>h0 ⟨List.length_eq_zero_iff.1 h,hk⟩
  have fin:∀ (s':List D) (b':List (Nat × List D)) (st':St) (ts ss:List Tm),ofsE m locs t.l=.ok (ts,ss)→RawE st' (get s' 7) ts→RawE st' (get s' 8) ss→(ts=[]∨lidOf (get s' 7)≠lidOf (get s' 8)) →
    get s' 3=.lp 3 1 0→getB b' 3=(1,clT m)→get s' 5=.lp 5 1 0→getB b' 5=(1,clT t)→get s' 6=.lp 6 1 0→getB b' 6=(1,z14)→(getB b' 11).1=0 →
    WP T (.seq (.ops [lF 77 3 3,lF 78 5 5,mV 79 7,cA 80 110 [(.t 77),(.t 78),(.t 79)],mV 76 80,eX 81 76 0,eX 82 76 1,eX 83 76 2,bZ 11,sT 11 81 6 11,mV 12 82,mV 13 83])
 (.seq (.seq (.ops [mV 84 13,bK 85 .neq 84 0])
 (.cond (.t 85) (.seq (.ops [lF 86 5 5,mV 87 13,cA 88 107 [(.t 86),(.t 87)],sT 6 88 14 6])
 (.ret))
 (.skip)))
 (.seq (.ops [lF 89 11 11,fA 90 5 0,lA 91 90 5,mV 92 12,mV 93 8,g0 (.build 94 zT [(0,1,(.t 91)),(1,1,(.t 92)),(3,1,(.t 93))]),g0 (.build 95 [(.int .i64 0),(.int .i64 0),(.str []),.nils,(.int .i64 0),(.int .i64 0),(.int .i64 0),(.int .i64 0),(.str []),.nils,(.int .i64 0),(.int .i64 0),(.int .i64 0),(.int .i64 0)] [(0,6,(.t 89)),(6,6,(.t 94))]),sT 6 95 14 6])
 (.ret)))) ⟨⟨s',b'⟩,st'⟩ (qFn [.cell 6 (some 14) (some 6)] fun r st1=>∃ st2,fz st1 r=some (gotE (match ruleE m t.k t.n t.s (namedT m locs t).1 ts with
    | .error e=>.error (t.a,e)
    | .ok (ty,n')=>.ok (ty,.mk t.k n' [] .emp ss 0 0)),st2)):=by
   intro s' b' st' ts ss hO R7 R8 hne h3 b3 h5 b5 h6 b6 b11
   obtain ⟨g3,g4,g5,g6⟩:=ofsE_good gm gl t.l (fun u hu=>good_mem gt hu) _ _ hO
   obtain ⟨st2,f1,f2,f3⟩:=R7.fz
   have R8':RawE st2 (get s' 8) ss:=R8.keep (by omega) fun hss=>f3 _ (by
    rcases hne with h | h
    ·exact .inl h
    ·exact .inr fun q=>h q.symm)
   obtain ⟨st3,f4,f5,f6⟩:=R8'.fz
   have q7:callD T (ev T) 110 [encT m,encT t,get s' 7] st'=some (ruleD (ruleE m t.k t.n t.s (namedT m locs t).1 ts),st2):=by
    refine callD_free (fn:=F110) rfl rfl (args':=[encT m,encT t,slE 6 .emp (encTs ts)]) ?_ (by simp) (c110 gm hb t gt hs' hn' h0 ts g5 (by omega) g3 .emp st2)
    simp [R7.fz1,f1]
   obtain ⟨x1,x2,x3,x4⟩:=R7.facts
   obtain ⟨y1,y2,y3,y4⟩:=R8.facts
   cases hr:ruleE m t.k t.n t.s (namedT m locs t).1 ts with
   | error e=>
    have he:=ruleE_err hr
    rw [hr] at q7
    simp [ruleD,encT_K] at q7
    simp [badG] at qb
    simp [h3,b3,h5,b5,h6,b6,b11,z14,←encT_eq m,←encT_eq t,q7,he,qb,splice,gotE,badG]
   | ok v=>
    obtain ⟨a,n'⟩:=v
    rw [hr] at q7
    simp [ruleD] at q7
    rw [encT_eq a] at q7
    simp [h3,b3,h5,b5,h6,b6,b11,z14,←encT_eq m,←encT_eq t,q7,splice,fillD,y1,y2,y3,f4,gotE]
  have tail:∀ (s0:List D) (b0:List (Nat × List D)) (e:Ex) (s':List D) (b':List (Nat × List D)) (st':St),Q65 (ofsE m locs t.l) [] [] e s' b' st'→get s0 3=.lp 3 1 0→get s0 5=.lp 5 1 0→get s0 6=.lp 6 1 0→getB b0 3=(1,clT m)→getB b0 5=(1,clT t)→getB b0 11=(0,[]) →
    (∀ k,L75_0.wr.contains k=false→get s' k=get s0 k)→(∀ k,L75_0.wrB.contains k=false→getB b' k=getB b0 k)→qBk 0 (qSq T (.seq (.ops [lF 77 3 3,lF 78 5 5,mV 79 7,cA 80 110 [(.t 77),(.t 78),(.t 79)],mV 76 80,eX 81 76 0,eX 82 76 1,eX 83 76 2,bZ 11,sT 11 81 6 11,mV 12 82,mV 13 83])
 (.seq (.seq (.ops [mV 84 13,bK 85 .neq 84 0])
 (.cond (.t 85) (.seq (.ops [lF 86 5 5,mV 87 13,cA 88 107 [(.t 86),(.t 87)],sT 6 88 14 6])
 (.ret))
 (.skip)))
 (.seq (.ops [lF 89 11 11,fA 90 5 0,lA 91 90 5,mV 92 12,mV 93 8,g0 (.build 94 zT [(0,1,(.t 91)),(1,1,(.t 92)),(3,1,(.t 93))]),g0 (.build 95 [(.int .i64 0),(.int .i64 0),(.str []),.nils,(.int .i64 0),(.int .i64 0),(.int .i64 0),(.int .i64 0),(.str []),.nils,(.int .i64 0),(.int .i64 0),(.int .i64 0),(.int .i64 0)] [(0,6,(.t 89)),(6,6,(.t 94))]),sT 6 95 14 6])
 (.ret)))) (qFn [.cell 6 (some 14) (some 6)] fun r st1=>∃ st2,fz st1 r=some (gotE (match ofsE m locs t.l with
   | .error e=>.error e
   | .ok (ts,ss)=>match ruleE m t.k t.n t.s (namedT m locs t).1 ts with
    | .error e=>.error (t.a,e)
    | .ok (ty,n')=>.ok (ty,.mk t.k n' [] .emp ss 0 0)),st2))) e ⟨⟨s',b'⟩,st'⟩:=by
   intro s0 b0 e s' b' st' h g3 g5 g6 p3 p5 p11 hf hbx
   have e3:=hf 3 rfl
   have e5:=hf 5 rfl
   have e6:=hf 6 rfl
   have b3:=hbx 3 rfl
   have b5:=hbx 5 rfl
   have b11:=hbx 11 rfl
   rw [g3] at e3; rw [g5] at e5; rw [g6] at e6; rw [p3] at b3; rw [p5] at b5; rw [p11] at b11
   cases hO:ofsE m locs t.l with
   | error v=>
    obtain ⟨x,y⟩:=v
    rw [hO] at h
    obtain ⟨rfl,b6⟩:=h
    simp [e6,b6,gotE,badG]
   | ok v=>
    obtain ⟨ts,ss⟩:=v
    rw [hO] at h
    obtain ⟨rfl,b6,R7,R8,hne⟩:=h
    rw [List.nil_append] at R7 R8 hne
    rw [qBk_e0,qSq_n]
    exact fin s' b' st' ts ss hO R7 R8 hne e3 b3 e5 b5 e6 b6 (by rw [b11])
  by_cases hz0:t.l.length=0
  ·have hk16:=h0' hz0
   have hz1:t.l=[]:=List.length_eq_zero_iff.1 hz0
   rw [encT_eq t,hk16,hz1,encTs_nil] at q1 q2
   simp [←encT_eq m,q1,q2,hz1,hk16,splice,fillD]
   refine WL.useB L75_0_p L75_0_w (WB:=L75_0.wrB) rfl (go _ _ ?_ ?_ ?_ ?_ ?_ ?_ ?_ ?_ ?_ ?_) fun e s' b' st' h hf hb=>?_
   iterate 10 simp [z14,hz1,hk16]
   rw [←L75_0_w] at hf
   rw [hz1] at tail h
   rw [hk16] at tail
   refine tail _ _ e s' b' st' h ?_ ?_ ?_ ?_ ?_ ?_ hf hb
   iterate 6 simp [hz1,hk16]
  ·have hz1:t.l≠[]:=fun h=>hz0 (by rw [h]; rfl)
   simp [←encT_eq t,←encT_eq m,q1,q2,hz1,splice,fillD]
   refine WL.useB L75_0_p L75_0_w (WB:=L75_0.wrB) rfl (go _ _ ?_ ?_ ?_ ?_ ?_ ?_ ?_ ?_ ?_ ?_) fun e s' b' st' h hf hb=>?_
   iterate 10 simp [z14]
   rw [←L75_0_w] at hf
   refine tail _ _ e s' b' st' h ?_ ?_ ?_ ?_ ?_ ?_ hf hb
   iterate 6 simp
end Go.Nt.Li
set_option linter.unusedSimpArgs false
set_option maxRecDepth 20000
namespace Go.Nt.Li
open Go Go.Nt
variable {m ret:Tm} {locs:List Tm}
theorem c130 (t:Tm):good t→∀ st,callD T (ev T) 130 [encT t] st=some (encT (rootT t),st):=by
 induction t using Tm.ind with
 | h t ih=>
  intro gt st
  refine callD_pureR (fn:=F130) rfl rfl (by simp) (by simp) ?_
  refine Ret_wp (fn:=F130) rfl ?_
  rw [F130]
  by_cases hk:t.k=12∨t.k=13
  ·rw [root_in hk]
   cases hl:t.l with
   | nil=>
    rcases hk with hk | hk
    ·simp [hk,hl,splice]; rw [encT_eq]; simp [hk,hl]
    ·simp [hk,hl,splice]; rw [encT_eq]; simp [hk,hl]
   | cons x r=>
    have q:=ih x (by rw [hl]; simp) (good_mem gt (by rw [hl]; simp))
    rw [encT_eq (rootT x)] at q
    rcases hk with hk | hk
    ·simp [hk,hl,←encT_eq x,q,splice]; rw [encT_eq]
    ·simp [hk,hl,←encT_eq x,q,splice]; rw [encT_eq]
  ·rw [root_out hk]
   have h12:¬ t.k=12:=fun h=>hk (.inl h)
   have h13:¬ t.k=13:=fun h=>hk (.inr h)
   simp [h12,h13,splice]
   rw [encT_eq]
theorem c174 (k:Int) (st:St):callD T (ev T) 174 [.int .i64 k] st=some (.tup [.int .i64 (partsE k).1,.int .i64 (partsE k).2],st):=by
 refine callD_pureR (fn:=F174) rfl rfl (by simp) (by simp) ?_
 refine Ret_wp (fn:=F174) rfl ?_
 rw [F174]
 unfold partsE
 by_cases h:k=20∨k=21∨k=22∨k=23∨k=24∨k=25∨k=26∨k=27∨k=28
 ·rcases h with rfl | rfl | rfl | rfl | rfl | rfl | rfl | rfl | rfl <;> simp
 ·simp only [not_or] at h
  obtain ⟨h1,h2,h3,h4,h5,h6,h7,h8,h9⟩:=h
  simp [h1,h2,h3,h4,h5,h6,h7,h8,h9]
theorem partsE_in (k:Int):-1≤(partsE k).1∧(partsE k).1≤3∧0≤(partsE k).2∧(partsE k).2≤2∧(0≤(partsE k).1→(partsE k).2 < (partsE k).1)∧((partsE k).1 < 0→(partsE k).2=0):=by
 unfold partsE; split
 ·simp
 split
 ·simp
 split
 ·simp
 split
 ·simp
 split <;> simp
theorem l145 (t:Tm) (n:Int) (hn:(t.l.length:Int)=n) (h3:n≤3) :
  ∀ (r i:Nat) (s:List D) (bx:List (Nat × List D)) (st:St),r=t.l.length - i→i≤t.l.length→get s 1=.lp 1 1 0→getB bx 1=(1,clT t)→get s 3=.int .i64 n→get s 5=.int .i64 i →
  Stops (lp T L145_0 ⟨⟨s,bx⟩,st⟩) fun e s' _ _=>if (t.l.drop i).all (fun x=>decide (x.k=29)) then e=.exit 0 else e=.ret∧get s' 2=.bool false:=by
 intro r
 induction r with
 | zero=>
  intro i s bx st hr hi h1 b1 h3' h5
  have e:i=t.l.length:=by omega
  refine Stops_wp L145_0.eq_1 ?_
  have e2:(i:Int)=n:=by omega
  rw [e,List.drop_length]
  simp [h1,b1,h3',h5,e2]
 | succ r ihr=>
  intro i s bx st hr hi h1 b1 h3' h5
  have hlt:i < t.l.length:=by omega
  have hlt':(i:Int) < n:=by omega
  have hw:IntKind.wrap .i64 ((i:Int)+1)=((i+1:Nat):Int):=by rw [wrap64] <;> omega
  have nx:=fun s' bx'=>ihr (i+1) s' bx' st (by omega) (by omega)
  rw [List.drop_eq_getElem_cons hlt,List.all_cons]
  generalize List.all (t.l.drop (i+1)) (fun x=>decide (x.k=29))=A at *
  refine Stops_wp L145_0.eq_1 ?_
  by_cases hk:t.l[i].k=29
  ·simp [h1,b1,h3',h5,hlt,hlt',hw,hk,-Int.natCast_add]
   refine nx _ _ ?_ ?_ ?_ ?_ <;> simp [h1,b1,h3']
  ·simp [h1,b1,h3',h5,hlt,hlt',hw,hk,-Int.natCast_add]
theorem c145 (t:Tm) (st:St):callD T (ev T) 145 [encT t] st=some (.bool (shapeE t),st):=by
 refine callD_pureR (fn:=F145) rfl rfl (by simp) (by simp) ?_
 refine Ret_wp (fn:=F145) rfl ?_
 rw [F145]
 unfold shapeE
 by_cases h29:t.k=29
 ·simp [h29]
 rw [if_neg h29]
 have q:=c174 t.k
 obtain ⟨p1,p2,p3,p4,p5,p6⟩:=partsE_in t.k
 generalize (partsE t.k).1=n at *
 generalize (partsE t.k).2=b at *
 by_cases hn:(t.l.length:Int)=n
 ·have hw:IntKind.wrap .i64 (n - b)=n - b:=by rw [wrap64] <;> omega
  have lo:=fun s bx st=>l145 t n hn p2 _ (n - b).toNat s bx st rfl (by omega)
  have e1:(((n - b).toNat:Nat):Int)=n - b:=by omega
  rw [e1] at lo
  generalize List.all (t.l.drop (n - b).toNat) (fun x=>decide (x.k=29))=A at *
  simp [h29,q,hn,hw]
  refine WL.use L145_0_p L145_0_w (lo _ _ _ ?_ ?_ ?_ ?_) ?_
  iterate 4 simp
  rintro e s' b' st' h hf
  cases A with
  | true=>simp at h; subst h; simp
  | false=>simp at h; obtain ⟨rfl,q2⟩:=h; simp [q2]
 ·simp [h29,q,hn]
def got8:Er Tm→D
 | .ok s=>.agg [.int .i64 s.k,.int .i64 s.n,.str s.s,slE 6 s.fl (encTs s.l),.int .i64 s.a,.int .i64 s.b,.int .i64 0,.int .i64 0]
 | .error (x,y)=>.agg [.int .i64 0,.int .i64 0,.str [],.nils,.int .i64 0,.int .i64 0,.int .i64 x,.int .i64 y]
theorem got8_pure (r:Er Tm):(got8 r).pureT=true:=by rcases r with ⟨x,y⟩ | s <;> simp [got8]
theorem c47 (t:Tm) (e:Int) (st:St):callD T (ev T) 47 [encT t,.int .i64 e] st=some (got8 (.error (t.a,e)),st):=by
 refine callD_pureR (fn:=F47) rfl rfl (by simp) (got8_pure _) ?_
 refine Ret_wp (fn:=F47) rfl ?_
 rw [F47,got8]
 simp [splice,fillD]
def formE:Er (Tm × Tm)→Er Tm
 | .ok (_,s)=>.ok s
 | .error e=>.error e
theorem c176 (r:Er (Tm × Tm)) (st:St):callD T (ev T) 176 [gotE r] st=some (got8 (formE r),st):=by
 refine callD_pureR (fn:=F176) rfl rfl (by rcases r with ⟨x,y⟩ | ⟨a,s⟩ <;> simp [gotE,badG]) (got8_pure _) ?_
 refine Ret_wp (fn:=F176) rfl ?_
 rw [F176]
 rcases r with ⟨x,y⟩ | ⟨a,s⟩
 ·simp [gotE,badG,formE,got8,splice,fillD]
 ·simp [gotE,formE,got8,splice,fillD]
theorem c175 (gm:good m) (hb:m.l.length≤1000) (gl:∀ t,t∈locs→good t) (hll:locs.length≤1000000) (fl:Fl) (t:Tm) (gt:good t) (hct:cntT t < 1000000) (a b:Int) (st:St) :
  callD T (ev T) 175 [encT m,slE 6 fl (encTs locs),encT t,.int .i64 a,.int .i64 b] st=some (got8 (onlyE m locs t a b),st):=by
 have q:=fun st=>c75 gm hb gl hll fl t gt hct st
 refine callD_pureR (fn:=F175) rfl rfl (by simp) (got8_pure _) ?_
 refine Ret_wp (fn:=F175) rfl ?_
 rw [F175]
 unfold onlyE
 cases hO:ofE m locs t with
 | error v=>
  obtain ⟨x,y⟩:=v
  have hy:=ofE_err _ _ _ hO
  rw [hO] at q
  have q2:=c176 (.error (x,y))
  simp [gotE,badG,formE,got8] at q q2
  simp [←encT_eq m,←encT_eq t,q,q2,hy,got8,splice,fillD]
 | ok v=>
  obtain ⟨ty,s⟩:=v
  rw [hO] at q
  have q2:=c176 (.ok (ty,s))
  have q3:=c141 ty
  have q4:=c47 t 10
  simp [gotE,formE,got8] at q q2 q4
  cases h1:isT ty a <;> cases h2:isT ty b
  ·simp [←encT_eq m,←encT_eq t,q,←encT_eq ty,q3,q4,h1,h2,got8,splice,fillD]
  ·simp [←encT_eq m,←encT_eq t,q,←encT_eq ty,q3,h1,h2,got8,splice,fillD]
   simp [encT_eq ty,q2]
  ·simp [←encT_eq m,←encT_eq t,q,←encT_eq ty,q3,h1,h2,got8,splice,fillD]
   simp [encT_eq ty,q2]
  ·simp [←encT_eq m,←encT_eq t,q,←encT_eq ty,q3,h1,h2,got8,splice,fillD]
   simp [encT_eq ty,q2]
end Go.Nt.Li
set_option linter.unusedSimpArgs false
set_option maxRecDepth 20000
namespace Go.Nt.Li
open Go Go.Nt
variable {m ret:Tm} {locs:List Tm}
theorem app2T (st:St) (l:List Tm) (x:D) (h:l.length≤1000000):∃ (r1:D) (s1:St) (r2:D) (s2 s3:St),appendD st (.sl 6 true []) (encTs l) 6=some (r1,s1)∧appendD s1 r1 [x] 6=some (r2,s2) ∧
  (r2.okv=true∧r2.cells=[r2]∧r2.fits none=true)∧Nt.fz1 s2 r2=some (slE 6 .emp (encTs l++[x]),s3)∧fz s2 r2=some (slE 6 .emp (encTs l++[x]),s3):=by
 cases l with
 | nil=>
  refine ⟨.sl 6 true [],st,.rs st.length 0 6 0 1 false,st++[.cells false 6 0 0 false [x]],List.set (st++[.cells false 6 0 0 false [x]]) st.length (.cells false 6 0 1 true [x]),?_,?_,⟨rfl,rfl,rfl⟩,?_,?_⟩
  ·simp [appendD]
  ·simp [appendD,most]
  ·simp [at_last,slE]
  ·simp [at_last,slE]
 | cons d l=>
  have hl:l.length+1≤1000000:=by simpa using h
  have h2:¬ most < (encTs (d::l)).length:=by rw [encTs_len]; unfold most; omega
  have e:List.take (l.length+1) (encTs l++[x])=encTs l++[x]:=List.take_of_length_le (by simp)
  refine ⟨.rs st.length 0 6 0 (l.length+1) false,st++[.cells false 6 0 0 false (encTs (d::l))],.rs st.length 1 6 0 (l.length+1+1) false,List.set (st++[.cells false 6 0 0 false (encTs (d::l))]) st.length (.cells false 6 1 1 false (encTs (d::l)++[x])),List.set (List.set (st++[.cells false 6 0 0 false (encTs (d::l))]) st.length (.cells false 6 1 1 false (encTs (d::l)++[x]))) st.length (.cells false 6 1 2 true (encTs (d::l)++[x])),?_,?_,⟨rfl,rfl,rfl⟩,?_,?_⟩
  ·simp only [appendD,if_neg h2]; simp [most]
  ·have h3:l.length≤134217727:=by omega
   have e4:List.take l.length (encTs l)=encTs l:=List.take_of_length_le (by simp)
   simp [appendD,at_last,most,tagB,h3,e4]
  ·simp [at_last,e,slE]
  ·simp [at_last,e,slE]
theorem c105 (gm:good m) (hb:m.l.length≤1000) (gl:∀ t,t∈locs→good t) (hll:locs.length < 1000000) (fl:Fl) (t:Tm) (gt:good t) (hct:cntT t < 1000000) (st:St) :
  ∃ fl',callD T (ev T) 105 [encT m,slE 6 fl (encTs locs),encT t] st=some (slE 6 fl' (encTs (bringsE m locs t)),st):=by
 unfold bringsE
 have keep:(¬ (t.k=20∧t.l.length=1))→(¬ (t.k=21∧t.l.length=1))→callD T (ev T) 105 [encT m,slE 6 fl (encTs locs),encT t] st=some (slE 6 fl (encTs locs),st):=by
  intro h1 h2
  refine callD_pureR (fn:=F105) rfl rfl (by simp) (by simp) ?_
  refine Ret_wp (fn:=F105) rfl ?_
  rw [F105]
  have hc:((t.l.length:Int)=1)=(t.l.length=1):=propext (by omega)
  by_cases k20:t.k=20
  ·have hn:¬ t.l.length=1:=fun h=>h1 ⟨k20,h⟩
   simp [k20,hc,hn]
  ·by_cases k21:t.k=21
   ·have hn:¬ t.l.length=1:=fun h=>h2 ⟨k21,h⟩
    simp [k21,hc,hn]
   ·simp [k20,k21]
 by_cases h1:t.k=20∧t.l.length=1
 ·rw [if_pos h1]
  obtain ⟨k20,hl1⟩:=h1
  match hl:t.l,hl1 with
  | [x],_=>
   have gx:=good_mem gt (by rw [hl]; simp:x∈t.l)
   have hcx:cntT x < 1000000:=by have:=cntT_eq t; rw [hl] at this; simp [cntTs] at this; omega
   have q:=fun st=>c75 gm hb gl (by omega) fl x gx hcx st
   have key:∀ y:Tm,(∃ rest,gotE (ofE m locs x)=.agg ([.int .i64 y.k,.int .i64 y.n,.str y.s,slE 6 y.fl (encTs y.l),.int .i64 y.a,.int .i64 y.b]++rest)∧rest.length=8) →
     callD T (ev T) 105 [encT m,slE 6 fl (encTs locs),encT t] st=some (slE 6 .emp (encTs (locs++[y])),st):=by
    rintro y ⟨rest,hg,hr⟩
    rw [hg] at q
    obtain ⟨r1,s1,r2,s2,s3,p1,p2,⟨p3,p4,p5⟩,p6,p7⟩:=app2T [] locs (encT y) (by omega)
    refine callD_pureR (fn:=F105) rfl rfl (by simp) (by simp) ?_
    refine Ret_wp (fn:=F105) rfl ?_
    rw [F105]
    rw [encTs_append]
    simp only [encTs_cons,encTs_nil]
    match rest,hr with
    | [a1,a2,a3,a4,a5,a6,a7,a8],_=>
     simp at q
     simp [k20,hl,p1,←encT_eq m,←encT_eq x,q,←encT_eq y,p2,p3,p7]
   cases hO:ofE m locs x with
   | error v=>
    obtain ⟨a,b⟩:=v
    exact ⟨.emp,by simp only [List.headD_cons]; rw [hO]; exact key T0 ⟨_,by rw [hO,gotE,badG]; rfl,rfl⟩⟩
   | ok v=>
    obtain ⟨ty,s⟩:=v
    exact ⟨.emp,by simp only [List.headD_cons]; rw [hO]; exact key ty ⟨_,by rw [hO,gotE]; rfl,rfl⟩⟩
 rw [if_neg h1]
 by_cases h2:t.k=21∧t.l.length=1
 ·rw [if_pos h2]
  obtain ⟨k21,hl1⟩:=h2
  match hl:t.l,hl1 with
  | [x],_=>
   obtain ⟨r1,s1,r2,s2,s3,p1,p2,⟨p3,p4,p5⟩,p6,p7⟩:=app2T [] locs (encT x) (by omega)
   refine ⟨.emp,?_⟩
   refine callD_pureR (fn:=F105) rfl rfl (by simp) (by simp) ?_
   refine Ret_wp (fn:=F105) rfl ?_
   rw [F105]
   simp only [List.headD_cons]
   rw [encTs_append]
   simp only [encTs_cons,encTs_nil]
   simp [k21,hl,p1,←encT_eq x,p2,p3,p7]
 rw [if_neg h2]
 exact ⟨fl,keep h1 h2⟩
end Go.Nt.Li
set_option linter.unusedSimpArgs false
set_option maxRecDepth 20000
namespace Go.Nt.Li
open Go Go.Nt
variable {m ret:Tm} {locs:List Tm}
theorem onlyE_err {t:Tm} {a b x y:Int} (h:onlyE m locs t a b=.error (x,y)):y≠0:=by
 unfold onlyE at h
 split at h
 ·next e=>cases h; exact ofE_err _ _ _ e
 ·split at h <;> cases h; simp
theorem exprE_err {k:Int} {t:Tm} {x y:Int} (h:exprE m ret locs k t=.error (x,y)):y≠0:=by
 unfold exprE at h
 split at h
 ·split at h <;> cases h; simp
 split at h
 ·exact onlyE_err h
 split at h
 ·exact onlyE_err h
 split at h
 ·exact onlyE_err h
 split at h
 ·cases h; simp
 split at h
 ·next e=>cases h; exact ofE_err _ _ _ e
 ·split at h <;> cases h; simp
mutual
 theorem stmtE_err:∀ (t:Tm) (locs:List Tm) (x y:Int),stmtE m ret locs t=.error (x,y)→y≠0
  | .mk k n s fl l a b,locs,x,y,h=>by
   rw [stmtE] at h
   split at h
   ·cases h; simp
   split at h
   ·split at h
    ·next e=>cases h; exact blkE_err l _ _ _ e
    ·cases h
   split at h
   ·next e=>cases h; exact prtsE_err l _ _ _ _ _ _ e
   split at h
   ·cases h; simp
   split at h
   ·cases h; simp
   ·cases h
 theorem blkE_err:∀ (l:List Tm) (locs:List Tm) (x y:Int),blkE m ret locs l=.error (x,y)→y≠0
  | [],locs,x,y,h=>by rw [blkE] at h; cases h
  | t::l,locs,x,y,h=>by
   rw [blkE] at h
   split at h
   ·next e=>cases h; exact stmtE_err t _ _ _ e
   split at h
   ·next e=>cases h; exact blkE_err l _ _ _ e
   ·cases h
 theorem prtsE_err:∀ (l:List Tm) (locs:List Tm) (k f i:Int) (x y:Int),prtsE m ret locs k f i l=.error (x,y)→y≠0
  | [],locs,k,f,i,x,y,h=>by rw [prtsE] at h; cases h
  | .mk xk xn xs xfl xl xa xb::l,locs,k,f,i,x,y,h=>by
   rw [prtsE] at h
   split at h
   ·next e=>
    cases h
    split at e
    ·split at e
     ·next e2=>cases e; exact blkE_err xl _ _ _ e2
     ·cases e
    ·exact exprE_err e
   split at h
   ·next e=>cases h; exact prtsE_err l _ _ _ _ _ _ e
   ·cases h
end
def blockE (m ret:Tm) (locs:List Tm) (t:Tm):Er Tm:=match blkE m ret locs t.l with
 | .error e=>.error e
 | .ok ss=>.ok (.mk t.k t.n [] .emp ss 0 0)
def z8:List D:=[.int .i64 0,.int .i64 0,.str [],.nils,.int .i64 0,.int .i64 0,.int .i64 0,.int .i64 0]
def Q195 (t:Tm) (R:Er (List Tm)) (ss:List Tm) (e:Ex) (_:List D) (b':List (Nat × List D)) (st':St):Prop:=
 match R with
 | .error (x,y)=>e=.ret∧getB b' 8=(1,[.int .i64 0,.int .i64 0,.str [],.nils,.int .i64 0,.int .i64 0,.int .i64 x,.int .i64 y])
 | .ok ss'=>e=.exit 0∧getB b' 8=(1,z8)∧∃ L,getB b' 9=(1,[.int .i64 t.k,.int .i64 t.n,.str [],L,.int .i64 0,.int .i64 0])∧RawE st' L (ss++ss')
theorem brings_good (gm:good m) (gl:∀ t,t∈locs→good t) (t:Tm) (gt:good t):(∀ u,u∈bringsE m locs t→good u)∧(bringsE m locs t).length≤locs.length+1:=by
 unfold bringsE
 have gh:good (t.l.headD T0):=good_head fun u hu=>good_mem gt hu
 split
 ·refine ⟨fun u hu=>?_,by simp⟩
  rcases List.mem_append.1 hu with q | q
  ·exact gl u q
  ·rw [List.mem_singleton] at q
   subst q
   split
   ·next e=>exact (ofE_good gm gl _ gh _ _ e).1
   ·exact good_0
 split
 ·refine ⟨fun u hu=>?_,by simp⟩
  rcases List.mem_append.1 hu with q | q
  ·exact gl u q
  ·rw [List.mem_singleton] at q; subst q; exact gh
 ·exact ⟨gl,by omega⟩
theorem l80 (gm:good m) (hb:m.l.length≤1000) (t:Tm) (gt:good t) (hct:cntT t < 900000)
  (hc:∀ u,u∈t.l→∀ (locs:List Tm) (fl:Fl) (st:St),(∀ v,v∈locs→good v)→locs.length+cntT u≤900000→callD T (ev T) 112 [encT m,slE 6 fl (encTs locs),encT ret,encT u] st=some (got8 (stmtE m ret locs u),st)) :
  ∀ (r i:Nat) (s:List D) (bx:List (Nat × List D)) (st:St) (locs:List Tm) (fl:Fl) (L:D) (ss:List Tm),r=t.l.length - i→i≤t.l.length→(∀ v,v∈locs→good v)→locs.length+cntTs (t.l.drop i)≤900000→RawE st L ss→ss.length=i →
   get s 4=.lp 4 1 0→getB bx 4=(1,clT m)→get s 1=slE 6 fl (encTs locs)→get s 6=.lp 6 1 0→getB bx 6=(1,clT ret)→get s 7=.lp 7 1 0→getB bx 7=(1,clT t)→get s 8=.lp 8 1 0→getB bx 8=(1,z8)→get s 9=.lp 9 1 0 →
   getB bx 9=(1,[.int .i64 t.k,.int .i64 t.n,.str [],L,.int .i64 0,.int .i64 0])→get s 10=.int .i64 i →
  Stops (lp T L80_0 ⟨⟨s,bx⟩,st⟩) fun e s' b' st'=>Q195 t (blkE m ret locs (t.l.drop i)) ss e s' b' st':=by
 intro r
 induction r with
 | zero=>
  intro i s bx st locs fl L ss hr hi gl hl R n h4 b4 h1 h6 b6 h7 b7 h8 b8 h9 b9 h10
  have e:i=t.l.length:=by omega
  refine Stops_wp L80_0.eq_1 ?_
  rw [e,List.drop_length,blkE]
  simp [h7,b7,h10,e,Q195,b8]
  exact ⟨L,b9,R⟩
 | succ r ihr=>
  intro i s bx st locs fl L ss hr hi gl hl R n h4 b4 h1 h6 b6 h7 b7 h8 b8 h9 b9 h10
  have hlt:i < t.l.length:=by omega
  have htl:=good_len gt
  have hw:IntKind.wrap .i64 ((i:Int)+1)=((i+1:Nat):Int):=by rw [wrap64] <;> omega
  have gti:=good_mem gt (List.getElem_mem hlt)
  have hcm:=cntTs_mem (List.getElem_mem hlt)
  have hct':=cntT_eq t
  have ed:t.l.drop i=t.l[i]::t.l.drop (i+1):=List.drop_eq_getElem_cons hlt
  rw [ed,cntTs] at hl
  have q:=hc _ (List.getElem_mem hlt) locs fl st gl (by omega)
  rw [ed,blkE]
  refine Stops_wp L80_0.eq_1 ?_
  cases hO:stmtE m ret locs t.l[i] with
  | error v=>
   obtain ⟨x,y⟩:=v
   have hy:=stmtE_err _ _ _ _ hO
   rw [hO] at q
   simp [got8] at q
   simp [h4,b4,h1,h6,b6,h7,b7,h8,b8,h9,b9,h10,hlt,←encT_eq m,←encT_eq ret,←encT_eq t.l[i],q,hy,Q195,splice,z8,-Int.natCast_add]
  | ok sf=>
   rw [hO] at q
   simp [got8] at q
   obtain ⟨M,st1,p1,S,g1,o1,d1⟩:=R.app (by omega) sf
   obtain ⟨fl',q2⟩:=c105 gm hb gl (by omega) fl t.l[i] gti (by omega) st1
   obtain ⟨gl',hl'⟩:=brings_good gm gl t.l[i] gti
   have hc1:1≤cntT t.l[i]:=by have:=cntT_eq t.l[i]; omega
   have nx:=fun s' bx'=>ihr (i+1) s' bx' st1 (bringsE m locs t.l[i]) fl' M (ss++[sf]) (by omega) (by omega) gl' (by omega) S (by simp; omega)
   obtain ⟨x1,x2,x3,x4⟩:=R.facts
   obtain ⟨y1,y2,y3,y4⟩:=S.facts
   have cv:∀ e s' b' st',Q195 t (blkE m ret (bringsE m locs t.l[i]) (t.l.drop (i+1))) (ss++[sf]) e s' b' st'→Q195 t (match blkE m ret (bringsE m locs t.l[i]) (t.l.drop (i+1)) with
     | .error e=>.error e
     | .ok ss=>.ok (sf::ss)) ss e s' b' st':=by
    intro e s' b' st' h
    cases hR:blkE m ret (bringsE m locs t.l[i]) (t.l.drop (i+1)) with
    | error v=>rw [hR] at h; exact h
    | ok v=>rw [hR] at h; obtain ⟨h1,h1',L',h2,h3⟩:=h; exact ⟨h1,h1',L',h2,by simpa using h3⟩
   simp only
   generalize hG:Q195 t (match blkE m ret (bringsE m locs t.l[i]) (t.l.drop (i+1)) with
     | .error e=>.error e
     | .ok ss=>.ok (sf::ss)) ss=G at *
   simp [h4,b4,h1,h6,b6,h7,b7,h8,b8,h9,b9,h10,hlt,hw,←encT_eq m,←encT_eq ret,←encT_eq t.l[i],←encT_eq sf,q,p1,q2,x1,x2,x3,y1,y2,y3,splice,-Int.natCast_add]
   refine Stops.mono (nx _ _ ?_ ?_ ?_ ?_ ?_ ?_ ?_ ?_ ?_ ?_ ?_ ?_) (fun e s' b' st' h=>cv e s' b' st' h)
   all_goals simp [h4,b4,h1,h6,b6,h7,b7,h8,b8,h9]
theorem c80 (gm:good m) (hb:m.l.length≤1000) (t:Tm) (gt:good t) (hct:cntT t < 900000)
  (hc:∀ u,u∈t.l→∀ (locs:List Tm) (fl:Fl) (st:St),(∀ v,v∈locs→good v)→locs.length+cntT u≤900000→callD T (ev T) 112 [encT m,slE 6 fl (encTs locs),encT ret,encT u] st=some (got8 (stmtE m ret locs u),st))
  (fl:Fl) (gl:∀ v,v∈locs→good v) (hl:locs.length+cntT t≤900000) (st:St):callD T (ev T) 80 [encT m,slE 6 fl (encTs locs),encT ret,encT t] st=some (got8 (blockE m ret locs t),st):=by
 refine callD_pureR (fn:=F80) rfl rfl (by simp) (got8_pure _) ?_
 refine Ret_wp (fn:=F80) rfl ?_
 rw [F80]
 unfold blockE
 have lo:=fun s bx st=>l80 (ret:=ret) gm hb t gt hct hc t.l.length 0 s bx st locs fl (.sl 6 true []) [] (by omega) (by omega) gl (by rw [List.drop_zero]; have:=cntT_eq t; omega) (RawE.nil _) rfl
 rw [List.drop_zero] at lo
 simp [splice,fillD]
 refine WL.useB L80_0_p L80_0_w (WB:=L80_0.wrB) rfl (lo _ _ _ ?_ ?_ ?_ ?_ ?_ ?_ ?_ ?_ ?_ ?_ ?_ ?_) ?_
 iterate 12 simp [z8]
 rintro e s' b' st' h hf hbx
 have e8:=hf 8 rfl
 have e9:=hf 9 rfl
 simp at e8 e9
 cases hO:blkE m ret locs t.l with
 | error v=>
  obtain ⟨x,y⟩:=v
  rw [hO] at h
  obtain ⟨rfl,b8⟩:=h
  simp [e8,b8,got8]
 | ok ss=>
  rw [hO] at h
  obtain ⟨rfl,b8,L,b9,R⟩:=h
  rw [List.nil_append] at R
  obtain ⟨x1,x2,x3,x4⟩:=R.facts
  obtain ⟨st3,f4,f5,f6⟩:=R.fz
  simp [e8,e9,b8,b9,z8,x1,x2,x3,f4,splice,fillD,got8]
end Go.Nt.Li
set_option linter.unusedSimpArgs false
set_option maxRecDepth 20000
namespace Go.Nt.Li
open Go Go.Nt
variable {m ret:Tm} {locs:List Tm}
def partE (m ret:Tm) (locs:List Tm) (k from0 i:Int) (x:Tm):Er Tm:=if i ≥ from0 then blockE m ret (if k=25 then locs++[tK 1] else locs) x else exprE m ret locs k x
theorem prtsE_cons (k f i:Int) (x:Tm) (l:List Tm):prtsE m ret locs k f i (x::l)=match partE m ret locs k f i x with
  | .error e=>.error e
  | .ok s=>match prtsE m ret locs k f (i+1) l with
   | .error e=>.error e
   | .ok ss=>.ok (s::ss):=by
 cases x; rw [prtsE]; unfold partE blockE; simp only [k_mk,n_mk,l_mk] <;> rfl
def endE (m:Tm) (locs:List Tm) (t:Tm) (ss:List Tm):Er Tm:=
 if t.k=22∧((rootT (t.l.headD T0)).k≠7∧(rootT (t.l.headD T0)).k≠9) then .error ((t.l.headD T0).a,12) else
 if t.k=22∧sameT (tyE m locs (t.l.headD T0)) (tyE m locs (t.l.tail.headD T0))=false then .error (t.a,10) else
 .ok (.mk t.k t.n [] .emp ss 0 0)
theorem endE_n {t:Tm} (h:t.k≠22) (ss:List Tm):endE m locs t ss=.ok (.mk t.k t.n [] .emp ss 0 0):=by
 unfold endE; rw [if_neg (fun q=>h q.1),if_neg (fun q=>h q.1)]
theorem endE_s {t x y:Tm} (h:t.k=22) (hl:t.l=[x,y]) (ss:List Tm):endE m locs t ss=if (rootT x).k≠7∧(rootT x).k≠9 then .error (x.a,12) else if sameT (tyE m locs x) (tyE m locs y)=false then .error (t.a,10) else .ok (.mk t.k t.n [] .emp ss 0 0):=by
 unfold endE; rw [hl,h]; simp
def thenE (m:Tm) (locs:List Tm) (t:Tm):Er (List Tm)→Er Tm
 | .error e=>.error e
 | .ok ss=>endE m locs t ss
def restE (m ret:Tm) (locs:List Tm) (t:Tm):Er Tm:=thenE m locs t (prtsE m ret locs t.k ((partsE t.k).1 - (partsE t.k).2) 0 t.l)
theorem stmtE_eq (t:Tm):stmtE m ret locs t=if shapeE t=false then .error (t.a,12) else if t.k=29 then blockE m ret locs t else restE m ret locs t:=by
 cases t with
 | mk k n s fl l a b=>
  rw [stmtE]
  by_cases h:k=29
  ·subst h; unfold blockE; simp only [k_mk,n_mk,l_mk,a_mk] <;> rfl
  ·rw [if_neg h,if_neg (show ¬ (Tm.mk k n s fl l a b).k=29 from h)]; unfold restE; simp only [k_mk,n_mk,l_mk,a_mk]; split; rfl; cases prtsE m ret locs k ((partsE k).1 - (partsE k).2) 0 l <;> rfl
theorem same_bare' (a x:Tm):sameT a (bareE x)=sameT a (bareT x):=same_bare x a
theorem c146 (gm:good m) (hb:m.l.length≤1000) (gr:good ret) (t:Tm) (gt:good t) (i:Nat) (x:Tm) (hx:t.l[i]?=some x) (gl:∀ v,v∈locs→good v) (hl:locs.length+cntT x < 900000)
  (hc:∀ (locs:List Tm) (fl:Fl) (st:St),(∀ v,v∈locs→good v)→locs.length+cntT x≤900000→callD T (ev T) 80 [encT m,slE 6 fl (encTs locs),encT ret,encT x] st=some (got8 (blockE m ret locs x),st))
  (fl:Fl) (st:St):callD T (ev T) 146 [encT m,slE 6 fl (encTs locs),encT ret,encT t,.int .i64 i] st=some (got8 (partE m ret locs t.k ((partsE t.k).1 - (partsE t.k).2) i x),st):=by
 have hlt:i < t.l.length:=by
  by_cases c:i < t.l.length
  ·exact c
  ·rw [List.getElem?_eq_none (by omega)] at hx; cases hx
 have hxi:t.l[i]=x:=by rw [List.getElem?_eq_getElem hlt] at hx; simpa using hx
 have gx:good x:=by rw [←hxi]; exact good_mem gt (List.getElem_mem hlt)
 have hcx:cntT x < 1000000:=by omega
 refine callD_pureR (fn:=F146) rfl rfl (by simp) (got8_pure _) ?_
 refine Ret_wp (fn:=F146) rfl ?_
 rw [F146]
 have qp:=c174 t.k
 obtain ⟨p1,p2,p3,p4,p5,p6⟩:=partsE_in t.k
 have hw:IntKind.wrap .i64 ((partsE t.k).1 - (partsE t.k).2)=(partsE t.k).1 - (partsE t.k).2:=by rw [wrap64] <;> omega
 unfold partE
 generalize (partsE t.k).1=n at *
 generalize (partsE t.k).2=b at *
 by_cases hi:(i:Int) ≥ n - b
 ·rw [if_pos hi]
  have hi':n - b≤(i:Int):=hi
  by_cases h25:t.k=25
  ·rw [if_pos h25]
   obtain ⟨r1,s1,r2,s2,s3,p1,p2,⟨p3,p4,p5⟩,p6,p7⟩:=app2T [] locs (encT (tK 1)) (by omega)
   have q:callD T (ev T) 80 [encT m,r2,encT ret,encT x] s2=some (got8 (blockE m ret (locs++[tK 1]) x),s3):=by
    refine callD_free (fn:=F80) rfl rfl (args':=[encT m,slE 6 .emp (encTs (locs++[tK 1])),encT ret,encT x]) ?_ (by simp) (hc (locs++[tK 1]) .emp s3 ?_ (by simp; omega))
    ·rw [encTs_append]; simp only [encTs_cons,encTs_nil]; simp [p6]
    ·intro v hv
     rcases List.mem_append.1 hv with h | h
     ·exact gl v h
     ·rw [List.mem_singleton] at h; subst h; exact good_K 1 (by simp [in64])
   rw [encT_K] at p2
   rw [h25] at qp
   cases hO:blockE m ret (locs++[tK 1]) x with
   | error v=>obtain ⟨a1,a2⟩:=v; rw [hO] at q; simp [got8] at q; simp [h25,hlt,hxi,qp,hw,hi',p1,p2,←encT_eq m,←encT_eq ret,←encT_eq x,q,splice,fillD,got8]
   | ok sf=>rw [hO] at q; simp [got8] at q; simp [h25,hlt,hxi,qp,hw,hi',p1,p2,←encT_eq m,←encT_eq ret,←encT_eq x,q,splice,fillD,got8]
  ·rw [if_neg h25]
   have q:=hc locs fl [] gl (by omega)
   cases hO:blockE m ret locs x with
   | error v=>obtain ⟨a1,a2⟩:=v; rw [hO] at q; simp [got8] at q; simp [h25,hlt,hxi,qp,hw,hi',←encT_eq m,←encT_eq ret,←encT_eq x,q,splice,fillD,got8]
   | ok sf=>rw [hO] at q; simp [got8] at q; simp [h25,hlt,hxi,qp,hw,hi',←encT_eq m,←encT_eq ret,←encT_eq x,q,splice,fillD,got8]
 rw [if_neg hi]
 have hi':¬ n - b≤(i:Int):=hi
 clear p1 p2 p3 p4 p5 p6 hc
 unfold exprE
 by_cases h21:t.k=21
 ·rw [if_pos h21]
  rw [h21] at qp
  have q1:=fun st=>c48 m x (good_ok _ gm) hb (good_ok _ gx) st
  rw [cells_eq] at q1
  have q3:=c47 x 11
  simp [got8] at q3
  by_cases h0:cellsV m x=0
  ·simp [h21,hlt,hxi,qp,hw,hi',←encT_eq m,←encT_eq x,q1,q3,h0,splice,fillD,got8]
  ·obtain ⟨L,st2,q2,R,g⟩:=c50 x gx []
   obtain ⟨x1,x2,x3,_⟩:=R.facts
   obtain ⟨st3,f,_⟩:=R.fz
   rw [outR] at q2
   rw [slE_pfl] at f
   simp [h21,hlt,hxi,qp,hw,hi',←encT_eq m,←encT_eq x,q1,q2,h0,x1,x2,x3,f,splice,fillD,got8,nlE_k,nlE_n,nlE_s,nlE_fl,nlE_l,nlE_a,nlE_b]
 rw [if_neg h21]
 have only:∀ a b:Int,∃ l8:List D,l8.length=8∧got8 (onlyE m locs x a b)=.agg l8∧(∀ st,callD T (ev T) 175 [encT m,slE 6 fl (encTs locs),encT x,.int .i64 a,.int .i64 b] st=some (.agg l8,st))∧l8.all D.okv=true∧(∀ st,fz st (.agg l8)=some (.agg l8,st)):=by
  intro a b
  have q:=fun st=>c175 gm hb gl (by omega) fl x gx hcx a b st
  cases hO:onlyE m locs x a b with
  | error v=>obtain ⟨a1,a2⟩:=v; rw [hO] at q; exact ⟨_,rfl,rfl,q,by simp,by simp⟩
  | ok sf=>rw [hO] at q; exact ⟨_,rfl,rfl,q,by simp,by simp⟩
 by_cases h23:t.k=23∨t.k=24
 ·rw [if_pos h23]
  obtain ⟨l8,e8,e9,q,e10,e11⟩:=only 2 2
  rw [e9]
  match l8,e8 with
  | [a1,a2,a3,a4,a5,a6,a7,a8],_=>
   rcases h23 with h | h
   ·rw [h] at qp; simp at e10; simp [h,hlt,hxi,qp,hw,hi',←encT_eq m,←encT_eq x,q,e10,e11,splice,fillD]
   ·rw [h] at qp; simp at e10; simp [h,hlt,hxi,qp,hw,hi',←encT_eq m,←encT_eq x,q,e10,e11,splice,fillD]
 rw [if_neg h23]
 simp only [not_or] at h23
 by_cases h25:t.k=25
 ·rw [if_pos h25]
  obtain ⟨l8,e8,e9,q,e10,e11⟩:=only 1 1
  rw [e9]
  rw [h25] at qp
  match l8,e8 with
  | [a1,a2,a3,a4,a5,a6,a7,a8],_=>simp at e10; simp [h25,hlt,hxi,qp,hw,hi',←encT_eq m,←encT_eq x,q,e10,e11,splice,fillD]
 rw [if_neg h25]
 by_cases h26:t.k=26
 ·rw [if_pos h26]
  obtain ⟨l8,e8,e9,q,e10,e11⟩:=only 1 2
  rw [e9]
  rw [h26] at qp
  match l8,e8 with
  | [a1,a2,a3,a4,a5,a6,a7,a8],_=>simp at e10; simp [h26,hlt,hxi,qp,hw,hi',←encT_eq m,←encT_eq x,q,e10,e11,splice,fillD]
 rw [if_neg h26]
 clear only
 by_cases h28:t.k=28∧x.k≠16
 ·rw [if_pos h28]
  have q3:=c47 x 12
  simp [got8] at q3
  have qp':=qp
  rw [h28.1] at qp'
  simp [h28.1,h28.2,hlt,hxi,qp',hw,hi',←encT_eq m,←encT_eq x,q3,splice,fillD,got8]
 rw [if_neg h28]
 have q:=fun st=>c75 gm hb gl (by omega) fl x gx hcx st
 cases hO:ofE m locs x with
 | error v=>
  obtain ⟨a1,a2⟩:=v
  have hy:=ofE_err _ _ _ hO
  rw [hO] at q
  have q2:=c176 (.error (a1,a2))
  simp [gotE,badG,formE,got8] at q q2
  by_cases k28:t.k=28
  ·have k16:x.k=16:=Classical.byContradiction fun h'=>h28 ⟨k28,h'⟩
   rw [k28] at qp
   rw [encT_eq x,k16] at q
   simp [k28,k16,hlt,hxi,qp,hw,hi',←encT_eq m,q,q2,hy,splice,fillD,got8]
  ·by_cases k27:t.k=27
   ·rw [k27] at qp
    simp [k27,hlt,hxi,qp,hw,hi',←encT_eq m,←encT_eq x,q,q2,hy,splice,fillD,got8]
   ·simp [k28,k27,h21,h23.1,h23.2,h25,h26,hlt,hxi,qp,hw,hi',←encT_eq m,←encT_eq x,q,q2,hy,splice,fillD,got8]
 | ok v=>
  obtain ⟨ty,sf⟩:=v
  rw [hO] at q
  have q2:=c176 (.ok (ty,sf))
  simp [gotE,formE,got8] at q q2
  by_cases k28:t.k=28
  ·have k16:x.k=16:=Classical.byContradiction fun h'=>h28 ⟨k28,h'⟩
   rw [k28] at qp
   rw [encT_eq x,k16] at q
   simp [k28,k16,hlt,hxi,qp,hw,hi',←encT_eq m,q,q2,splice,fillD,got8]
  ·by_cases k27:t.k=27
   ·rw [k27] at qp
    have gty:=(ofE_good gm gl x gx _ _ hO).1
    have q3:=c139 ret gr
    have q4:=c10 ty gty (bareE ret)
    have q5:=c47 x 10
    simp [got8] at q5
    cases hs:sameT ty (bareE ret) with
    | true=>
     rw [hs] at q4
     simp [k27,hlt,hxi,qp,hw,hi',←encT_eq m,←encT_eq x,←encT_eq ret,q,←encT_eq ty,q3,q4,splice,fillD,got8]
     simp [encT_eq ty,q2,hs]
    | false=>
     rw [hs] at q4
     simp [k27,hlt,hxi,qp,hw,hi',←encT_eq m,←encT_eq x,←encT_eq ret,q,←encT_eq ty,q3,q4,q5,splice,fillD,got8]
     simp [hs]
   ·simp [k28,k27,h21,h23.1,h23.2,h25,h26,hlt,hxi,qp,hw,hi',←encT_eq m,←encT_eq x,q,q2,splice,fillD,got8]
def Q242 (t:Tm) (R:Er (List Tm)) (ss:List Tm) (e:Ex) (_:List D) (b':List (Nat × List D)) (st':St):Prop:=
 match R with
 | .error (x,y)=>e=.ret∧getB b' 8=(1,[.int .i64 0,.int .i64 0,.str [],.nils,.int .i64 0,.int .i64 0,.int .i64 x,.int .i64 y])
 | .ok ss'=>e=.exit 0∧getB b' 8=(1,z8)∧∃ L,getB b' 9=(1,[.int .i64 t.k,.int .i64 t.n,.str [],L,.int .i64 0,.int .i64 0])∧RawE st' L (ss++ss')
theorem partE_err {k f i:Int} {t:Tm} {x y:Int} (h:partE m ret locs k f i t=.error (x,y)):y≠0:=by
 unfold partE at h
 split at h
 ·unfold blockE at h
  split at h
  ·next e=>cases h; exact blkE_err _ _ _ _ e
  ·cases h
 ·exact exprE_err h
theorem l112 (t:Tm) (gt:good t) (f:Int) (fl:Fl)
  (hc:∀ (i:Nat) (x:Tm) (st:St),t.l[i]?=some x→callD T (ev T) 146 [encT m,slE 6 fl (encTs locs),encT ret,encT t,.int .i64 i] st=some (got8 (partE m ret locs t.k f i x),st)) :
  ∀ (r i:Nat) (s:List D) (bx:List (Nat × List D)) (st:St) (L:D) (ss:List Tm),r=t.l.length - i→i≤t.l.length→RawE st L ss→ss.length=i →
   get s 4=.lp 4 1 0→getB bx 4=(1,clT m)→get s 1=slE 6 fl (encTs locs)→get s 6=.lp 6 1 0→getB bx 6=(1,clT ret)→get s 7=.lp 7 1 0→getB bx 7=(1,clT t)→get s 8=.lp 8 1 0→getB bx 8=(1,z8)→get s 9=.lp 9 1 0 →
   getB bx 9=(1,[.int .i64 t.k,.int .i64 t.n,.str [],L,.int .i64 0,.int .i64 0])→get s 10=.int .i64 i →
  Stops (lp T L112_0 ⟨⟨s,bx⟩,st⟩) fun e s' b' st'=>Q242 t (prtsE m ret locs t.k f i (t.l.drop i)) ss e s' b' st':=by
 intro r
 induction r with
 | zero=>
  intro i s bx st L ss hr hi R n h4 b4 h1 h6 b6 h7 b7 h8 b8 h9 b9 h10
  have e:i=t.l.length:=by omega
  refine Stops_wp L112_0.eq_1 ?_
  rw [e,List.drop_length,prtsE]
  simp [h7,b7,h10,e,Q242,b8]
  exact ⟨L,b9,R⟩
 | succ r ihr=>
  intro i s bx st L ss hr hi R n h4 b4 h1 h6 b6 h7 b7 h8 b8 h9 b9 h10
  have hlt:i < t.l.length:=by omega
  have htl:=good_len gt
  have hw:IntKind.wrap .i64 ((i:Int)+1)=((i+1:Nat):Int):=by rw [wrap64] <;> omega
  have q:=hc i _ st (List.getElem?_eq_getElem hlt)
  have ed:t.l.drop i=t.l[i]::t.l.drop (i+1):=List.drop_eq_getElem_cons hlt
  rw [ed,prtsE_cons]
  refine Stops_wp L112_0.eq_1 ?_
  cases hO:partE m ret locs t.k f i t.l[i] with
  | error v=>
   obtain ⟨x,y⟩:=v
   have hy:=partE_err hO
   rw [hO] at q
   simp [got8] at q
   simp [h4,b4,h1,h6,b6,h7,b7,h8,b8,h9,b9,h10,hlt,←encT_eq m,←encT_eq ret,←encT_eq t,q,hy,Q242,splice,z8,-Int.natCast_add]
  | ok sf=>
   rw [hO] at q
   simp [got8] at q
   obtain ⟨M,st1,p1,S,g1,o1,d1⟩:=R.app (by omega) sf
   have nx:=fun s' bx'=>ihr (i+1) s' bx' st1 M (ss++[sf]) (by omega) (by omega) S (by simp; omega)
   obtain ⟨x1,x2,x3,x4⟩:=R.facts
   obtain ⟨y1,y2,y3,y4⟩:=S.facts
   have ec:((i+1:Nat):Int)=(i:Int)+1:=by omega
   have cv:∀ e s' b' st',Q242 t (prtsE m ret locs t.k f ((i+1:Nat):Int) (t.l.drop (i+1))) (ss++[sf]) e s' b' st'→Q242 t (match prtsE m ret locs t.k f ((i:Int)+1) (t.l.drop (i+1)) with
     | .error e=>.error e
     | .ok ss=>.ok (sf::ss)) ss e s' b' st':=by
    rw [ec]
    intro e s' b' st' h
    cases hR:prtsE m ret locs t.k f ((i:Int)+1) (t.l.drop (i+1)) with
    | error v=>rw [hR] at h; exact h
    | ok v=>rw [hR] at h; obtain ⟨h1,h1',L',h2,h3⟩:=h; exact ⟨h1,h1',L',h2,by simpa using h3⟩
   simp only
   generalize hG:Q242 t (match prtsE m ret locs t.k f ((i:Int)+1) (t.l.drop (i+1)) with
     | .error e=>.error e
     | .ok ss=>.ok (sf::ss)) ss=G at *
   simp [h4,b4,h1,h6,b6,h7,b7,h8,b8,h9,b9,h10,hlt,hw,←encT_eq m,←encT_eq ret,←encT_eq t,←encT_eq sf,q,p1,x1,x2,x3,y1,y2,y3,splice,-Int.natCast_add]
   refine Stops.mono (nx _ _ ?_ ?_ ?_ ?_ ?_ ?_ ?_ ?_ ?_ ?_ ?_ ?_) (fun e s' b' st' h=>cv e s' b' st' h)
   all_goals simp [h4,b4,h1,h6,b6,h7,b7,h8,b8,h9]
end Go.Nt.Li
set_option linter.unusedSimpArgs false
set_option maxRecDepth 20000
namespace Go.Nt.Li
open Go Go.Nt
variable {m ret:Tm} {locs:List Tm}
theorem callQ_pure {f:Nat} {fn:IFunc} (hT:T f=some fn) (hm:fn.mode=.pure) {args:List D} {q:D} (hargs:args.all D.pure=true) (hp:pureArgs [] args=some (args,[])) (h:callD T (ev T) f args []=some (q,[])):callQD T (ev T) f args=some q:=by
 simp only [callD,callQD,hT,hm,hp,hargs,if_true,Option.bind_some] at h ⊢
 cases h1:ev T f args [] with
 | none=>rw [h1] at h; cases h
 | some r=>
  rw [h1] at h
  obtain ⟨a,b⟩:=r
  simp only [Option.bind_some] at h ⊢
  cases h2:fz b a with
  | none=>rw [h2] at h; cases h
  | some c=>
   rw [h2] at h
   obtain ⟨c1,c2⟩:=c
   simp only [Option.bind_some] at h ⊢
   split at h
   ·next hp=>rw [if_pos hp]; cases h; rfl
   ·cases h
def PS (m ret t:Tm):Prop:=∀ (locs:List Tm) (fl:Fl) (st:St),(∀ v,v∈locs→good v)→locs.length+cntT t≤900000→callD T (ev T) 112 [encT m,slE 6 fl (encTs locs),encT ret,encT t] st=some (got8 (stmtE m ret locs t),st)
theorem tyE_got (t:Tm):∃ rest:List D,rest.length=8∧gotE (ofE m locs t)=.agg ([.int .i64 (tyE m locs t).k,.int .i64 (tyE m locs t).n,.str (tyE m locs t).s,slE 6 (tyE m locs t).fl (encTs (tyE m locs t).l),.int .i64 (tyE m locs t).a,.int .i64 (tyE m locs t).b]++rest):=by
 unfold tyE
 cases h:ofE m locs t with
 | error v=>obtain ⟨a,b⟩:=v; exact ⟨_,rfl,by simp [gotE,badG,slE]; rfl⟩
 | ok v=>obtain ⟨a,b⟩:=v; exact ⟨_,rfl,by simp [gotE]; rfl⟩
theorem tyE_good (gm:good m) (gl:∀ v,v∈locs→good v) (t:Tm) (gt:good t):good (tyE m locs t):=by
 unfold tyE
 split
 ·next e=>exact (ofE_good gm gl t gt _ _ e).1
 ·exact good_0
theorem c112s (gm:good m) (hb:m.l.length≤1000) (gr:good ret) (t:Tm) (gt:good t) (hct:cntT t < 900000) (h1:∀ u,u∈t.l→PS m ret u) (h2:∀ u,u∈t.l→∀ w,w∈u.l→PS m ret w):PS m ret t:=by
 intro locs fl st gl hl
 have hct':=cntT_eq t
 have qs:=c145 t
 have qb:=fun st=>c80 gm hb t gt hct (fun u hu locs fl st gl hl=>h1 u hu locs fl st gl hl) fl gl hl st
 have q12:=c47 t 12
 have q10:=c47 t 10
 simp [got8] at q12 q10
 refine callD_pureR (fn:=F112) rfl rfl (by simp) (got8_pure _) ?_
 refine Ret_wp (fn:=F112) rfl ?_
 rw [F112,stmtE_eq]
 by_cases hs:shapeE t=false
 ·rw [if_pos hs]
  rw [hs] at qs
  simp [←encT_eq t,qs,q12,splice,got8]
 rw [if_neg hs]
 have hs':shapeE t=true:=by simpa using hs
 rw [hs'] at qs
 by_cases h29:t.k=29
 ·rw [if_pos h29]
  rw [encT_eq t,h29] at qs qb
  cases hO:blockE m ret locs t with
  | error v=>obtain ⟨a1,a2⟩:=v; rw [hO] at qb; simp [got8] at qb; simp [h29,←encT_eq m,←encT_eq ret,qs,qb,splice,got8]
  | ok sf=>rw [hO] at qb; simp [got8] at qb; simp [h29,←encT_eq m,←encT_eq ret,qs,qb,splice,got8]
 rw [if_neg h29]
 clear qb
 have hp:∀ (i:Nat) (x:Tm) (st:St),t.l[i]?=some x→callD T (ev T) 146 [encT m,slE 6 fl (encTs locs),encT ret,encT t,.int .i64 i] st=some (got8 (partE m ret locs t.k ((partsE t.k).1 - (partsE t.k).2) i x),st):=by
  intro i x st hx
  have hm:x∈t.l:=List.mem_of_getElem? hx
  have hcx:=cntTs_mem hm
  exact c146 gm hb gr t gt i x hx gl (by omega) (fun locs fl st gl hl=>c80 gm hb x (good_mem gt hm) (by omega) (fun w hw=>h2 x hm w hw) fl gl hl st) fl st
 have lo:=fun s bx st=>l112 (m:=m) (ret:=ret) (locs:=locs) t gt _ fl hp t.l.length 0 s bx st (.sl 6 true []) [] (by omega) (by omega) (RawE.nil _) rfl
 rw [List.drop_zero] at lo
 simp only [Int.natCast_zero] at lo
 unfold restE
 generalize hR:prtsE m ret locs t.k ((partsE t.k).1 - (partsE t.k).2) 0 t.l=R at *
 simp [h29,←encT_eq t,qs,splice,fillD]
 refine WL.useB L112_0_p L112_0_w (WB:=L112_0.wrB) rfl (lo _ _ _ ?_ ?_ ?_ ?_ ?_ ?_ ?_ ?_ ?_ ?_ ?_ ?_) ?_
 iterate 12 simp [z8]
 rintro e s' b' st' h hf hbx
 have e1:=hf 1 rfl
 have e4:=hf 4 rfl
 have e6:=hf 6 rfl
 have e7:=hf 7 rfl
 have e8:=hf 8 rfl
 have e9:=hf 9 rfl
 have b4:=hbx 4 rfl
 have b6:=hbx 6 rfl
 have b7:=hbx 7 rfl
 have b12:=hbx 12 rfl
 simp at e1 e4 e6 e7 e8 e9 b4 b6 b7 b12
 cases R with
 | error v=>
  obtain ⟨x,y⟩:=v
  obtain ⟨rfl,b8⟩:=h
  rw [thenE]
  simp [e8,b8,got8]
 | ok ss=>
  obtain ⟨rfl,b8,L,b9,R⟩:=h
  rw [thenE]
  rw [List.nil_append] at R
  obtain ⟨x1,x2,x3,x4⟩:=R.facts
  obtain ⟨st3,f4,f5,f6⟩:=R.fz
  by_cases h22:t.k=22
  ·have hl2:t.l.length=2:=by
    unfold shapeE at hs'
    rw [if_neg h29] at hs'
    simp only [Bool.and_eq_true,decide_eq_true_eq] at hs'
    have:=hs'.1
    unfold partsE at this
    simp [h22] at this
    omega
   match hll:t.l,hl2 with
   | [x,y],_=>
    have gx:=good_mem gt (by rw [hll]; simp:x∈t.l)
    have gy:=good_mem gt (by rw [hll]; simp:y∈t.l)
    have hcs:cntT x+cntT y < cntT t:=by rw [hct',hll]; simp [cntTs]
    have qr:=c130 x gx
    have qx:=c75 gm hb gl (by omega) fl x gx (by omega) []
    have qx:=callQ_pure (fn:=F75) rfl rfl (by simp) (by simp) qx
    have qy:=fun st=>c75 gm hb gl (by omega) fl y gy (by omega) st
    obtain ⟨r1,n1,er1⟩:=tyE_got (m:=m) (locs:=locs) x
    obtain ⟨r2,n2,er2⟩:=tyE_got (m:=m) (locs:=locs) y
    have q74:=c10 (tyE m locs x) (tyE_good gm gl x gx) (tyE m locs y)
    have qb12:=c47 x 12
    simp [got8] at qb12
    rw [er1] at qx
    rw [er2] at qy
    rw [encT_eq (rootT x)] at qr
    rw [endE_s h22 hll,h22]
    rw [encT_eq t,h22,hll] at q10
    simp only [encTs_cons,encTs_nil] at q10
    match r1,n1,r2,n2 with
    | [a1,a2,a3,a4,a5,a6,a7,a8],_,[c1,c2,c3,c4,c5,c6,c7,c8],_=>
    simp at qx qy
    by_cases hr:(rootT x).k≠7∧(rootT x).k≠9
    ·rw [if_pos hr]
     simp [h22,hll,e1,e4,e6,e7,e8,e9,b4,b6,b7,b8,b9,b12,z8,←encT_eq m,←encT_eq x,qr,hr.1,hr.2,qb12,splice,fillD,got8]
    ·rw [if_neg hr]
     cases hsm:sameT (tyE m locs x) (tyE m locs y) with
     | true=>
      rw [hsm] at q74
      rw [if_neg (by simp)]
      by_cases h7:(rootT x).k=7
      ·simp [h22,hll,e1,e4,e6,e7,e8,e9,b4,b6,b7,b8,b9,b12,z8,←encT_eq m,←encT_eq x,←encT_eq y,qr,h7,qx,qy,←encT_eq (tyE m locs x),←encT_eq (tyE m locs y),q74,x1,x2,x3,f4,splice,fillD,got8]
      ·have h9:(rootT x).k=9:=Classical.byContradiction fun q=>hr ⟨h7,q⟩
       simp [h22,hll,e1,e4,e6,e7,e8,e9,b4,b6,b7,b8,b9,b12,z8,←encT_eq m,←encT_eq x,←encT_eq y,qr,h9,qx,qy,←encT_eq (tyE m locs x),←encT_eq (tyE m locs y),q74,x1,x2,x3,f4,splice,fillD,got8]
     | false=>
      rw [hsm] at q74
      rw [if_pos rfl]
      by_cases h7:(rootT x).k=7
      ·simp [h22,hll,e1,e4,e6,e7,e8,e9,b4,b6,b7,b8,b9,b12,z8,←encT_eq m,←encT_eq x,←encT_eq y,qr,h7,qx,qy,←encT_eq (tyE m locs x),←encT_eq (tyE m locs y),q74,q10,splice,fillD,got8]
      ·have h9:(rootT x).k=9:=Classical.byContradiction fun q=>hr ⟨h7,q⟩
       simp [h22,hll,e1,e4,e6,e7,e8,e9,b4,b6,b7,b8,b9,b12,z8,←encT_eq m,←encT_eq x,←encT_eq y,qr,h9,qx,qy,←encT_eq (tyE m locs x),←encT_eq (tyE m locs y),q74,q10,splice,fillD,got8]
  ·rw [endE_n h22]
   simp [h22,e1,e4,e6,e7,e8,e9,b4,b6,b7,b8,b9,z8,x1,x2,x3,f4,splice,fillD,got8]
theorem c112 (gm:good m) (hb:m.l.length≤1000) (gr:good ret) (t:Tm):good t→cntT t < 900000→PS m ret t∧∀ u,u∈t.l→PS m ret u:=by
 induction t using Tm.ind with
 | h t ih=>
  intro gt hct
  have hi:∀ u,u∈t.l→PS m ret u∧∀ w,w∈u.l→PS m ret w:=fun u hu=>ih u hu (good_mem gt hu) (by have:=cntTs_mem hu; have:=cntT_eq t; omega)
  exact ⟨c112s gm hb gr t gt hct (fun u hu=>(hi u hu).1) fun u hu=>(hi u hu).2,fun u hu=>(hi u hu).1⟩
end Go.Nt.Li
set_option linter.unusedSimpArgs false
set_option maxRecDepth 20000
namespace Go.Nt.Li
open Go Go.Nt
variable {m ret:Tm} {locs:List Tm}
theorem l77 (fl:Fl) (l:List Tm) (hl:l.length≤1000000) :
  ∀ (r i:Nat) (s:List D) (bx:List (Nat × List D)) (st:St),r=l.length - i→i≤l.length→get s 0=slE 6 fl (encTs l)→get s 3=.int .i64 i →
  Stops (lp T L77_0 ⟨⟨s,bx⟩,st⟩) fun e s' _ _=>if partedT (l.drop i) then e=.exit 0 else e=.ret∧get s' 2=.bool false:=by
 intro r
 induction r with
 | zero=>
  intro i s bx st hr hi h0 h3
  have e:i=l.length:=by omega
  subst e
  refine Stops_wp L77_0.eq_1 ?_
  rw [List.drop_length]
  simp [h0,h3,partedT]
 | succ r ihr=>
  intro i s bx st hr hi h0 h3
  have hlt:i < l.length:=by omega
  have hw:IntKind.wrap .i64 ((i:Int)+1)=((i+1:Nat):Int):=by rw [wrap64] <;> omega
  have nx:=fun s' bx'=>ihr (i+1) s' bx' st (by omega) (by omega)
  have hd:partedT (l.drop i)=(decide (l[i].k=34) && decide (l[i].l.length=1) && partedT (l.drop (i+1))):=by rw [List.drop_eq_getElem_cons hlt,partedT,List.all_cons] <;> rfl
  rw [hd]
  generalize partedT (l.drop (i+1))=A at *
  refine Stops_wp L77_0.eq_1 ?_
  by_cases hk:l[i].k=34
  ·by_cases hn:l[i].l.length=1
   ·simp [h0,h3,hlt,hw,hk,hn,-Int.natCast_add]
    refine nx _ _ ?_ ?_ <;> simp [h0]
   ·simp [h0,h3,hlt,hw,hk,hn,-Int.natCast_add]
  ·simp [h0,h3,hlt,hw,hk,-Int.natCast_add]
theorem c77 (fl:Fl) (l:List Tm) (hl:l.length≤1000000) (st:St):callD T (ev T) 77 [slE 6 fl (encTs l)] st=some (.bool (partedT l),st):=by
 refine callD_pureR (fn:=F77) rfl rfl (by simp) (by simp) ?_
 refine Ret_wp (fn:=F77) rfl ?_
 rw [F77]
 have lo:=fun s bx st=>l77 fl l hl l.length 0 s bx st (by omega) (by omega)
 rw [List.drop_zero] at lo
 generalize partedT l=A at *
 simp
 refine WL.use L77_0_p L77_0_w (lo _ _ _ ?_ ?_) ?_
 iterate 2 simp
 rintro e s' b' st' h hf
 cases A with
 | true=>simp at h; subst h; simp
 | false=>simp at h; obtain ⟨rfl,q2⟩:=h; simp [q2]
def RawG (st0 st:St) (L:D) (l:List Tm):Prop:=RawE st L l∧Grow st0 st∧(l=[]∨st0.length≤lidOf L)
theorem RawG.nil (st:St):RawG st st (.sl 6 true []) []:=⟨RawE.nil _,Grow.refl _,.inl rfl⟩
theorem RawG.app {st0 st:St} {L:D} {l:List Tm} (h:RawG st0 st L l) (hb:l.length≤1000000) (x:Tm):∃ L' st',appendD st L [encT x] 6=some (L',st')∧RawG st0 st' L' (l++[x]):=by
 obtain ⟨R,g,hl⟩:=h
 obtain ⟨L',st',a,R',g1,o1,d1⟩:=R.app hb x
 refine ⟨L',st',a,R',⟨by have:=g.1; omega,fun i hi=>?_⟩,.inr ?_⟩
 ·rw [o1 i (by have:=g.1; omega) (by rcases hl with h | h; exact .inl h; exact .inr (by omega)),g.2 i hi]
 ·rcases d1 with ⟨e,hne⟩ | ⟨_,e⟩
  ·rcases hl with h | h
   ·exact absurd h hne
   ·omega
  ·have:=g.1; omega
theorem RawG.fz {st0 st:St} {L:D} {l:List Tm} (h:RawG st0 st L l):∃ st',fz0 st L=some (slE 6 .emp (encTs l),st')∧Nt.fz1 st L=some (slE 6 .emp (encTs l),st')∧Grow st0 st':=by
 obtain ⟨R,g,hl⟩:=h
 obtain ⟨st',f1,f2,f3⟩:=R.fz
 exact ⟨st',f1,by rw [R.fz1]; exact f1,by have:=g.1; omega,fun i hi=>by rw [f3 i (by rcases hl with h | h; exact .inl h; exact .inr (by omega)),g.2 i hi]⟩
theorem l78 (f p:Tm) (rest:List Tm) (hf:f.l=p::rest) (hl:p.l.length≤1000000) (hp:partedT p.l=true) (st0:St) :
  ∀ (r i:Nat) (s:List D) (bx:List (Nat × List D)) (st:St) (L:D),r=p.l.length - i→i≤p.l.length→RawG st0 st L ((p.l.take i).map tyOf)→get s 1=.lp 1 1 0→getB bx 1=(1,clT f)→get s 3=L→get s 4=.int .i64 i →
  Stops (lp T L78_0 ⟨⟨s,bx⟩,st⟩) fun e s' _ st'=>e=.exit 0∧RawG st0 st' (get s' 3) (p.l.map tyOf):=by
 intro r
 induction r with
 | zero=>
  intro i s bx st L hr hi R h1 b1 h3 h4
  have e:i=p.l.length:=by omega
  subst e
  rw [List.take_length] at R
  refine Stops_wp L78_0.eq_1 ?_
  simp [h1,b1,hf,h3,h4]
  exact R
 | succ r ihr=>
  intro i s bx st L hr hi R h1 b1 h3 h4
  have hlt:i < p.l.length:=by omega
  have hw:IntKind.wrap .i64 ((i:Int)+1)=((i+1:Nat):Int):=by rw [wrap64] <;> omega
  have hpi:p.l[i].l.length=1:=by
   have:=List.all_eq_true.1 hp _ (List.getElem_mem hlt)
   simp only [Bool.and_eq_true,decide_eq_true_eq] at this
   exact this.2
  match hx:p.l[i].l,hpi with
  | [x],_=>
   have ex:tyOf p.l[i]=x:=by rw [tyOf,hx] <;> rfl
   obtain ⟨L3,st3,a1,R3⟩:=R.app (by simp; omega) x
   have e1:(p.l.take i).map tyOf++[x]=(p.l.take (i+1)).map tyOf:=by
    rw [←ex,←List.map_singleton,←List.map_append,List.take_append_getElem hlt]
   rw [e1] at R3
   have nx:=fun s' bx'=>ihr (i+1) s' bx' st3 L3 (by omega) (by omega) R3
   refine Stops_wp L78_0.eq_1 ?_
   simp [h1,b1,hf,h3,h4,hlt,hx,hw,←encT_eq x,a1,-Int.natCast_add]
   refine nx _ _ ?_ ?_ ?_ ?_ <;> simp [h1,b1,hf]
theorem c78 (f p:Tm) (rest:List Tm) (hf:f.l=p::rest) (hl:p.l.length≤1000000) (hp:partedT p.l=true) (st:St):∃ L st',callD T (ev T) 78 [encT f] st=some (L,st')∧RawG st st' L (p.l.map tyOf):=by
 rw [callD_rawE (fn:=F78) rfl rfl (by simp)]
 have go:Ret (ev T 78 [encT f] st) fun r st'=>RawG st st' r (p.l.map tyOf):=by
  refine Ret_wp (fn:=F78) rfl ?_
  rw [F78]
  have lo:=fun s bx=>l78 f p rest hf hl hp st p.l.length 0 s bx st (.sl 6 true []) (by omega) (by omega) (by simpa using RawG.nil st)
  simp
  refine WL.useB L78_0_p L78_0_w (WB:=L78_0.wrB) rfl (lo _ _ ?_ ?_ ?_ ?_) ?_
  iterate 4 simp [hf]
  rintro e s' b' st' ⟨rfl,R⟩ hf' hb
  obtain ⟨x1,_⟩:=R.1.facts
  simp [x1]
  exact R
 obtain ⟨r,st',h1,R⟩:=go
 exact ⟨r,st',h1,R⟩
theorem l45a (gm:good m) (hb:m.l.length≤1000) (l:List Tm) (gl:∀ x,x∈l→good x) (hl:l.length≤1000000) (id v md:Nat) (st:St) (hat:St.at st id=.cells false 6 v md false (encTs l)) :
  ∀ (r i:Nat) (s:List D) (bx:List (Nat × List D)),r=l.length - i→i≤l.length→get s 2=.lp 2 1 0→getB bx 2=(1,clT m)→get s 4=.lp 4 1 0→getB bx 4=(1,z8)→get s 5=.rs id v 6 0 l.length false→get s 6=.int .i64 i →
  Stops (lp T L45_0 ⟨⟨s,bx⟩,st⟩) fun e _ b' st'=>st'=st∧match kindsT m (l.drop i) with
   | .ok _=>e=.exit 0∧getB b' 4=(1,z8)
   | .error (x,y)=>e=.ret∧getB b' 4=(1,[.int .i64 0,.int .i64 0,.str [],.nils,.int .i64 0,.int .i64 0,.int .i64 x,.int .i64 y]):=by
 intro r
 induction r with
 | zero=>
  intro i s bx hr hi h2 b2 h4 b4 h5 h6
  have e:i=l.length:=by omega
  subst e
  refine Stops_wp L45_0.eq_1 ?_
  rw [List.drop_length,kindsT]
  simp [h2,b2,h4,b4,h5,h6]
 | succ r ihr=>
  intro i s bx hr hi h2 b2 h4 b4 h5 h6
  have hlt:i < l.length:=by omega
  have hw:IntKind.wrap .i64 ((i:Int)+1)=((i+1:Nat):Int):=by rw [wrap64] <;> omega
  have gx:=gl _ (List.getElem_mem hlt)
  have q1:=fun st=>c48 m _ (good_ok _ gm) hb (good_ok _ gx) st
  rw [cells_eq] at q1
  have q3:=c47 l[i] 11
  simp [got8] at q3
  have nx:=fun s' bx'=>ihr (i+1) s' bx' (by omega) (by omega)
  rw [List.drop_eq_getElem_cons hlt,kindsT]
  generalize kindsT m (l.drop (i+1))=R at *
  refine Stops_wp L45_0.eq_1 ?_
  by_cases h0:cellsV m l[i]=0
  ·rw [if_pos h0]
   simp [h2,b2,h4,b4,h5,h6,hlt,hw,hat,←encT_eq m,←encT_eq l[i],q1,q3,h0,splice,z8,-Int.natCast_add]
  ·rw [if_neg h0]
   simp [h2,b2,h4,b4,h5,h6,hlt,hw,hat,←encT_eq m,←encT_eq l[i],q1,h0,splice,-Int.natCast_add]
   refine nx _ _ ?_ ?_ ?_ ?_ ?_ ?_ <;> simp [h2,b2,h4,b4,h5]
theorem plain_free (t:Tm):cellsV m t≠0→freeT t=plainT t:=by
 induction t using Tm.ind with
 | h t ih=>
  intro hc
  by_cases h3:t.k=3
  ·obtain ⟨x,r,hl,hx⟩:=cells_part h3 hc
   have hl1:t.l=[x]:=by
    unfold cellsV at hc
    rw [arrM_eq,if_neg (by omega),if_pos h3] at hc
    split at hc
    ·next y hy=>rw [hl] at hy; cases hy; exact hl
    ·exact absurd rfl hc
   rw [plain_3 h3 hl,freeT_eq,hl1]
   have:=ih x (by rw [hl1]; simp) hx
   simp [h3,this]
  ·have hl:t.l=[]:=by
    unfold cellsV at hc
    rw [arrM_eq] at hc
    split at hc
    ·next h=>exact h.2
    split at hc
    ·next h=>exact h.2
    ·exact absurd rfl hc
   rw [plain_n h3,freeT_eq,hl]
   simp
theorem l45b (gm:good m) (hb:m.l.length≤1000) (t:Tm) (l:List Tm) (gl:∀ x,x∈l→good x) (hl:l.length≤1000000) (hc:∀ x,x∈l→cellsV m x≠0) (id v md:Nat) (st:St) (hat:St.at st id=.cells false 6 v md false (encTs l)) :
  ∀ (r i:Nat) (s:List D) (bx:List (Nat × List D)),r=l.length - i→i≤l.length→get s 2=.lp 2 1 0→getB bx 2=(1,clT m)→get s 3=.lp 3 1 0→getB bx 3=(1,clT t)→get s 4=.lp 4 1 0→getB bx 4=(1,z8)→get s 5=.rs id v 6 0 l.length false→get s 7=.int .i64 i →
  Stops (lp T L45_1 ⟨⟨s,bx⟩,st⟩) fun e _ b' st'=>st'=st∧match (if t.n=1 then plainsT m (l.drop i) else .ok ()) with
   | .ok _=>e=.exit 2∧getB b' 4=(1,z8)
   | .error (x,y)=>e=.ret∧getB b' 4=(1,[.int .i64 0,.int .i64 0,.str [],.nils,.int .i64 0,.int .i64 0,.int .i64 x,.int .i64 y]):=by
 intro r
 induction r with
 | zero=>
  intro i s bx hr hi h2 b2 h3 b3 h4 b4 h5 h7
  have e:i=l.length:=by omega
  subst e
  refine Stops_wp L45_1.eq_1 ?_
  rw [List.drop_length,plainsT]
  simp [h2,b2,h4,b4,h5,h7]
 | succ r ihr=>
  intro i s bx hr hi h2 b2 h3 b3 h4 b4 h5 h7
  have hlt:i < l.length:=by omega
  have hw:IntKind.wrap .i64 ((i:Int)+1)=((i+1:Nat):Int):=by rw [wrap64] <;> omega
  have gx:=gl _ (List.getElem_mem hlt)
  have hcx:=hc _ (List.getElem_mem hlt)
  have q1:=fun st=>c79 m _ gm hb gx st
  rw [plain_free _ hcx] at q1
  simp only [ne_eq,hcx,not_false_eq_true,decide_true,Bool.true_and] at q1
  have q3:=c47 l[i] 12
  simp [got8] at q3
  have nx:=fun s' bx'=>ihr (i+1) s' bx' (by omega) (by omega)
  refine Stops_wp L45_1.eq_1 ?_
  by_cases h1:t.n=1
  ·rw [if_pos h1] at nx ⊢
   rw [List.drop_eq_getElem_cons hlt,plainsT]
   generalize plainsT m (l.drop (i+1))=R at *
   cases hp:plainT l[i] with
   | false=>
    rw [hp] at q1
    simp [h2,b2,h3,b3,h4,b4,h5,h7,hlt,hw,h1,hat,←encT_eq m,←encT_eq l[i],q1,q3,splice,z8,-Int.natCast_add]
   | true=>
    rw [hp] at q1
    simp [h2,b2,h3,b3,h4,b4,h5,h7,hlt,hw,h1,hat,←encT_eq m,←encT_eq l[i],q1,splice,-Int.natCast_add]
    refine nx _ _ ?_ ?_ ?_ ?_ ?_ ?_ ?_ ?_ <;> simp [h2,b2,h3,b3,h1,h4,b4,h5]
  ·rw [if_neg h1] at nx ⊢
   simp [h2,b2,h3,b3,h4,b4,h5,h7,hlt,hw,h1,splice,-Int.natCast_add]
   refine nx _ _ ?_ ?_ ?_ ?_ ?_ ?_ ?_ ?_ <;> simp [h2,b2,h3,b3,h4,b4,h5]
end Go.Nt.Li
set_option linter.unusedSimpArgs false
set_option maxRecDepth 20000
namespace Go.Nt.Li
open Go Go.Nt
variable {m ret:Tm} {locs:List Tm}
theorem fnE_len {t:Tm} (h:t.l.length≠3):fnE m t=.error (t.a,12):=by
 unfold fnE
 split
 ·next e=>rw [e] at h; exact absurd rfl h
 ·rfl
theorem fnE_bad {t p r b:Tm} (hl:t.l=[p,r,b]) (h:(t.n≠0∧t.n≠1)∨p.k≠35∨partedT p.l=false∨b.k≠29):fnE m t=.error (t.a,12):=by
 unfold fnE; rw [hl]; simp only; rw [if_pos h]
theorem fnE_good {t p r b:Tm} (hl:t.l=[p,r,b]) (h:¬ ((t.n≠0∧t.n≠1)∨p.k≠35∨partedT p.l=false∨b.k≠29)):fnE m t=(match kindsT m (p.l.map tyOf++[r]) with
   | .error e=>.error e
   | .ok ()=>match (if t.n=1 then plainsT m (p.l.map tyOf++[r]) else .ok ()) with
    | .error e=>.error e
    | .ok ()=>match blockE m r (p.l.map tyOf) b with
     | .error e=>.error e
     | .ok s=>.ok (.mk t.k t.n [] .nil [nlE p,nlE r,s] 0 0)):=by
 unfold fnE blockE; rw [hl]; simp only; rw [if_neg h]
 unfold tyOf
 generalize kindsT m (p.l.map (fun x=>x.l.headD T0)++[r])=K
 generalize (if t.n=1 then plainsT m (p.l.map (fun x=>x.l.headD T0)++[r]) else Except.ok ())=P
 generalize blkE m r (p.l.map fun x=>x.l.headD T0) b.l=B
 cases K <;> cases P <;> cases B <;> rfl
def endF (
     m t p r b:Tm) (types:List Tm):Er Tm:=match blockE m r types b with
     | .error e=>.error e
     | .ok s=>.ok (.mk t.k t.n [] .nil [nlE p,nlE r,s] 0 0)
theorem c45 (gm:good m) (hb:m.l.length≤1000) (t:Tm) (gt:good t) (hct:cntT t < 800000) (st:St):callD T (ev T) 45 [encT m,encT t] st=some (got8 (fnE m t),st):=by
 have q12:=c47 t 12
 simp [got8] at q12
 refine callD_pureR (fn:=F45) rfl rfl (by simp) (got8_pure _) ?_
 refine Ret_wp (fn:=F45) rfl ?_
 rw [F45]
 by_cases hn:t.n=0∨t.n=1
 case neg=>
  have e:fnE m t=.error (t.a,12):=by
   by_cases hl:t.l.length=3
   ·match hl':t.l,hl with
    | [p,r,b],_=>exact fnE_bad hl' (.inl (not_or.1 hn))
   ·exact fnE_len hl
  simp only [not_or] at hn
  rw [e]
  simp [hn.1,hn.2,←encT_eq t,q12,splice,got8]
 by_cases hl:t.l.length=3
 case neg=>
  have hl':¬ ((t.l.length:Int)=3):=by omega
  rw [fnE_len hl]
  rcases hn with hn | hn
  ·rw [encT_eq t,hn] at q12
   simp [hn,hl',q12,splice,got8]
  ·rw [encT_eq t,hn] at q12
   simp [hn,hl',q12,splice,got8]
 match hll:t.l,hl with
 | [p,r,b],_=>
 have gp:=good_mem gt (by rw [hll]; simp:p∈t.l)
 have gr:=good_mem gt (by rw [hll]; simp:r∈t.l)
 have gb:=good_mem gt (by rw [hll]; simp:b∈t.l)
 have hcs:cntT p+cntT r+cntT b < cntT t:=by rw [cntT_eq t,hll]; simp [cntTs]; omega
 have hpl:p.l.length≤cntT p:=by have:=cntT_eq p; have:=cntTs_len p.l; omega
 have qp:=fun st=>c77 p.fl p.l (by omega) st
 by_cases hk:p.k=35
 case neg=>
  rw [fnE_bad hll (.inr (.inl hk))]
  rcases hn with hn | hn
  ·rw [encT_eq t,hn,hll] at q12
   simp only [encTs_cons,encTs_nil] at q12
   simp [hn,hll,hk,q12,splice,got8]
  ·rw [encT_eq t,hn,hll] at q12
   simp only [encTs_cons,encTs_nil] at q12
   simp [hn,hll,hk,q12,splice,got8]
 cases hp:partedT p.l with
 | false=>
  rw [fnE_bad hll (.inr (.inr (.inl hp)))]
  rw [hp] at qp
  rcases hn with hn | hn
  ·rw [encT_eq t,hn,hll] at q12
   simp only [encTs_cons,encTs_nil] at q12
   simp [hn,hll,hk,qp,q12,splice,got8]
  ·rw [encT_eq t,hn,hll] at q12
   simp only [encTs_cons,encTs_nil] at q12
   simp [hn,hll,hk,qp,q12,splice,got8]
 | true=>
 rw [hp] at qp
 by_cases hbk:b.k=29
 case neg=>
  rw [fnE_bad hll (.inr (.inr (.inr hbk)))]
  rcases hn with hn | hn
  ·rw [encT_eq t,hn,hll] at q12
   simp only [encTs_cons,encTs_nil] at q12
   simp [hn,hll,hk,qp,hbk,q12,splice,got8]
  ·rw [encT_eq t,hn,hll] at q12
   simp only [encTs_cons,encTs_nil] at q12
   simp [hn,hll,hk,qp,hbk,q12,splice,got8]
 have hg:¬ ((t.n≠0∧t.n≠1)∨p.k≠35∨partedT p.l=false∨b.k≠29):=by
  rintro (h | h | h | h)
  ·exact hn.elim h.1 h.2
  ·exact h hk
  ·rw [hp] at h; cases h
  ·exact h hbk
 rw [fnE_good hll hg]
 clear hg q12
 have hpo:∀ x,x∈p.l→∃ y,x.l=[y]:=fun x hx=>by
  have:=List.all_eq_true.1 hp _ hx
  simp only [Bool.and_eq_true,decide_eq_true_eq] at this
  exact List.length_eq_one_iff.1 this.2
 have gty:∀ v,v∈p.l.map tyOf→good v:=fun v hv=>by
  obtain ⟨x,hx,rfl⟩:=List.mem_map.1 hv
  obtain ⟨y,hy⟩:=hpo x hx
  rw [tyOf,hy]
  exact good_mem (good_mem gp hx) (by rw [hy]; simp)
 have gall:∀ v,v∈p.l.map tyOf++[r]→good v:=fun v hv=>by
  rcases List.mem_append.1 hv with h | h
  ·exact gty v h
  ·rw [List.mem_singleton] at h; subst h; exact gr
 obtain ⟨L,st1,c1,R1⟩:=c78 t p [r,b] hll (by omega) hp []
 obtain ⟨x1,x2,x3,x4⟩:=R1.1.facts
 obtain ⟨L',st2,a2,R2⟩:=R1.app (by simp; omega) r
 have hall:(p.l.map tyOf++[r]).length=p.l.length+1:=by simp
 rcases R2.1 with ⟨h,_⟩ | ⟨id,md,hne,rfl,hat,hlt⟩
 ·simp at h
 obtain ⟨L2,st3,c3,R3⟩:=c78 t p [r,b] hll (by omega) hp st2
 obtain ⟨y1,y2,y3,y4⟩:=R3.1.facts
 obtain ⟨st4,f4,f4',g4⟩:=R3.fz
 have q195:callD T (ev T) 80 [encT m,L2,encT r,encT b] st3=some (got8 (blockE m r (p.l.map tyOf) b),st4):=by
  refine callD_free (fn:=F80) rfl rfl (args':=[encT m,slE 6 .emp (encTs (p.l.map tyOf)),encT r,encT b]) ?_ (by simp) (c80 gm hb b gb (by omega) (fun u hu locs fl st gl hl=>(c112 gm hb gr b gb (by omega)).2 u hu locs fl st gl hl) .emp gty (by simp; omega) st4)
  simp [f4']
 have lo1:=fun s bx=>l45a gm hb (p.l.map tyOf++[r]) gall (by omega) id _ md st2 hat (p.l.map tyOf++[r]).length 0 s bx (by omega) (by omega)
 rw [List.drop_zero] at lo1
 have lo2:(∀ x,x∈p.l.map tyOf++[r]→cellsV m x≠0)→_:=fun hc=>fun s bx=>l45b gm hb t (p.l.map tyOf++[r]) gall (by omega) hc id _ md st2 hat (p.l.map tyOf++[r]).length 0 s bx (by omega) (by omega)
 rw [List.drop_zero] at lo2
 have hkn:=kinds_ne m (p.l.map tyOf++[r])
 generalize hAll:p.l.map tyOf++[r]=all at *
 generalize hv:all.length - 1=v at *
 have qn:=c50 t gt st4
 obtain ⟨L4,st5,q4,R4,g5⟩:=qn
 rcases R4 with ⟨h,_⟩ | ⟨id4,md4,hne4,rfl,hat4,hge4,hlt4⟩
 ·rw [hll] at h; simp at h
 rw [hll] at hat4 q4
 simp at hat4
 rw [outR] at q4
 clear R1 R2 R3 f4 f4' g4
 rcases hn with hn | hn
 all_goals
  rw [encT_eq t,hn,hll] at c1 c3 q4
  simp only [encTs_cons,encTs_nil,List.map_cons,List.map_nil,List.length_cons,List.length_nil] at c1 c3 q4
  simp [hn,hll,hk,qp,hbk,c1,←encT_eq r,a2,x1,x2,x3]
  refine WL.useB L45_0_p L45_0_w (WB:=L45_0.wrB) rfl (lo1 _ _ ?_ ?_ ?_ ?_ ?_ ?_) ?_
  iterate 6 simp [z8]
  rintro e s1 b1 st1' ⟨rfl,h1⟩ hf1 hb1
  have e2:=hf1 2 rfl
  have e3:=hf1 3 rfl
  have e4:=hf1 4 rfl
  have e5:=hf1 5 rfl
  have b2:=hb1 2 rfl
  have b3:=hb1 3 rfl
  have b8:=hb1 8 rfl
  have b9:=hb1 9 rfl
  simp at e2 e3 e4 e5 b2 b3 b8 b9
  clear hf1 hb1
  cases hK:kindsT m all with
  | error w=>
   obtain ⟨w1,w2⟩:=w
   rw [hK] at h1
   obtain ⟨rfl,b4⟩:=h1
   simp [e4,b4,got8]
  | ok u=>
  rw [hK] at h1
  obtain ⟨rfl,b4⟩:=h1
  simp
  refine WL.useB L45_1_p L45_1_w (WB:=L45_1.wrB) rfl (lo2 (hkn hK) _ _ ?_ ?_ ?_ ?_ ?_ ?_ ?_ ?_) ?_
  iterate 8 simp [e2,e3,e4,e5,b2,b3,b4,hn,hll]
  rintro e' s2 b2' st2' ⟨rfl,h2⟩ hf2 hb2
  have f2:=hf2 2 rfl
  have f3:=hf2 3 rfl
  have f4:=hf2 4 rfl
  have p2:=hb2 2 rfl
  have p3:=hb2 3 rfl
  have p8:=hb2 8 rfl
  have p9:=hb2 9 rfl
  simp [e2,e3,e4,b2,b3,b8,b9] at f2 f3 f4 p2 p3 p8 p9
  clear hf2 hb2
  cases hP:(if t.n=1 then plainsT m all else .ok ()) with
  | error w=>
   obtain ⟨w1,w2⟩:=w
   rw [hP] at h2
   obtain ⟨rfl,b4'⟩:=h2
   rw [hn] at hP
   simp [f4,b4',got8] <;> simp at hP <;> simp [hP]
  | ok u=>
  rw [hP] at h2
  obtain ⟨rfl,b4'⟩:=h2
  rw [hn] at hP
  cases hB:blockE m r (p.l.map tyOf) b with
  | error w=>
   obtain ⟨w1,w2⟩:=w
   rw [hB] at q195
   simp [got8] at q195
   have hy:w2≠0:=by
    unfold blockE at hB
    split at hB
    ·next e=>cases hB; exact blkE_err _ _ _ _ e
    ·cases hB
   simp [f2,f3,f4,p2,p3,p8,p9,b4',z8,hn,hll,c3,←encT_eq m,←encT_eq r,←encT_eq b,q195,hy,y1,y2,y3,splice,got8] <;> simp at hP <;> simp [hP]
  | ok w=>
   rw [hB] at q195
   simp [got8] at q195
   have ha4:∀ o,St.at (List.set st5 id4 o) id4=o:=fun o=>by rw [at_set _ _ _ _ hlt4,if_pos rfl]
   simp [f2,f3,f4,p2,p3,p8,p9,b4',z8,hn,hll,c3,←encT_eq m,←encT_eq r,←encT_eq b,←encT_eq w,q195,y1,y2,y3,q4,hat4,ha4,kHs,splice,fillD,got8]
   simp at hP
   simp [hP,slE]
end Go.Nt.Li
set_option linter.unusedSimpArgs false
set_option maxRecDepth 20000
namespace Go.Nt.Li
open Go Go.Nt
variable {m ret:Tm} {locs:List Tm}
theorem parted_shaped (d:Tm) (h:d.k=30):shaped d=!(decide (d.l=[]) || !partedT d.l):=by
 unfold shaped partedT
 have e:shapedP=fun p=>decide (p.k=34) && decide (p.l.length=1):=by
  funext p
  by_cases h1:p.k=34 <;> by_cases h2:p.l.length=1 <;> simp [shapedP,h1,h2]
 rw [e]
 cases hl:d.l <;> simp [h]
theorem c23 (gm:good m) (hb:m.l.length≤1000) (hcm:cntT m < 800000) (i:Nat) (hi:i < m.l.length) (st:St):callD T (ev T) 23 [encT m,.int .i64 i] st=some (got8 (declE m i m.l[i]),st):=by
 have gt:=good_mem gm (List.getElem_mem hi)
 have hct:cntT m.l[i] < 800000:=by have:=cntTs_mem (List.getElem_mem hi); have:=cntT_eq m; omega
 have q135:=fun st=>c45 gm hb m.l[i] gt hct st
 have q12:=c47 m.l[i] 12
 have q11:=c47 m.l[i] 11
 simp [got8] at q12 q11
 refine callD_pureR (fn:=F23) rfl rfl (by simp) (got8_pure _) ?_
 refine Ret_wp (fn:=F23) rfl ?_
 rw [F23]
 have clean:∀ st,∃ L st',callD T (ev T) 50 [encT m.l[i]] st=some (outR m.l[i].k m.l[i].n L,st')∧(L.okv=true∧L.cells=[L]∧L.fits none=true)∧∃ st2,fz0 st' L=some (slE 6 .nil (encTs (m.l[i].l.map nlE)),st2):=by
  intro st
  obtain ⟨L,st2,q,R,g⟩:=c50 m.l[i] gt st
  obtain ⟨x1,x2,x3,_⟩:=R.facts
  obtain ⟨st3,f,_⟩:=R.fz
  rw [slE_pfl] at f
  exact ⟨L,st2,q,⟨x1,x2,x3⟩,st3,f⟩
 unfold declE
 generalize hT:m.l[i]=t at *
 by_cases h33:t.k=33
 ·rw [if_pos h33]
  rw [encT_eq t,h33] at q135
  cases hO:fnE m t with
  | error v=>obtain ⟨a1,a2⟩:=v; rw [hO] at q135; simp [got8] at q135; simp [hi,hT,h33,←encT_eq m,q135,splice,got8]
  | ok sf=>rw [hO] at q135; simp [got8] at q135; simp [hi,hT,h33,←encT_eq m,q135,splice,got8]
 rw [if_neg h33]
 by_cases h30:t.k=30
 ·rw [if_pos h30]
  have hml:=good_len gm
  have gr:good (.mk 4 i [] .nil [] 0 0):=(good_iff _).2 ⟨by simp [in64],by simp only [n_mk,in64]; omega,by simp,by simp [in64],by simp [in64],by simp,fun u hu=>by cases hu⟩
  have qs:=c46 t (by have:=good_len gt; omega)
  have qc:=fun st=>c48 m _ (good_ok _ gm) hb (good_ok _ gr) st
  rw [cells_eq,encT_eq (.mk 4 _ _ _ _ _ _)] at qc
  rw [parted_shaped t h30] at qs
  simp [slE] at qc
  obtain ⟨L,st2,q,⟨x1,x2,x3⟩,st3,f⟩:=clean []
  rw [outR,encT_eq t,h30] at q
  rw [encT_eq t,h30] at qs q12 q11
  by_cases hs:t.l=[]∨partedT t.l=false
  ·rw [if_pos hs]
   have e:(!(decide (t.l=[]) || !partedT t.l))=false:=by rcases hs with h | h <;> simp [h]
   rw [e] at qs
   simp [hi,hT,h30,qs,q12,splice,got8]
  ·rw [if_neg hs]
   simp only [not_or] at hs
   have e:(!(decide (t.l=[]) || !partedT t.l))=true:=by simp [hs.1,hs.2]
   rw [e] at qs
   by_cases h0:cellsV m (.mk 4 i [] .nil [] 0 0)=0
   ·rw [if_pos h0]
    simp [hi,hT,h30,qs,←encT_eq m,qc,h0,q11,splice,fillD,got8]
   ·rw [if_neg h0]
    simp [hi,hT,h30,qs,←encT_eq m,qc,h0,q,x1,x2,x3,f,splice,fillD,got8,nlE_k,nlE_n,nlE_s,nlE_fl,nlE_l,nlE_a,nlE_b]
 rw [if_neg h30]
 by_cases h32:t.k=32∧t.l.length=1
 ·rw [if_pos h32]
  obtain ⟨k32,hl1⟩:=h32
  match hl:t.l,hl1 with
  | [x],_=>
   have gx:=good_mem gt (by rw [hl]; simp:x∈t.l)
   have qc:=fun st=>c48 m x (good_ok _ gm) hb (good_ok _ gx) st
   rw [cells_eq] at qc
   have qx:=c47 x 11
   simp [got8] at qx
   obtain ⟨L,st2,q,⟨x1,x2,x3⟩,st3,f⟩:=clean []
   rw [outR,encT_eq t,k32,hl] at q
   simp only [encTs_cons,encTs_nil] at q
   rw [hl] at f
   rw [List.headD_cons]
   by_cases h0:cellsV m x=0
   ·rw [if_pos h0]
    simp [hi,hT,k32,hl,←encT_eq m,←encT_eq x,qc,h0,qx,splice,fillD,got8]
   ·rw [if_neg h0]
    simp at f
    simp [hi,hT,k32,hl,←encT_eq m,←encT_eq x,qc,h0,q,x1,x2,x3,f,splice,fillD,got8,nlE_k,nlE_n,nlE_s,nlE_fl,nlE_l,nlE_a,nlE_b]
 rw [if_neg h32]
 by_cases h31:t.k=31
 case neg=>
  rw [if_neg (fun h=>h31 h.1)]
  by_cases k32:t.k=32
  ·have hl:¬ t.l.length=1:=fun h=>h32 ⟨k32,h⟩
   have hl':¬ ((t.l.length:Int)=1):=by omega
   rw [encT_eq t,k32] at q12
   simp [hi,hT,k32,hl,hl',q12,splice,got8]
  ·simp [hi,hT,h33,h30,k32,h31,←encT_eq t,q12,splice,got8]
 obtain ⟨L,st2,q,⟨x1,x2,x3⟩,st3,f⟩:=clean []
 match hl:t.l with
 | []=>
  rw [if_neg (fun h=>by have:=h.2; unfold litOK at this; rw [hl] at this; cases this)]
  rw [encT_eq t,h31,hl,encTs_nil] at q12
  simp [hi,hT,h31,hl,q12,splice,got8]
 | x::y::rr=>
  rw [if_neg (fun h=>by have:=h.2; unfold litOK at this; rw [hl] at this; cases this)]
  rw [encT_eq t,h31,hl] at q12
  simp only [encTs_cons] at q12
  have hc:¬ ((rr.length:Int)+1+1=1):=by omega
  simp [hi,hT,h31,hl,hc,q12,splice,got8]
 | [x]=>
  have ql:=c49 x
  rw [outR,encT_eq t,h31,hl] at q
  rw [encT_eq t,h31,hl] at q12
  simp only [encTs_cons,encTs_nil] at q12 q
  rw [hl] at f
  simp at f
  have hlit:litOK t=(x.l.isEmpty && (decide (x.k=5) || (decide (x.k=6) && (decide (x.n=0) || decide (x.n=1))))):=by unfold litOK; rw [hl]
  rw [hlit]
  cases hxl:x.l with
  | cons u v=>
   rw [if_neg (by simp)]
   simp [hi,hT,h31,hl,hxl,q12,splice,got8]
  | nil=>
   by_cases k5:x.k=5
   ·rw [if_pos ⟨h31,by simp [k5]⟩]
    rw [litT,if_pos k5,encT_K] at ql
    simp [hi,hT,h31,hl,hxl,k5,ql,q,x1,x2,x3,f,splice,fillD,got8,nlE_k,nlE_n,nlE_s,nlE_fl,nlE_l,nlE_a,nlE_b]
   ·by_cases k6:x.k=6
    ·rw [litT,if_neg k5,if_pos k6,encT_K] at ql
     by_cases n0:x.n=0
     ·rw [if_pos ⟨h31,by simp [k6,n0]⟩]
      simp [hi,hT,h31,hl,hxl,k6,n0,ql,q,x1,x2,x3,f,splice,fillD,got8,nlE_k,nlE_n,nlE_s,nlE_fl,nlE_l,nlE_a,nlE_b]
     ·by_cases n1:x.n=1
      ·rw [if_pos ⟨h31,by simp [k6,n1]⟩]
       simp [hi,hT,h31,hl,hxl,k6,n1,ql,q,x1,x2,x3,f,splice,fillD,got8,nlE_k,nlE_n,nlE_s,nlE_fl,nlE_l,nlE_a,nlE_b]
      ·rw [if_neg (by simp [k5,k6,n0,n1])]
       simp [hi,hT,h31,hl,hxl,k6,n0,n1,ql,q12,splice,fillD,got8]
    ·rw [if_neg (by simp [k5,k6])]
     rw [litT,if_neg k5,if_neg k6,encT_0] at ql
     simp [hi,hT,h31,hl,hxl,k5,k6,ql,q12,splice,fillD,got8]
end Go.Nt.Li
set_option linter.unusedSimpArgs false
set_option maxRecDepth 20000
namespace Go.Nt.Li
open Go Go.Nt
variable {m ret:Tm} {locs:List Tm}
theorem kinds_err' {l:List Tm} {x y:Int} (h:kindsT m l=.error (x,y)):y≠0:=kinds_err m l x y h
theorem blockE_err {t:Tm} {x y:Int} (h:blockE m ret locs t=.error (x,y)):y≠0:=by
 unfold blockE at h
 split at h
 ·next e=>cases h; exact blkE_err _ _ _ _ e
 ·cases h
theorem fnE_err {t:Tm} {x y:Int} (h:fnE m t=.error (x,y)):y≠0:=by
 unfold fnE at h
 split at h
 ·split at h
  ·cases h; simp
  split at h
  ·next e=>cases h; exact kinds_err m _ _ _ e
  split at h
  ·next e=>
   cases h
   split at e
   ·exact plains_err m _ _ _ e
   ·cases e
  split at h
  ·next e=>cases h; exact blkE_err _ _ _ _ e
  ·cases h
 ·cases h; simp
theorem declE_err {i:Nat} {t:Tm} {x y:Int} (h:declE m i t=.error (x,y)):y≠0:=by
 unfold declE at h
 split at h
 ·exact fnE_err h
 split at h
 ·split at h
  ·cases h; simp
  split at h
  ·cases h; simp
  ·cases h
 split at h
 ·split at h
  ·cases h; simp
  ·cases h
 split at h
 ·cases h
 ·cases h; simp
theorem declsE_err:∀ (l:List Tm) (i:Nat) (x y:Int),declsE m i l=.error (x,y)→y≠0
 | [],i,x,y,h=>by rw [declsE] at h; cases h
 | d::l,i,x,y,h=>by
  rw [declsE] at h
  split at h
  ·next e=>cases h; exact declE_err e
  split at h
  ·next e=>cases h; exact declsE_err l _ _ _ e
  ·cases h
def Q40 (k n:Int) (R:Er (List Tm)) (ss:List Tm) (e:Ex) (s':List D) (b':List (Nat × List D)) (st':St):Prop:=
 match R with
 | .error (x,y)=>e=.ret∧getB b' 2=(1,z6)∧get s' 3=.int .i64 x∧get s' 4=.int .i64 y
 | .ok ss'=>e=.exit 0∧getB b' 2=(1,z6)∧∃ L,getB b' 5=(1,[.int .i64 k,.int .i64 n,.str [],L,.int .i64 0,.int .i64 0])∧RawE st' L (ss++ss')
theorem l13 (gm:good m) (hb:m.l.length≤1000) (hcm:cntT m < 800000) :
  ∀ (r i:Nat) (s:List D) (bx:List (Nat × List D)) (st:St) (L:D) (ss:List Tm),r=m.l.length - i→i≤m.l.length→RawE st L ss→ss.length=i →
   get s 1=.lp 1 1 0→getB bx 1=(1,clT m)→get s 2=.lp 2 1 0→getB bx 2=(1,z6)→get s 5=.lp 5 1 0→getB bx 5=(1,[.int .i64 m.k,.int .i64 m.n,.str [],L,.int .i64 0,.int .i64 0])→get s 6=.int .i64 i →
  Stops (lp T L13_0 ⟨⟨s,bx⟩,st⟩) fun e s' b' st'=>Q40 m.k m.n (declsE m i (m.l.drop i)) ss e s' b' st':=by
 intro r
 induction r with
 | zero=>
  intro i s bx st L ss hr hi R n h1 b1 h2 b2 h5 b5 h6
  have e:i=m.l.length:=by omega
  refine Stops_wp L13_0.eq_1 ?_
  rw [e,List.drop_length,declsE]
  simp [h1,b1,h6,e,Q40,b2]
  exact ⟨L,b5,R⟩
 | succ r ihr=>
  intro i s bx st L ss hr hi R n h1 b1 h2 b2 h5 b5 h6
  have hlt:i < m.l.length:=by omega
  have hw:IntKind.wrap .i64 ((i:Int)+1)=((i+1:Nat):Int):=by rw [wrap64] <;> omega
  have q:=c23 gm hb hcm i hlt st
  rw [List.drop_eq_getElem_cons hlt,declsE]
  refine Stops_wp L13_0.eq_1 ?_
  cases hO:declE m i m.l[i] with
  | error v=>
   obtain ⟨x,y⟩:=v
   have hy:=declE_err hO
   rw [hO] at q
   simp [got8] at q
   simp [h1,b1,h2,b2,h5,b5,h6,hlt,←encT_eq m,q,hy,Q40,splice,fillD,-Int.natCast_add]
  | ok sf=>
   rw [hO] at q
   simp [got8] at q
   obtain ⟨M,st1,p1,S,g1,o1,d1⟩:=R.app (by omega) sf
   have nx:=fun s' bx'=>ihr (i+1) s' bx' st1 M (ss++[sf]) (by omega) (by omega) S (by simp; omega)
   obtain ⟨x1,x2,x3,x4⟩:=R.facts
   obtain ⟨y1,y2,y3,y4⟩:=S.facts
   have cv:∀ e s' b' st',Q40 m.k m.n (declsE m (i+1) (m.l.drop (i+1))) (ss++[sf]) e s' b' st'→Q40 m.k m.n (match declsE m (i+1) (m.l.drop (i+1)) with
     | .error e=>.error e
     | .ok ss=>.ok (sf::ss)) ss e s' b' st':=by
    intro e s' b' st' h
    cases hR:declsE m (i+1) (m.l.drop (i+1)) with
    | error v=>rw [hR] at h; exact h
    | ok v=>rw [hR] at h; obtain ⟨h1,h1',L',h2,h3⟩:=h; exact ⟨h1,h1',L',h2,by simpa using h3⟩
   simp only
   generalize hG:Q40 m.k m.n (match declsE m (i+1) (m.l.drop (i+1)) with
     | .error e=>.error e
     | .ok ss=>.ok (sf::ss)) ss=G at *
   simp [h1,b1,h2,b2,h5,b5,h6,hlt,hw,←encT_eq m,←encT_eq sf,q,p1,x1,x2,x3,y1,y2,y3,splice,-Int.natCast_add]
   refine Stops.mono (nx _ _ ?_ ?_ ?_ ?_ ?_ ?_ ?_) (fun e s' b' st' h=>cv e s' b' st' h)
   all_goals simp [h1,b1,h2,b2,h5,b5]
def tells3 (R:Er Tm):D:=match R with
 | .ok s=>.tup [encT s,.int .i64 0,.int .i64 0]
 | .error (x,y)=>.tup [encT T0,.int .i64 x,.int .i64 y]
theorem c13 (gm:good m) (hb:m.l.length≤1000) (hcm:cntT m < 800000) (st:St):callD T (ev T) 13 [encT m] st=some (tells3 (moduleE m),st):=by
 refine callD_pureR (fn:=F13) rfl rfl (by simp) (by unfold tells3; split <;> simp) ?_
 refine Ret_wp (fn:=F13) rfl ?_
 rw [F13]
 unfold moduleE
 by_cases hk:m.k=36
 case neg=>
  rw [if_pos hk]
  simp [hk,splice,fillD,tells3,encT_K]
 rw [if_neg (fun h=>h hk)]
 have lo:=fun s bx st=>l13 gm hb hcm m.l.length 0 s bx st (.sl 6 true []) [] (by omega) (by omega) (RawE.nil _) rfl
 rw [List.drop_zero] at lo
 simp [hk,splice,fillD]
 refine WL.useB L13_0_p L13_0_w (WB:=L13_0.wrB) rfl (lo _ _ _ ?_ ?_ ?_ ?_ ?_ ?_ ?_) ?_
 iterate 7 simp [hk]
 rintro e s' b' st' h hf hbx
 have e2:=hf 2 rfl
 have e5:=hf 5 rfl
 simp at e2 e5
 cases hO:declsE m 0 m.l with
 | error v=>
  obtain ⟨x,y⟩:=v
  rw [hO] at h
  obtain ⟨rfl,b2,h3,h4⟩:=h
  simp [e2,b2,h3,h4,tells3,encT_K]
 | ok ss=>
  rw [hO] at h
  obtain ⟨rfl,b2,L,b5,R⟩:=h
  rw [List.nil_append] at R
  obtain ⟨x1,x2,x3,x4⟩:=R.facts
  obtain ⟨st3,f4,f5,f6⟩:=R.fz
  simp [e2,e5,b2,b5,x1,x2,x3,f4,hk,splice,tells3]
  rw [encT_eq]; simp [hk]
theorem c6 (gm:good m) (hb:m.l.length≤1000) (hcm:cntT m < 800000) (st:St):callD T (ev T) 6 [encT m] st=some (.bool (rightE m),st):=by
 have q:=c13 gm hb hcm
 refine callD_pureR (fn:=F6) rfl rfl (by simp) (by simp) ?_
 refine Ret_wp (fn:=F6) rfl ?_
 rw [F6]
 unfold rightE
 cases hO:moduleE m with
 | error v=>
  obtain ⟨x,y⟩:=v
  have hy:y≠0:=by
   unfold moduleE at hO
   split at hO
   ·cases hO; simp
   split at hO
   ·next e=>cases hO; exact declsE_err _ _ _ _ e
   ·cases hO
  rw [hO] at q
  simp [tells3,encT_K] at q
  simp [←encT_eq m,q,hy,splice]
 | ok s=>
  have q2:=c14 s m gm
  rw [hO] at q
  simp [tells3] at q
  rw [encT_eq s] at q
  simp [←encT_eq m,q,←encT_eq s,q2,splice]
end Go.Nt.Li
