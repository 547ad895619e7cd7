/-
  TERMS' PARTS, walked: what brings locals, how many, roots.
  No condition.
-/
import Derived.Test.YtnflammoeakgfaaGreatLiRWh
import Derived.Test.YtnflammoeakgfaaGreatLiTm
set_option linter.unusedSimpArgs false
set_option maxRecDepth 20000
namespace Go.Nt.Li
open Go Go.Nt
theorem slice_to (fl:Fl) (l:List Tm) (n:Nat) (hn:n≤l.length):∃ fl',sliceD (slE 6 fl (encTs l)) none (some (.int .i64 n)) none=some (slE 6 fl' (encTs (l.take n))):=by
 cases hl:l with
 | nil=>
  subst hl
  have:n=0:=by simpa using hn
  subst this
  cases fl <;> first | exact ⟨.nil,rfl⟩ | exact ⟨.emp,rfl⟩ | exact ⟨.full,rfl⟩ | exact ⟨.part,rfl⟩
 | cons x r=>
  rw [←hl]
  have hne:encTs l≠[]:=by rw [hl]; simp
  have e:∃ b,slE 6 fl (encTs l)=.sl 6 b (encTs l):=by
   rw [hl]; simp only [encTs_cons]
   cases fl <;> exact ⟨_,rfl⟩
  obtain ⟨b,e⟩:=e
  have hb:boundD (some (.int .i64 n)) (encTs l).length (encTs l).length=some n:=by simp [boundD]; omega
  have h0:boundD none 0 n=some 0:=by simp [boundD]
  rw [e]
  simp only [sliceD,hb,h0,Option.bind_some,List.drop_zero,encTs_map,List.map_take]
  cases hbb:(b && n == (List.map encT l).length)
  ·refine ⟨.part,?_⟩; simp [slE]; exact ⟨hn,by simpa using hbb⟩
  ·refine ⟨.full,?_⟩; simp [slE]; exact ⟨hn,by simpa using hbb⟩
theorem c86 (t:Tm) (st:St):callD T (ev T) 86 [encT t] st=some (.bool (bindB t),st):=by
 refine callD_pureR (fn:=F86) rfl rfl (by simp) (by simp) ?_
 refine Ret_wp (fn:=F86) rfl ?_
 rw [F86]
 unfold bindB
 by_cases h1:t.k=20
 ·simp [h1]
 ·by_cases h2:t.k=21 <;> simp [h1,h2]
theorem l57 (fl:Fl) (l:List Tm) (hl:l.length≤1000000):∀ (r i:Nat) (s:List D) (bx:List (Nat × List D)) (st:St),r=l.length - i→i≤l.length →
  get s 24=slE 6 fl (encTs l)→get s 25=.i l.length→get s 26=.i i→get s 5=.i ((l.take i).filter bindB).length →
  Stops (lp T L57_0 ⟨⟨s,bx⟩,st⟩) fun e s' b' st'=>e=.exit 1∧st'=st∧get s' 5=.i (l.filter bindB).length:=by
 intro r
 induction r with
 | zero=>
  intro i s bx st hr hi h24 h25 h26 h5
  refine Stops_wp L57_0.eq_1 ?_
  have:i=l.length:=by omega
  subst this
  rw [List.take_length] at h5
  simp [h24,h25,h26,h5]
 | succ r ih=>
  intro i s bx st hr hi h24 h25 h26 h5
  refine Stops_wp L57_0.eq_1 ?_
  have hlt:i < l.length:=by omega
  have hw:IntKind.wrap .i64 ((i:Int)+1)=((i+1:Nat):Int):=by rw [wrap64] <;> omega
  have hc:((l.take i).filter bindB).length≤i:=Nat.le_trans (List.length_filter_le _ _) (by simp; omega)
  have hw2:IntKind.wrap .i64 ((((l.take i).filter bindB).length:Int)+1)=((((l.take i).filter bindB).length+1:Nat):Int):=by rw [wrap64] <;> omega
  have e:(l.take (i+1)).filter bindB=(l.take i).filter bindB++(if bindB l[i] then [l[i]] else []):=by
   rw [List.take_succ_eq_append_getElem hlt,List.filter_append]; simp [List.filter_cons]
  have nx:=fun s' bx'=>ih (i+1) s' bx' st (by omega) (by omega)
  have q:=c86 l[i]
  cases hb:bindB l[i]
  ·rw [hb] at q e
   simp at e
   simp [h24,h25,h26,h5,hlt,hw,q,←encT_eq,-Int.natCast_add]
   refine nx _ _ ?_ ?_ ?_ ?_ <;> simp [h24,h25,h26,h5,e,-Int.natCast_add]
  ·rw [hb] at q e
   have e':((l.take (i+1)).filter bindB).length=((l.take i).filter bindB).length+1:=by rw [e]; simp
   simp [h24,h25,h26,h5,hlt,hw,hw2,q,←encT_eq,-Int.natCast_add]
   refine nx _ _ ?_ ?_ ?_ ?_ <;> simp [h24,h25,h26,h5,e',-Int.natCast_add]
theorem c57 (t:Tm) (gt:good t) (i:Nat) (hi:i < t.l.length) (h33:t.k=33→∀ x,t.l[0]?=some x→x.l.length≤1000000) (st:St):callD T (ev T) 57 [encT t,.int .i64 i] st=some (.int .i64 (inT t i),st):=by
 refine callD_pureR (fn:=F57) rfl rfl (by simp) (by simp) ?_
 refine Ret_wp (fn:=F57) rfl ?_
 rw [F57]
 have hlt:=good_len gt
 have h1:¬ (i:Int) < 0:=by omega
 unfold inT
 by_cases hk:t.k=29
 ·obtain ⟨fl',hs⟩:=slice_to t.fl t.l i (by omega)
  have hty:∀ fl (l:List D),slcTy (some 6) (slE 6 fl l)=true:=fun fl l=>by cases fl <;> cases l <;> rfl
  simp [hk,h1,hi,hs,hty]
  have lo:=fun s bx st=>l57 fl' (t.l.take i) (by simp; omega) (t.l.take i).length 0 s bx st (by omega) (by omega)
  refine WL.use L57_0_p L57_0_w (lo _ _ _ ?_ ?_ ?_ ?_) ?_
  iterate 4 simp
  rintro e s' b' st' ⟨rfl,rfl,p1⟩ hf
  simp [p1]
 ·by_cases hf:t.k=25
  ·by_cases h2:i=2
   ·subst h2; simp [hk,h1,hi,hf]
    omega
   ·have h2':¬ (i:Int)=2:=by omega
    simp [hk,h1,hi,hf,h2,h2']
  ·by_cases hn:t.k=33
   ·by_cases h2:i=2
    ·subst h2
     have h0:0 < t.l.length:=by omega
     have hx:=h33 hn t.l[0] (by simp [h0])
     have h2l:(2:Int) < t.l.length:=by omega
     simp [hk,h1,hi,hf,hn,h0,h2l]
    ·have h2':¬ (i:Int)=2:=by omega
     simp [hk,h1,hi,hf,hn,h2,h2']
   ·simp [hk,h1,hi,hf,hn]
theorem c98 (t:Tm) (gt:good t) (d:Nat) (hd:d≤100000000) (st:St):callD T (ev T) 98 [encT t,.int .i64 d] st=some (.int .i64 (if t.n < d then -1 else t.n - d),st):=by
 refine callD_pureR (fn:=F98) rfl rfl (by simp) (by simp) ?_
 refine Ret_wp (fn:=F98) rfl ?_
 rw [F98]
 have gn:=((good_iff t).1 gt).2.1
 unfold in64 at gn
 by_cases h:t.n < d
 ·simp [h]
 ·have hw:IntKind.wrap .i64 (t.n - d)=t.n - d:=by rw [wrap64] <;> omega
  simp [h,hw]
theorem l99 (t:Tm) (n:Nat) (hn:n≤t.l.length) (hl:t.l.length≤1000000):∀ (r i:Nat) (s:List D) (bx:List (Nat × List D)) (st:St),r=n - i→i≤n →
  get s 1=.i n→get s 6=.i i→get s 5=.i ((t.l.take i).filter bindB).length→get s 2=.lp 2 1 0→getB bx 2=(1,clT t) →
  Stops (lp T L99_0 ⟨⟨s,bx⟩,st⟩) fun e s' b' st'=>e=.exit 0∧st'=st∧get s' 5=.i ((t.l.take n).filter bindB).length:=by
 intro r
 induction r with
 | zero=>
  intro i s bx st hr hi h1 h6 h5 h2 b2
  refine Stops_wp L99_0.eq_1 ?_
  have:i=n:=by omega
  subst this
  simp [h1,h6,h5]
 | succ r ih=>
  intro i s bx st hr hi h1 h6 h5 h2 b2
  refine Stops_wp L99_0.eq_1 ?_
  have hin:i < n:=by omega
  have hlt:i < t.l.length:=by omega
  have hw:IntKind.wrap .i64 ((i:Int)+1)=((i+1:Nat):Int):=by rw [wrap64] <;> omega
  have hc:((t.l.take i).filter bindB).length≤i:=Nat.le_trans (List.length_filter_le _ _) (by simp; omega)
  have hw2:IntKind.wrap .i64 ((((t.l.take i).filter bindB).length:Int)+1)=((((t.l.take i).filter bindB).length+1:Nat):Int):=by rw [wrap64] <;> omega
  have e:(t.l.take (i+1)).filter bindB=(t.l.take i).filter bindB++(if bindB t.l[i] then [t.l[i]] else []):=by
   rw [List.take_succ_eq_append_getElem hlt,List.filter_append]; simp [List.filter_cons]
  have nx:=fun s' bx'=>ih (i+1) s' bx' st (by omega) (by omega)
  by_cases ha:t.l[i].k=20
  ·have e':((t.l.take (i+1)).filter bindB).length=((t.l.take i).filter bindB).length+1:=by rw [e]; simp [bindB,ha]
   simp [h1,h6,h5,h2,b2,hin,hlt,hw,hw2,ha,-Int.natCast_add]
   refine nx _ _ ?_ ?_ ?_ ?_ ?_ <;> simp [h1,h6,h5,h2,b2,e',-Int.natCast_add]
  ·by_cases hb:t.l[i].k=21
   ·have e':((t.l.take (i+1)).filter bindB).length=((t.l.take i).filter bindB).length+1:=by rw [e]; simp [bindB,hb]
    simp [h1,h6,h5,h2,b2,hin,hlt,hw,hw2,ha,hb,-Int.natCast_add]
    refine nx _ _ ?_ ?_ ?_ ?_ ?_ <;> simp [h1,h6,h5,h2,b2,e',-Int.natCast_add]
   ·have e':((t.l.take (i+1)).filter bindB).length=((t.l.take i).filter bindB).length:=by rw [e]; simp [bindB,ha,hb]
    simp [h1,h6,h5,h2,b2,hin,hlt,hw,hw2,ha,hb,-Int.natCast_add]
    refine nx _ _ ?_ ?_ ?_ ?_ ?_ <;> simp [h1,h6,h5,h2,b2,e',-Int.natCast_add]
theorem c99 (t:Tm) (gt:good t) (i:Nat) (hi:i < t.l.length) (h33:t.k=33→∀ x,t.l[0]?=some x→x.l.length≤1000000) (st:St):callD T (ev T) 99 [encT t,.int .i64 i] st=some (.int .i64 (inT t i),st):=by
 refine callD_pureR (fn:=F99) rfl rfl (by simp) (by simp) ?_
 refine Ret_wp (fn:=F99) rfl ?_
 rw [F99]
 have hlt:=good_len gt
 have h1:¬ (i:Int) < 0:=by omega
 unfold inT
 by_cases hk:t.k=29
 ·simp [hk,h1,hi]
  have lo:=fun s bx st=>l99 t i (by omega) hlt i 0 s bx st (by omega) (by omega)
  refine WL.use L99_0_p L99_0_w (lo _ _ _ ?_ ?_ ?_ ?_ ?_) ?_
  iterate 4 simp
  ·simp [hk]
  rintro e s' b' st' ⟨rfl,rfl,p1⟩ hf
  simp [p1]
 ·by_cases hf:t.k=25
  ·by_cases h2:i=2
   ·subst h2
    have h2l:(2:Int) < t.l.length:=by omega
    simp [hk,h1,hi,hf,h2l]
   ·have h2':¬ (i:Int)=2:=by omega
    simp [hk,h1,hi,hf,h2,h2']
  ·by_cases hn:t.k=33
   ·by_cases h2:i=2
    ·subst h2
     have h0:0 < t.l.length:=by omega
     have hx:=h33 hn t.l[0] (by simp [h0])
     have h2l:(2:Int) < t.l.length:=by omega
     simp [hk,h1,hi,hf,hn,h0,h2l]
    ·have h2':¬ (i:Int)=2:=by omega
     simp [hk,h1,hi,hf,hn,h2,h2']
   ·simp [hk,h1,hi,hf,hn]
end Go.Nt.Li
set_option linter.unusedSimpArgs false
set_option maxRecDepth 20000
namespace Go.Nt.Li
open Go Go.Nt
theorem cntTs_app:∀ (l k:List Tm),cntTs (l++k)=cntTs l+cntTs k
 | [],k=>by simp [cntTs]
 | x::l,k=>by simp only [List.cons_append,cntTs,cntTs_app l k]; omega
theorem cnt_split (l:List Tm) (i:Nat) (h:i < l.length):cntTs l=cntTs (l.take i)+cntT l[i]+cntTs (l.drop (i+1)):=by
 conv=>lhs; rw [←List.take_append_drop i l,List.drop_eq_getElem_cons h]
 rw [cntTs_app,cntTs]; omega
theorem in_cnt (t:Tm) (i:Nat) (h:i < t.l.length):inT t i+cntT t.l[i] < cntT t:=by
 have e:=cntT_eq t
 have s:=cnt_split t.l i h
 have ht:=cntTs_len (t.l.take i)
 have hlt:(t.l.take i).length=i:=by simp; omega
 unfold inT
 split
 ·have:((t.l.take i).filter bindB).length≤i:=Nat.le_trans (List.length_filter_le _ _) (by omega)
  omega
 split
 ·split
  ·next h2=>subst h2; omega
  ·omega
 split
 ·split
  ·next h2=>
   subst h2
   have h0:0 < t.l.length:=by omega
   have e0:t.l[0]?=some t.l[0]:=by simp [h0]
   have:cntTs (t.l.take 2) ≥ cntT t.l[0]:=cntTs_mem (by
    refine List.mem_of_getElem? (i:=0) ?_
    rw [List.getElem?_take_of_lt (by omega)]; exact e0)
   have c0:=cntT_eq t.l[0]
   have c1:=cntTs_len t.l[0].l
   rw [e0]; simp only [Option.map_some,Option.getD_some]; omega
  ·omega
 ·omega
theorem good_33 {t:Tm} (gt:good t):t.k=33→∀ x,t.l[0]?=some x→x.l.length≤1000000:=fun _ x hx=>good_len (good_mem gt (List.mem_of_getElem? hx))
theorem mapTs_get (q:Fl→List Tm→Fl) (f:Nat→Tm→Tm) (d:Nat) (t:Tm):∀ (l:List Tm) (i j:Nat) (h:j < l.length),(mapTs q f d t i l)[j]'(by rw [mapTs_len]; exact h)=mapT q f (d+inT t (i+j)) l[j]
 | x::l,i,0,h=>by simp only [mapTs,List.getElem_cons_zero,Nat.add_zero]
 | x::l,i,j+1,h=>by
  simp only [mapTs,List.getElem_cons_succ]
  rw [mapTs_get q f d t l (i+1) j (by simpa using h),show i+1+j=i+(j+1) by omega]
def lowN (B:Int):Tm→Prop
 | .mk k n _ _ l _ _=>(k=7→n≤B)∧∀ u,u∈l→lowN B u
theorem lowN_iff (B:Int) (t:Tm):lowN B t↔(t.k=7→t.n≤B)∧∀ u,u∈t.l→lowN B u:=by cases t; rw [lowN]; rfl
def qE:Fl→List Tm→Fl:=fun _ _=>.emp
def raF (by' fr:Int) (d:Nat) (t:Tm):Tm:=if fr≤(if t.n < d then -1 else t.n - d) then .mk t.k (t.n+by') t.s t.fl t.l t.a t.b else t
theorem l66 (by' fr:Int) (t:Tm) (d:Nat) (gt:good t) (hd:d+cntT t≤100000000) (hc:∀ i (h:i < t.l.length) st,callD T (ev T) 66 [encT t.l[i],.int .i64 by',.int .i64 fr,.int .i64 ((d+inT t i:Nat):Int)] st=some (encT (mapT qE (raF by' fr) (d+inT t i) t.l[i]),st)) :
  ∀ (r i:Nat) (s:List D) (bx:List (Nat × List D)),r=t.l.length - i→i≤t.l.length→get s 1=.int .i64 by'→get s 2=.int .i64 fr→get s 3=.int .i64 d→get s 4=.lp 4 1 0→getB bx 4=(1,clT t) →
   get s 9=(grown (seed 6 .emp) 6 (encTs ((mapTs qE (raF by' fr) d t 0 t.l).take i))).1→get s 10=.int .i64 i →
  Stops (lp T L66_0 ⟨⟨s,bx⟩,(grown (seed 6 .emp) 6 (encTs ((mapTs qE (raF by' fr) d t 0 t.l).take i))).2⟩) fun e s' _ st'=>e=.exit 0∧get s' 9=(grown (seed 6 .emp) 6 (encTs (mapTs qE (raF by' fr) d t 0 t.l))).1∧st'=(grown (seed 6 .emp) 6 (encTs (mapTs qE (raF by' fr) d t 0 t.l))).2:=by
 intro r
 have hll:=good_len gt
 have hlen:=mapTs_len qE (raF by' fr) d t t.l 0
 induction r with
 | zero=>
  intro i s bx hr hi h1 h2 h3 h4 b4 h9 h10
  have e:i=t.l.length:=by omega
  subst e
  rw [List.take_of_length_le (by omega)] at h9 ⊢
  refine Stops_wp L66_0.eq_1 ?_
  simp [h1,h2,h3,h4,b4,h9,h10]
 | succ r ihr=>
  intro i s bx hr hi h1 h2 h3 h4 b4 h9 h10
  have hlt:i < t.l.length:=by omega
  have hw:IntKind.wrap .i64 ((i:Int)+1)=((i+1:Nat):Int):=by rw [wrap64] <;> omega
  have hin:=in_cnt t i hlt
  have hw2:IntKind.wrap .i64 ((d:Int)+(inT t i:Int))=((d+inT t i:Nat):Int):=by rw [wrap64] <;> omega
  have c0:=hc i hlt
  have q99:=c99 t gt i hlt (good_33 gt)
  have hg:=mapTs_get qE (raF by' fr) d t t.l 0 i hlt
  rw [Nat.zero_add] at hg
  have gr:=grow .emp 6 (encTs ((mapTs qE (raF by' fr) d t 0 t.l).take i)) (encT (mapT qE (raF by' fr) (d+inT t i) t.l[i])) (by simp; omega)
  have q:encTs ((mapTs qE (raF by' fr) d t 0 t.l).take (i+1))=encTs ((mapTs qE (raF by' fr) d t 0 t.l).take i)++[encT (mapT qE (raF by' fr) (d+inT t i) t.l[i])]:=by
   rw [List.take_succ_eq_append_getElem (by omega),encTs_append,hg]; simp
  have nx:=fun s' bx'=>ihr (i+1) s' bx' (by omega) (by omega)
  rw [q] at nx
  clear hg hc ihr hin
  generalize mapTs qE (raF by' fr) d t 0 t.l=L at *
  generalize mapT qE (raF by' fr) (d+inT t i) t.l[i]=X at *
  generalize inT t i=I at *
  generalize grown (seed 6 .emp) 6 (encTs (L.take i)++[encT X])=G at *
  obtain ⟨g1,g2⟩:=G
  refine Stops_wp L66_0.eq_1 ?_
  simp [h1,h2,h3,h4,b4,h9,h10,hlt,hw,hw2,←encT_eq,q99,c0,gr,-Int.natCast_add]
  refine nx _ _ ?_ ?_ ?_ ?_ ?_ ?_ ?_ <;> simp [h1,h2,h3,h4,b4]
theorem c66 (by' fr:Int) (hby:-1000000000000000≤by'∧by'≤1000000000000000) (hfr:0≤fr∧fr≤1000000000000000) (t:Tm):good t→lowN 1000000000000000 t→∀ d,d+cntT t≤100000000→∀ st,
  callD T (ev T) 66 [encT t,.int .i64 by',.int .i64 fr,.int .i64 (d:Int)] st=some (encT (mapT qE (raF by' fr) d t),st):=by
 induction t using Tm.ind with
 | h t ih=>
  intro gt lt d hd st
  refine callD_pureR (fn:=F66) rfl rfl (by simp) (by simp) ?_
  refine Ret_wp (fn:=F66) rfl ?_
  rw [F66,mapT_eq]
  have hl1:=(lowN_iff _ t).1 lt
  have gn:=((good_iff t).1 gt).2.1
  unfold in64 at gn
  by_cases h7:t.k=7
  ·have q:=c98 t gt d (by omega)
   rw [encT_eq t,h7] at q
   unfold raF
   by_cases hm:fr≤(if t.n < (d:Int) then -1 else t.n - d)
   ·have hw:IntKind.wrap .i64 (t.n+by')=t.n+by':=by
     have:=hl1.1 h7
     split at hm <;> (rw [wrap64] <;> omega)
    simp [h7,q,hm,hw,splice,encT]
   ·simp [h7,q,hm,splice]
    rw [encT_eq t,h7]
  ·have lo:=fun s bx=>l66 by' fr t d gt hd (fun i h st=>ih _ (List.getElem_mem h) (good_mem gt (List.getElem_mem h)) (hl1.2 _ (List.getElem_mem h)) _ (by have:=in_cnt t i h; omega) st) t.l.length 0 s bx (by omega) (by omega)
   simp [splice,fillD,h7] at lo ⊢
   refine WL.useB L66_0_p L66_0_w (WB:=L66_0.wrB) rfl (lo _ _ ?_ ?_ ?_ ?_ ?_ ?_ ?_) ?_
   iterate 7 simp [seed]
   rintro e s' b' st' ⟨rfl,q3,rfl⟩ hf hb
   have e1:=hf 4 rfl
   have e2:=hf 8 rfl
   have b1:=hb 4 rfl
   have b2:=hb 8 rfl
   simp at e1 e2 b1 b2
   simp [q3,e1,e2,b1,b2,splice,fillD,encT,Fl.grew,qE]
def puF (e:Tm) (at':Int) (d:Nat) (t:Tm):Tm:=if 0≤at'∧(if t.n < d then -1 else t.n - d)=at' then mapT qE (raF d 0) 0 e else t
theorem l104 (e:Tm) (at':Int) (t:Tm) (d:Nat) (gt:good t) (hd:d+cntT t≤100000000) (hc:∀ i (h:i < t.l.length) st,callD T (ev T) 104 [encT t.l[i],encT e,.int .i64 at',.int .i64 ((d+inT t i:Nat):Int)] st=some (encT (mapT qE (puF e at') (d+inT t i) t.l[i]),st)) :
  ∀ (r i:Nat) (s:List D) (bx:List (Nat × List D)),r=t.l.length - i→i≤t.l.length→get s 5=.lp 5 1 0→getB bx 5=(1,clT e)→get s 2=.int .i64 at'→get s 3=.int .i64 d→get s 4=.lp 4 1 0→getB bx 4=(1,clT t) →
   get s 9=(grown (seed 6 .emp) 6 (encTs ((mapTs qE (puF e at') d t 0 t.l).take i))).1→get s 10=.int .i64 i →
  Stops (lp T L104_0 ⟨⟨s,bx⟩,(grown (seed 6 .emp) 6 (encTs ((mapTs qE (puF e at') d t 0 t.l).take i))).2⟩) fun ex s' _ st'=>ex=.exit 0∧get s' 9=(grown (seed 6 .emp) 6 (encTs (mapTs qE (puF e at') d t 0 t.l))).1∧st'=(grown (seed 6 .emp) 6 (encTs (mapTs qE (puF e at') d t 0 t.l))).2:=by
 intro r
 have hll:=good_len gt
 have hlen:=mapTs_len qE (puF e at') d t t.l 0
 induction r with
 | zero=>
  intro i s bx hr hi h5 b5 h2 h3 h4 b4 h9 h10
  have ei:i=t.l.length:=by omega
  subst ei
  rw [List.take_of_length_le (by omega)] at h9 ⊢
  refine Stops_wp L104_0.eq_1 ?_
  simp [h5,b5,h2,h3,h4,b4,h9,h10]
 | succ r ihr=>
  intro i s bx hr hi h5 b5 h2 h3 h4 b4 h9 h10
  have hlt:i < t.l.length:=by omega
  have hw:IntKind.wrap .i64 ((i:Int)+1)=((i+1:Nat):Int):=by rw [wrap64] <;> omega
  have hin:=in_cnt t i hlt
  have hw2:IntKind.wrap .i64 ((d:Int)+(inT t i:Int))=((d+inT t i:Nat):Int):=by rw [wrap64] <;> omega
  have c0:=hc i hlt
  have q99:=c99 t gt i hlt (good_33 gt)
  have hg:=mapTs_get qE (puF e at') d t t.l 0 i hlt
  rw [Nat.zero_add] at hg
  have gr:=grow .emp 6 (encTs ((mapTs qE (puF e at') d t 0 t.l).take i)) (encT (mapT qE (puF e at') (d+inT t i) t.l[i])) (by simp; omega)
  have q:encTs ((mapTs qE (puF e at') d t 0 t.l).take (i+1))=encTs ((mapTs qE (puF e at') d t 0 t.l).take i)++[encT (mapT qE (puF e at') (d+inT t i) t.l[i])]:=by
   rw [List.take_succ_eq_append_getElem (by omega),encTs_append,hg]; simp
  have nx:=fun s' bx'=>ihr (i+1) s' bx' (by omega) (by omega)
  rw [q] at nx
  clear hg hc ihr hin
  generalize mapTs qE (puF e at') d t 0 t.l=L at *
  generalize mapT qE (puF e at') (d+inT t i) t.l[i]=X at *
  generalize inT t i=I at *
  generalize grown (seed 6 .emp) 6 (encTs (L.take i)++[encT X])=G at *
  obtain ⟨g1,g2⟩:=G
  refine Stops_wp L104_0.eq_1 ?_
  simp [h5,b5,h2,h3,h4,b4,h9,h10,hlt,hw,hw2,←encT_eq,q99,c0,gr,-Int.natCast_add]
  refine nx _ _ ?_ ?_ ?_ ?_ ?_ ?_ ?_ ?_ <;> simp [h5,b5,h2,h3,h4,b4]
theorem c104 (e:Tm) (ge:good e) (le:lowN 1000000000000000 e) (ce:cntT e≤10000000) (at':Int) (t:Tm):good t→∀ d,d+cntT t≤10000000→∀ st,
  callD T (ev T) 104 [encT t,encT e,.int .i64 at',.int .i64 (d:Int)] st=some (encT (mapT qE (puF e at') d t),st):=by
 induction t using Tm.ind with
 | h t ih=>
  intro gt d hd st
  refine callD_pureR (fn:=F104) rfl rfl (by simp) (by simp) ?_
  refine Ret_wp (fn:=F104) rfl ?_
  rw [F104,mapT_eq]
  by_cases h7:t.k=7
  ·have q:=c98 t gt d (by omega)
   rw [encT_eq t,h7] at q
   have q2:=c66 d 0 (by omega) (by omega) e ge le 0 (by omega)
   unfold puF
   by_cases h0:0≤at'
   ·by_cases hm:(if t.n < (d:Int) then -1 else t.n - d)=at'
    ·rw [encT_eq (mapT qE (raF d 0) 0 e)] at q2
     simp at q2
     simp [h7,q,hm,h0,splice,←encT_eq e,q2]
     rw [encT_eq]
    ·simp [h7,q,hm,h0,splice]
     rw [encT_eq t,h7]
   ·simp [h7,h0,splice]
    rw [encT_eq t,h7]
  ·have lo:=fun s bx=>l104 e at' t d gt (by omega) (fun i h st=>ih _ (List.getElem_mem h) (good_mem gt (List.getElem_mem h)) _ (by have:=in_cnt t i h; omega) st) t.l.length 0 s bx (by omega) (by omega)
   simp [splice,fillD,h7] at lo ⊢
   refine WL.useB L104_0_p L104_0_w (WB:=L104_0.wrB) rfl (lo _ _ ?_ ?_ ?_ ?_ ?_ ?_ ?_ ?_) ?_
   iterate 8 simp [seed]
   rintro e s' b' st' ⟨rfl,q3,rfl⟩ hf hb
   have e1:=hf 4 rfl
   have e2:=hf 8 rfl
   have b1:=hb 4 rfl
   have b2:=hb 8 rfl
   simp at e1 e2 b1 b2
   simp [q3,e1,e2,b1,b2,splice,fillD,encT,Fl.grew,qE]
end Go.Nt.Li
set_option linter.unusedSimpArgs false
set_option maxRecDepth 20000
namespace Go.Nt.Li
open Go Go.Nt
theorem anyLs_at (p:Nat→Int→Bool) (d:Nat) (t:Tm) (l:List Tm) (j:Nat) (h:j < l.length) (i:Nat):anyLs p d t (i+j) (l.drop j)=(anyL p (d+inT t (i+j)) l[j] || anyLs p d t (i+(j+1)) (l.drop (j+1))):=by
 rw [List.drop_eq_getElem_cons h,anyLs]; rfl
theorem asgs_at (a:Int) (t:Tm) (l:List Tm) (j:Nat) (h:j < l.length) (i:Nat):asgs a t (i+j) (l.drop j)=(asg (a+inT t (i+j)) l[j] || asgs a t (i+(j+1)) (l.drop (j+1))):=by
 rw [List.drop_eq_getElem_cons h,asgs]; rfl
def nmP (a:Int) (d:Nat) (n:Int):Bool:=decide ((if n < d then -1 else n - d)=a)
theorem l97 (a:Int) (t:Tm) (d:Nat) (gt:good t) (hd:d+cntT t≤100000000) (hc:∀ i (h:i < t.l.length) st,callD T (ev T) 97 [encT t.l[i],.int .i64 a,.int .i64 ((d+inT t i:Nat):Int)] st=some (.bool (anyL (nmP a) (d+inT t i) t.l[i]),st)) :
  ∀ (r i:Nat) (s:List D) (bx:List (Nat × List D)) (st:St),r=t.l.length - i→i≤t.l.length→get s 1=.int .i64 a→get s 2=.int .i64 d→get s 3=.lp 3 1 0→getB bx 3=(1,clT t)→get s 7=.int .i64 i →
  Stops (lp T L97_0 ⟨⟨s,bx⟩,st⟩) fun ex s' _ st'=>st'=st∧if anyLs (nmP a) d t i (t.l.drop i) then ex=.ret∧get s' 6=.bool true else ex=.exit 0:=by
 intro r
 have hll:=good_len gt
 induction r with
 | zero=>
  intro i s bx st hr hi h1 h2 h3 b3 h7
  have ei:i=t.l.length:=by omega
  subst ei
  rw [List.drop_length,anyLs]
  refine Stops_wp L97_0.eq_1 ?_
  simp [h1,h2,h3,b3,h7]
 | succ r ihr=>
  intro i s bx st hr hi h1 h2 h3 b3 h7
  have hlt:i < t.l.length:=by omega
  have hw:IntKind.wrap .i64 ((i:Int)+1)=((i+1:Nat):Int):=by rw [wrap64] <;> omega
  have hin:=in_cnt t i hlt
  have hw2:IntKind.wrap .i64 ((d:Int)+(inT t i:Int))=((d+inT t i:Nat):Int):=by rw [wrap64] <;> omega
  have c0:=hc i hlt
  have q99:=c99 t gt i hlt (good_33 gt)
  have ea:=anyLs_at (nmP a) d t t.l i hlt 0
  simp only [Nat.zero_add] at ea
  have nx:=fun s' bx'=>ihr (i+1) s' bx' st (by omega) (by omega)
  rw [ea]
  generalize inT t i=I at *
  cases hb:anyL (nmP a) (d+I) t.l[i]
  ·rw [hb] at c0
   refine Stops_wp L97_0.eq_1 ?_
   simp [h1,h2,h3,b3,h7,hlt,hw,hw2,←encT_eq,q99,c0,-Int.natCast_add]
   refine nx _ _ ?_ ?_ ?_ ?_ ?_ <;> simp [h1,h2,h3,b3]
  ·rw [hb] at c0
   refine Stops_wp L97_0.eq_1 ?_
   simp [h1,h2,h3,b3,h7,hlt,hw,hw2,←encT_eq,q99,c0,-Int.natCast_add]
theorem c97 (a:Int) (t:Tm):good t→∀ d,d+cntT t≤100000000→∀ st,callD T (ev T) 97 [encT t,.int .i64 a,.int .i64 (d:Int)] st=some (.bool (anyL (nmP a) d t),st):=by
 induction t using Tm.ind with
 | h t ih=>
  intro gt d hd st
  refine callD_pureR (fn:=F97) rfl rfl (by simp) (by simp) ?_
  refine Ret_wp (fn:=F97) rfl ?_
  rw [F97,anyL_eq]
  by_cases h7:t.k=7
  ·have q:=c98 t gt d (by omega)
   rw [encT_eq t,h7] at q
   simp [h7,q,nmP]
  ·have lo:=fun s bx st=>l97 a t d gt hd (fun i h st=>ih _ (List.getElem_mem h) (good_mem gt (List.getElem_mem h)) _ (by have:=in_cnt t i h; omega) st) t.l.length 0 s bx st (by omega) (by omega)
   simp [h7] at lo ⊢
   refine WL.use L97_0_p L97_0_w (lo _ _ _ ?_ ?_ ?_ ?_ ?_) ?_
   iterate 5 simp
   rintro e s' b' st' ⟨rfl,p1⟩ hf
   cases hb:anyLs (nmP a) d t 0 t.l
   ·simp [hb] at p1
    simp [p1]
   ·simp [hb] at p1
    simp [p1.1,p1.2]
theorem c65 (a:Int) (t:Tm) (gt:good t) (hd:cntT t≤100000000) (st:St):callD T (ev T) 65 [encT t,.int .i64 a] st=some (.bool (decide (0≤a) && anyL (nmP a) 0 t),st):=by
 refine callD_pureR (fn:=F65) rfl rfl (by simp) (by simp) ?_
 refine Ret_wp (fn:=F65) rfl ?_
 rw [F65]
 have q:=c97 a t gt 0 (by omega)
 rw [show ((0:Nat):Int)=0 from rfl] at q
 by_cases h:0≤a <;> simp [h,←encT_eq,q]
def asP (a:Int) (d:Nat) (t:Tm):Bool:=decide (t.k=22∧t.l≠[]) && (decide ((rootT (t.l.headD default)).k=7) && nmP a d (rootT (t.l.headD default)).n)
mutual
 def setR (a:Int) (d:Nat):Tm→Bool
  | .mk k n s fl l x y=>if k=7 then false else if asP a d (.mk k n s fl l x y) then true else setRs a d (.mk k n s fl l x y) 0 l
 def setRs (a:Int) (d:Nat) (t:Tm):Nat→List Tm→Bool
  | _,[]=>false
  | i,x::r=>setR a (d+inT t i) x || setRs a d t (i+1) r
end
theorem setR_eq (a:Int) (d:Nat) (t:Tm):setR a d t=if t.k=7 then false else if asP a d t then true else setRs a d t 0 t.l:=by cases t; rw [setR]; rfl
theorem setRs_at (a:Int) (d:Nat) (t:Tm) (l:List Tm) (j:Nat) (h:j < l.length) (i:Nat):setRs a d t (i+j) (l.drop j)=(setR a (d+inT t (i+j)) l[j] || setRs a d t (i+(j+1)) (l.drop (j+1))):=by
 rw [List.drop_eq_getElem_cons h,setRs]; rfl
theorem root_good (t:Tm):good t→good (rootT t):=by
 induction t using Tm.ind with
 | h t ih=>
  intro g
  rw [rootT_eq]
  split
  ·split
   ·exact g
   ·next x r hl=>exact ih x (by rw [hl]; simp) (good_mem g (by rw [hl]; simp))
  ·exact g
theorem l100 (a:Int) (t:Tm) (d:Nat) (gt:good t) (hd:d+cntT t≤100000000) (hc:∀ i (h:i < t.l.length) st,callD T (ev T) 100 [encT t.l[i],.int .i64 a,.int .i64 ((d+inT t i:Nat):Int)] st=some (.bool (setR a (d+inT t i) t.l[i]),st)) :
  ∀ (r i:Nat) (s:List D) (bx:List (Nat × List D)) (st:St),r=t.l.length - i→i≤t.l.length→get s 1=.int .i64 a→get s 2=.int .i64 d→get s 3=.lp 3 1 0→getB bx 3=(1,clT t)→get s 8=.int .i64 i →
  Stops (lp T L100_0 ⟨⟨s,bx⟩,st⟩) fun ex s' _ st'=>st'=st∧if setRs a d t i (t.l.drop i) then ex=.ret∧get s' 6=.bool true else ex=.exit 0:=by
 intro r
 have hll:=good_len gt
 induction r with
 | zero=>
  intro i s bx st hr hi h1 h2 h3 b3 h7
  have ei:i=t.l.length:=by omega
  subst ei
  rw [List.drop_length,setRs]
  refine Stops_wp L100_0.eq_1 ?_
  simp [h1,h2,h3,b3,h7]
 | succ r ihr=>
  intro i s bx st hr hi h1 h2 h3 b3 h7
  have hlt:i < t.l.length:=by omega
  have hw:IntKind.wrap .i64 ((i:Int)+1)=((i+1:Nat):Int):=by rw [wrap64] <;> omega
  have hin:=in_cnt t i hlt
  have hw2:IntKind.wrap .i64 ((d:Int)+(inT t i:Int))=((d+inT t i:Nat):Int):=by rw [wrap64] <;> omega
  have c0:=hc i hlt
  have q99:=c99 t gt i hlt (good_33 gt)
  have ea:=setRs_at a d t t.l i hlt 0
  simp only [Nat.zero_add] at ea
  have nx:=fun s' bx'=>ihr (i+1) s' bx' st (by omega) (by omega)
  rw [ea]
  generalize inT t i=I at *
  cases hb:setR a (d+I) t.l[i]
  ·rw [hb] at c0
   refine Stops_wp L100_0.eq_1 ?_
   simp [h1,h2,h3,b3,h7,hlt,hw,hw2,←encT_eq,q99,c0,-Int.natCast_add]
   refine nx _ _ ?_ ?_ ?_ ?_ ?_ <;> simp [h1,h2,h3,b3]
  ·rw [hb] at c0
   refine Stops_wp L100_0.eq_1 ?_
   simp [h1,h2,h3,b3,h7,hlt,hw,hw2,←encT_eq,q99,c0,-Int.natCast_add]
theorem c100 (a:Int) (t:Tm):good t→∀ d,d+cntT t≤100000000→∀ st,callD T (ev T) 100 [encT t,.int .i64 a,.int .i64 (d:Int)] st=some (.bool (setR a d t),st):=by
 induction t using Tm.ind with
 | h t ih=>
  intro gt d hd st
  refine callD_pureR (fn:=F100) rfl rfl (by simp) (by simp) ?_
  refine Ret_wp (fn:=F100) rfl ?_
  rw [F100,setR_eq]
  by_cases h7:t.k=7
  ·simp [h7]
  ·have lo:=fun s bx st=>l100 a t d gt hd (fun i h st=>ih _ (List.getElem_mem h) (good_mem gt (List.getElem_mem h)) _ (by have:=in_cnt t i h; omega) st) t.l.length 0 s bx st (by omega) (by omega)
   by_cases hk:t.k=22
   ·cases hl:t.l with
    | nil=>
     have hp:asP a d t=false:=by simp [asP,hl]
     rw [hp]
     simp [h7,hk,hl] at lo ⊢
     refine WL.use L100_0_p L100_0_w (lo _ _ _ ?_ ?_ ?_ ?_ ?_) ?_
     iterate 5 simp [hk,hl]
     rintro e s' b' st' ⟨rfl,p1⟩ hf
     cases hb:setRs a d t 0 []
     ·simp [hb] at p1
      simp [p1]
     ·simp [hb] at p1
      simp [p1.1,p1.2]
    | cons x r=>
     have gx:good x:=good_mem gt (by rw [hl]; simp)
     have qr:=c130 x gx
     have q98:=c98 (rootT x) (root_good x gx) d (by omega)
     rw [encT_eq (rootT x)] at qr q98
     by_cases hr7:(rootT x).k=7
     ·rw [hr7] at qr q98
      by_cases hn:(if (rootT x).n < (d:Int) then -1 else (rootT x).n - d)=a
      ·have hp:asP a d t=true:=by simp [asP,hk,hl,hr7,nmP,hn]
       simp [h7,hk,hl,hp,←encT_eq x,qr,hr7,q98,hn]
      ·have hp:asP a d t=false:=by simp [asP,hk,hl,hr7,nmP,hn]
       rw [hp]
       simp [h7,hk,hl,←encT_eq x,qr,hr7,q98,hn] at lo ⊢
       refine WL.use L100_0_p L100_0_w (lo _ _ _ ?_ ?_ ?_ ?_ ?_) ?_
       iterate 5 simp [hk,hl,encT_eq x]
       rintro e s' b' st' ⟨rfl,p1⟩ hf
       cases hb:setRs a d t 0 (x::r)
       ·simp [hb] at p1
        simp [p1]
       ·simp [hb] at p1
        simp [p1.1,p1.2]
     ·have hp:asP a d t=false:=by simp [asP,hk,hl,hr7]
      rw [hp]
      simp [h7,hk,hl,←encT_eq x,qr,hr7] at lo ⊢
      refine WL.use L100_0_p L100_0_w (lo _ _ _ ?_ ?_ ?_ ?_ ?_) ?_
      iterate 5 simp [hk,hl,encT_eq x]
      rintro e s' b' st' ⟨rfl,p1⟩ hf
      cases hb:setRs a d t 0 (x::r)
      ·simp [hb] at p1
       simp [p1]
      ·simp [hb] at p1
       simp [p1.1,p1.2]
   ·have hp:asP a d t=false:=by simp [asP,hk]
    rw [hp]
    simp [h7,hk] at lo ⊢
    refine WL.use L100_0_p L100_0_w (lo _ _ _ ?_ ?_ ?_ ?_ ?_) ?_
    iterate 5 simp
    rintro e s' b' st' ⟨rfl,p1⟩ hf
    cases hb:setRs a d t 0 t.l
    ·simp [hb] at p1
     simp [p1]
    ·simp [hb] at p1
     simp [p1.1,p1.2]
theorem c67 (a:Int) (t:Tm) (gt:good t) (hd:cntT t≤100000000) (st:St):callD T (ev T) 67 [encT t,.int .i64 a] st=some (.bool (decide (0≤a) && setR a 0 t),st):=by
 refine callD_pureR (fn:=F67) rfl rfl (by simp) (by simp) ?_
 refine Ret_wp (fn:=F67) rfl ?_
 rw [F67]
 have q:=c100 a t gt 0 (by omega)
 rw [show ((0:Nat):Int)=0 from rfl] at q
 by_cases h:0≤a <;> simp [h,←encT_eq,q]
theorem c70 (e:Tm) (ge:good e) (le:lowN 1000000000000000 e) (ce:cntT e≤10000000) (a:Int) (t:Tm) (gt:good t) (ct:cntT t≤10000000) (st:St):callD T (ev T) 70 [encT t,encT e,.int .i64 a] st=some (encT (mapT qE (puF e a) 0 t),st):=by
 refine callD_pureR (fn:=F70) rfl rfl (by simp) (by simp) ?_
 refine Ret_wp (fn:=F70) rfl ?_
 rw [F70]
 have q:=c104 e ge le ce a t gt 0 (by omega)
 rw [show ((0:Nat):Int)=0 from rfl,encT_eq (mapT qE (puF e a) 0 t)] at q
 simp [←encT_eq t,←encT_eq e,q,splice]
 rw [encT_eq (mapT qE (puF e a) 0 t)]
end Go.Nt.Li
set_option linter.unusedSimpArgs false
set_option maxRecDepth 20000
namespace Go.Nt.Li
open Go Go.Nt
theorem l5 (t:Tm) (hl:t.l.length≤1000000) (hc:∀ u,u∈t.l→∀ st,∃ b,callD T (ev T) 5 [encT u] st=some (.bool b,st)∧(b=false→lowN 1099511627776 u)) :
  ∀ (r i:Nat) (s:List D) (bx:List (Nat × List D)) (st:St),r=t.l.length - i→i≤t.l.length→(∀ u,u∈t.l.take i→lowN 1099511627776 u)→get s 1=.lp 1 1 0→getB bx 1=(1,clT t)→get s 3=.int .i64 i →
  Stops (lp T L5_0 ⟨⟨s,bx⟩,st⟩) fun ex s' _ st'=>st'=st∧((ex=.ret∧get s' 2=.bool true)∨(ex=.exit 0∧∀ u,u∈t.l→lowN 1099511627776 u)):=by
 intro r
 induction r with
 | zero=>
  intro i s bx st hr hi hlo h1 b1 h3
  have ei:i=t.l.length:=by omega
  subst ei
  rw [List.take_length] at hlo
  refine Stops_wp L5_0.eq_1 ?_
  simp [h1,b1,h3]
  exact hlo
 | succ r ihr=>
  intro i s bx st hr hi hlo h1 b1 h3
  have hlt:i < t.l.length:=by omega
  have hw:IntKind.wrap .i64 ((i:Int)+1)=((i+1:Nat):Int):=by rw [wrap64] <;> omega
  obtain ⟨b,c0,c1⟩:=hc _ (List.getElem_mem hlt) st
  cases b
  ·have hlo':∀ u,u∈t.l.take (i+1)→lowN 1099511627776 u:=fun u hu=>by
    rw [List.take_succ_eq_append_getElem hlt,List.mem_append] at hu
    rcases hu with hu | hu
    ·exact hlo u hu
    ·simp at hu; subst hu; exact c1 rfl
   have nx:=fun s' bx'=>ihr (i+1) s' bx' st (by omega) (by omega) hlo'
   refine Stops_wp L5_0.eq_1 ?_
   simp [h1,b1,h3,hlt,hw,←encT_eq,c0,-Int.natCast_add]
   refine nx _ _ ?_ ?_ ?_ <;> simp [h1,b1]
  ·refine Stops_wp L5_0.eq_1 ?_
   simp [h1,b1,h3,hlt,hw,←encT_eq,c0,-Int.natCast_add]
theorem c5 (t:Tm):good t→∀ st,∃ b,callD T (ev T) 5 [encT t] st=some (.bool b,st)∧(b=false→lowN 1099511627776 t):=by
 induction t using Tm.ind with
 | h t ih=>
  intro gt st
  have go:Ret (ev T 5 [encT t] []) fun r _=>∃ b,r=.bool b∧(b=false→lowN 1099511627776 t):=by
   refine Ret_wp (fn:=F5) rfl ?_
   rw [F5]
   by_cases hw:t.k=7∧1099511627776 < t.n
   ·simp [hw.1,hw.2]
   ·have lo:=fun s bx st=>l5 t (good_len gt) (fun u hu st=>ih u hu (good_mem gt hu) st) t.l.length 0 s bx st (by omega) (by omega) (by simp)
    have fin:(∀ u,u∈t.l→lowN 1099511627776 u)→lowN 1099511627776 t:=fun h=>(lowN_iff _ t).2 ⟨fun h7=>by
     rcases Classical.not_and_iff_not_or_not.1 hw with q | q
     ·exact absurd h7 q
     ·omega,h⟩
    by_cases h7:t.k=7
    ·have hn:¬ 1099511627776 < t.n:=fun q=>hw ⟨h7,q⟩
     simp [h7,hn]
     refine WL.use L5_0_p L5_0_w (lo _ _ _ ?_ ?_ ?_) ?_
     iterate 3 simp [h7]
     rintro e s' b' st' ⟨rfl,p1⟩ hf
     rcases p1 with ⟨rfl,p2⟩ | ⟨rfl,p2⟩
     ·simp [p2]
     ·simp [fin p2]
    ·simp [h7]
     refine WL.use L5_0_p L5_0_w (lo _ _ _ ?_ ?_ ?_) ?_
     iterate 3 simp
     rintro e s' b' st' ⟨rfl,p1⟩ hf
     rcases p1 with ⟨rfl,p2⟩ | ⟨rfl,p2⟩
     ·simp [p2]
     ·simp [fin p2]
  obtain ⟨r,st',h1,b,rfl,h2⟩:=go
  exact ⟨b,callD_pure (fn:=F5) (st2:=st') rfl rfl (by simp) h1 (by simp) (by simp),h2⟩
def kMk (st:St) (sz:Nat) (zero:D):D→D→Option Eff
 | .int _ n,.int _ k=>if 0≤n∧n≤k∧k≤most then some (.rs st.length 0 sz 0 n.toNat (n == k),none,some (st++[.cells false sz 0 0 false (List.replicate n.toNat zero)])) else none
 | _,_=>none
@[simp ↓] theorem a_mksl {T:Nat→Option IFunc} {go:GoF} {rd:Opd→D} {rb:Nat→Nat × List D} {st:St} (d sz:Nat) (zero:D) (x y:Opd):actO T go rd rb st (.mksl d sz zero x y)=kMk st sz zero (rd x) (rd y):=by
 simp only [actO,kMk]; cases rd x <;> cases rd y <;> rfl
@[simp] theorem kMk_i (st:St) (sz:Nat) (zero:D) (k k':IntKind) (n m:Int):kMk st sz zero (.int k n) (.int k' m)=if 0≤n∧n≤m∧m≤most then some (.rs st.length 0 sz 0 n.toNat (n == m),none,some (st++[.cells false sz 0 0 false (List.replicate n.toNat zero)])) else none:=(rfl)
def qP:Fl→List Tm→Fl:=fun fl l=>if l=[] then fl else .full
structure Tn (g:Nat) (a:D) (f:Nat→Tm→Tm) (p:Nat→Int→Bool) (Is:Nat→Prop) (J:Bool→St→Prop):Prop where
 turn:∀ t,good t→t.k=7→t.n≤1000000000000000→∀ d:Nat,d≤100000000→∀ b st,J b st →
  ∃ st',callD T (ev T) g [a,encT t,.int .i64 (d:Int)] st=some (encT (f d t),st')∧J (b || p d t.n) st'∧st.length≤st'.length∧∀ i,i < st.length→¬ Is i→St.at st' i=St.at st i
 keep:∀ b st st',J b st→st.length≤st'.length→(∀ i,Is i→St.at st' i=St.at st i)→J b st'
 old:∀ b st i,J b st→Is i→i < st.length
def rowW (M:List Tm) (n i:Nat):List D:=encTs (M.take i++List.replicate (n - i) T0)
theorem rowW_at (M:List Tm) (n i:Nat) (hn:M.length=n) (h:i < n):(rowW M n i)[i]?=some (encT T0):=by
 unfold rowW
 rw [encTs_get,List.getElem?_append_right (by simp; omega)]
 have:(M.take i).length=i:=by simp; omega
 rw [this,Nat.sub_self,List.getElem?_replicate,if_pos (by omega)]; rfl
theorem rowW_set (M:List Tm) (n i:Nat) (hn:M.length=n) (h:i < n):(rowW M n i).set i (encT (M[i]'(by omega)))=rowW M n (i+1):=by
 unfold rowW
 have hl:(M.take i).length=i:=by simp; omega
 have e:List.replicate (n - i) T0=T0::List.replicate (n - (i+1)) T0:=by rw [show n - i=n - (i+1)+1 by omega]; rfl
 rw [e,encTs_append,encTs_cons,List.set_append,encTs_len,hl,if_neg (by omega),Nat.sub_self,List.set_cons_zero,List.take_succ_eq_append_getElem (by omega),List.append_assoc,encTs_append]
 rfl
theorem l62 {g:Nat} {a:D} {f:Nat→Tm→Tm} {p:Nat→Int→Bool} {Is:Nat→Prop} {J:Bool→St→Prop} (H:Tn g a f p Is J) (t:Tm) (d:Nat) (gt:good t) (hd:d+cntT t≤100000000) (st0:St) (L:Nat) (hL:st0.length≤L)
  (hc:∀ i (h:i < t.l.length) b st,J b st→∃ st',callD T (ev T) 62 [encT t.l[i],.int .i64 ((d+inT t i:Nat):Int),.fn g [a] []] st=some (encT (mapT qP f (d+inT t i) t.l[i]),st')∧J (b || anyL p (d+inT t i) t.l[i]) st' ∧
   st.length≤st'.length∧∀ i,i < st.length→¬ Is i→St.at st' i=St.at st i) :
  ∀ (r i:Nat) (s:List D) (bx:List (Nat × List D)) (st:St) (b:Bool) (md:Nat),r=t.l.length - i→i≤t.l.length→J b st→L < st.length→¬ Is L→(∀ j,j < st0.length→¬ Is j→St.at st j=St.at st0 j)→st0.length≤st.length →
   St.at st L=.cells false 6 0 md false (rowW (mapTs qP f d t 0 t.l) t.l.length i) →
   get s 1=.int .i64 d→get s 2=.fn g [a] []→get s 3=.lp 3 1 0→getB bx 3=(1,clT t)→get s 7=.rs L 0 6 0 t.l.length true→(t.k=29→get s 8=.i (inT t i))→get s 28=slE 6 t.fl (encTs t.l)→get s 29=.i t.l.length→get s 30=.i i →
  Stops (lp T L62_0 ⟨⟨s,bx⟩,st⟩) fun ex s' b' st'=>ex=.exit 0∧get s' 7=.rs L 0 6 0 t.l.length true∧J (b || anyLs p d t i (t.l.drop i)) st'∧st0.length≤st'.length∧L < st'.length∧(∀ j,j < st0.length→¬ Is j→St.at st' j=St.at st0 j) ∧
   ∃ md,St.at st' L=.cells false 6 0 md false (encTs (mapTs qP f d t 0 t.l)):=by
 intro r
 have hll:=good_len gt
 have hlen:=mapTs_len qP f d t t.l 0
 induction r with
 | zero=>
  intro i s bx st b md hr hi hJ hLs hLI hfr hst hrow h1 h2 h3 b3 h7 h8 h28 h29 h30
  have ei:i=t.l.length:=by omega
  subst ei
  refine Stops_wp L62_0.eq_1 ?_
  simp [h1,h2,h3,b3,h7,h28,h29,h30,anyLs,hJ,hst,hLs]
  exact ⟨hfr,md,by rw [hrow,rowW,Nat.sub_self,List.take_of_length_le (by omega)]; simp⟩
 | succ r ihr=>
  intro i s bx st b md hr hi hJ hLs hLI hfr hst hrow h1 h2 h3 b3 h7 h8 h28 h29 h30
  have hlt:i < t.l.length:=by omega
  have hw:IntKind.wrap .i64 ((i:Int)+1)=((i+1:Nat):Int):=by rw [wrap64] <;> omega
  have hin:=in_cnt t i hlt
  have hw2:IntKind.wrap .i64 ((d:Int)+(inT t i:Int))=((d+inT t i:Nat):Int):=by rw [wrap64] <;> omega
  have q57:=c57 t gt i hlt (good_33 gt)
  have q86:=c86 t.l[i]
  obtain ⟨st1,c0,J1,s1,f1⟩:=hc i hlt b st hJ
  have hg:=mapTs_get qP f d t t.l 0 i hlt
  rw [Nat.zero_add] at hg
  have hr1:St.at st1 L=.cells false 6 0 md false (rowW (mapTs qP f d t 0 t.l) t.l.length i):=by rw [f1 L hLs hLI]; exact hrow
  have hk:=kHs_encT (y:=mapT qP f (d+inT t i) t.l[i]) hr1 (rowW_at _ _ i hlen hlt)
  have hset:=rowW_set (mapTs qP f d t 0 t.l) t.l.length i hlen hlt
  rw [hg] at hset
  rw [hset] at hk
  have hL1:L < st1.length:=by omega
  have hI:∀ j,Is j→j≠L:=fun j hj q=>hLI (q ▸ hj)
  have J2:J (b || anyL p (d+inT t i) t.l[i]) (List.set st1 L (.cells false 6 0 (md+1) false (rowW (mapTs qP f d t 0 t.l) t.l.length (i+1)))):=H.keep _ _ _ J1 (by simp) fun j hj=>by rw [at_set _ _ _ _ hL1,if_neg (hI j hj)]
  have ea:=anyLs_at p d t t.l i hlt 0
  simp only [Nat.zero_add] at ea
  have nx:=fun s' bx'=>ihr (i+1) s' bx' _ _ (md+1) (by omega) (by omega) J2 (by simpa using hL1) hLI (fun j hj hjI=>by
   have hjL:j≠L:=by omega
   rw [at_set _ _ _ _ hL1,if_neg hjL,f1 j (by omega) hjI,hfr j hj hjI]) (by simp; omega) (by rw [at_set _ _ _ _ hL1,if_pos rfl])
  rw [ea,←Bool.or_assoc]
  by_cases hk29:t.k=29
  ·have h8':=h8 hk29
   have ht:∀ j,inT t j=((t.l.take j).filter bindB).length:=fun j=>by unfold inT; rw [if_pos hk29]
   have e1:inT t (i+1)=inT t i+(if bindB t.l[i] then 1 else 0):=by
    rw [ht,ht,List.take_succ_eq_append_getElem hlt,List.filter_append,List.length_append]
    cases hb:bindB t.l[i] <;> simp [List.filter_cons,hb]
   have hw3:IntKind.wrap .i64 ((inT t i:Int)+1)=((inT t i+1:Nat):Int):=by rw [wrap64] <;> omega
   generalize inT t i=I at *
   cases hb:bindB t.l[i]
   ·rw [hb] at q86 e1
    refine Stops_wp L62_0.eq_1 ?_
    simp [h1,h2,h3,b3,h7,h8',h28,h29,h30,hlt,hw,hw2,hk29,←encT_eq,c0,q86,hr1,hk,-Int.natCast_add]
    refine nx _ _ ?_ ?_ ?_ ?_ ?_ ?_ ?_ ?_ ?_ <;> simp [h1,h2,h3,b3,h7,h8',h28,h29,e1,hk29,-Int.natCast_add]
   ·rw [hb] at q86 e1
    refine Stops_wp L62_0.eq_1 ?_
    simp [h1,h2,h3,b3,h7,h8',h28,h29,h30,hlt,hw,hw2,hw3,hk29,←encT_eq,c0,q86,hr1,hk,-Int.natCast_add]
    refine nx _ _ ?_ ?_ ?_ ?_ ?_ ?_ ?_ ?_ ?_ <;> simp [h1,h2,h3,b3,h7,h8',h28,h29,e1,hk29,-Int.natCast_add]
  ·generalize inT t i=I at *
   refine Stops_wp L62_0.eq_1 ?_
   simp [h1,h2,h3,b3,h7,h28,h29,h30,hlt,hw,hw2,hk29,←encT_eq,q57,c0,hr1,hk,-Int.natCast_add]
   refine nx _ _ ?_ ?_ ?_ ?_ ?_ ?_ ?_ ?_ ?_ <;> simp [h1,h2,h3,b3,h7,h28,h29,hk29,-Int.natCast_add]
theorem c62 {g:Nat} {a:D} {f:Nat→Tm→Tm} {p:Nat→Int→Bool} {Is:Nat→Prop} {J:Bool→St→Prop} (H:Tn g a f p Is J) (t:Tm):good t→lowN 1000000000000000 t→∀ d b st,d+cntT t≤100000000→J b st →
  ∃ st',callD T (ev T) 62 [encT t,.int .i64 (d:Int),.fn g [a] []] st=some (encT (mapT qP f d t),st')∧J (b || anyL p d t) st'∧st.length≤st'.length∧∀ i,i < st.length→¬ Is i→St.at st' i=St.at st i:=by
 induction t using Tm.ind with
 | h t ih=>
  intro gt lt d b st hd hJ
  have hl1:=(lowN_iff _ t).1 lt
  have hll:=good_len gt
  by_cases h7:t.k=7
  ·obtain ⟨st1,q,J1,s1,f1⟩:=H.turn t gt h7 (hl1.1 h7) d (by omega) b st hJ
   refine ⟨st1,?_,by rw [anyL_eq,if_pos h7]; exact J1,s1,f1⟩
   have go:Ret (ev T 62 [encT t,.int .i64 (d:Int),.fn g [a] []] st) fun r st'=>r=encT (mapT qP f d t)∧st'=st1:=by
    refine Ret_wp (fn:=F62) rfl ?_
    rw [F62,mapT_eq,if_pos h7]
    rw [encT_eq (f d t),encT_eq t,h7] at q
    simp [h7,q,splice]
    rw [encT_eq (f d t)]
   obtain ⟨r,st',h1,rfl,rfl⟩:=go
   refine callD_freE (fn:=F62) rfl rfl (by simp) h1 (by simp) (by simp)
  ·by_cases hne:t.l=[]
   ·have em:mapT qP f d t=t:=by
     rw [mapT_eq,if_neg h7]
     cases t with
     | mk k n s fl l x y=>simp only [Tm.l] at hne; subst hne; simp [Tm.k,Tm.n,Tm.s,Tm.fl,Tm.l,Tm.a,Tm.b,qP,mapTs]
    refine ⟨st,?_,by rw [anyL_eq,if_neg h7,hne,anyLs,Bool.or_false]; exact hJ,Nat.le_refl _,fun _ _ _=>rfl⟩
    have go:Ret (ev T 62 [encT t,.int .i64 (d:Int),.fn g [a] []] st) fun r st'=>r=encT (mapT qP f d t)∧st'=st:=by
     refine Ret_wp (fn:=F62) rfl ?_
     rw [F62,em]
     simp [h7,hne,splice]
     rw [encT_eq t,hne,encTs_nil]
    obtain ⟨r,st',h1,rfl,rfl⟩:=go
    exact callD_freE (fn:=F62) rfl rfl (by simp) h1 (by simp) (by simp)
   ·have hpos:0 < t.l.length:=List.length_pos_iff.2 hne
    have hlp:¬ (t.l.length:Int)=0:=by omega
    have hmo:(t.l.length:Int)≤(most:Int):=by have:(most:Int)=134217728:=rfl; omega
    have hLI:¬ Is st.length:=fun q=>by have:=H.old _ _ _ hJ q; omega
    have J0:J b (st++[.cells false 6 0 0 false (rowW (mapTs qP f d t 0 t.l) t.l.length 0)]):=H.keep _ _ _ hJ (by simp) fun i hi=>at_append _ _ _ (H.old _ _ _ hJ hi)
    have lo:=fun s bx=>l62 H t d gt hd st st.length (Nat.le_refl _) (fun i h b st hJ=>ih _ (List.getElem_mem h) (good_mem gt (List.getElem_mem h)) (hl1.2 _ (List.getElem_mem h)) _ b st (by have:=in_cnt t i h; omega) hJ) t.l.length 0 s bx
     (st++[.cells false 6 0 0 false (rowW (mapTs qP f d t 0 t.l) t.l.length 0)]) b 0 (by omega) (by omega) J0 (by simp) hLI (fun j hj _=>at_append _ _ _ hj) (by simp) (at_append_self _ _)
    have ez:rowW (mapTs qP f d t 0 t.l) t.l.length 0=List.replicate t.l.length (encT T0):=by simp [rowW,encTs_map]
    have ei:inT t 0=0∨t.k≠29:=by
     by_cases h:t.k=29
     ·left; unfold inT; rw [if_pos h]; rfl
     ·exact .inr h
    have go:Ret (ev T 62 [encT t,.int .i64 (d:Int),.fn g [a] []] st) fun r st'=>r=.agg [.int .i64 t.k,.int .i64 t.n,.str t.s,.rs st.length 0 6 0 t.l.length true,.int .i64 t.a,.int .i64 t.b] ∧
      J (b || anyLs p d t 0 t.l) st'∧st.length < st'.length∧(∀ j,j < st.length→¬ Is j→St.at st' j=St.at st j)∧∃ md,St.at st' st.length=.cells false 6 0 md false (encTs (mapTs qP f d t 0 t.l)):=by
     refine Ret_wp (fn:=F62) rfl ?_
     rw [F62]
     rw [ez,encT_0] at lo
     simp [h7,hne,hmo,splice] at lo ⊢
     refine WL.useB L62_0_p L62_0_w (WB:=L62_0.wrB) rfl (lo _ _ ?_ ?_ ?_ ?_ ?_ ?_ ?_ ?_ ?_) ?_
     iterate 5 simp
     ·intro h; rcases ei with e | e
      ·simp [e]
      ·exact absurd h e
     iterate 3 simp
     rintro e s' b' st' ⟨rfl,p1,p2,p3,p4,p5,md,p6⟩ hf hb
     have e3:=hf 3 rfl
     have e6:=hf 6 rfl
     have b3:=hb 3 rfl
     have b6:=hb 6 rfl
     simp at e3 e6 b3 b6
     simp [p1,e3,e6,b3,b6,splice,p2,p4]
     exact ⟨p5,md,p6⟩
    obtain ⟨r,st',h1,rfl,p2,p3,p4,md,p5⟩:=go
    have hfz:fz st' (.agg [.int .i64 t.k,.int .i64 t.n,.str t.s,.rs st.length 0 6 0 t.l.length true,.int .i64 t.a,.int .i64 t.b])=some (encT (mapT qP f d t),List.set st' st.length (.cells false 6 0 (md+1) true (encTs (mapTs qP f d t 0 t.l)))):=by
     have e3:List.take t.l.length (encTs (mapTs qP f d t 0 t.l))=encTs (mapTs qP f d t 0 t.l):=List.take_of_length_le (by rw [encTs_len,mapTs_len]; exact Nat.le_refl _)
     have e4:t.l.length≤(encTs (mapTs qP f d t 0 t.l)).length:=by rw [encTs_len,mapTs_len]; exact Nat.le_refl _
     rw [mapT_eq,if_neg h7,encT]
     have e5:slE 6 (qP t.fl t.l) (encTs (mapTs qP f d t 0 t.l))=.sl 6 true (encTs (mapTs qP f d t 0 t.l)):=by rw [qP,if_neg hne,slE]
     rw [e5]
     simp [p5,e3,mapTs_len]
    refine ⟨_,callD_freE (fn:=F62) rfl rfl (by simp) h1 hfz (by simp),?_,by simp; omega,fun j hj hI=>?_⟩
    ·rw [anyL_eq,if_neg h7]
     exact H.keep _ _ _ p2 (by simp) fun j hj=>by rw [at_set _ _ _ _ p3,if_neg (fun q=>hLI (by rw [←q]; exact hj))]
    ·rw [at_set _ _ _ _ p3,if_neg (by omega)]; exact p4 j hj hI
end Go.Nt.Li
set_option linter.unusedSimpArgs false
set_option maxRecDepth 20000
namespace Go.Nt.Li
open Go Go.Nt
abbrev mvO (md:Nat) (by' fr:Int) (b:Bool):Ob:=.cells true 3 0 md false [.agg [.int .i64 by',.int .i64 fr,.bool b]]
def mvJ (by' fr:Int) (id:Nat) (b:Bool) (st:St):Prop:=id < st.length∧∃ md,St.at st id=mvO md by' fr b
def loP (by' fr:Int) (d:Nat) (n:Int):Bool:=decide (¬ (n < d∨n - d < fr)∧by' < 0∧n - d < fr - by')
theorem c96 (by' fr:Int) (hby:-100000000≤by'∧by'≤100000000) (hfr:0≤fr∧fr≤100000000) (id:Nat) (t:Tm) (gt:good t) (hn:t.n≤1000000000000000) (d:Nat) (hd:d≤100000000) (b:Bool) (st:St) (md:Nat) (hid:id < st.length) (hat:St.at st id=mvO md by' fr b) :
  callD T (ev T) 96 [.hp id 0 3 0 0,encT t,.int .i64 (d:Int)] st=some (encT (raF by' fr d t),if loP by' fr d t.n then List.set st id (mvO (md+1) by' fr true) else st):=by
 rw [callD_rawE (fn:=F96) rfl rfl (by simp)]
 have gn:=((good_iff t).1 gt).2.1
 unfold in64 at gn
 have go:Ret (ev T 96 [.hp id 0 3 0 0,encT t,.int .i64 (d:Int)] st) fun r st'=>r=encT (raF by' fr d t)∧st'=if loP by' fr d t.n then List.set st id (mvO (md+1) by' fr true) else st:=by
  refine Ret_wp (fn:=F96) rfl ?_
  rw [F96]
  by_cases h1:t.n < d
  ·have e:raF by' fr d t=t:=by unfold raF; rw [if_pos h1,if_neg (by omega)]
   have e2:loP by' fr d t.n=false:=by simp [loP,h1]
   rw [e,e2]
   simp [h1,splice]
   rw [encT_eq]
  ·have hw:IntKind.wrap .i64 (t.n - d)=t.n - d:=by rw [wrap64] <;> omega
   by_cases h2:t.n - d < fr
   ·have e:raF by' fr d t=t:=by unfold raF; rw [if_neg h1,if_neg (by omega)]
    have e2:loP by' fr d t.n=false:=by simp [loP,h1,h2]
    rw [e,e2]
    simp [h1,h2,hw,hat,splice]
    rw [encT_eq]
   ·have e:raF by' fr d t=.mk t.k (t.n+by') t.s t.fl t.l t.a t.b:=by unfold raF; rw [if_neg h1,if_pos (by omega)]
    have hw2:IntKind.wrap .i64 (t.n+by')=t.n+by':=by rw [wrap64] <;> omega
    have hw3:IntKind.wrap .i64 (fr - by')=fr - by':=by rw [wrap64] <;> omega
    rw [e]
    by_cases h3:by' < 0
    ·by_cases h4:t.n - d < fr - by'
     ·have e2:loP by' fr d t.n=true:=by simp [loP,h1,h2,h3,h4]
      rw [e2]
      simp [h1,h2,h3,h4,hw,hw2,hw3,hat,hid,splice,rewrap,kHs,at_set]
      rw [encT]
     ·have e2:loP by' fr d t.n=false:=by simp [loP,h1,h2,h3,h4]
      rw [e2]
      simp [h1,h2,h3,h4,hw,hw2,hw3,hat,hid,splice]
      rw [encT]
    ·have e2:loP by' fr d t.n=false:=by simp [loP,h1,h2,h3]
     rw [e2]
     simp [h1,h2,h3,hw,hw2,hw3,hat,hid,splice]
     rw [encT]
 obtain ⟨r,st',h1,rfl,rfl⟩:=go
 exact h1
theorem tn_mv (by' fr:Int) (hby:-100000000≤by'∧by'≤100000000) (hfr:0≤fr∧fr≤100000000) (id:Nat):Tn 96 (.hp id 0 3 0 0) (raF by' fr) (loP by' fr) (·=id) (mvJ by' fr id) where
 turn:=fun t gt _ hn d hd b st ⟨hid,md,hat⟩=>by
  refine ⟨_,c96 by' fr hby hfr id t gt hn d hd b st md hid hat,?_,?_,fun i hi hne=>?_⟩
  ·split
   ·next h=>rw [h,Bool.or_true]; exact ⟨by simpa using hid,md+1,by rw [at_set _ _ _ _ hid,if_pos rfl]⟩
   ·next h=>rw [Bool.not_eq_true _ |>.mp h,Bool.or_false]; exact ⟨hid,md,hat⟩
  ·split <;> simp
  ·split
   ·rw [at_set _ _ _ _ hid,if_neg hne]
   ·rfl
 keep:=fun b st st' ⟨hid,md,hat⟩ hl h=>⟨by omega,md,by rw [h id rfl]; exact hat⟩
 old:=fun b st i ⟨hid,_⟩ e=>by rw [e]; exact hid
theorem c61 (by' fr:Int) (hby:-8192≤by'∧by'≤8192) (hfr:0≤fr∧fr≤8192) (t:Tm) (gt:good t) (lt:lowN 1000000000000000 t) (ct:cntT t≤100000000) (st:St) :
  callD T (ev T) 61 [encT t,.int .i64 by',.int .i64 fr] st=some (.tup [encT (if anyL (loP by' fr) 0 t then T0 else mapT qP (raF by' fr) 0 t),.bool (!anyL (loP by' fr) 0 t)],st):=by
 refine callD_pureR (fn:=F61) rfl rfl (by simp) (by simp) ?_
 refine Ret_wp (fn:=F61) rfl ?_
 rw [F61]
 have h1:¬ fr < 0:=by omega
 have h2:¬ 8192 < fr:=by omega
 have h3:¬ 8192 < by':=by omega
 have h4:¬ by' < -8192:=by omega
 obtain ⟨st1,q,⟨J1,md,J2⟩,s1,f1⟩:=c62 (tn_mv by' fr (by omega) (by omega) 0) t gt lt 0 false [mvO 1 by' fr false] (by omega) ⟨by simp,1,rfl⟩
 rw [show ((0:Nat):Int)=0 from rfl,encT_eq (mapT qP (raF by' fr) 0 t)] at q
 rw [Bool.false_or] at J2
 simp only [mvO] at q
 cases hb:anyL (loP by' fr) 0 t
 ·rw [hb] at J2
  simp [h1,h2,h3,h4,splice,fillD,rewrap,kHs,←encT_eq t,q,J2]
  rw [encT_eq (mapT qP (raF by' fr) 0 t)]
 ·rw [hb] at J2
  simp [h1,h2,h3,h4,splice,fillD,rewrap,kHs,←encT_eq t,q,J2]
  rw [encT_0]
theorem c35 (t:Tm) (gt:good t) (lt:lowN 1000000000000000 t) (ct:cntT t≤100000000) (st:St):callD T (ev T) 35 [encT t] st=some (encT (if anyL (loP 1 0) 0 t then T0 else mapT qP (raF 1 0) 0 t),st):=by
 refine callD_pureR (fn:=F35) rfl rfl (by simp) (by simp) ?_
 refine Ret_wp (fn:=F35) rfl ?_
 rw [F35]
 have q:=c61 1 0 (by omega) (by omega) t gt lt ct
 generalize (if anyL (loP 1 0) 0 t then T0 else mapT qP (raF 1 0) 0 t)=X at *
 rw [encT_eq X] at q
 simp [←encT_eq t,q,splice]
 rw [encT_eq X]
abbrev fnO (md:Nat) (at':Int) (b:Bool):Ob:=.cells true 2 0 md false [.agg [.int .i64 at',.bool b]]
def fnJ (at':Int) (id:Nat) (b:Bool) (st:St):Prop:=id < st.length∧∃ md,St.at st id=fnO md at' b
def fnP (at':Int) (d:Nat) (n:Int):Bool:=decide (¬ n < d∧n - d=at')
theorem c64 (at':Int) (id:Nat) (t:Tm) (gt:good t) (d:Nat) (hd:d≤100000000) (b:Bool) (st:St) (md:Nat) (hid:id < st.length) (hat:St.at st id=fnO md at' b) :
  callD T (ev T) 64 [.hp id 0 2 0 0,encT t,.int .i64 (d:Int)] st=some (encT t,if fnP at' d t.n then List.set st id (fnO (md+1) at' true) else st):=by
 rw [callD_rawE (fn:=F64) rfl rfl (by simp)]
 have gn:=((good_iff t).1 gt).2.1
 unfold in64 at gn
 have go:Ret (ev T 64 [.hp id 0 2 0 0,encT t,.int .i64 (d:Int)] st) fun r st'=>r=encT t∧st'=if fnP at' d t.n then List.set st id (fnO (md+1) at' true) else st:=by
  refine Ret_wp (fn:=F64) rfl ?_
  rw [F64]
  by_cases h1:t.n < d
  ·have e2:fnP at' d t.n=false:=by simp [fnP,h1]
   have h1':¬ (d:Int)≤t.n:=by omega
   rw [e2]
   simp [h1',splice]
   rw [encT_eq]
  ·have h1':(d:Int)≤t.n:=by omega
   have hw:IntKind.wrap .i64 (t.n - d)=t.n - d:=by rw [wrap64] <;> omega
   by_cases h2:t.n - d=at'
   ·have e2:fnP at' d t.n=true:=by simp [fnP,h1,h2]
    have hw2:IntKind.wrap .i64 at'=at':=by rw [←h2]; exact hw
    rw [e2]
    simp [h1',h2,hw,hw2,hat,hid,splice,rewrap,kHs]
    rw [encT_eq]
   ·have e2:fnP at' d t.n=false:=by simp [fnP,h1,h2]
    rw [e2]
    simp [h1',h2,hw,hat,hid,splice]
    rw [encT_eq]
 obtain ⟨r,st',h1,rfl,rfl⟩:=go
 exact h1
theorem tn_fn (at':Int) (id:Nat):Tn 64 (.hp id 0 2 0 0) (fun _ t=>t) (fnP at') (·=id) (fnJ at' id) where
 turn:=fun t gt _ hn d hd b st ⟨hid,md,hat⟩=>by
  refine ⟨_,c64 at' id t gt d hd b st md hid hat,?_,?_,fun i hi hne=>?_⟩
  ·split
   ·next h=>rw [h,Bool.or_true]; exact ⟨by simpa using hid,md+1,by rw [at_set _ _ _ _ hid,if_pos rfl]⟩
   ·next h=>rw [Bool.not_eq_true _ |>.mp h,Bool.or_false]; exact ⟨hid,md,hat⟩
  ·split <;> simp
  ·split
   ·rw [at_set _ _ _ _ hid,if_neg hne]
   ·rfl
 keep:=fun b st st' ⟨hid,md,hat⟩ hl h=>⟨by omega,md,by rw [h id rfl]; exact hat⟩
 old:=fun b st i ⟨hid,_⟩ e=>by rw [e]; exact hid
theorem c38 (at':Int) (t:Tm) (gt:good t) (lt:lowN 1000000000000000 t) (ct:cntT t≤100000000) (st:St):callD T (ev T) 38 [encT t,.int .i64 at'] st=some (.bool (anyL (fnP at') 0 t),st):=by
 refine callD_pureR (fn:=F38) rfl rfl (by simp) (by simp) ?_
 refine Ret_wp (fn:=F38) rfl ?_
 rw [F38]
 obtain ⟨st1,q,⟨J1,md,J2⟩,s1,f1⟩:=c62 (tn_fn at' 0) t gt lt 0 false [fnO 1 at' false] (by omega) ⟨by simp,1,rfl⟩
 rw [show ((0:Nat):Int)=0 from rfl,encT_eq (mapT qP (fun _ t=>t) 0 t)] at q
 rw [Bool.false_or] at J2
 simp only [fnO] at q
 simp [splice,fillD,rewrap,kHs,←encT_eq t,q,J2]
def pgF (e:Tm) (at':Int) (d:Nat) (t:Tm):Tm:=if t.n < d∨t.n - d≠at' then t else mapT qP (raF d 0) 0 e
theorem c63 (e:Tm) (ge:good e) (le:lowN 1000000000000000 e) (ce:cntT e≤100000000) (at':Int) (t:Tm) (gt:good t) (d:Nat) (hd:d≤100000000) (st:St) :
  callD T (ev T) 63 [.agg (clT e++[.int .i64 at']),encT t,.int .i64 (d:Int)] st=some (encT (pgF e at' d t),st):=by
 refine callD_pureR (fn:=F63) rfl rfl (by simp) (by simp) ?_
 refine Ret_wp (fn:=F63) rfl ?_
 rw [F63]
 have gn:=((good_iff t).1 gt).2.1
 unfold in64 at gn
 unfold pgF
 by_cases h1:t.n < d
 ·simp [h1,splice]
  rw [encT_eq]
 ·have hw:IntKind.wrap .i64 (t.n - d)=t.n - d:=by rw [wrap64] <;> omega
  by_cases h2:t.n - d=at'
  ·obtain ⟨st1,q,_,s1,f1⟩:=c62 (tn_mv d 0 (by omega) (by omega) 0) e ge le 0 false [mvO 1 d 0 false] (by omega) ⟨by simp,1,rfl⟩
   rw [show ((0:Nat):Int)=0 from rfl,encT_eq (mapT qP (raF d 0) 0 e)] at q
   simp only [mvO] at q
   have hw2:IntKind.wrap .i64 at'=at':=by rw [←h2]; exact hw
   simp [h1,h2,hw,hw2,splice,fillD,rewrap,kHs,←encT_eq e,q]
   rw [encT_eq (mapT qP (raF d 0) 0 e)]
  ·simp [h1,h2,hw,splice]
   rw [encT_eq]
theorem tn_pg (e:Tm) (ge:good e) (le:lowN 1000000000000000 e) (ce:cntT e≤100000000) (at':Int):Tn 63 (.agg (clT e++[.int .i64 at'])) (pgF e at') (fun _ _=>false) (fun _=>False) (fun _ _=>True) where
 turn:=fun t gt _ hn d hd b st _=>⟨st,c63 e ge le ce at' t gt d hd st,trivial,Nat.le_refl _,fun _ _ _=>rfl⟩
 keep:=fun _ _ _ _ _ _=>trivial
 old:=fun _ _ _ _ h=>h.elim
theorem c34 (e:Tm) (ge:good e) (le:lowN 1000000000000000 e) (ce:cntT e≤100000000) (at':Int) (t:Tm) (gt:good t) (lt:lowN 1000000000000000 t) (ct:cntT t≤100000000) (st:St) :
  callD T (ev T) 34 [encT t,encT e,.int .i64 at'] st=some (encT (mapT qP (pgF e at') 0 t),st):=by
 refine callD_pureR (fn:=F34) rfl rfl (by simp) (by simp) ?_
 refine Ret_wp (fn:=F34) rfl ?_
 rw [F34]
 obtain ⟨st1,q,_⟩:=c62 (tn_pg e ge le ce at') t gt lt 0 false [] (by omega) trivial
 rw [show ((0:Nat):Int)=0 from rfl,encT_eq (mapT qP (pgF e at') 0 t)] at q
 simp only [List.cons_append,List.nil_append] at q
 simp [splice,fillD,←encT_eq t,←encT_eq e,q]
 rw [encT_eq (mapT qP (pgF e at') 0 t)]
end Go.Nt.Li
set_option linter.unusedSimpArgs false
set_option maxRecDepth 20000
namespace Go.Nt.Li
open Go Go.Nt
theorem l29 (a:Nat) (t:Tm) (gt:good t) (hd:a+cntT t≤9000000000000000000) (hc:∀ i (h:i < t.l.length) st,callD T (ev T) 29 [encT t.l[i],.int .i64 ((a+inT t i:Nat):Int)] st=some (.bool (asg ((a+inT t i:Nat):Int) t.l[i]),st)) :
  ∀ (r i:Nat) (s:List D) (bx:List (Nat × List D)) (st:St),r=t.l.length - i→i≤t.l.length→get s 1=.int .i64 a→get s 2=.lp 2 1 0→getB bx 2=(1,clT t)→get s 37=slE 6 t.fl (encTs t.l)→get s 38=.i t.l.length→get s 39=.i i →
  Stops (lp T L29_0 ⟨⟨s,bx⟩,st⟩) fun ex s' _ st'=>st'=st∧if asgs a t i (t.l.drop i) then ex=.ret∧get s' 4=.bool true else ex=.exit 0:=by
 intro r
 have hll:=good_len gt
 induction r with
 | zero=>
  intro i s bx st hr hi h1 h2 b2 h37 h38 h39
  have ei:i=t.l.length:=by omega
  subst ei
  rw [List.drop_length,asgs]
  refine Stops_wp L29_0.eq_1 ?_
  simp [h1,h2,b2,h37,h38,h39]
 | succ r ihr=>
  intro i s bx st hr hi h1 h2 b2 h37 h38 h39
  have hlt:i < t.l.length:=by omega
  have hw:IntKind.wrap .i64 ((i:Int)+1)=((i+1:Nat):Int):=by rw [wrap64] <;> omega
  have hin:=in_cnt t i hlt
  have hw2:IntKind.wrap .i64 ((a:Int)+(inT t i:Int))=((a+inT t i:Nat):Int):=by rw [wrap64] <;> omega
  have c0:=hc i hlt
  have q57:=c57 t gt i hlt (good_33 gt)
  have ea:=asgs_at a t t.l i hlt 0
  simp only [Nat.zero_add] at ea
  have ha:(0:Int)≤a:=by omega
  have nx:=fun s' bx'=>ihr (i+1) s' bx' st (by omega) (by omega)
  rw [ea,show (a:Int)+inT t i=((a+inT t i:Nat):Int) by omega]
  generalize inT t i=I at *
  cases hb:asg ((a+I:Nat):Int) t.l[i]
  ·rw [hb] at c0
   refine Stops_wp L29_0.eq_1 ?_
   simp [h1,h2,b2,h37,h38,h39,hlt,ha,hw,hw2,←encT_eq,q57,c0,-Int.natCast_add]
   refine nx _ _ ?_ ?_ ?_ ?_ ?_ ?_ <;> simp [h1,h2,b2,h37,h38]
  ·rw [hb] at c0
   refine Stops_wp L29_0.eq_1 ?_
   simp [h1,h2,b2,h37,h38,h39,hlt,ha,hw,hw2,←encT_eq,q57,c0,-Int.natCast_add]
theorem c29 (t:Tm):good t→∀ a:Nat,a+cntT t≤9000000000000000000→∀ st,callD T (ev T) 29 [encT t,.int .i64 (a:Int)] st=some (.bool (asg a t),st):=by
 induction t using Tm.ind with
 | h t ih=>
  intro gt a hd st
  refine callD_pureR (fn:=F29) rfl rfl (by simp) (by simp) ?_
  refine Ret_wp (fn:=F29) rfl ?_
  rw [F29,asg_eq]
  have ha:(0:Int)≤a:=by omega
  by_cases h7:t.k=7
  ·simp [h7]
  ·have lo:=fun s bx st=>l29 a t gt hd (fun i h st=>ih _ (List.getElem_mem h) (good_mem gt (List.getElem_mem h)) _ (by have:=in_cnt t i h; omega) st) t.l.length 0 s bx st (by omega) (by omega)
   by_cases hk:t.k=22
   ·cases hl:t.l with
    | nil=>
     have hp:¬ ((t.k=22∧([]:List Tm)≠[])∧(rootT (([]:List Tm).headD default)).k=7∧(rootT (([]:List Tm).headD default)).n=a):=fun h=>h.1.2 rfl
     rw [if_neg hp]
     simp [h7,hk,hl] at lo ⊢
     refine WL.use L29_0_p L29_0_w (lo _ _ _ ?_ ?_ ?_ ?_ ?_ ?_) ?_
     iterate 6 simp [hk,hl]
     rintro e s' b' st' ⟨rfl,p1⟩ hf
     cases hb:asgs a t 0 []
     ·simp [hb] at p1
      simp [p1]
     ·simp [hb] at p1
      simp [p1.1,p1.2]
    | cons x r=>
     have gx:good x:=good_mem gt (by rw [hl]; simp)
     have qr:=c56 x gx
     rw [encT_eq (rootT x)] at qr
     by_cases hp:(rootT x).k=7∧(rootT x).n=a
     ·have hp':(t.k=22∧(x::r)≠[])∧(rootT ((x::r).headD default)).k=7∧(rootT ((x::r).headD default)).n=a:=⟨⟨hk,by simp⟩,hp⟩
      rw [if_pos hp']
      simp [h7,hk,hl,←encT_eq x,qr,hp.1,hp.2,ha]
     ·have hp':¬ ((t.k=22∧(x::r)≠[])∧(rootT ((x::r).headD default)).k=7∧(rootT ((x::r).headD default)).n=a):=fun h=>hp h.2
      rw [if_neg hp']
      by_cases hr7:(rootT x).k=7
      ·have hn:¬ (rootT x).n=a:=fun h=>hp ⟨hr7,h⟩
       simp [h7,hk,hl,←encT_eq x,qr,hr7,hn] at lo ⊢
       refine WL.use L29_0_p L29_0_w (lo _ _ _ ?_ ?_ ?_ ?_ ?_ ?_) ?_
       iterate 6 simp [hk,hl,encT_eq x]
       rintro e s' b' st' ⟨rfl,p1⟩ hf
       cases hb:asgs a t 0 (x::r)
       ·simp [hb] at p1
        simp [p1]
       ·simp [hb] at p1
        simp [p1.1,p1.2]
      ·simp [h7,hk,hl,←encT_eq x,qr,hr7] at lo ⊢
       refine WL.use L29_0_p L29_0_w (lo _ _ _ ?_ ?_ ?_ ?_ ?_ ?_) ?_
       iterate 6 simp [hk,hl,encT_eq x]
       rintro e s' b' st' ⟨rfl,p1⟩ hf
       cases hb:asgs a t 0 (x::r)
       ·simp [hb] at p1
        simp [p1]
       ·simp [hb] at p1
        simp [p1.1,p1.2]
   ·have hp:¬ ((t.k=22∧t.l≠[])∧(rootT (t.l.headD default)).k=7∧(rootT (t.l.headD default)).n=a):=fun h=>hk h.1.1
    rw [if_neg hp]
    simp [h7,hk] at lo ⊢
    refine WL.use L29_0_p L29_0_w (lo _ _ _ ?_ ?_ ?_ ?_ ?_ ?_) ?_
    iterate 6 simp
    rintro e s' b' st' ⟨rfl,p1⟩ hf
    cases hb:asgs a t 0 t.l
    ·simp [hb] at p1
     simp [p1]
    ·simp [hb] at p1
     simp [p1.1,p1.2]
end Go.Nt.Li
