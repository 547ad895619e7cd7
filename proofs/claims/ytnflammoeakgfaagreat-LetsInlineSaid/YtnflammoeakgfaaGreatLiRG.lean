/-
  WHAT IS GOOD, of the reference's Right (lemmas turned from another seat).
  No condition.
-/
import Derived.Test.YtnflammoeakgfaaGreatLiRE
set_option linter.unusedSimpArgs false
namespace Go.Nt.Li
open Go Go.Nt
variable {m:Tm} {locs:List Tm}
theorem good_len {t:Tm} (h:good t):t.l.length≤1000000:=((good_iff t).1 h).2.2.2.2.2.1
theorem good_mem {t u:Tm} (h:good t) (hu:u∈t.l):good u:=((good_iff t).1 h).2.2.2.2.2.2 u hu
theorem sameTs_len:∀ (l k:List Tm),l.length≠k.length→sameT.sameTs l k=false
 | [],[],h=>absurd rfl h
 | [],_::_,_=>by simp [sameT.sameTs]
 | _::_,[],_=>by simp [sameT.sameTs]
 | v::l,u::k,h=>by simp only [sameT.sameTs]; rw [sameTs_len l k (by simpa using h),Bool.and_false]
abbrev z6:List D:=[.int .i64 0,.int .i64 0,.str [],.nils,.int .i64 0,.int .i64 0]
theorem localT_some {locs:List Tm} {n:Int} (h:0≤n∧n < locs.length):localT locs n=some (locs[locs.length - 1 - n.toNat]'(by omega)):=by
 rw [localT,if_pos h]; exact List.getElem?_eq_getElem _
theorem byName_up (s:List UInt8):∀ (l:List Tm) (i:Nat),byName s i l=none∨∃ j f,byName s i l=some (j,f)∧i≤j∧j < 64∧∃ p,l[j - i]?=some p∧p.s=s∧f=p.l.headD T0:=by
 intro l
 induction l with
 | nil=>intro i; exact .inl rfl
 | cons p l ih=>
  intro i
  rw [byName]
  by_cases h:p.s=s∧i < 64
  ·rw [if_pos h]
   exact .inr ⟨i,_,rfl,Nat.le_refl _,h.2,p,by simp,h.1,rfl⟩
  ·rw [if_neg h]
   rcases ih (i+1) with q | ⟨j,f,q1,q2,q3,p',q4,q5,q6⟩
   ·exact .inl q
   ·refine .inr ⟨j,f,q1,by omega,q3,p',?_,q5,q6⟩
    rw [show j - i=(j - (i+1))+1 by omega,List.getElem?_cons_succ]; exact q4
theorem allT_len:∀ (l k:List Tm),l.length≠k.length→allT l k=false
 | [],[],h=>absurd rfl h
 | [],_::_,_=>by simp [allT]
 | _::_,[],_=>by simp [allT]
 | v::l,u::k,h=>by simp only [allT]; rw [allT_len l k (by simpa using h),Bool.and_false]
theorem declT_rec {m:Tm} {n:Int} (h:(declT m n 30).2=true):(0≤n∧n < m.l.length)∧(declT m n 30).1∈m.l∧∀ p,p∈(declT m n 30).1.l→p.k=34∧∃ x,p.l=[x]:=by
 unfold declT at h ⊢
 split at h
 ·next g=>
  rw [dif_pos g]
  refine ⟨g,?_⟩
  split at h
  ·next hk=>
   rw [if_pos hk]
   rw [if_neg (by omega),if_neg (by omega),if_neg (by omega)] at h ⊢
   split at h
   ·cases h
   ·next ha=>
    rw [if_neg ha]
    refine ⟨List.getElem_mem _,fun p hp=>?_⟩
    have hb:badPart p=false:=by
     cases q:badPart p with
     | false=>rfl
     | true=>exact absurd (List.any_eq_true.2 ⟨p,hp,q⟩) ha
    simp [badPart] at hb
    exact ⟨hb.1,List.length_eq_one_iff.1 hb.2⟩
  ·cases h
 ·cases h
theorem typField_good {m:Tm} (hm:good m) (n:Int):good (typField m n).1:=by
 have g0:good T0:=good_K 0 (by simp [in64])
 unfold typField
 split
 ·split
  ·next p hp=>
   split
   ·next hc=>
    have h1:=List.mem_of_getElem? hp
    obtain ⟨x,hx⟩:=List.length_eq_one_iff.1 hc.2.2
    have gp:=good_mem (good_mem hm (List.getElem_mem _)) h1
    simp only [hx,List.headD_cons]
    exact good_mem gp (by rw [hx]; simp)
   ·exact g0
  ·exact g0
 ·exact g0
theorem good_0:good T0:=good_K 0 (by simp [in64])
theorem good_head {l:List Tm} (h:∀ t,t∈l→good t):good (l.headD T0):=by
 cases l with
 | nil=>exact good_0
 | cons a l=>exact h a (by simp)
theorem bareT_good (t:Tm):good t→good (bareT t):=by
 induction t using Tm.ind with
 | h t ih=>
  intro h
  obtain ⟨k1,k2,k3,k4,k5,k6,k7⟩:=(good_iff t).1 h
  rw [bareT_eq]
  refine (good_iff _).2 ⟨k1,k2,k3,by simp [in64],by simp [in64],by simpa using k6,fun u hu=>?_⟩
  simp only [l_mk] at hu
  obtain ⟨v,hv,rfl⟩:=List.mem_map.1 hu
  exact ih v hv (k7 v hv)
theorem litT_good (t:Tm):good (litT t):=by
 unfold litT; split
 ·exact good_K 1 (by simp [in64])
 ·split
  ·exact good_K 2 (by simp [in64])
  ·exact good_0
theorem declT_good {m:Tm} (hm:good m) (n k:Int):good (declT m n k).1:=by
 unfold declT
 split
 ·have gd:=good_mem hm (List.getElem_mem (by omega:n.toNat < m.l.length))
  repeat' split
  all_goals first | exact gd | exact good_0
 ·exact good_0
theorem namedT_good {m:Tm} (hm:good m) {locs:List Tm} (hl:∀ t,t∈locs→good t) (t:Tm):good (namedT m locs t).1:=by
 unfold namedT
 split
 ·split
  ·next d hd=>
   unfold localT at hd
   split at hd
   ·exact hl d (List.mem_of_getElem? hd)
   ·cases hd
  ·exact good_0
 ·split
  ·split
   ·exact litT_good _
   ·exact good_0
  ·split
   ·split
    ·exact good_head fun u hu=>good_mem (declT_good hm _ _) hu
    ·exact good_0
   ·split
    ·exact declT_good hm _ _
    ·split
     ·exact declT_good hm _ _
     ·split <;> exact good_0
theorem byName_mem {s:List UInt8}:∀ {l:List Tm} {i j:Nat} {f:Tm},byName s i l=some (j,f)→j < 64∧∃ p,p∈l∧f=p.l.headD T0
 | [],_,_,_,h=>by cases h
 | p::l,i,j,f,h=>by
  rw [byName] at h
  split at h
  ·next hc=>
   simp only [Option.some.injEq,Prod.mk.injEq] at h
   exact ⟨by omega,p,by simp,h.2.symm⟩
  ·obtain ⟨h1,q,hq,e⟩:=byName_mem h
   exact ⟨h1,q,by simp [hq],e⟩
theorem fieldT_good {m:Tm} (hm:good m) {n:Int} (hn:in64 n) (s:List UInt8) (of:Tm):good (fieldT m n s of).2.1∧in64 (fieldT m n s of).1:=by
 have i0:in64 0:=by simp [in64]
 unfold fieldT
 split
 ·next hd=>
  obtain ⟨g,hmem,_⟩:=declT_rec hd
  have:=good_len hm
  split
  ·exact ⟨bareT_good _ (typField_good hm n),hn⟩
  ·split
   ·next j f hb=>
    obtain ⟨h1,p,hp,e⟩:=byName_mem hb
    refine ⟨bareT_good _ ?_,by unfold in64; simp only; omega⟩
    rw [e]
    exact good_head fun u hu=>good_mem (good_mem (good_mem hm hmem) hp) hu
   ·exact ⟨good_0,i0⟩
 ·exact ⟨good_0,i0⟩
theorem ruleT_good {m:Tm} (hm:good m) {k n:Int} (hn:in64 n) (s:List UInt8) {d:Tm} (hd:good d) {p:List Tm} (hp:∀ t,t∈p→good t) (hl:p.length≤1000000):good (ruleT m k n s d p).1∧in64 (ruleT m k n s d p).2.2:=by
 have g1:good (tK 1):=good_K 1 (by simp [in64])
 have g2:good (tK 2):=good_K 2 (by simp [in64])
 unfold ruleT
 split
 ·refine ⟨?_,hn⟩
  simp only [leafT]
  repeat' split
  all_goals first | exact g1 | exact g2 | exact bareT_good _ hd
 ·split
  ·split
   ·refine ⟨?_,hn⟩
    simp only [binT]
    repeat' split
    all_goals first | exact g1 | exact g2 | exact good_0
   ·exact ⟨good_0,hn⟩
  ·split
   ·split
    ·next a=>
     split
     ·exact ⟨hp a (by simp),hn⟩
     ·exact ⟨good_0,hn⟩
    ·exact ⟨good_0,hn⟩
   ·split
    ·split
     ·next a b=>
      split
      ·exact ⟨good_head fun u hu=>good_mem (hp a (by simp)) hu,hn⟩
      ·exact ⟨good_0,hn⟩
     ·exact ⟨good_0,hn⟩
    ·split
     ·split
      ·next a=>
       split
       ·split
        ·exact fieldT_good hm hn s a
        ·exact ⟨good_0,hn⟩
       ·exact ⟨good_0,hn⟩
      ·exact ⟨good_0,hn⟩
     ·split
      ·refine ⟨?_,hn⟩
       simp only [listT]
       split
       ·split
        ·exact good_0
        ·refine (good_iff _).2 ⟨by simp [in64],by simp [in64]; omega,by simp,by simp [in64],by simp [in64],by simp,fun u hu=>?_⟩
         simp only [l_mk,List.mem_singleton] at hu
         subst hu
         exact good_head hp
       ·exact good_0
      ·split
       ·split
        ·exact ⟨(good_iff _).2 ⟨by simp [in64],hn,by simp,by simp [in64],by simp [in64],by simp,fun u hu=>by cases hu⟩,hn⟩
        ·exact ⟨good_0,hn⟩
       ·split
        ·split
         ·refine ⟨bareT_good _ (good_head fun u hu=>good_mem hd (List.mem_of_mem_tail hu)),hn⟩
         ·exact ⟨good_0,hn⟩
        ·exact ⟨good_0,hn⟩
theorem ofT_good {m:Tm} (hm:good m) {locs:List Tm} (hl:∀ t,t∈locs→good t) (t:Tm):good t→∀ a s,ofT m locs t=.ok (a,s)→good a∧good s:=by
 induction t using Tm.ind with
 | h t ih=>
  intro h a s ho
  obtain ⟨k1,k2,k3,k4,k5,k6,k7⟩:=(good_iff t).1 h
  have key:∀ l:List Tm,(∀ u,u∈l→∀ a s,ofT m locs u=.ok (a,s)→good a∧good s)→∀ ts ss,ofTs m locs l=.ok (ts,ss)→(∀ x,x∈ts→good x)∧(∀ x,x∈ss→good x)∧ts.length=l.length∧ss.length=l.length:=by
   intro l
   induction l with
   | nil=>
    intro _ ts ss h
    simp only [ofTs,Except.ok.injEq,Prod.mk.injEq] at h
    rw [←h.1,←h.2]; simp
   | cons u l ihl=>
    intro hu ts ss h
    rw [ofTs] at h
    cases hq:ofT m locs u with
    | error x=>rw [hq] at h; cases h
    | ok x=>
     obtain ⟨a,s⟩:=x
     rw [hq] at h
     cases hr:ofTs m locs l with
     | error y=>rw [hr] at h; cases h
     | ok y=>
      obtain ⟨b,c⟩:=y
      rw [hr] at h
      simp only [Except.ok.injEq,Prod.mk.injEq] at h
      obtain ⟨g1,g2⟩:=hu u (by simp) a s hq
      obtain ⟨q1,q2,q3,q4⟩:=ihl (fun v hv=>hu v (by simp [hv])) b c hr
      rw [←h.1,←h.2]
      refine ⟨fun x hx=>?_,fun x hx=>?_,by simp [q3],by simp [q4]⟩
      ·rcases List.mem_cons.1 hx with rfl | hx
       ·exact g1
       ·exact q1 x hx
      ·rcases List.mem_cons.1 hx with rfl | hx
       ·exact g2
       ·exact q2 x hx
  rw [ofT_eq] at ho
  split at ho
  ·cases ho
  ·split at ho
   ·cases ho
   ·cases hq:ofTs m locs t.l with
    | error x=>rw [hq] at ho; cases ho
    | ok x=>
     obtain ⟨ts,ss⟩:=x
     rw [hq] at ho
     simp only at ho
     obtain ⟨q1,q2,q3,q4⟩:=key t.l (fun u hu=>ih u hu (k7 u hu)) ts ss hq
     split at ho
     ·simp only [Except.ok.injEq,Prod.mk.injEq] at ho
      obtain ⟨r1,r2⟩:=ruleT_good hm (k:=t.k) k2 t.s (namedT_good hm hl t) q1 (by omega)
      rw [←ho.1,←ho.2]
      refine ⟨r1,(good_iff _).2 ⟨k1,r2,by simp,by simp [in64],by simp [in64],by simp only [l_mk]; omega,fun u hu=>q2 u hu⟩⟩
     ·cases ho
theorem ofTs_good {m:Tm} (hm:good m) {locs:List Tm} (hl:∀ t,t∈locs→good t):∀ (l ts ss:List Tm),(∀ u,u∈l→good u)→ofTs m locs l=.ok (ts,ss)→(∀ x,x∈ts→good x)
 | [],ts,ss,_,h=>by
  simp only [ofTs,Except.ok.injEq,Prod.mk.injEq] at h
  rw [←h.1]; simp
 | u::l,ts,ss,hu,h=>by
  rw [ofTs] at h
  cases hq:ofT m locs u with
  | error x=>rw [hq] at h; cases h
  | ok x=>
   obtain ⟨a,s⟩:=x
   rw [hq] at h
   cases hr:ofTs m locs l with
   | error y=>rw [hr] at h; cases h
   | ok y=>
    obtain ⟨b,c⟩:=y
    rw [hr] at h
    simp only [Except.ok.injEq,Prod.mk.injEq] at h
    have g1:=(ofT_good hm hl u (hu u (by simp)) a s hq).1
    have g2:=ofTs_good hm hl l b c (fun v hv=>hu v (by simp [hv])) hr
    rw [←h.1]
    intro x hx
    rcases List.mem_cons.1 hx with rfl | hx
    ·exact g1
    ·exact g2 x hx
theorem field_again {n:Int} {s:List UInt8} {a:Tm} (h:(fieldT m n s a).2.2=true):fieldT m (fieldT m n s a).1 [] a=fieldT m n s a:=by
 unfold fieldT at h ⊢
 split at h
 ·next hd=>
  rw [if_pos hd]
  split at h
  ·next hs=>
   rw [if_pos hs]
   simp [hd]
  ·next hs=>
   rw [if_neg hs]
   obtain ⟨g,_,hp⟩:=declT_rec hd
   split at h
   ·next i f hb=>
    simp only [hb]
    simp only [hd,if_true]
    rcases byName_up s (declT m a.n 30).1.l 0 with q | ⟨j,f',q1,_,q3,p,q4,q5,q6⟩
    ·rw [q] at hb; cases hb
    ·rw [q1] at hb
     simp only [Option.some.injEq,Prod.mk.injEq] at hb
     obtain ⟨rfl,rfl⟩:=hb
     have e1:(a.n * 64+(j:Int)).tdiv 64=a.n:=by
      rw [Int.tdiv_eq_ediv_of_nonneg (by omega)]; omega
     have e2:(a.n * 64+(j:Int)).tmod 64=j:=by
      rw [Int.tmod_eq_emod_of_nonneg (by omega)]; omega
     have hdec:(declT m a.n 30).1=m.l[a.n.toNat]'(by omega)∧(m.l[a.n.toNat]'(by omega)).k=30:=by
      unfold declT at hd ⊢
      rw [dif_pos g] at hd ⊢
      split at hd
      ·next hk=>
       rw [if_pos hk,if_neg (by omega),if_neg (by omega),if_neg (by omega)] at *
       split at hd
       ·cases hd
       ·next ha=>rw [if_neg ha]; exact ⟨rfl,hk⟩
      ·cases hd
     rw [hdec.1] at q4 hp
     rw [Nat.sub_zero] at q4
     obtain ⟨pk,x,px⟩:=hp p (List.mem_of_getElem? q4)
     have et:typField m (a.n * 64+(j:Int))=(x,true):=by
      unfold typField
      rw [dif_pos (by rw [e1]; omega)]
      simp only [e1,e2,Int.toNat_natCast,q4]
      rw [if_pos ⟨hdec.2,pk,by rw [px]; rfl⟩,px] <;> rfl
     rw [et,q6,px]
     simp [e1]
   ·cases h
 ·cases h
def tyOf (p:Tm):Tm:=p.l.headD T0
theorem kinds_ne (m:Tm):∀ (l:List Tm),kindsT m l=.ok ()→∀ x,x∈l→cellsV m x≠0
 | [],_,x,hx=>by cases hx
 | t::l,h,x,hx=>by
  rw [kindsT] at h
  split at h
  ·cases h
  ·next hz=>
   rcases List.mem_cons.1 hx with rfl | q
   ·exact hz
   ·exact kinds_ne m l h x q
theorem kinds_err (m:Tm):∀ (l:List Tm) (a b:Int),kindsT m l=.error (a,b)→b≠0
 | [],a,b,h=>by cases h
 | t::l,a,b,h=>by
  rw [kindsT] at h
  split at h
  ·simp only [Except.error.injEq,Prod.mk.injEq] at h; omega
  ·exact kinds_err m l a b h
theorem plains_err (m:Tm):∀ (l:List Tm) (a b:Int),plainsT m l=.error (a,b)→b≠0
 | [],a,b,h=>by cases h
 | t::l,a,b,h=>by
  rw [plainsT] at h
  split at h
  ·simp only [Except.error.injEq,Prod.mk.injEq] at h; omega
  ·exact plains_err m l a b h
end Go.Nt.Li
