/-
  WHAT A TERM DOES ITSELF (effect.see), walked: what it writes and calls.
  No condition.
-/
import Derived.Test.YtnflammoeakgfaaGreatLiAdd
import Derived.Test.YtnflammoeakgfaaGreatLiW6
import Derived.Test.YtnflammoeakgfaaGreatLiPl
set_option linter.unusedSimpArgs false
set_option maxRecDepth 20000
namespace Go.Nt.Li
open Go Go.Nt
theorem c166 (t:Tm) (gt:good t):∃ v,callQD T (ev T) 166 [encT t]=some (.int .i64 v):=by
 have hll:=good_len gt
 have go:Ret (ev T 166 [encT t] []) fun r _=>∃ v,r=.int .i64 v:=by
  refine Ret_wp (fn:=F166) rfl ?_
  rw [F166]
  by_cases h10:t.k=10
  ·by_cases h2:t.l.length < 2
   ·have h2':(t.l.length:Int) < 2:=by omega
    by_cases n12:t.n=12
    ·simp [h10,n12,h2']
    ·by_cases n13:t.n=13
     ·simp [h10,n13,h2']
     ·simp [h10,n12,n13]
   ·have h2':¬ (t.l.length:Int) < 2:=by omega
    have h1:(1:Int) < t.l.length:=by omega
    have h1':1 < t.l.length:=by omega
    by_cases k5:t.l[1].k=5
    ·by_cases n0:t.l[1].n=0
     ·by_cases n12:t.n=12
      ·simp [h10,n12,h2',h1,h1',k5,n0]
      ·by_cases n13:t.n=13
       ·simp [h10,n13,h2',h1,h1',k5,n0]
       ·simp [h10,n12,n13]
     ·by_cases n12:t.n=12
      ·simp [h10,n12,h2',h1,h1',k5,n0]
      ·by_cases n13:t.n=13
       ·simp [h10,n13,h2',h1,h1',k5,n0]
       ·simp [h10,n12,n13]
    ·by_cases n12:t.n=12
     ·simp [h10,n12,h2',h1,h1',k5]
     ·by_cases n13:t.n=13
      ·simp [h10,n13,h2',h1,h1',k5]
      ·simp [h10,n12,n13]
  ·by_cases h12:t.k=12
   ·simp [h12]
   ·by_cases h18:t.k=18
    ·simp [h18]
    ·by_cases h24:t.k=24
     ·simp [h24]
     ·by_cases h25:t.k=25
      ·simp [h25]
      ·by_cases h26:t.k=26
       ·simp [h26]
       ·simp [h10,h12,h18,h24,h25,h26]
 obtain ⟨r,st',h1,v,rfl⟩:=go
 refine ⟨v,?_⟩
 have hT:T 166=some F166:=rfl
 have hm:F166.mode=.pure:=rfl
 simp [callQD,hT,hm,h1]
def Fr (base:Nat) (st st':St):Prop:=st.length≤st'.length∧∀ i,i < base→St.at st' i=St.at st i
theorem Fr.refl (base:Nat) (st:St):Fr base st st:=⟨Nat.le_refl _,fun _ _=>rfl⟩
theorem Fr.trans {base:Nat} {a b c:St} (h:Fr base a b) (k:Fr base b c):Fr base a c:=⟨Nat.le_trans h.1 k.1,fun i hi=>(k.2 i hi).trans (h.2 i hi)⟩
abbrev owO (md:Nat) (dr dw dc:D) (fl:Int):Ob:=.cells true 4 0 md false [.agg [dr,dw,dc,.int .i64 fl]]
def apart (a b:D):Prop:=∀ i,rid a=some i→rid b≠some i
def RowB (base:Nat) (st:St) (d:D) (l:List Int) (N:Nat):Prop:=RowI st d l∧rises l=true∧l.length≤N∧∀ i,rid d=some i→base≤i
structure OwnA (base:Nat) (st:St) (id:Nat) (R W C:List Int) (N md:Nat) (dr dw dc:D) (fl:Int):Prop where
 lt:id < st.length
 ge:base≤id
 at':St.at st id=owO md dr dw dc fl
 r:RowB base st dr R N
 w:RowB base st dw W N
 c:RowB base st dc C N
 rw:apart dr dw
 rc:apart dr dc
 wc:apart dw dc
def Own (base:Nat) (st:St) (id:Nat) (W C:List Int) (N:Nat):Prop:=∃ R md dr dw dc fl,OwnA base st id R W C N md dr dw dc fl
theorem RowB.keep {base:Nat} {st st':St} {d:D} {l:List Int} {N N':Nat} (h:RowB base st d l N) (hl:st.length≤st'.length) (ha:∀ i,rid d=some i→St.at st' i=St.at st i) (hN:N≤N'):RowB base st' d l N':=
 ⟨h.1.keep hl ha,h.2.1,Nat.le_trans h.2.2.1 hN,h.2.2.2⟩
theorem Own.more {base:Nat} {st:St} {id:Nat} {W C:List Int} {N N':Nat} (h:Own base st id W C N) (hN:N≤N'):Own base st id W C N':=by
 obtain ⟨R,md,dr,dw,dc,fl,h⟩:=h
 exact ⟨R,md,dr,dw,dc,fl,h.lt,h.ge,h.at',h.r.keep (Nat.le_refl _) (fun _ _=>rfl) hN,h.w.keep (Nat.le_refl _) (fun _ _=>rfl) hN,h.c.keep (Nat.le_refl _) (fun _ _=>rfl) hN,h.rw,h.rc,h.wc⟩
theorem apart.symm {a b:D} (h:apart a b):apart b a:=fun i hb ha=>h i ha hb
theorem row_add {base:Nat} {st:St} {d:D} {l:List Int} {N:Nat} (h:RowB base st d l N) (hb:base≤st.length) (hN:N≤1000000) (n:Int) :
  ∃ d' st',callD T (ev T) 94 [d,.int .i64 n] st=some (d',st')∧RowB base st' d' (insI n l) (N+1)∧Fr base st st'∧(∀ i,i < st.length→rid d≠some i→St.at st' i=St.at st i)∧d'.okv=true∧d'.cells=[d'] ∧
   ∀ e,(∀ i,rid e=some i→i < st.length)→apart d e→apart d' e:=by
 obtain ⟨d',st',q,r,hl,hf,hi⟩:=c94 h.1 h.2.1 (by have:=h.2.2.1; omega) n
 have hlen:=insI_len n l
 have h3:=h.2.2.1
 obtain ⟨f1,f2,_⟩:=r.facts
 refine ⟨d',st',q,⟨r,rises_insI h.2.1,by omega,fun i hi'=>?_⟩,⟨hl,fun i hi'=>hf i (by omega) fun e=>by have:=h.2.2.2 i e; omega⟩,hf,f1,f2,fun e he ha i hi' hei=>?_⟩
 ·rcases hi with hi | ⟨k,hk,hk2⟩
  ·exact h.2.2.2 i (by rw [←hi]; exact hi')
  ·rw [hk] at hi'; cases hi'; omega
 ·rcases hi with hi | ⟨k,hk,hk2⟩
  ·exact ha i (by rw [←hi]; exact hi') hei
  ·rw [hk] at hi'; cases hi'; have:=he _ hei; omega
theorem RowB.ne {base:Nat} {st:St} {d:D} {l:List Int} {N id md sz:Nat} {el:List D} (h:RowB base st d l N) (ha:St.at st id=.cells true sz 0 md false el):rid d≠some id:=fun e=>by
 obtain ⟨_,v,m,e2,h2⟩:=h.1.lt e
 rw [ha] at h2; cases h2
theorem RowB.put {base:Nat} {st st1:St} {d:D} {l:List Int} {N id md:Nat} {el:List D} {ob:Ob} (h:RowB base st d l N) (hid:id < st.length) (ha:St.at st id=.cells true 4 0 md false el) (hl:st.length≤st1.length)
  (hf:∀ i,rid d=some i→St.at st1 i=St.at st i):RowB base (List.set st1 id ob) d l (N+1):=
 h.keep (by simpa using hl) (fun i hi=>by rw [at_set _ _ _ _ (by omega),if_neg (fun e=>h.ne ha (by rw [←e]; exact hi))]; exact hf i hi) (by omega)
theorem RowB.put' {base:Nat} {st1:St} {d:D} {l:List Int} {N id md:Nat} {el:List D} {ob:Ob} (h:RowB base st1 d l N) (hid:id < st1.length) (ha:St.at st1 id=.cells true 4 0 md false el):RowB base (List.set st1 id ob) d l N:=
 h.keep (by simp) (fun i hi=>by rw [at_set _ _ _ _ hid,if_neg (fun e=>h.ne ha (by rw [←e]; exact hi))]) (by omega)
theorem own_w {base:Nat} {st:St} {id:Nat} {R W C:List Int} {N md:Nat} {dr dw dc:D} {fl:Int} (h:OwnA base st id R W C N md dr dw dc fl) (hN:N≤1000000) (n:Int) :
  ∃ dw' st1,callD T (ev T) 94 [dw,.int .i64 n] st=some (dw',st1)∧dw'.okv=true∧dw'.cells=[dw']∧St.at st1 id=owO md dr dw dc fl∧id < st1.length∧Fr base st st1∧OwnA base (List.set st1 id (owO (md+1) dr dw' dc fl)) id R (insI n W) C (N+1) (md+1) dr dw' dc fl:=by
 have hlt:=h.lt; have hge:=h.ge; have hat:=h.at'
 obtain ⟨dw',st1,q,r1,f,hf,o1,o2,ha⟩:=row_add h.w (by omega) hN n
 have hat1:St.at st1 id=owO md dr dw dc fl:=by rw [hf id hlt (h.w.ne hat)]; exact hat
 have hl1:id < st1.length:=Nat.lt_of_lt_of_le hlt f.1
 have kr:=h.r.put (ob:=owO (md+1) dr dw' dc fl) hlt hat f.1 (fun i hi=>hf i (h.r.1.lt hi).1 fun e=>h.rw i hi e)
 have kc:=h.c.put (ob:=owO (md+1) dr dw' dc fl) hlt hat f.1 (fun i hi=>hf i (h.c.1.lt hi).1 fun e=>h.wc i e hi)
 refine ⟨dw',st1,q,o1,o2,hat1,hl1,f,by simpa using hl1,hge,by rw [at_set _ _ _ _ hl1,if_pos rfl],kr,r1.put' hl1 hat1,kc,?_,h.rc,?_⟩
 ·exact (ha dr (fun i hi=>(h.r.1.lt hi).1) h.rw.symm).symm
 ·exact ha dc (fun i hi=>(h.c.1.lt hi).1) h.wc
theorem own_r {base:Nat} {st:St} {id:Nat} {R W C:List Int} {N md:Nat} {dr dw dc:D} {fl:Int} (h:OwnA base st id R W C N md dr dw dc fl) (hN:N≤1000000) (n:Int) :
  ∃ dr' st1,callD T (ev T) 94 [dr,.int .i64 n] st=some (dr',st1)∧dr'.okv=true∧dr'.cells=[dr']∧St.at st1 id=owO md dr dw dc fl∧id < st1.length∧Fr base st st1∧OwnA base (List.set st1 id (owO (md+1) dr' dw dc fl)) id (insI n R) W C (N+1) (md+1) dr' dw dc fl:=by
 have hlt:=h.lt; have hge:=h.ge; have hat:=h.at'
 obtain ⟨dr',st1,q,r1,f,hf,o1,o2,ha⟩:=row_add h.r (by omega) hN n
 have hat1:St.at st1 id=owO md dr dw dc fl:=by rw [hf id hlt (h.r.ne hat)]; exact hat
 have hl1:id < st1.length:=Nat.lt_of_lt_of_le hlt f.1
 have kw:=h.w.put (ob:=owO (md+1) dr' dw dc fl) hlt hat f.1 (fun i hi=>hf i (h.w.1.lt hi).1 fun e=>h.rw i e hi)
 have kc:=h.c.put (ob:=owO (md+1) dr' dw dc fl) hlt hat f.1 (fun i hi=>hf i (h.c.1.lt hi).1 fun e=>h.rc i e hi)
 refine ⟨dr',st1,q,o1,o2,hat1,hl1,f,by simpa using hl1,hge,by rw [at_set _ _ _ _ hl1,if_pos rfl],r1.put' hl1 hat1,kw,kc,?_,?_,h.wc⟩
 ·exact ha dw (fun i hi=>(h.w.1.lt hi).1) h.rw
 ·exact ha dc (fun i hi=>(h.c.1.lt hi).1) h.rc
theorem own_c {base:Nat} {st:St} {id:Nat} {R W C:List Int} {N md:Nat} {dr dw dc:D} {fl:Int} (h:OwnA base st id R W C N md dr dw dc fl) (hN:N≤1000000) (n:Int) :
  ∃ dc' st1,callD T (ev T) 94 [dc,.int .i64 n] st=some (dc',st1)∧dc'.okv=true∧dc'.cells=[dc']∧St.at st1 id=owO md dr dw dc fl∧id < st1.length∧Fr base st st1∧OwnA base (List.set st1 id (owO (md+1) dr dw dc' fl)) id R W (insI n C) (N+1) (md+1) dr dw dc' fl:=by
 have hlt:=h.lt; have hge:=h.ge; have hat:=h.at'
 obtain ⟨dc',st1,q,r1,f,hf,o1,o2,ha⟩:=row_add h.c (by omega) hN n
 have hat1:St.at st1 id=owO md dr dw dc fl:=by rw [hf id hlt (h.c.ne hat)]; exact hat
 have hl1:id < st1.length:=Nat.lt_of_lt_of_le hlt f.1
 have kr:=h.r.put (ob:=owO (md+1) dr dw dc' fl) hlt hat f.1 (fun i hi=>hf i (h.r.1.lt hi).1 fun e=>h.rc i hi e)
 have kw:=h.w.put (ob:=owO (md+1) dr dw dc' fl) hlt hat f.1 (fun i hi=>hf i (h.w.1.lt hi).1 fun e=>h.wc i hi e)
 refine ⟨dc',st1,q,o1,o2,hat1,hl1,f,by simpa using hl1,hge,by rw [at_set _ _ _ _ hl1,if_pos rfl],kr,kw,r1.put' hl1 hat1,h.rw,?_,?_⟩
 ·exact (ha dr (fun i hi=>(h.r.1.lt hi).1) h.rc.symm).symm
 ·exact (ha dw (fun i hi=>(h.w.1.lt hi).1) h.wc.symm).symm
theorem own_f {base:Nat} {st:St} {id:Nat} {R W C:List Int} {N md:Nat} {dr dw dc:D} {fl fl':Int} (h:OwnA base st id R W C N md dr dw dc fl) :
  OwnA base (List.set st id (owO (md+1) dr dw dc fl')) id R W C N (md+1) dr dw dc fl':=
 ⟨by simpa using h.lt,h.ge,by rw [at_set _ _ _ _ h.lt,if_pos rfl],h.r.put' h.lt h.at',h.w.put' h.lt h.at',h.c.put' h.lt h.at',h.rw,h.rc,h.wc⟩
theorem Fr.set {base:Nat} {st st1:St} {id:Nat} {ob:Ob} (h:Fr base st st1) (hge:base≤id) (hl:id < st1.length):Fr base st (List.set st1 id ob):=
 ⟨by simpa using h.1,fun i hi=>by rw [at_set _ _ _ _ hl,if_neg (by omega)]; exact h.2 i hi⟩
def Sees (base:Nat) (st:St) (id:Nat) (W C:List Int) (N n:Nat) (ws cs:List Int) (st':St):Prop:=
 ∃ W' C',Own base st' id W' C' (N+n)∧(∀ x,x∈W'↔x∈W∨x∈ws)∧(∀ x,x∈C'↔x∈C∨x∈cs)∧Fr base st st'
def SeeC (k:Nat) (t:Tm):Prop:=∀ base st id W C N,Own base st id W C N→N+2 * cntT t≤1000000→∃ st',callD T (ev T) k [.hp id 0 4 0 0,encT t] st=some (.tup [],st')∧Sees base st id W C N (2 * cntT t) (wrT t) (caT t) st'
theorem Sees.refl {base:Nat} {st:St} {id:Nat} {W C:List Int} {N:Nat} (h:Own base st id W C N):Sees base st id W C N 0 [] [] st:=⟨W,C,h,by simp,by simp,Fr.refl _ _⟩
theorem Sees.trans {base:Nat} {st st1 st2:St} {id:Nat} {W C:List Int} {N n n':Nat} {ws cs ws' cs':List Int} (h:Sees base st id W C N n ws cs st1)
  (k:∀ W' C',Own base st1 id W' C' (N+n)→Sees base st1 id W' C' (N+n) n' ws' cs' st2):Sees base st id W C N (n+n') (ws++ws') (cs++cs') st2:=by
 obtain ⟨W1,C1,h1,h2,h3,h4⟩:=h
 obtain ⟨W2,C2,k1,k2,k3,k4⟩:=k W1 C1 h1
 exact ⟨W2,C2,by rw [←Nat.add_assoc]; exact k1,fun x=>by rw [k2,h2,List.mem_append,or_assoc],fun x=>by rw [k3,h3,List.mem_append,or_assoc],h4.trans k4⟩
theorem l122_1 (fl:Fl) (l:List Tm) (hl:l.length≤1000000) (hc:∀ u,u∈l→SeeC 122 u):∀ (r i:Nat) (s:List D) (bx:List (Nat × List D)) (base:Nat) (st:St) (id:Nat) (W C:List Int) (N:Nat),r=l.length - i→i≤l.length→Own base st id W C N→N+2 * cntTs (l.drop i)≤1000000 →
  get s 0=.hp id 0 4 0 0→get s 103=slE 6 fl (encTs l)→get s 104=.i l.length→get s 105=.i i →
  Stops (lp T L122_1 ⟨⟨s,bx⟩,st⟩) fun ex _ _ st'=>ex=.exit 3∧Sees base st id W C N (2 * cntTs (l.drop i)) (wrTs (l.drop i)) (caTs (l.drop i)) st':=by
 intro r
 induction r with
 | zero=>
  intro i s bx base st id W C N hr hi ho hN h0 h1 h2 h3
  have ei:i=l.length:=by omega
  subst ei
  refine Stops_wp L122_1.eq_1 ?_
  rw [List.drop_length,wrTs,caTs,cntTs]
  simp [h0,h1,h2,h3]
  exact Sees.refl ho
 | succ r ihr=>
  intro i s bx base st id W C N hr hi ho hN h0 h1 h2 h3
  have hlt:i < l.length:=by omega
  have hw:IntKind.wrap .i64 ((i:Int)+1)=((i+1:Nat):Int):=by rw [wrap64] <;> omega
  rw [List.drop_eq_getElem_cons hlt,cntTs] at hN
  obtain ⟨st1,q,h⟩:=hc _ (List.getElem_mem hlt) base st id W C N ho (by omega)
  obtain ⟨W1,C1,k1,k2,k3,k4⟩:=h
  have nx:=fun s' bx'=>ihr (i+1) s' bx' base st1 id W1 C1 _ (by omega) (by omega) k1 (by omega)
  refine Stops_wp L122_1.eq_1 ?_
  simp [h0,h1,h2,h3,hlt,hw,←encT_eq,q,-Int.natCast_add]
  refine (nx _ _ ?_ ?_ ?_ ?_).mono ?_
  iterate 4 simp [h0,h1,h2]
  rintro e s' b' st' ⟨rfl,h5⟩
  refine ⟨rfl,?_⟩
  rw [List.drop_eq_getElem_cons hlt,wrTs,caTs,cntTs,Nat.mul_add]
  obtain ⟨W2,C2,m1,m2,m3,m4⟩:=h5
  exact ⟨W2,C2,by rw [←Nat.add_assoc]; exact m1,fun x=>by rw [m2,k2,List.mem_append,or_assoc],fun x=>by rw [m3,k3,List.mem_append,or_assoc],k4.trans m4⟩
theorem l122_0 (fl:Fl) (l:List Tm) (hl:l.length≤1000000) (hc:∀ u,u∈l→SeeC 122 u):∀ (r i:Nat) (s:List D) (bx:List (Nat × List D)) (base:Nat) (st:St) (id:Nat) (W C:List Int) (N:Nat),r=l.length - i→i≤l.length→Own base st id W C N→N+2 * cntTs (l.drop i)≤1000000 →
  get s 0=.hp id 0 4 0 0→get s 92=slE 6 fl (encTs l)→get s 93=.i l.length→get s 94=.i i →
  Stops (lp T L122_0 ⟨⟨s,bx⟩,st⟩) fun ex _ _ st'=>ex=.exit 1∧Sees base st id W C N (2 * cntTs (l.drop i)) (wrTs (l.drop i)) (caTs (l.drop i)) st':=by
 intro r
 induction r with
 | zero=>
  intro i s bx base st id W C N hr hi ho hN h0 h1 h2 h3
  have ei:i=l.length:=by omega
  subst ei
  refine Stops_wp L122_0.eq_1 ?_
  rw [List.drop_length,wrTs,caTs,cntTs]
  simp [h0,h1,h2,h3]
  exact Sees.refl ho
 | succ r ihr=>
  intro i s bx base st id W C N hr hi ho hN h0 h1 h2 h3
  have hlt:i < l.length:=by omega
  have hw:IntKind.wrap .i64 ((i:Int)+1)=((i+1:Nat):Int):=by rw [wrap64] <;> omega
  rw [List.drop_eq_getElem_cons hlt,cntTs] at hN
  obtain ⟨st1,q,h⟩:=hc _ (List.getElem_mem hlt) base st id W C N ho (by omega)
  obtain ⟨W1,C1,k1,k2,k3,k4⟩:=h
  have nx:=fun s' bx'=>ihr (i+1) s' bx' base st1 id W1 C1 _ (by omega) (by omega) k1 (by omega)
  refine Stops_wp L122_0.eq_1 ?_
  simp [h0,h1,h2,h3,hlt,hw,←encT_eq,q,-Int.natCast_add]
  refine (nx _ _ ?_ ?_ ?_ ?_).mono ?_
  iterate 4 simp [h0,h1,h2]
  rintro e s' b' st' ⟨rfl,h5⟩
  refine ⟨rfl,?_⟩
  rw [List.drop_eq_getElem_cons hlt,wrTs,caTs,cntTs,Nat.mul_add]
  obtain ⟨W2,C2,m1,m2,m3,m4⟩:=h5
  exact ⟨W2,C2,by rw [←Nat.add_assoc]; exact m1,fun x=>by rw [m2,k2,List.mem_append,or_assoc],fun x=>by rw [m3,k3,List.mem_append,or_assoc],k4.trans m4⟩
theorem l167_0 (fl:Fl) (l:List Tm) (hl:l.length≤1000000) (hc:∀ u,u∈l→SeeC 122 u):∀ (r i:Nat) (s:List D) (bx:List (Nat × List D)) (base:Nat) (st:St) (id:Nat) (W C:List Int) (N:Nat),r=l.length - i→i≤l.length→Own base st id W C N→N+2 * cntTs (l.drop i)≤1000000 →
  get s 0=.hp id 0 4 0 0→get s 39=slE 6 fl (encTs l)→get s 40=.i l.length→get s 41=.i i →
  Stops (lp T L167_0 ⟨⟨s,bx⟩,st⟩) fun ex _ _ st'=>ex=.exit 0∧Sees base st id W C N (2 * cntTs (l.drop i)) (wrTs (l.drop i)) (caTs (l.drop i)) st':=by
 intro r
 induction r with
 | zero=>
  intro i s bx base st id W C N hr hi ho hN h0 h1 h2 h3
  have ei:i=l.length:=by omega
  subst ei
  refine Stops_wp L167_0.eq_1 ?_
  rw [List.drop_length,wrTs,caTs,cntTs]
  simp [h0,h1,h2,h3]
  exact Sees.refl ho
 | succ r ihr=>
  intro i s bx base st id W C N hr hi ho hN h0 h1 h2 h3
  have hlt:i < l.length:=by omega
  have hw:IntKind.wrap .i64 ((i:Int)+1)=((i+1:Nat):Int):=by rw [wrap64] <;> omega
  rw [List.drop_eq_getElem_cons hlt,cntTs] at hN
  obtain ⟨st1,q,h⟩:=hc _ (List.getElem_mem hlt) base st id W C N ho (by omega)
  obtain ⟨W1,C1,k1,k2,k3,k4⟩:=h
  have nx:=fun s' bx'=>ihr (i+1) s' bx' base st1 id W1 C1 _ (by omega) (by omega) k1 (by omega)
  refine Stops_wp L167_0.eq_1 ?_
  simp [h0,h1,h2,h3,hlt,hw,←encT_eq,q,-Int.natCast_add]
  refine (nx _ _ ?_ ?_ ?_ ?_).mono ?_
  iterate 4 simp [h0,h1,h2]
  rintro e s' b' st' ⟨rfl,h5⟩
  refine ⟨rfl,?_⟩
  rw [List.drop_eq_getElem_cons hlt,wrTs,caTs,cntTs,Nat.mul_add]
  obtain ⟨W2,C2,m1,m2,m3,m4⟩:=h5
  exact ⟨W2,C2,by rw [←Nat.add_assoc]; exact m1,fun x=>by rw [m2,k2,List.mem_append,or_assoc],fun x=>by rw [m3,k3,List.mem_append,or_assoc],k4.trans m4⟩
theorem l167_1 (fl:Fl) (l:List Tm) (hl:l.length≤1000000) (hc:∀ u,u∈l→SeeC 122 u):∀ (r i:Nat) (s:List D) (bx:List (Nat × List D)) (base:Nat) (st:St) (id:Nat) (W C:List Int) (N:Nat),r=l.length - i→i≤l.length→Own base st id W C N→N+2 * cntTs (l.drop i)≤1000000 →
  get s 0=.hp id 0 4 0 0→get s 56=slE 6 fl (encTs l)→get s 57=.i l.length→get s 58=.i i →
  Stops (lp T L167_1 ⟨⟨s,bx⟩,st⟩) fun ex _ _ st'=>ex=.exit 2∧Sees base st id W C N (2 * cntTs (l.drop i)) (wrTs (l.drop i)) (caTs (l.drop i)) st':=by
 intro r
 induction r with
 | zero=>
  intro i s bx base st id W C N hr hi ho hN h0 h1 h2 h3
  have ei:i=l.length:=by omega
  subst ei
  refine Stops_wp L167_1.eq_1 ?_
  rw [List.drop_length,wrTs,caTs,cntTs]
  simp [h0,h1,h2,h3]
  exact Sees.refl ho
 | succ r ihr=>
  intro i s bx base st id W C N hr hi ho hN h0 h1 h2 h3
  have hlt:i < l.length:=by omega
  have hw:IntKind.wrap .i64 ((i:Int)+1)=((i+1:Nat):Int):=by rw [wrap64] <;> omega
  rw [List.drop_eq_getElem_cons hlt,cntTs] at hN
  obtain ⟨st1,q,h⟩:=hc _ (List.getElem_mem hlt) base st id W C N ho (by omega)
  obtain ⟨W1,C1,k1,k2,k3,k4⟩:=h
  have nx:=fun s' bx'=>ihr (i+1) s' bx' base st1 id W1 C1 _ (by omega) (by omega) k1 (by omega)
  refine Stops_wp L167_1.eq_1 ?_
  simp [h0,h1,h2,h3,hlt,hw,←encT_eq,q,-Int.natCast_add]
  refine (nx _ _ ?_ ?_ ?_ ?_).mono ?_
  iterate 4 simp [h0,h1,h2]
  rintro e s' b' st' ⟨rfl,h5⟩
  refine ⟨rfl,?_⟩
  rw [List.drop_eq_getElem_cons hlt,wrTs,caTs,cntTs,Nat.mul_add]
  obtain ⟨W2,C2,m1,m2,m3,m4⟩:=h5
  exact ⟨W2,C2,by rw [←Nat.add_assoc]; exact m1,fun x=>by rw [m2,k2,List.mem_append,or_assoc],fun x=>by rw [m3,k3,List.mem_append,or_assoc],k4.trans m4⟩
def orI (a b:Int):Int:=IntKind.wrap .i64 (BitVec.ofInt 64 a ||| BitVec.ofInt 64 b).toNat
theorem or_i (a b:Int):intD .or .i64 .i64 a b=some (.int .i64 (orI a b)):=(rfl)
theorem c122 (t:Tm) (gt:good t) (ih:∀ u,u∈t.l→SeeC 122 u∧SeeC 167 u):SeeC 122 t:=by
 intro base st id W C N ho hN
 have hll:=good_len gt
 obtain ⟨R,md,dr,dw,dc,fl,h⟩:=ho
 obtain ⟨v,qf⟩:=c166 t gt
 have h1:=own_f (fl':=orI fl v) h
 have hat:=h.at'
 have hat1:=h1.at'
 have hlt:=h.lt
 obtain ⟨r1,r2,r3,_⟩:=h.r.1.facts
 obtain ⟨w1,w2,w3,_⟩:=h.w.1.facts
 obtain ⟨c1,c2,c3,_⟩:=h.c.1.facts
 rw [callD_rawE (fn:=F122) rfl rfl (by simp)]
 have e:=cntT_eq t
 have lo:=fun s bx=>l122_1 t.fl t.l hll (fun u hu=>(ih u hu).1) t.l.length 0 s bx base
 have go:Ret (ev T 122 [.hp id 0 4 0 0,encT t] st) fun r st'=>r=.tup []∧Sees base st id W C N (2 * cntT t) (wrT t) (caT t) st':=by
  refine Ret_wp (fn:=F122) rfl ?_
  rw [F122]
  by_cases k9:t.k=9
  ·have ew:wrT t=wrTs t.l:=by rw [wrT_eq,wr0,if_neg (fun q=>by rw [k9] at q; exact absurd q.1.1 (by decide))]; rfl
   have ec:caT t=caTs t.l:=by rw [caT_eq,ca0,if_neg (by rw [k9]; decide)]; rfl
   obtain ⟨d',st2,q94,o1,o2,hat2,hlt2,f2,h2⟩:=own_r h1 (by omega) t.n
   rw [encT_eq t,k9] at qf
   simp only [owO] at q94 hat1 hat2
   simp [k9,hat,hlt,hat1,qf,or_i,splice,rewrap,kHs,r1,r2,r3,w1,w2,w3,c1,c2,c3,q94,o1,o2,hat2,hlt2]
   refine WL.use L122_1_p L122_1_w (lo _ _ _ _ _ _ _ (by omega) (by omega) ⟨_,_,_,_,_,_,h2⟩ (by rw [List.drop_zero]; omega) ?_ ?_ ?_ ?_) ?_
   iterate 4 simp
   rintro e' s' b' st' ⟨rfl,p⟩ hf
   simp
   rw [List.drop_zero] at p
   obtain ⟨W2,C2,m1,m2,m3,m4⟩:=p
   refine ⟨W2,C2,m1.more (by omega),by rw [ew]; exact m2,?_,(((Fr.refl base st).set h.ge hlt).trans (f2.set h.ge hlt2)).trans m4⟩
   rw [ec]; exact m3
  ·by_cases k16:t.k=16
   ·have ew:wrT t=wrTs t.l:=by rw [wrT_eq,wr0,if_neg (fun q=>by rw [k16] at q; exact absurd q.1.1 (by decide))]; rfl
    have ec:caT t=t.n::caTs t.l:=by rw [caT_eq,ca0,if_pos k16]; rfl
    obtain ⟨d',st2,q94,o1,o2,hat2,hlt2,f2,h2⟩:=own_c h1 (by omega) t.n
    rw [encT_eq t,k16] at qf
    simp only [owO] at q94 hat1 hat2
    simp [k16,hat,hlt,hat1,qf,or_i,splice,rewrap,kHs,r1,r2,r3,w1,w2,w3,c1,c2,c3,q94,o1,o2,hat2,hlt2]
    refine WL.use L122_1_p L122_1_w (lo _ _ _ _ _ _ _ (by omega) (by omega) ⟨_,_,_,_,_,_,h2⟩ (by rw [List.drop_zero]; omega) ?_ ?_ ?_ ?_) ?_
    iterate 4 simp
    rintro e' s' b' st' ⟨rfl,p⟩ hf
    simp
    rw [List.drop_zero] at p
    obtain ⟨W2,C2,m1,m2,m3,m4⟩:=p
    refine ⟨W2,C2,m1.more (by omega),by rw [ew]; exact m2,?_,(((Fr.refl base st).set h.ge hlt).trans (f2.set h.ge hlt2)).trans m4⟩
    intro x; rw [ec,m3,mem_insI,List.mem_cons,or_comm (a:=x=t.n),or_assoc]
   ·by_cases k22:t.k=22
    ·rw [encT_eq t,k22] at qf
     simp only [owO] at hat1
     cases hl:t.l with
     | nil=>
      rw [hl,encTs_nil] at qf
      simp [k22,hl,hat,hlt,qf,or_i,splice,rewrap,kHs,r1,r2,r3,w1,w2,w3,c1,c2,c3]
      refine ⟨W,C,Own.more ⟨_,_,_,_,_,_,h1⟩ (by omega),fun y=>by rw [wrT_eq,wr0,hl]; simp [wrTs],fun y=>by rw [caT_eq,ca0,hl]; simp [caTs,k22],(Fr.refl base st).set h.ge hlt⟩
     | cons x r=>
      have gx:good x:=good_mem gt (by rw [hl]; simp)
      have qr:=fun st=>c56 x gx st
      have hx:=(ih x (by rw [hl]; simp)).2
      have lo0:=fun fl s bx=>l122_0 fl r (by have:=hll; rw [hl] at this; simp at this; omega) (fun u hu=>(ih u (by rw [hl]; simp [hu])).1) r.length 0 s bx base
      have e2:cntTs t.l=cntT x+cntTs r:=by rw [hl,cntTs]
      have ewl:wrTs t.l=wrT x++wrTs r:=by rw [hl,wrTs]
      have ec:caT t=caT x++caTs r:=by rw [caT_eq,ca0,if_neg k16,hl,caTs]; rfl
      rw [hl,encTs_cons] at qf
      rw [encT_eq (rootT x)] at qr
      by_cases r9:(rootT x).k=9
      ·have ew:wrT t=(rootT x).n::(wrT x++wrTs r):=by
        rw [wrT_eq,wr0,hl,if_pos ⟨⟨k22,by simp⟩,r9⟩,←hl,ewl,hl]; rfl
       obtain ⟨dw',s2,q94,o1,o2,hat2,hlt2,f2,h2⟩:=own_w h1 (by omega) (rootT x).n
       simp only [owO] at q94 hat2
       rw [r9] at qr
       by_cases x9:x.k=9
       ·obtain ⟨st3,q3,W3,C3,n1,n2,n3,n4⟩:=hx base _ id (insI (rootT x).n W) C _ ⟨_,_,_,_,_,_,h2⟩ (by omega)
        simp only [owO] at q3
        simp [k22,hl,hat,hlt,hat1,qf,or_i,splice,rewrap,kHs,r1,r2,r3,w1,w2,w3,c1,c2,c3,qr,x9,q94,o1,o2,hat2,hlt2,q3]
        refine WL.use L122_0_p L122_0_w (lo0 (t.fl.sub (encT x::encTs r)) _ _ _ _ _ _ _ (by omega) (by omega) n1 (by rw [List.drop_zero]; omega) ?_ ?_ ?_ ?_) ?_
        iterate 4 simp [encT_eq x,x9]
        rintro e' s' b' st' ⟨rfl,p⟩ hf
        simp
        rw [List.drop_zero] at p
        obtain ⟨W2,C2,m1,m2,m3,m4⟩:=p
        exact ⟨W2,C2,m1.more (by omega),fun y=>by rw [ew,m2,n2,mem_insI,List.mem_cons,List.mem_append,or_comm (a:=y=(rootT x).n)]; simp only [or_assoc],fun y=>by rw [ec,m3,n3,List.mem_append,or_assoc],((((Fr.refl base st).set h.ge hlt).trans (f2.set h.ge hlt2)).trans n4).trans m4⟩
       ·obtain ⟨dr',s3,q95,p1,p2,hat3,hlt3,f3,h3⟩:=own_r h2 (by omega) (rootT x).n
        have hat4:=h2.at'
        simp only [owO] at q95 hat3 hat4
        obtain ⟨st3,q3,W3,C3,n1,n2,n3,n4⟩:=hx base _ id (insI (rootT x).n W) C _ ⟨_,_,_,_,_,_,h3⟩ (by omega)
        simp only [owO] at q3
        simp [k22,hl,hat,hlt,hat1,qf,or_i,splice,rewrap,kHs,r1,r2,r3,w1,w2,w3,c1,c2,c3,←encT_eq x,qr,x9,q94,o1,o2,hat2,hlt2,hat4,q95,p1,p2,hat3,hlt3,q3]
        refine WL.use L122_0_p L122_0_w (lo0 (t.fl.sub (encT x::encTs r)) _ _ _ _ _ _ _ (by omega) (by omega) n1 (by rw [List.drop_zero]; omega) ?_ ?_ ?_ ?_) ?_
        iterate 4 simp
        rintro e' s' b' st' ⟨rfl,p⟩ hf
        simp
        rw [List.drop_zero] at p
        obtain ⟨W2,C2,m1,m2,m3,m4⟩:=p
        exact ⟨W2,C2,m1.more (by omega),fun y=>by rw [ew,m2,n2,mem_insI,List.mem_cons,List.mem_append,or_comm (a:=y=(rootT x).n)]; simp only [or_assoc],fun y=>by rw [ec,m3,n3,List.mem_append,or_assoc],(((((Fr.refl base st).set h.ge hlt).trans (f2.set h.ge hlt2)).trans (f3.set h.ge hlt3)).trans n4).trans m4⟩
      ·have ew:wrT t=wrT x++wrTs r:=by
        rw [wrT_eq,wr0,if_neg (fun q=>r9 (by have:=q.2; rw [hl] at this; exact this)),ewl]; rfl
       obtain ⟨st3,q3,W3,C3,n1,n2,n3,n4⟩:=hx base _ id W C N ⟨_,_,_,_,_,_,h1⟩ (by omega)
       simp only [owO] at q3
       simp [k22,hl,hat,hlt,qf,or_i,splice,rewrap,kHs,r1,r2,r3,w1,w2,w3,c1,c2,c3,←encT_eq x,qr,r9,q3]
       refine WL.use L122_0_p L122_0_w (lo0 (t.fl.sub (encT x::encTs r)) _ _ _ _ _ _ _ (by omega) (by omega) n1 (by rw [List.drop_zero]; omega) ?_ ?_ ?_ ?_) ?_
       iterate 4 simp
       rintro e' s' b' st' ⟨rfl,p⟩ hf
       simp
       rw [List.drop_zero] at p
       obtain ⟨W2,C2,m1,m2,m3,m4⟩:=p
       exact ⟨W2,C2,m1.more (by omega),fun y=>by rw [ew,m2,n2,List.mem_append,or_assoc],fun y=>by rw [ec,m3,n3,List.mem_append,or_assoc],(((Fr.refl base st).set h.ge hlt).trans n4).trans m4⟩
    ·have ew:wrT t=wrTs t.l:=by rw [wrT_eq,wr0,if_neg (fun q=>k22 q.1.1)]; rfl
     have ec:caT t=caTs t.l:=by rw [caT_eq,ca0,if_neg k16]; rfl
     simp [k9,k16,k22,hat,hlt,qf,←encT_eq t,or_i,splice,rewrap,kHs,r1,r2,r3,w1,w2,w3,c1,c2,c3]
     refine WL.use L122_1_p L122_1_w (lo _ _ _ _ _ _ _ (by omega) (by omega) ⟨_,_,_,_,_,_,h1⟩ (by rw [List.drop_zero]; omega) ?_ ?_ ?_ ?_) ?_
     iterate 4 simp
     rintro e' s' b' st' ⟨rfl,p⟩ hf
     simp
     rw [List.drop_zero] at p
     obtain ⟨W2,C2,m1,m2,m3,m4⟩:=p
     exact ⟨W2,C2,m1.more (by omega),by rw [ew]; exact m2,by rw [ec]; exact m3,((Fr.refl base st).set h.ge hlt).trans m4⟩
 obtain ⟨r,st',g1,rfl,g2⟩:=go
 exact ⟨st',g1,g2⟩
theorem c167 (t:Tm) (gt:good t) (ih:∀ u,u∈t.l→SeeC 122 u∧SeeC 167 u) (self:SeeC 122 t):SeeC 167 t:=by
 intro base st id W C N ho hN
 have hll:=good_len gt
 obtain ⟨R,md,dr,dw,dc,fl,h⟩:=ho
 obtain ⟨v,qf⟩:=c166 t gt
 have h1:=own_f (fl':=orI fl v) h
 have hat:=h.at'
 have hat1:=h1.at'
 have hlt:=h.lt
 obtain ⟨r1,r2,r3,_⟩:=h.r.1.facts
 obtain ⟨w1,w2,w3,_⟩:=h.w.1.facts
 obtain ⟨c1,c2,c3,_⟩:=h.c.1.facts
 rw [callD_rawE (fn:=F167) rfl rfl (by simp)]
 have e:=cntT_eq t
 have go:Ret (ev T 167 [.hp id 0 4 0 0,encT t] st) fun r st'=>r=.tup []∧Sees base st id W C N (2 * cntT t) (wrT t) (caT t) st':=by
  refine Ret_wp (fn:=F167) rfl ?_
  rw [F167]
  have other:∀ (P:Prop),(∀ st',callD T (ev T) 122 [.hp id 0 4 0 0,encT t] (List.set st id (owO (md+1) dr dw dc (orI fl v)))=some (.tup [],st')→Sees base st id W C N (2 * cntT t) (wrT t) (caT t) st'→P)→P:=by
   intro P k
   obtain ⟨st3,q3,W3,C3,n1,n2,n3,n4⟩:=self base _ id W C N ⟨_,_,_,_,_,_,h1⟩ (by omega)
   exact k st3 q3 ⟨W3,C3,n1,n2,n3,((Fr.refl base st).set h.ge hlt).trans n4⟩
  by_cases k9:t.k=9
  ·have ew:wrT t=wrTs t.l:=by rw [wrT_eq,wr0,if_neg (fun q=>by rw [k9] at q; exact absurd q.1.1 (by decide))]; rfl
   have ec:caT t=caTs t.l:=by rw [caT_eq,ca0,if_neg (by rw [k9]; decide)]; rfl
   have lo:=fun s bx=>l167_1 t.fl t.l hll (fun u hu=>(ih u hu).1) t.l.length 0 s bx base
   rw [encT_eq t,k9] at qf
   simp only [owO] at hat1
   simp [k9,hat,hlt,hat1,qf,or_i,splice,rewrap,kHs,r1,r2,r3,w1,w2,w3,c1,c2,c3]
   refine WL.use L167_1_p L167_1_w (lo _ _ _ _ _ _ _ (by omega) (by omega) ⟨_,_,_,_,_,_,h1⟩ (by rw [List.drop_zero]; omega) ?_ ?_ ?_ ?_) ?_
   iterate 4 simp
   rintro e' s' b' st' ⟨rfl,p⟩ hf
   simp
   rw [List.drop_zero] at p
   obtain ⟨W2,C2,m1,m2,m3,m4⟩:=p
   exact ⟨W2,C2,m1.more (by omega),by rw [ew]; exact m2,by rw [ec]; exact m3,((Fr.refl base st).set h.ge hlt).trans m4⟩
  ·by_cases k12:t.k=12∨t.k=13
   ·have k22:t.k≠22:=by omega
    have k16:t.k≠16:=by omega
    have ew:wrT t=wrTs t.l:=by rw [wrT_eq,wr0,if_neg (fun q=>k22 q.1.1)]; rfl
    have ec:caT t=caTs t.l:=by rw [caT_eq,ca0,if_neg k16]; rfl
    cases hl:t.l with
    | nil=>
     refine other _ fun st' q3 hs=>?_
     simp only [owO] at q3
     rw [encT_eq t,hl,encTs_nil] at qf q3
     rcases k12 with k | k
     ·simp only [k] at qf q3
      simp [k,hl,hat,hlt,qf,or_i,splice,rewrap,kHs,r1,r2,r3,w1,w2,w3,c1,c2,c3,q3]
      exact hs
     ·simp only [k] at qf q3
      simp [k,hl,hat,hlt,qf,or_i,splice,rewrap,kHs,r1,r2,r3,w1,w2,w3,c1,c2,c3,q3]
      exact hs
    | cons x r=>
     have hx:=(ih x (by rw [hl]; simp)).2
     have lo0:=fun fl s bx=>l167_0 fl r (by have:=hll; rw [hl] at this; simp at this; omega) (fun u hu=>(ih u (by rw [hl]; simp [hu])).1) r.length 0 s bx base
     have e2:cntTs t.l=cntT x+cntTs r:=by rw [hl,cntTs]
     obtain ⟨st3,q3,W3,C3,n1,n2,n3,n4⟩:=hx base _ id W C N ⟨_,_,_,_,_,_,h1⟩ (by omega)
     simp only [owO] at q3
     rw [encT_eq t,hl,encTs_cons] at qf
     have fin:∀ st',Sees base st3 id W3 C3 (N+2 * cntT x) (2 * cntTs r) (wrTs r) (caTs r) st'→Sees base st id W C N (2 * cntT t) (wrT t) (caT t) st':=by
      rintro st' ⟨W2,C2,m1,m2,m3,m4⟩
      refine ⟨W2,C2,m1.more (by omega),fun y=>?_,fun y=>?_,(((Fr.refl base st).set h.ge hlt).trans n4).trans m4⟩
      ·rw [ew,hl,wrTs,m2,n2,List.mem_append,or_assoc]
      ·rw [ec,hl,caTs,m3,n3,List.mem_append,or_assoc]
     rcases k12 with k | k
     ·simp only [k] at qf
      simp [k,hl,hat,hlt,qf,or_i,splice,rewrap,kHs,r1,r2,r3,w1,w2,w3,c1,c2,c3,←encT_eq x,q3]
      refine WL.use L167_0_p L167_0_w (lo0 (t.fl.sub (encT x::encTs r)) _ _ _ _ _ _ _ (by omega) (by omega) n1 (by rw [List.drop_zero]; omega) ?_ ?_ ?_ ?_) ?_
      iterate 4 simp
      rintro e' s' b' st' ⟨rfl,p⟩ hf
      simp
      rw [List.drop_zero] at p
      exact fin _ p
     ·simp only [k] at qf
      simp [k,hl,hat,hlt,qf,or_i,splice,rewrap,kHs,r1,r2,r3,w1,w2,w3,c1,c2,c3,←encT_eq x,q3]
      refine WL.use L167_0_p L167_0_w (lo0 (t.fl.sub (encT x::encTs r)) _ _ _ _ _ _ _ (by omega) (by omega) n1 (by rw [List.drop_zero]; omega) ?_ ?_ ?_ ?_) ?_
      iterate 4 simp
      rintro e' s' b' st' ⟨rfl,p⟩ hf
      simp
      rw [List.drop_zero] at p
      exact fin _ p
   ·have n12:t.k≠12:=fun q=>k12 (.inl q)
    have n13:t.k≠13:=fun q=>k12 (.inr q)
    refine other _ fun st' q3 hs=>?_
    simp only [owO] at q3
    simp [k9,n12,n13,hat,hlt,qf,←encT_eq t,or_i,splice,rewrap,kHs,r1,r2,r3,w1,w2,w3,c1,c2,c3,q3]
    exact hs
 obtain ⟨r,st',g1,rfl,g2⟩:=go
 exact ⟨st',g1,g2⟩
theorem see_ok (t:Tm):good t→SeeC 122 t∧SeeC 167 t:=by
 induction t using Tm.ind with
 | h t ih=>
  intro gt
  have ih':=fun u hu=>ih u hu (good_mem gt hu)
  have s:=c122 t gt ih'
  exact ⟨s,c167 t gt ih' s⟩
def OwnV (base:Nat) (st:St) (d:D) (W C:List Int) (N:Nat):Prop:=∃ R dr dw dc fl,d=.agg [dr,dw,dc,.int .i64 fl]∧RowB base st dr R N∧RowB base st dw W N∧RowB base st dc C N∧apart dr dw∧apart dr dc∧apart dw dc
theorem c92 (t:Tm) (gt:good t) (hc:cntT t≤400000) (st:St):∃ d st',callD T (ev T) 92 [encT t] st=some (d,st')∧Fr st.length st st'∧∃ W C,OwnV st.length st' d W C (2 * cntT t)∧(∀ x,x∈W↔x∈wrT t)∧∀ x,x∈C↔x∈caT t:=by
 rw [callD_rawE (fn:=F92) rfl rfl (by simp)]
 have row:∀ st':St,RowB st.length st' .nils [] 0:=fun st'=>⟨.nil _,rfl,Nat.le_refl _,fun i h=>by cases h⟩
 have ho:OwnA st.length (st++[owO 0 .nils .nils .nils 0]) st.length [] [] [] 0 0 .nils .nils .nils 0:=
  ⟨by simp,Nat.le_refl _,by rw [at_append_self],row _,row _,row _,fun i h=>(by cases h),fun i h=>(by cases h),fun i h=>(by cases h)⟩
 obtain ⟨st1,q,W,C,⟨R,md,dr,dw,dc,fl,h⟩,m2,m3,m4⟩:=(see_ok t gt).1 _ _ _ _ _ _ ⟨_,_,_,_,_,_,ho⟩ (by omega)
 obtain ⟨r1,r2,r3,_⟩:=h.r.1.facts
 obtain ⟨w1,w2,w3,_⟩:=h.w.1.facts
 obtain ⟨c1,c2,c3,_⟩:=h.c.1.facts
 have hat:=h.at'
 have go:Ret (ev T 92 [encT t] st) fun r st'=>r=.agg [dr,dw,dc,.int .i64 fl]∧st'=st1:=by
  refine Ret_wp (fn:=F92) rfl ?_
  rw [F92]
  simp only [owO] at q
  simp [←encT_eq t,q,hat,splice,r1,r2,r3,w1,w2,w3,c1,c2,c3]
 obtain ⟨r,st',g1,rfl,rfl⟩:=go
 refine ⟨_,_,g1,⟨by have:=m4.1; simp at this; omega,fun i hi=>by rw [m4.2 i hi,at_append _ _ _ hi]⟩,W,C,⟨R,dr,dw,dc,fl,rfl,?_,?_,?_,h.rw,h.rc,h.wc⟩,fun x=>by rw [m2]; simp,fun x=>by rw [m3]; simp⟩
 ·exact h.r.keep (Nat.le_refl _) (fun _ _=>rfl) (by omega)
 ·exact h.w.keep (Nat.le_refl _) (fun _ _=>rfl) (by omega)
 ·exact h.c.keep (Nat.le_refl _) (fun _ _=>rfl) (by omega)
end Go.Nt.Li
set_option linter.unusedSimpArgs false
set_option maxRecDepth 20000
namespace Go.Nt.Li
open Go Go.Nt
def RowP (st:St) (d:D) (l:List Int) (K:Nat):Prop:=
 (d=.nils∧l=[])∨∃ id ver md rest,d=.rs id ver 1 0 l.length false∧id < st.length∧ver≤K∧l.length+rest.length≤ver+1∧St.at st id=.cells false 1 ver md false (nI (l++rest))
theorem RowP.facts {st:St} {d:D} {l:List Int} {K:Nat} (h:RowP st d l K):d.okv=true∧d.cells=[d]∧d.fits none=true∧∀ st' q,lenD st' .slice d q=some (.i l.length):=by
 rcases h with ⟨rfl,rfl⟩ | ⟨id,ver,md,rest,rfl,_⟩
 ·exact ⟨rfl,rfl,rfl,fun _ _=>rfl⟩
 ·exact ⟨rfl,rfl,rfl,fun _ _=>rfl⟩
theorem RowP.wrap {st:St} {d:D} {l:List Int} {K:Nat} (h:RowP st d l K) (x:D):rewrap d [x]=some x:=by
 rcases h with ⟨rfl,rfl⟩ | ⟨id,ver,md,rest,rfl,_⟩ <;> rfl
theorem RowP.keep {st st':St} {d:D} {l:List Int} {K K':Nat} (h:RowP st d l K) (hl:st.length≤st'.length) (ha:∀ i,rid d=some i→St.at st' i=St.at st i) (hK:K≤K'):RowP st' d l K':=by
 rcases h with h | ⟨id,ver,md,rest,rfl,h1,h2,h3,h4⟩
 ·exact .inl h
 ·exact .inr ⟨id,ver,md,rest,rfl,by omega,by omega,h3,by rw [ha id rfl]; exact h4⟩
theorem RowP.lt {st:St} {d:D} {l:List Int} {K:Nat} (h:RowP st d l K) {i:Nat} (hi:rid d=some i):i < st.length∧∃ v m e,St.at st i=.cells false 1 v m false e:=by
 rcases h with ⟨rfl,_⟩ | ⟨id,ver,md,rest,rfl,h1,h2,h3,h4⟩
 ·cases hi
 ·cases hi; exact ⟨h1,_,_,_,h4⟩
def HQ (st:St) (hb:Nat) (d:D) (st':St) (d':D):Prop:=
 st.length≤st'.length∧(∀ i,i < st.length→i≠hb→rid d≠some i→St.at st' i=St.at st i)∧(rid d'=rid d∨∃ k,rid d'=some k∧st.length≤k)
theorem HQ.refl (st:St) (hb:Nat) (d:D):HQ st hb d st d:=⟨Nat.le_refl _,fun _ _ _ _=>rfl,.inl rfl⟩
theorem HQ.trans {a b c:St} {hb:Nat} {d e f:D} (h:HQ a hb d b e) (k:HQ b hb e c f):HQ a hb d c f:=by
 obtain ⟨h1,h2,h3⟩:=h
 obtain ⟨k1,k2,k3⟩:=k
 refine ⟨Nat.le_trans h1 k1,fun i hi hn hr=>?_,?_⟩
 ·rw [k2 i (by omega) hn ?_,h2 i hi hn hr]
  rcases h3 with h3 | ⟨j,h3,h4⟩
  ·rw [h3]; exact hr
  ·rw [h3]; intro e; cases e; omega
 ·rcases k3 with k3 | ⟨j,k3,k4⟩
  ·rcases h3 with h3 | ⟨j,h3,h4⟩
   ·exact .inl (k3.trans h3)
   ·exact .inr ⟨j,k3.trans h3,h4⟩
  ·exact .inr ⟨j,k3,by omega⟩
structure HB (st:St) (hb:Nat) (d:D) (l:List Int) (K:Nat):Prop where
 lt:hb < st.length
 at':∃ md,St.at st hb=.cells true 1 0 md false [d]
 row:RowP st d l K
theorem HB.ne {st:St} {hb:Nat} {d:D} {l:List Int} {K:Nat} (h:HB st hb d l K):rid d≠some hb:=fun e=>by
 obtain ⟨md,h1⟩:=h.at'
 obtain ⟨_,v,m,el,h2⟩:=h.row.lt e
 rw [h1] at h2; cases h2
abbrev hI (hb:Nat):D:=.ifc 141 (.hp hb 0 1 0 0)
theorem nI_get (l rest:List Int) (i:Nat) (h:i < l.length):(nI (l++rest))[i]?=some (.int .i64 l[i]):=by
 rw [show nI (l++rest)=nI l++nI rest by simp [nI],List.getElem?_append_left (by simpa using h)]
 simp [h]
theorem c206 {st:St} {d:D} {l:List Int} {K:Nat} (h:RowP st d l K) (i k:Nat) (hi:i < l.length) (hk:k < l.length):callD T (ev T) 206 [d,.i i,.i k] st=some (.bool (decide (l[i] < l[k])),st):=by
 rcases h with ⟨rfl,rfl⟩ | ⟨id,ver,md,rest,rfl,h1,h2,h3,h4⟩
 ·simp at hi
 ·rw [callD_rawE (fn:=F206) rfl rfl (by simp)]
  have go:Ret (ev T 206 [.rs id ver 1 0 l.length false,.i i,.i k] st) fun r st'=>r=.bool (decide (l[i] < l[k]))∧st'=st:=by
   refine Ret_wp (fn:=F206) rfl ?_
   rw [F206]
   have g1:=nI_get l rest i hi
   have g2:=nI_get l rest k hk
   generalize nI (l++rest)=els at *
   simp [hi,hk,h4,g1,g2]
  obtain ⟨r,st',g,rfl,rfl⟩:=go
  exact g
theorem c207 {st:St} {d:D} {l:List Int} {K:Nat} (h:RowP st d l K) (i k:Nat) (hi:i < l.length) (hk:k < l.length) :
  ∃ st' l',callD T (ev T) 207 [d,.i i,.i k] st=some (.tup [],st')∧RowP st' d l' K∧l'.Perm l∧st'.length=st.length∧(∀ j,rid d≠some j→St.at st' j=St.at st j)∧l'[i]?=l[k]?∧l'[k]?=l[i]?:=by
 rcases h with ⟨rfl,rfl⟩ | ⟨id,ver,md,rest,rfl,h1,h2,h3,h4⟩
 ·simp at hi
 ·have hl':((l.set i l[k]).set k l[i]).length=l.length:=by simp
  have hset:((nI (l++rest)).set i (.int .i64 l[k])).set k (.int .i64 l[i])=nI ((l.set i l[k]).set k l[i]++rest):=by
   simp only [nI,←List.map_set]
   rw [List.set_append_left _ _ hi,List.set_append_left _ _ (by simpa using hk)]
  refine ⟨List.set (List.set st id (.cells false 1 ver (md+1) false ((nI (l++rest)).set i (.int .i64 l[k])))) id (.cells false 1 ver (md+1+1) false (nI ((l.set i l[k]).set k l[i]++rest))),(l.set i l[k]).set k l[i],?_,
   .inr ⟨id,ver,md+1+1,rest,by rw [hl'],by simpa using h1,h2,by rw [hl']; exact h3,?_⟩,List.set_set_perm hi hk,by simp,fun j hj=>?_,?_,?_⟩
  ·rw [callD_rawE (fn:=F207) rfl rfl (by simp)]
   have go:Ret (ev T 207 [.rs id ver 1 0 l.length false,.i i,.i k] st) fun r st'=>r=.tup []∧st'=List.set (List.set st id (.cells false 1 ver (md+1) false ((nI (l++rest)).set i (.int .i64 l[k])))) id (.cells false 1 ver (md+1+1) false (nI ((l.set i l[k]).set k l[i]++rest))):=by
    refine Ret_wp (fn:=F207) rfl ?_
    rw [F207]
    have g1:=nI_get l rest i hi
    have g2:=nI_get l rest k hk
    have g3:((nI (l++rest)).set i (.int .i64 l[k]))[k]?=some (if i=k then .int .i64 l[k] else .int .i64 l[k]):=by
     rw [List.getElem?_set]
     have:i < (nI (l++rest)).length:=by simp; omega
     by_cases hik:i=k
     ·rw [if_pos hik,if_pos this,if_pos hik]
     ·rw [if_neg hik,g2,if_neg hik]
    simp only [ite_self] at g3
    rw [←hset]
    generalize nI (l++rest)=els at *
    simp [hi,hk,h1,h4,g1,g2,g3,kHs,splice,rewrap,at_set]
   obtain ⟨r,st',g,rfl,rfl⟩:=go
   exact g
  ·rw [at_set _ _ _ _ (by simpa using h1),if_pos rfl]
  ·have hj':j≠id:=fun e=>hj (by rw [e]; rfl)
   rw [at_set _ _ _ _ (by simpa using h1),if_neg hj',at_set _ _ _ _ h1,if_neg hj']
  ·rw [List.getElem?_set]
   by_cases hik:k=i
   ·subst hik; simp [hi]
   ·rw [if_neg hik,List.getElem?_set]; simp [hi,hk]
  ·rw [List.getElem?_set]; simp [hk,hi]
theorem c124 {st:St} {d:D} {l:List Int} {K:Nat} (h:RowP st d l K):callD T (ev T) 124 [d] st=some (.i l.length,st):=by
 obtain ⟨h1,h2,h3,h4⟩:=h.facts
 rw [callD_rawE (fn:=F124) rfl rfl (by simp [h1])]
 have go:Ret (ev T 124 [d] st) fun r st'=>r=.i l.length∧st'=st:=by
  refine Ret_wp (fn:=F124) rfl ?_
  rw [F124]
  simp [h4]
 obtain ⟨r,st',g,rfl,rfl⟩:=go
 exact g
theorem c209 {st:St} {hb:Nat} {d:D} {l:List Int} {K:Nat} (h:HB st hb d l K) (hK:K≤1000000) (n:Int) :
  ∃ st' d',callD T (ev T) 209 [.hp hb 0 1 0 0,.ifc 3 (.int .i64 n)] st=some (.tup [],st')∧HB st' hb d' (l++[n]) (K+1)∧HQ st hb d st' d':=by
 have hne:=h.ne
 obtain ⟨lt,⟨md,hat⟩,row⟩:=h
 have e1:appendD st d [.int .i64 n] 1=(match d with
  | .nils=>some (.rs st.length 0 1 0 1 false,st++[.cells false 1 0 0 false [.int .i64 n]])
  | d=>appendD st d [.int .i64 n] 1):=by cases d <;> first | rfl | simp [appendD,most]
 obtain ⟨d',st1,q,o1,o2,r1,l1,f1,i1⟩:∃ d' st1,appendD st d [.int .i64 n] 1=some (d',st1)∧d'.okv=true∧d'.cells=[d']∧RowP st1 d' (l++[n]) (K+1)∧st.length≤st1.length∧(∀ i,i < st.length→rid d≠some i→St.at st1 i=St.at st i)∧(rid d'=rid d∨∃ k,rid d'=some k∧st.length≤k):=by
  rcases row with ⟨rfl,rfl⟩ | ⟨id,ver,md',rest,rfl,h1,h2,h3,h4⟩
  ·exact ⟨_,_,e1,rfl,rfl,.inr ⟨st.length,0,0,[],rfl,by simp,by omega,by simp,by rw [at_append_self]; rfl⟩,by simp,fun i hi _=>at_append _ _ _ hi,.inr ⟨_,rfl,Nat.le_refl _⟩⟩
  ·have t1:ver+1 < tagB:=by unfold tagB; omega
   have t2:l.length+rest.length≤most:=by unfold most; omega
   have t3:l.length+rest.length≤134217728:=by omega
   refine ⟨.rs id (ver+1) 1 0 (l.length+1) false,List.set st id (.cells false 1 (ver+1) (md'+1) false (nI (l++[n]))),?_,rfl,rfl,.inr ⟨id,ver+1,md'+1,[],by simp,by simpa using h1,by omega,by simp; omega,by rw [at_set _ _ _ _ h1,if_pos rfl]; simp⟩,by simp,fun i hi hr=>?_,.inl rfl⟩
   ·simp [appendD,h4,t1,t2,t3,most,nI,List.take_append]
   ·rw [at_set _ _ _ _ h1,if_neg (fun e=>hr (by rw [e]; rfl))]
 have hat1:St.at st1 hb=.cells true 1 0 md false [d]:=by rw [f1 hb lt hne]; exact hat
 have lt1:hb < st1.length:=by omega
 obtain ⟨s1,s2,s3,s4⟩:=row.facts
 refine ⟨List.set st1 hb (.cells true 1 0 (md+1) false [d']),d',?_,⟨by simpa using lt1,⟨md+1,by rw [at_set _ _ _ _ lt1,if_pos rfl]⟩,r1.keep (by simp) (fun i hi=>?_) (Nat.le_refl _)⟩,by simpa using l1,fun i hi hn hr=>?_,i1⟩
 ·rw [callD_rawE (fn:=F209) rfl rfl (by simp)]
  have go:Ret (ev T 209 [.hp hb 0 1 0 0,.ifc 3 (.int .i64 n)] st) fun r st'=>r=.tup []∧st'=List.set st1 hb (.cells true 1 0 (md+1) false [d']):=by
   refine Ret_wp (fn:=F209) rfl ?_
   rw [F209]
   simp [hat,hat1,s1,s2,s3,q,o1,o2,kHs,splice,row.wrap]
  obtain ⟨r,st',g,rfl,rfl⟩:=go
  exact g
 ·rw [at_set _ _ _ _ lt1,if_neg]
  intro e
  obtain ⟨_,v,m,el,h2⟩:=r1.lt hi
  rw [e,hat1] at h2; cases h2
 ·rw [at_set _ _ _ _ lt1,if_neg hn,f1 i hi hr]
theorem c208 {st:St} {hb:Nat} {d:D} {l:List Int} {x:Int} {K:Nat} (h:HB st hb d (l++[x]) K) (hl:l.length≤1000000) :
  ∃ st' d',callD T (ev T) 208 [.hp hb 0 1 0 0] st=some (.ifc 3 (.int .i64 x),st')∧HB st' hb d' l K∧HQ st hb d st' d':=by
 have hne:=h.ne
 obtain ⟨lt,⟨md,hat⟩,row⟩:=h
 rcases row with ⟨rfl,h0⟩ | ⟨id,ver,md',rest,rfl,h1,h2,h3,h4⟩
 ·simp at h0
 ·simp only [List.length_append,List.length_cons,List.length_nil,Nat.zero_add] at h3 hat ⊢
  have g:=nI_get (l++[x]) rest l.length (by simp)
  have hx:(l++[x])[l.length]'(by simp)=x:=by simp
  rw [hx] at g
  have hid:id≠hb:=fun e=>hne (by rw [e]; rfl)
  refine ⟨List.set st hb (.cells true 1 0 (md+1) false [.rs id ver 1 0 l.length false]),.rs id ver 1 0 l.length false,?_,⟨by simpa using lt,⟨md+1,by rw [at_set _ _ _ _ lt,if_pos rfl]⟩,.inr ⟨id,ver,md',x::rest,rfl,by simpa using h1,h2,by simp; omega,?_⟩⟩,by simp,fun i hi hn hr=>by rw [at_set _ _ _ _ lt,if_neg hn],.inl rfl⟩
  ·rw [callD_rawE (fn:=F208) rfl rfl (by simp)]
   have go:Ret (ev T 208 [.hp hb 0 1 0 0] st) fun r st'=>r=.ifc 3 (.int .i64 x)∧st'=List.set st hb (.cells true 1 0 (md+1) false [.rs id ver 1 0 l.length false]):=by
    refine Ret_wp (fn:=F208) rfl ?_
    rw [F208]
    have w1:IntKind.wrap .i64 (((l.length+1:Nat):Int) - 1)=(l.length:Int):=by rw [wrap64] <;> omega
    have w2:IntKind.wrap .i64 ((l.length:Int))=(l.length:Int):=by rw [wrap64] <;> omega
    generalize nI (l++[x]++rest)=els at *
    simp [hat,h4,g,w1,w2,lenD,slcTy,sliceD,boundD,kHs,splice,rewrap]
    omega
   obtain ⟨r,st',g,rfl,rfl⟩:=go
   exact g
  ·rw [at_set _ _ _ _ lt,if_neg hid,h4]; simp
theorem HB.swap {st:St} {hb:Nat} {d:D} {l:List Int} {K:Nat} (h:HB st hb d l K) (i k:Nat) (hi:i < l.length) (hk:k < l.length) :
  ∃ st' l',callD T (ev T) 207 [d,.i i,.i k] st=some (.tup [],st')∧HB st' hb d l' K∧l'.Perm l∧HQ st hb d st' d∧l'[i]?=l[k]?∧l'[k]?=l[i]?:=by
 have hne:=h.ne
 obtain ⟨lt,⟨md,hat⟩,row⟩:=h
 obtain ⟨st',l',q,r,p,e,f,g1,g2⟩:=c207 row i k hi hk
 exact ⟨st',l',q,⟨by omega,⟨md,by rw [f hb hne]; exact hat⟩,r⟩,p,⟨by omega,fun i hi hn hr=>f i hr,.inl rfl⟩,g1,g2⟩
theorem l168 (hb:Nat) (d:D) (K:Nat):∀ (r j:Nat) (s:List D) (bx:List (Nat × List D)) (st:St) (l:List Int),j≤r→j < l.length→l.length≤1000000→HB st hb d l K →
  get s 0=hI hb→get s 1=.i j→Stops (lp T L168_0 ⟨⟨s,bx⟩,st⟩) fun ex _ _ st'=>ex=.exit 0∧∃ l',HB st' hb d l' K∧l'.Perm l∧HQ st hb d st' d:=by
 intro r
 induction r with
 | zero=>
  intro j s bx st l hj hl hb' h h0 h1
  have:j=0:=by omega
  subst this
  have q:IntKind.wrap .i64 (Int.tdiv (IntKind.wrap .i64 (0 - 1)) 2)=0:=by decide
  have q2:IntKind.wrap .i64 (Int.tdiv (IntKind.wrap .i64 (-1)) 2)=0:=by decide
  refine Stops_wp L168_0.eq_1 ?_
  simp [h0,h1,q,q2]
  exact ⟨l,h,.refl _,.refl _ _ _⟩
 | succ r ih=>
  intro j s bx st l hj hl hb' h h0 h1
  obtain ⟨a1,a2,a3,a4⟩:=h.row.facts
  obtain ⟨md,hat⟩:=h.at'
  by_cases hj0:j=0
  ·subst hj0
   have q:IntKind.wrap .i64 (Int.tdiv (IntKind.wrap .i64 (0 - 1)) 2)=0:=by decide
   have q2:IntKind.wrap .i64 (Int.tdiv (IntKind.wrap .i64 (-1)) 2)=0:=by decide
   refine Stops_wp L168_0.eq_1 ?_
   simp [h0,h1,q,q2]
   exact ⟨l,h,.refl _,.refl _ _ _⟩
  ·have q:IntKind.wrap .i64 (Int.tdiv (IntKind.wrap .i64 ((j:Int) - 1)) 2)=(((j - 1) / 2:Nat):Int):=by
    have e:((j:Int) - 1)=((j - 1:Nat):Int):=by omega
    have e2:Int.tdiv ((j - 1:Nat):Int) 2=(((j - 1) / 2:Nat):Int):=rfl
    have e3:IntKind.wrap .i64 ((j - 1:Nat):Int)=((j - 1:Nat):Int):=by rw [wrap64] <;> omega
    rw [e,e3,e2,wrap64] <;> omega
   have hlt:(j - 1) / 2 < j:=by omega
   generalize hp:(j - 1) / 2=p at *
   have hne:¬ ((p:Int)=j):=by omega
   have cl:=c206 h.row j p hl (by omega)
   cases hb2:decide (l[j] < l[p]) with
   | false=>
    rw [hb2] at cl
    refine Stops_wp L168_0.eq_1 ?_
    simp [h0,h1,q,hne,hat,a2,a1,cl]
    exact ⟨l,h,.refl _,.refl _ _ _⟩
   | true=>
    rw [hb2] at cl
    obtain ⟨st1,l1,cs,k1,k2,k3,_⟩:=h.swap p j (by omega) hl
    have nx:=fun s' bx'=>ih p s' bx' st1 l1 (by omega) (by rw [k2.length_eq]; omega) (by rw [k2.length_eq]; omega) k1
    refine Stops_wp L168_0.eq_1 ?_
    simp [h0,h1,q,hne,hat,a2,a1,cl,cs]
    refine (nx _ _ ?_ ?_).mono ?_
    iterate 2 simp [h0]
    rintro e s' b' st' ⟨rfl,l2,m1,m2,m3⟩
    exact ⟨rfl,l2,m1,m2.trans k2,k3.trans m3⟩
theorem c168 {st:St} {hb:Nat} {d:D} {l:List Int} {K:Nat} (h:HB st hb d l K) (j:Nat) (hj:j < l.length) (hl:l.length≤1000000) :
  ∃ st' l',callD T (ev T) 168 [hI hb,.i j] st=some (.tup [],st')∧HB st' hb d l' K∧l'.Perm l∧HQ st hb d st' d:=by
 rw [callD_rawE (fn:=F168) rfl rfl (by simp)]
 have go:Ret (ev T 168 [hI hb,.i j] st) fun r st'=>r=.tup []∧∃ l',HB st' hb d l' K∧l'.Perm l∧HQ st hb d st' d:=by
  refine Ret_wp (fn:=F168) rfl ?_
  rw [F168]
  have lo:=fun s bx=>l168 hb d K j j s bx st l (Nat.le_refl _) hj hl h
  simp
  refine WL.use L168_0_p L168_0_w (lo _ _ ?_ ?_) ?_
  iterate 2 simp
  rintro e s' b' st' ⟨rfl,p⟩ hf
  simp [p]
 obtain ⟨r,st',g,rfl,l',p⟩:=go
 exact ⟨st',l',g,p⟩
theorem c123 {st:St} {hb:Nat} {d:D} {l:List Int} {K:Nat} (h:HB st hb d l K) (hK:K≤1000000) (hl:l.length < 1000000) (n:Int) :
  ∃ st' d' l',callD T (ev T) 123 [hI hb,.ifc 3 (.int .i64 n)] st=some (.tup [],st')∧HB st' hb d' l' (K+1)∧l'.Perm (n::l)∧HQ st hb d st' d':=by
 obtain ⟨st1,d1,q1,h1,f1⟩:=c209 h hK n
 obtain ⟨st2,l2,q2,h2,p2,f2⟩:=c168 h1 l.length (by simp) (by simp; omega)
 obtain ⟨a1,a2,a3,a4⟩:=h1.row.facts
 obtain ⟨md,hat⟩:=h1.at'
 have q3:=c124 h1.row
 simp only [List.length_append,List.length_cons,List.length_nil,Nat.zero_add] at q3
 refine ⟨st2,d1,l2,?_,h2,p2.trans (List.perm_append_singleton n l),f1.trans f2⟩
 rw [callD_rawE (fn:=F123) rfl rfl (by simp)]
 have go:Ret (ev T 123 [hI hb,.ifc 3 (.int .i64 n)] st) fun r st'=>r=.tup []∧st'=st2:=by
  refine Ret_wp (fn:=F123) rfl ?_
  rw [F123]
  have w1:IntKind.wrap .i64 (((l.length+1:Nat):Int) - 1)=(l.length:Int):=by rw [wrap64] <;> omega
  simp [q1,hat,a2,a1,q3,w1,q2,-Int.natCast_add]
 obtain ⟨r,st',g,rfl,rfl⟩:=go
 exact g
theorem l169 (hb:Nat) (d:D) (K n:Nat):∀ (r i:Nat) (s:List D) (bx:List (Nat × List D)) (st:St) (l:List Int),n - i≤r→i≤n→n < l.length→l.length≤1000000→HB st hb d l K →
  get s 0=hI hb→get s 2=.i n→get s 7=.i i→Stops (lp T L169_0 ⟨⟨s,bx⟩,st⟩) fun ex s' _ st'=>ex=.exit 0∧(∃ k,get s' 7=.int .i64 k)∧∃ l',HB st' hb d l' K∧l'.Perm l∧HQ st hb d st' d:=by
 intro r
 induction r with
 | zero=>
  intro i s bx st l hr hi hn hl h h0 h2 h7
  have e1:i=n:=by omega
  subst e1
  have w0:IntKind.wrap .i64 (2 * (i:Int))=((2 * i:Nat):Int):=by rw [wrap64] <;> omega
  have w1:IntKind.wrap .i64 (((2 * i:Nat):Int)+1)=((2 * i+1:Nat):Int):=by rw [wrap64] <;> omega
  have hge:((i:Int)≤((2 * i+1:Nat):Int))=True:=eq_true (by omega)
  refine Stops_wp L169_0.eq_1 ?_
  simp [h0,h2,h7,w0,w1,hge,-Int.natCast_add,-Int.natCast_mul]
  exact ⟨l,h,.refl _,.refl _ _ _⟩
 | succ r ih=>
  intro i s bx st l hr hi hn hl h h0 h2 h7
  obtain ⟨a1,a2,a3,a4⟩:=h.row.facts
  obtain ⟨md,hat⟩:=h.at'
  have w0:IntKind.wrap .i64 (2 * (i:Int))=((2 * i:Nat):Int):=by rw [wrap64] <;> omega
  have w1:IntKind.wrap .i64 (((2 * i:Nat):Int)+1)=((2 * i+1:Nat):Int):=by rw [wrap64] <;> omega
  have w2:IntKind.wrap .i64 (((2 * i+1:Nat):Int)+1)=((2 * i+2:Nat):Int):=by rw [wrap64] <;> omega
  have hlt0:(((2 * i+1:Nat):Int) < 0)=False:=eq_false (by omega)
  by_cases hge:n≤2 * i+1
  ·have hge':((n:Int)≤((2 * i+1:Nat):Int))=True:=eq_true (by omega)
   refine Stops_wp L169_0.eq_1 ?_
   simp [h0,h2,h7,w0,w1,hge',-Int.natCast_add,-Int.natCast_mul]
   exact ⟨l,h,.refl _,.refl _ _ _⟩
  ·have hge':((n:Int)≤((2 * i+1:Nat):Int))=False:=eq_false (by omega)
   have last:∀ (j:Nat),i < j→j < n→∀ s' bx',get s' 0=hI hb→get s' 2=.i n→∀ st1 l1,HB st1 hb d l1 K→l1.Perm l→HQ st hb d st1 d→get s' 7=.i j →
     Stops (lp T L169_0 ⟨⟨s',bx'⟩,st1⟩) fun ex s' _ st'=>ex=.exit 0∧(∃ k,get s' 7=.int .i64 k)∧∃ l',HB st' hb d l' K∧l'.Perm l∧HQ st hb d st' d:=by
    intro j hij hjn s' bx' g0 g2 st1 l1 k1 k2 k3 g7
    refine (ih j s' bx' st1 l1 (by omega) (by omega) (by rw [k2.length_eq]; exact hn) (by rw [k2.length_eq]; exact hl) k1 g0 g2 g7).mono ?_
    rintro ex s2 b2 st2 ⟨rfl,kk,l2,m1,m2,m3⟩
    exact ⟨rfl,kk,l2,m1,m2.trans k2,k3.trans m3⟩
   have c1:=c206 h.row (2 * i+1) i (by omega) (by omega)
   obtain ⟨st1,l1,q1,k1,k2,k3,_⟩:=h.swap i (2 * i+1) (by omega) (by omega)
   by_cases hj2:2 * i+2 < n
   ·have hj2':(((2 * i+2:Nat):Int) < n)=True:=eq_true (by omega)
    have c3:=c206 h.row (2 * i+2) (2 * i+1) (by omega) (by omega)
    cases hb3:decide (l[2 * i+2] < l[2 * i+1]) with
    | true=>
     rw [hb3] at c3
     have c2:=c206 h.row (2 * i+2) i (by omega) (by omega)
     obtain ⟨st2,l2,q2,p1,p2,p3,_⟩:=h.swap i (2 * i+2) (by omega) (by omega)
     cases hb4:decide (l[2 * i+2] < l[i]) with
     | false=>
      rw [hb4] at c2
      refine Stops_wp L169_0.eq_1 ?_
      simp [h0,h2,h7,w0,w1,w2,hge',hlt0,hj2',hat,a2,a1,c3,c2,-Int.natCast_add,-Int.natCast_mul]
      exact ⟨l,h,.refl _,.refl _ _ _⟩
     | true=>
      rw [hb4] at c2
      refine Stops_wp L169_0.eq_1 ?_
      simp [h0,h2,h7,w0,w1,w2,hge',hlt0,hj2',hat,a2,a1,c3,c2,q2,-Int.natCast_add,-Int.natCast_mul]
      refine last (2 * i+2) (by omega) hj2 _ _ ?_ ?_ st2 l2 p1 p2 p3 ?_ <;> simp [h0,h2,-Int.natCast_add,-Int.natCast_mul]
    | false=>
     rw [hb3] at c3
     cases hb4:decide (l[2 * i+1] < l[i]) with
     | false=>
      rw [hb4] at c1
      refine Stops_wp L169_0.eq_1 ?_
      simp [h0,h2,h7,w0,w1,w2,hge',hlt0,hj2',hat,a2,a1,c3,c1,-Int.natCast_add,-Int.natCast_mul]
      exact ⟨l,h,.refl _,.refl _ _ _⟩
     | true=>
      rw [hb4] at c1
      refine Stops_wp L169_0.eq_1 ?_
      simp [h0,h2,h7,w0,w1,w2,hge',hlt0,hj2',hat,a2,a1,c3,c1,q1,-Int.natCast_add,-Int.natCast_mul]
      refine last (2 * i+1) (by omega) (by omega) _ _ ?_ ?_ st1 l1 k1 k2 k3 ?_ <;> simp [h0,h2,-Int.natCast_add,-Int.natCast_mul]
   ·have hj2':(((2 * i+2:Nat):Int) < n)=False:=eq_false (by omega)
    cases hb4:decide (l[2 * i+1] < l[i]) with
    | false=>
     rw [hb4] at c1
     refine Stops_wp L169_0.eq_1 ?_
     simp [h0,h2,h7,w0,w1,w2,hge',hlt0,hj2',hat,a2,a1,c1,-Int.natCast_add,-Int.natCast_mul]
     exact ⟨l,h,.refl _,.refl _ _ _⟩
    | true=>
     rw [hb4] at c1
     refine Stops_wp L169_0.eq_1 ?_
     simp [h0,h2,h7,w0,w1,w2,hge',hlt0,hj2',hat,a2,a1,c1,q1,-Int.natCast_add,-Int.natCast_mul]
     refine last (2 * i+1) (by omega) (by omega) _ _ ?_ ?_ st1 l1 k1 k2 k3 ?_ <;> simp [h0,h2,-Int.natCast_add,-Int.natCast_mul]
theorem c169 {st:St} {hb:Nat} {d:D} {l:List Int} {K:Nat} (h:HB st hb d l K) (n:Nat) (hn:n < l.length) (hl:l.length≤1000000) :
  ∃ st' l' b,callD T (ev T) 169 [hI hb,.i 0,.i n] st=some (.bool b,st')∧HB st' hb d l' K∧l'.Perm l∧HQ st hb d st' d:=by
 rw [callD_rawE (fn:=F169) rfl rfl (by simp)]
 have go:Ret (ev T 169 [hI hb,.i 0,.i n] st) fun r st'=>(∃ b,r=.bool b)∧∃ l',HB st' hb d l' K∧l'.Perm l∧HQ st hb d st' d:=by
  refine Ret_wp (fn:=F169) rfl ?_
  rw [F169]
  have lo:=fun s bx=>l169 hb d K n n 0 s bx st l (by omega) (by omega) hn hl h
  simp
  refine WL.use L169_0_p L169_0_w (lo _ _ ?_ ?_ ?_) ?_
  iterate 3 simp
  rintro e s' b' st' ⟨rfl,⟨k,hk⟩,p⟩ hf
  have f1:=hf 1 rfl
  simp at f1
  simp [hk,f1,p]
  omega
 obtain ⟨r,st',g,⟨b,rfl⟩,l',p⟩:=go
 exact ⟨st',l',b,g,p⟩
theorem c125 {st:St} {hb:Nat} {d:D} {l:List Int} {K:Nat} (h:HB st hb d l K) (hn:l≠[]) (hl:l.length≤1000000) :
  ∃ st' d' l' x,callD T (ev T) 125 [hI hb] st=some (.ifc 3 (.int .i64 x),st')∧HB st' hb d' l' K∧(x::l').Perm l∧HQ st hb d st' d':=by
 have hp:=List.length_pos_iff.2 hn
 obtain ⟨st1,l1,q1,h1,p1,f1,_⟩:=h.swap 0 (l.length - 1) (by omega) (by omega)
 obtain ⟨st2,l2,b,q2,h2,p2,f2⟩:=c169 h1 (l.length - 1) (by rw [p1.length_eq]; omega) (by rw [p1.length_eq]; omega)
 have hn2:l2≠[]:=fun e=>by have:=(p2.trans p1).length_eq; rw [e] at this; simp at this; omega
 obtain ⟨l3,x,rfl⟩:∃ l3 x,l2=l3++[x]:=⟨l2.dropLast,l2.getLast hn2,(List.dropLast_concat_getLast hn2).symm⟩
 obtain ⟨st3,d3,q3,h3,f3⟩:=c208 h2 (by have:=(p2.trans p1).length_eq; simp at this; omega)
 obtain ⟨a1,a2,a3,a4⟩:=h.row.facts
 obtain ⟨md,hat⟩:=h.at'
 obtain ⟨md1,hat1⟩:=h1.at'
 have q0:=c124 h.row
 refine ⟨st3,d3,l3,x,?_,h3,((List.perm_append_singleton x l3).symm.trans p2).trans p1,(f1.trans f2).trans f3⟩
 rw [callD_rawE (fn:=F125) rfl rfl (by simp)]
 have go:Ret (ev T 125 [hI hb] st) fun r st'=>r=.ifc 3 (.int .i64 x)∧st'=st3:=by
  refine Ret_wp (fn:=F125) rfl ?_
  rw [F125]
  have w1:IntKind.wrap .i64 ((l.length:Int) - 1)=((l.length - 1:Nat):Int):=by rw [wrap64] <;> omega
  generalize l.length - 1=n at *
  simp at q1 q2
  simp [hat,a2,a1,q0,w1,q1,q2,q3,-Int.natCast_add]
 obtain ⟨r,st',g,rfl,rfl⟩:=go
 exact g
end Go.Nt.Li
