/-
  MAPS of strings, walked.
  No condition; of no program.
-/
import Derived.Test.YtnflammoeakgfaaGreatNtIfW
import Derived.Test.YtnflammoeakgfaaGreatLiHp
import Derived.Test.YtnflammoeakgfaaGreatLiW6
namespace Go.Nt
variable {T:Nat→Option IFunc} {go:GoF} {rd:Opd→D} {rb:Nat→Nat × List D} {st:St}
def kLkR (zero:D) (ok:Bool):Option (Option (Nat × D))→Option Eff
 | some r=>val (if ok then .tup [(r.map (·.2)).getD zero,.bool r.isSome] else (r.map (·.2)).getD zero)
 | none=>none
def kLkO (zero:D) (ok:Bool) (s:List UInt8):Ob→Option Eff
 | .map _ ents=>kLkR zero ok (seekD .str (.str s) ents 0)
 | _=>none
def kLook (kk:Kd) (zero:D) (ok:Bool) (st:St) (m k:D):Option Eff:=if k.isKey kk then
  (match m with | .nilm=>some none | .mp id=>(match St.at st id with | .map _ ents=>seekD kk k ents 0 | _=>none) | _=>none:Option (Option (Nat × D))).bind fun r=>
   val (if ok then .tup [(r.map (·.2)).getD zero,.bool r.isSome] else (r.map (·.2)).getD zero) else none
@[simp ↓] theorem a_look (d:Nat) (kk:Kd) (m k:Opd) (zero:D) (ok:Bool):actO T go rd rb st (.look d kk m k zero ok)=kLook kk zero ok st (rd m) (rd k):=(rfl)
@[simp] theorem kLook_mp (zero:D) (ok:Bool) (id:Nat) (s:List UInt8):kLook .str zero ok st (.mp id) (.str s)=kLkO zero ok s (St.at st id):=by
 unfold kLook kLkO kLkR
 rw [if_pos (show (D.str s).isKey .str=true from rfl)]
 cases h:St.at st id with
 | cells=>simp only [h]; rfl
 | map a ents=>simp only [h]; cases seekD .str (.str s) ents 0 <;> rfl
@[simp] theorem kLkO_map (zero:D) (ok:Bool) (s:List UInt8) (md:Nat) (ents:List (D × D)):kLkO zero ok s (.map md ents)=kLkR zero ok (seekD .str (.str s) ents 0):=(rfl)
@[simp] theorem kLkR_0t (zero:D):kLkR zero true (some none)=some (.tup [zero,.bool false],none,none):=(rfl)
@[simp] theorem kLkR_0f (zero:D):kLkR zero false (some none)=some (zero,none,none):=(rfl)
@[simp] theorem kLkR_1t (zero:D) (i:Nat) (v:D):kLkR zero true (some (some (i,v)))=some (.tup [v,.bool true],none,none):=(rfl)
@[simp] theorem kLkR_1f (zero:D) (i:Nat) (v:D):kLkR zero false (some (some (i,v)))=some (v,none,none):=(rfl)
@[simp ↓] theorem a_mkmap (d:Nat):actO T go rd rb st (.mkmap d)=some (.mp st.length,none,some (st++[.map 0 []])):=(rfl)
def kMuR (st:St) (id md:Nat) (ents:List (D × D)) (s:List UInt8) (x:D):Option (Option (Nat × D))→Option Eff
 | some r=>some (.undef,none,some (List.set st id (.map (md+1) (match r with | some (i,_)=>ents.set i (.str s,x) | none=>ents++[(.str s,x)]))))
 | none=>none
def kMuO (st:St) (id:Nat) (s:List UInt8) (x:D):Ob→Option Eff
 | .map md ents=>if x.okv then kMuR st id md ents s x (seekD .str (.str s) ents 0) else none
 | _=>none
def kMup (kk:Kd) (st:St) (m k x:D):Option Eff:=match m with
  | .mp id=>match St.at st id with
   | .map mod ents=>if x.okv && k.isKey kk then (seekD kk k ents 0).bind fun r=>
     some (.undef,none,some (List.set st id (.map (mod+1) (match r with | some (i,_)=>ents.set i (k,x) | none=>ents++[(k,x)])))) else none
   | _=>none
  | _=>none
@[simp ↓] theorem a_mupd (kk:Kd) (m k x:Opd):actO T go rd rb st (.mupd kk m k x)=kMup kk st (rd m) (rd k) (rd x):=(rfl)
@[simp] theorem kMup_mp (id:Nat) (s:List UInt8) (x:D):kMup .str st (.mp id) (.str s) x=kMuO st id s x (St.at st id):=by
 unfold kMup kMuO kMuR
 cases h:St.at st id with
 | cells=>simp only [h]
 | map a ents=>
  have e:(D.str s).isKey .str=true:=rfl
  simp only [h,e,Bool.and_true]
  split
  ·cases seekD .str (.str s) ents 0 <;> rfl
  ·rfl
@[simp] theorem kMuO_map (id:Nat) (s:List UInt8) (x:D) (md:Nat) (ents:List (D × D)):kMuO st id s x (.map md ents)=if x.okv then kMuR st id md ents s x (seekD .str (.str s) ents 0) else none:=(rfl)
@[simp] theorem kMuR_0 (id:Nat) (s:List UInt8) (x:D) (md:Nat) (ents:List (D × D)):kMuR st id md ents s x (some none)=some (.undef,none,some (List.set st id (.map (md+1) (ents++[(.str s,x)])))):=(rfl)
@[simp] theorem kMuR_1 (id:Nat) (s:List UInt8) (x:D) (md:Nat) (ents:List (D × D)) (i:Nat) (v:D):kMuR st id md ents s x (some (some (i,v)))=some (.undef,none,some (List.set st id (.map (md+1) (ents.set i (.str s,x))))):=(rfl)
end Go.Nt
namespace Go.Nt
variable {T:Nat→Option IFunc} {go:GoF} {rd:Opd→D} {rb:Nat→Nat × List D} {st:St}
def entI (kv:List (Int × D)):List (D × D):=kv.map fun p=>(.int .i64 p.1,p.2)
def atI (kv:List (Int × D)) (f:Int):Option D:=(kv.find? fun p=>p.1 == f).map (·.2)
def seekI (f:Int):List (Int × D)→Nat→Option (Nat × D)
 | [],_=>none
 | p::r,i=>if p.1 == f then some (i,p.2) else seekI f r (i+1)
theorem seekD_I (f:Int):∀ (kv:List (Int × D)) (i:Nat),seekD .int (.int .i64 f) (entI kv) i=some (seekI f kv i)
 | [],_=>rfl
 | p::r,i=>by
  have e:keyD .int (.int .i64 f) (.int .i64 p.1)=some (f == p.1):=rfl
  simp only [entI,List.map_cons,seekD,seekI,e]
  by_cases h:p.1=f
  ·subst h; simp
  ·have h2:(f == p.1)=false:=by simpa using fun e=>h e.symm
   have h3:(p.1 == f)=false:=by simpa using h
   rw [h2,h3]
   simpa [entI] using seekD_I f r (i+1)
theorem seekI_at (f:Int):∀ (kv:List (Int × D)) (i:Nat),(seekI f kv i).map (·.2)=atI kv f
 | [],_=>rfl
 | p::r,i=>by
  unfold seekI atI
  cases h:p.1 == f
  ·simp only [Bool.false_eq_true,if_false,List.find?_cons,h]; exact seekI_at f r (i+1)
  ·simp [List.find?_cons,h]
theorem atI_app (kv:List (Int × D)) (f g:Int) (o:D):atI (kv++[(f,o)]) g=(atI kv g).or (if f=g then some o else none):=by
 unfold atI
 rw [List.find?_append]
 cases h:kv.find? fun p=>p.1 == g with
 | some p=>rfl
 | none=>by_cases e:f=g <;> simp [e]
def kLkI (zero:D) (f:Int):Ob→Option Eff
 | .map _ ents=>kLkR zero false (seekD .int (.int .i64 f) ents 0)
 | _=>none
@[simp] theorem kLook_mpI (zero:D) (id:Nat) (f:Int):kLook .int zero false st (.mp id) (.int .i64 f)=kLkI zero f (St.at st id):=by
 unfold kLook kLkI kLkR
 rw [if_pos (show (D.int .i64 f).isKey .int=true from rfl)]
 cases h:St.at st id with
 | cells=>simp only [h]; rfl
 | map a ents=>simp only [h]; cases seekD .int (.int .i64 f) ents 0 <;> rfl
@[simp] theorem kLkI_map (zero:D) (f:Int) (md:Nat) (kv:List (Int × D)):kLkI zero f (.map md (entI kv))=some ((atI kv f).getD zero,none,none):=by
 simp only [kLkI,seekD_I,←seekI_at f kv 0]
 cases seekI f kv 0 <;> rfl
def kMuI (st:St) (id:Nat) (f:Int) (x:D):Ob→Option Eff
 | .map md ents=>if x.okv then (seekD .int (.int .i64 f) ents 0).bind fun r=>
     some (.undef,none,some (List.set st id (.map (md+1) (match r with | some (i,_)=>ents.set i (.int .i64 f,x) | none=>ents++[(.int .i64 f,x)])))) else none
 | _=>none
@[simp] theorem kMup_mpI (id:Nat) (f:Int) (x:D):kMup .int st (.mp id) (.int .i64 f) x=kMuI st id f x (St.at st id):=by
 unfold kMup kMuI
 cases h:St.at st id with
 | cells=>simp only [h]
 | map a ents=>
  have e:(D.int .i64 f).isKey .int=true:=rfl
  simp only [h,e,Bool.and_true] <;> rfl
theorem kMuI_new (id:Nat) (f:Int) (x:D) (hx:x.okv=true) (md:Nat) (kv:List (Int × D)) (h:atI kv f=none):kMuI st id f x (.map md (entI kv))=some (.undef,none,some (List.set st id (.map (md+1) (entI (kv++[(f,x)]))))):=by
 simp only [kMuI,hx,if_true,seekD_I,Option.bind_some]
 have e:=seekI_at f kv 0
 rw [h] at e
 cases hs:seekI f kv 0 with
 | some r=>rw [hs] at e; cases e
 | none=>simp [entI]
end Go.Nt
set_option linter.unusedSimpArgs false
set_option maxRecDepth 20000
namespace Go.Nt.Li
open Go Go.Nt
theorem c126 (m:Tm) (gm:good m) (f:Int) (st:St):callD T (ev T) 126 [encT m,.int .i64 f] st=some (.tup [encT ((blk m f).getD T0),.bool (blk m f).isSome],st):=by
 refine callD_pureR (fn:=F126) rfl rfl (by simp) (by simp) ?_
 refine Ret_wp (fn:=F126) rfl ?_
 rw [F126]
 by_cases h0:f < 0
 ·have e:blk m f=none:=by unfold blk; rw [if_pos h0]
  simp [h0,e,splice,fillD,encT_0]
 ·obtain ⟨i,rfl⟩:∃ i:Nat,f=i:=⟨f.toNat,by omega⟩
  rw [blk_nat]
  by_cases h1:i < m.l.length
  ·have h1':¬ (m.l.length:Int)≤i:=by omega
   by_cases h2:m.l[i].k=33
   ·by_cases h3:m.l[i].l.length=3
    ·have h3':(m.l[i].l.length:Int)=3:=by omega
     have e:fnAt m i=some (m.l[i].l[2]'(by omega)):=by unfold fnAt; simp [h1,h2,h3]
     have h4:2 < m.l[i].l.length:=by omega
     simp [h1,h1',h2,h3',h4,e,splice,fillD]
     rw [encT_eq]
    ·have h3':¬ (m.l[i].l.length:Int)=3:=by omega
     have e:fnAt m i=none:=by unfold fnAt; simp [h1,h2,h3]
     simp [h1,h1',h2,h3',e,splice,fillD,encT_0]
   ·have e:fnAt m i=none:=by unfold fnAt; simp [h1,h2]
    simp [h1,h1',h2,e,splice,fillD,encT_0]
  ·have h1':(m.l.length:Int)≤i:=by omega
   have e:fnAt m i=none:=by unfold fnAt; simp [h1]
   simp [h1',e,splice,fillD,encT_0]
theorem apart_HQ {st st':St} {hb:Nat} {d d' e:D} (h:HQ st hb d st' d') (ha:apart d e) (he:∀ i,rid e=some i→i < st.length):apart d' e:=fun i hi hei=>by
 rcases h.2.2 with q | ⟨k,q,hk⟩
 ·exact ha i (by rw [←q]; exact hi) hei
 ·rw [q] at hi; cases hi; have:=he _ hei; omega
theorem HQ.row {st st':St} {hb:Nat} {d d' e:D} {l:List Int} (h:HQ st hb d st' d') (hs:∃ md,St.at st hb=.cells true 1 0 md false [d]) (r:RowI st e l) (ha:apart d e):RowI st' e l:=
 r.keep h.1 fun i hi=>h.2.1 i (r.lt hi).1 (fun q=>by
  obtain ⟨md,g⟩:=hs
  obtain ⟨_,v,m,el,g2⟩:=r.lt hi
  rw [q,g] at g2; cases g2) fun q=>ha i q hi
theorem RowI.el {st:St} {d:D} {l:List Int} (h:RowI st d l) (i:Nat) (hi:i < l.length):∃ id v md,idxAD d i 1 none none=some (.hp id v 1 i 0)∧St.at st id=.cells false 1 v md false (nI l):=by
 rcases h with ⟨rfl,rfl⟩ | ⟨id,md,rfl,h1,h2,h3⟩
 ·simp at hi
 ·exact ⟨id,_,md,by simp [idxAD,hi],h3⟩
theorem l93_0 (hb:Nat) (dc:D) (C:List Int) (hC:C.length≤1000000):∀ (r i:Nat) (s:List D) (bx:List (Nat × List D)) (st:St) (d:D) (l:List Int) (K:Nat),r=C.length - i→i≤C.length→HB st hb d l K→K+r≤1000000→l.length+r≤1000000→RowI st dc C→apart d dc →
  get s 20=dc→get s 21=.i C.length→get s 22=.i i→get s 6=.hp hb 0 1 0 0 →
  Stops (lp T L93_0 ⟨⟨s,bx⟩,st⟩) fun ex _ _ st'=>ex=.exit 0∧∃ d' l',HB st' hb d' l' (K+r)∧(∀ x,x∈l'↔x∈l∨x∈C.drop i)∧l'.length=l.length+r∧HQ st hb d st' d':=by
 intro r
 induction r with
 | zero=>
  intro i s bx st d l K hr hi h hK hL rc ha h20 h21 h22 h6
  have e:i=C.length:=by omega
  subst e
  refine Stops_wp L93_0.eq_1 ?_
  simp [h20,h21,h22,h6]
  exact ⟨d,l,h,by simp,rfl,.refl _ _ _⟩
 | succ r ih=>
  intro i s bx st d l K hr hi h hK hL rc ha h20 h21 h22 h6
  have hlt:i < C.length:=by omega
  have hw:IntKind.wrap .i64 ((i:Int)+1)=((i+1:Nat):Int):=by rw [wrap64] <;> omega
  obtain ⟨id,v,md,e1,e2⟩:=rc.el i hlt
  have e3:(nI C)[i]?=some (.int .i64 C[i]):=by simp [hlt]
  obtain ⟨st1,d1,l1,q,k1,k2,k3⟩:=c123 h (by omega) (by omega) C[i]
  have nx:=fun s' bx'=>ih (i+1) s' bx' st1 d1 l1 (K+1) (by omega) (by omega) k1 (by omega) (by rw [k2.length_eq]; simp; omega) (k3.row h.at' rc ha) (apart_HQ k3 ha fun i hi=>(rc.lt hi).1)
  generalize nI C=els at *
  refine Stops_wp L93_0.eq_1 ?_
  simp [h20,h21,h22,h6,hlt,hw,e1,e2,e3,q,-Int.natCast_add]
  refine (nx _ _ ?_ ?_ ?_ ?_).mono ?_
  iterate 4 simp [h20,h21,h6]
  rintro ex s' b' st' ⟨rfl,d2,l2,m1,m2,m3,m4⟩
  refine ⟨rfl,d2,l2,by rw [show K+(r+1)=K+1+r by omega]; exact m1,fun x=>?_,by rw [m3,k2.length_eq]; simp; omega,k3.trans m4⟩
  rw [m2,k2.mem_iff,List.drop_eq_getElem_cons hlt,List.mem_cons,List.mem_cons,or_comm (a:=x=C[i]),or_assoc]
theorem l93_2 (hb:Nat) (dc:D) (C:List Int) (hC:C.length≤1000000):∀ (r i:Nat) (s:List D) (bx:List (Nat × List D)) (st:St) (d:D) (l:List Int) (K:Nat),r=C.length - i→i≤C.length→HB st hb d l K→K+r≤1000000→l.length+r≤1000000→RowI st dc C→apart d dc →
  get s 63=dc→get s 64=.i C.length→get s 65=.i i→get s 6=.hp hb 0 1 0 0 →
  Stops (lp T L93_2 ⟨⟨s,bx⟩,st⟩) fun ex _ _ st'=>ex=.exit 4∧∃ d' l',HB st' hb d' l' (K+r)∧(∀ x,x∈l'↔x∈l∨x∈C.drop i)∧l'.length=l.length+r∧HQ st hb d st' d':=by
 intro r
 induction r with
 | zero=>
  intro i s bx st d l K hr hi h hK hL rc ha h20 h21 h22 h6
  have e:i=C.length:=by omega
  subst e
  refine Stops_wp L93_2.eq_1 ?_
  simp [h20,h21,h22,h6]
  exact ⟨d,l,h,by simp,rfl,.refl _ _ _⟩
 | succ r ih=>
  intro i s bx st d l K hr hi h hK hL rc ha h20 h21 h22 h6
  have hlt:i < C.length:=by omega
  have hw:IntKind.wrap .i64 ((i:Int)+1)=((i+1:Nat):Int):=by rw [wrap64] <;> omega
  obtain ⟨id,v,md,e1,e2⟩:=rc.el i hlt
  have e3:(nI C)[i]?=some (.int .i64 C[i]):=by simp [hlt]
  obtain ⟨st1,d1,l1,q,k1,k2,k3⟩:=c123 h (by omega) (by omega) C[i]
  have nx:=fun s' bx'=>ih (i+1) s' bx' st1 d1 l1 (K+1) (by omega) (by omega) k1 (by omega) (by rw [k2.length_eq]; simp; omega) (k3.row h.at' rc ha) (apart_HQ k3 ha fun i hi=>(rc.lt hi).1)
  generalize nI C=els at *
  refine Stops_wp L93_2.eq_1 ?_
  simp [h20,h21,h22,h6,hlt,hw,e1,e2,e3,q,-Int.natCast_add]
  refine (nx _ _ ?_ ?_ ?_ ?_).mono ?_
  iterate 4 simp [h20,h21,h6]
  rintro ex s' b' st' ⟨rfl,d2,l2,m1,m2,m3,m4⟩
  refine ⟨rfl,d2,l2,by rw [show K+(r+1)=K+1+r by omega]; exact m1,fun x=>?_,by rw [m3,k2.length_eq]; simp; omega,k3.trans m4⟩
  rw [m2,k2.mem_iff,List.drop_eq_getElem_cons hlt,List.mem_cons,List.mem_cons,or_comm (a:=x=C[i]),or_assoc]
structure Mv (hb mb:Nat) (st:St) (d da:D) (st':St) (d' da':D):Prop where
 le:st.length≤st'.length
 fr:∀ i,i < st.length→i≠hb→i≠mb→rid d≠some i→rid da≠some i→St.at st' i=St.at st i
 d:rid d'=rid d∨∃ k,rid d'=some k∧st.length≤k
 a:rid da'=rid da∨∃ k,rid da'=some k∧st.length≤k
theorem Mv.trans {hb mb:Nat} {s0 s1 s2:St} {d0 d1 d2 a0 a1 a2:D} (h:Mv hb mb s0 d0 a0 s1 d1 a1) (k:Mv hb mb s1 d1 a1 s2 d2 a2):Mv hb mb s0 d0 a0 s2 d2 a2:=by
 have join:∀ x0 x1 x2:D,(rid x1=rid x0∨∃ k,rid x1=some k∧s0.length≤k)→(rid x2=rid x1∨∃ k,rid x2=some k∧s1.length≤k)→rid x2=rid x0∨∃ k,rid x2=some k∧s0.length≤k:=by
  intro x0 x1 x2 p q
  have:=h.le
  rcases q with q | ⟨j,q,hj⟩
  ·rcases p with p | ⟨j,p,hj⟩
   ·exact .inl (q.trans p)
   ·exact .inr ⟨j,q.trans p,hj⟩
  ·exact .inr ⟨j,q,by omega⟩
 have ne:∀ (x0 x1:D) (i:Nat),(rid x1=rid x0∨∃ k,rid x1=some k∧s0.length≤k)→i < s0.length→rid x0≠some i→rid x1≠some i:=by
  intro x0 x1 i p hi hn
  rcases p with p | ⟨j,p,hj⟩
  ·rw [p]; exact hn
  ·rw [p]; intro e; cases e; omega
 refine ⟨Nat.le_trans h.le k.le,fun i hi h1 h2 h3 h4=>?_,join _ _ _ h.d k.d,join _ _ _ h.a k.a⟩
 rw [k.fr i (Nat.lt_of_lt_of_le hi h.le) h1 h2 (ne _ _ i h.d hi h3) (ne _ _ i h.a hi h4),h.fr i hi h1 h2 h3 h4]
theorem HQ.mv {hb:Nat} {st st':St} {d d':D} (h:HQ st hb d st' d') (mb:Nat) (da:D):Mv hb mb st d da st' d' da:=⟨h.1,fun i hi h1 _ h3 _=>h.2.1 i hi h1 h3,h.2.2,.inl rfl⟩
theorem Fr.mv {st st':St} (h:Fr st.length st st') (hb mb:Nat) (d da:D):Mv hb mb st d da st' d da:=⟨h.1,fun i hi _ _ _ _=>h.2 i hi,.inl rfl,.inl rfl⟩
def RowE (base:Nat) (st:St) (d da e:D) (l:List Int):Prop:=RowI st e l∧l.length≤1000000∧apart d e∧apart da e∧∀ i,rid e=some i→base≤i
theorem RowE.mv {base hb mb:Nat} {st st':St} {d da d' da' e:D} {l:List Int} (h:RowE base st d da e l) (k:Mv hb mb st d da st' d' da') (h1:∃ md el,St.at st hb=.cells true 1 0 md false el) (h2:∃ md en,St.at st mb=.map md en):RowE base st' d' da' e l:=by
 obtain ⟨r,hl,pd,pa,hb'⟩:=h
 have ap:∀ x x':D,(rid x'=rid x∨∃ k,rid x'=some k∧st.length≤k)→apart x e→apart x' e:=by
  intro x x' p hx i hi hei
  rcases p with p | ⟨j,p,hj⟩
  ·exact hx i (by rw [←p]; exact hi) hei
  ·rw [p] at hi; cases hi; have:=(r.lt hei).1; omega
 refine ⟨r.keep k.le fun i hi=>?_,hl,ap _ _ k.d pd,ap _ _ k.a pa,hb'⟩
 obtain ⟨g1,v,m,el,g2⟩:=r.lt hi
 refine k.fr i g1 (fun q=>?_) (fun q=>?_) (fun q=>pd i q hi) (fun q=>pa i q hi)
 ·obtain ⟨_,_,g⟩:=h1; rw [q,g] at g2; cases g2
 ·obtain ⟨_,_,g⟩:=h2; rw [q,g] at g2; cases g2
def Ent (m:Tm) (base:Nat) (st:St) (d da:D) (f:Int) (o:D):Prop:=
 ∃ b R W C dr dw dc fl,blk m f=some b∧o=.agg [dr,dw,dc,.int .i64 fl]∧RowE base st d da dr R∧RowE base st d da dw W∧RowE base st d da dc C∧(R.length≤2 * cntT b∧W.length≤2 * cntT b∧C.length≤2 * cntT b)∧(∀ x,x∈W↔x∈wrT b)∧∀ x,x∈C↔x∈caT b
theorem Ent.mv {m:Tm} {base hb mb:Nat} {st st':St} {d da d' da':D} {f:Int} {o:D} (h:Ent m base st d da f o) (k:Mv hb mb st d da st' d' da') (h1:∃ md el,St.at st hb=.cells true 1 0 md false el) (h2:∃ md en,St.at st mb=.map md en):Ent m base st' d' da' f o:=by
 obtain ⟨b,R,W,C,dr,dw,dc,fl,e1,e2,r,w,c,e3⟩:=h
 exact ⟨b,R,W,C,dr,dw,dc,fl,e1,e2,r.mv k h1 h2,w.mv k h1 h2,c.mv k h1 h2,e3⟩
structure RInv (m:Tm) (c0:List Int) (st0:St) (hb mb:Nat) (st:St) (d da:D) (l L all:List Int) (kv:List (Int × D)) (K:Nat):Prop where
 hp:HB st hb d l K
 ra:RowI st da all
 ri:rises all=true
 ap:apart d da
 mp:mb < st.length∧∃ md,St.at st mb=.map md (entI kv)
 key:∀ f,atI kv f≠none→f∈all
 ent:∀ f,f∈all→∃ o,atI kv f=some o∧Ent m st0.length st d da f o
 snd:∀ f,f∈all→Rch m c0 f
 cmp:∀ f b,f∈c0→blk m f=some b→f∈all∨f∈L
 cls:∀ g b f x,g∈all→blk m g=some b→f∈caT b→blk m f=some x→f∈all∨f∈L
 frm:∀ f,f∈L→f∈c0∨∃ g b,g∈all∧blk m g=some b∧f∈caT b
 le:st0.length≤st.length
 old:∀ i,i < st0.length→St.at st i=St.at st0 i
 bh:st0.length≤hb
 bm:st0.length≤mb
 bd:∀ i,rid d=some i→st0.length≤i
 ba:∀ i,rid da=some i→st0.length≤i
theorem HB.keep {st st':St} {hb:Nat} {d:D} {l:List Int} {K:Nat} (h:HB st hb d l K) (hl:st.length≤st'.length) (h1:St.at st' hb=St.at st hb) (h2:∀ i,rid d=some i→St.at st' i=St.at st i):HB st' hb d l K:=
 ⟨Nat.lt_of_lt_of_le h.lt hl,by obtain ⟨md,g⟩:=h.at'; exact ⟨md,by rw [h1]; exact g⟩,h.row.keep hl h2 (Nat.le_refl _)⟩
theorem HB.box {st:St} {hb:Nat} {d:D} {l:List Int} {K:Nat} (h:HB st hb d l K):∃ md el,St.at st hb=.cells true 1 0 md false el:=by
 obtain ⟨md,g⟩:=h.at'; exact ⟨md,_,g⟩
section
variable {m:Tm} {c0:List Int} {st0:St} {hb mb:Nat} {st st1:St} {d d1 da:D} {l L l1 L1 all:List Int} {kv:List (Int × D)} {K K1:Nat} {x:Int}
theorem RInv.hq (h:RInv m c0 st0 hb mb st d da l L all kv K) (h1:HB st1 hb d1 l1 K1) (hq:HQ st hb d st1 d1)
  (mem:∀ f b,blk m f=some b→f∈all∨f∈L→f∈all∨f∈L1) (bak:∀ f,f∈L1→f∈L):RInv m c0 st0 hb mb st1 d1 da l1 L1 all kv K1:=by
 have k:=hq.mv mb da
 obtain ⟨mlt,md,mat⟩:=h.mp
 obtain ⟨bmd,bat⟩:=h.hp.at'
 have hmb:mb≠hb:=fun e=>by rw [e,bat] at mat; cases mat
 have hmd:rid d≠some mb:=fun e=>by
  obtain ⟨_,v,mm,el,g⟩:=h.hp.row.lt e
  rw [mat] at g; cases g
 exact {
  hp:=h1
  ra:=hq.row h.hp.at' h.ra h.ap
  ri:=h.ri
  ap:=apart_HQ hq h.ap fun i hi=>(h.ra.lt hi).1
  mp:=⟨Nat.lt_of_lt_of_le mlt hq.1,md,by rw [hq.2.1 mb mlt hmb hmd]; exact mat⟩
  key:=h.key
  ent:=fun f hf=>by
   obtain ⟨o,e,g⟩:=h.ent f hf
   exact ⟨o,e,g.mv k h.hp.box ⟨_,_,mat⟩⟩
  snd:=h.snd
  cmp:=fun f b hf hb=>mem f b hb (h.cmp f b hf hb)
  cls:=fun g b f y hg hb hf hy=>mem f y hy (h.cls g b f y hg hb hf hy)
  frm:=fun f hf=>h.frm f (bak f hf)
  le:=Nat.le_trans h.le hq.1
  old:=fun i hi=>by
   rw [hq.2.1 i (Nat.lt_of_lt_of_le hi h.le) (fun e=>by have:=h.bh; omega) fun e=>by have:=h.bd i e; omega]
   exact h.old i hi
  bh:=h.bh
  bm:=h.bm
  bd:=fun i hi=>by
   have:=h.le
   rcases hq.2.2 with q | ⟨k,q,hk⟩
   ·exact h.bd i (by rw [←q]; exact hi)
   ·rw [q] at hi; cases hi; omega
  ba:=h.ba }
theorem RInv.new (h:RInv m c0 st0 hb mb st d da l L all kv K) (hx:x∉all) {b:Tm} (hb':blk m x=some b) (hL:∀ f,f∈L↔f=x∨f∈l) {st2 st3:St} {da2 o:D} {W C:List Int} {md:Nat}
  (a1:RowI st2 da2 (insI x all)) (a2:st.length≤st2.length) (a3:∀ i,i < st.length→rid da≠some i→St.at st2 i=St.at st i) (a4:rid da2=rid da∨∃ k,rid da2=some k∧st.length≤k)
  (f3:Fr st2.length st2 st3) (hcb:cntT b≤400000) (ho:OwnV st2.length st3 o W C (2 * cntT b)) (hW:∀ y,y∈W↔y∈wrT b) (hC:∀ y,y∈C↔y∈caT b) (hm:St.at st mb=.map md (entI kv)) :
  St.at st3 mb=.map md (entI kv)∧mb < st3.length∧RInv m c0 st0 hb mb (List.set st3 mb (.map (md+1) (entI (kv++[(x,o)])))) d da2 l (l++C) (insI x all) (kv++[(x,o)]) K ∧
   ∃ dr dw dc fl,o=.agg [dr,dw,dc,.int .i64 fl]∧RowI (List.set st3 mb (.map (md+1) (entI (kv++[(x,o)])))) dc C∧apart d dc∧C.length≤2 * cntT b:=by
 obtain ⟨mlt,_⟩:=h.mp
 obtain ⟨bmd,bat⟩:=h.hp.at'
 have ble:=h.le
 have hmb:mb≠hb:=fun e=>by rw [e,bat] at hm; cases hm
 have shM:∀ {e:D} {l:List Int},RowI st e l→rid e≠some mb:=fun r q=>by
  obtain ⟨_,v,mm,el,g⟩:=r.lt q
  rw [hm] at g; cases g
 have shH:rid da≠some hb:=fun q=>by
  obtain ⟨_,v,mm,el,g⟩:=h.ra.lt q
  rw [bat] at g; cases g
 have m3:St.at st3 mb=.map md (entI kv):=by rw [f3.2 mb (by omega),a3 mb mlt (shM h.ra)]; exact hm
 have mlt3:mb < st3.length:=Nat.lt_of_lt_of_le (Nat.lt_of_lt_of_le mlt a2) f3.1
 have shM3:∀ {e:D} {l:List Int},RowI st3 e l→rid e≠some mb:=fun r q=>by
  obtain ⟨_,v,mm,el,g⟩:=r.lt q
  rw [m3] at g; cases g
 generalize hs4:List.set st3 mb (.map (md+1) (entI (kv++[(x,o)])))=st4
 have e4:st4.length=st3.length:=by rw [←hs4]; simp
 have c4:∀ i,i≠mb→St.at st4 i=St.at st3 i:=fun i hi=>by rw [←hs4,at_set _ _ _ _ mlt3,if_neg hi]
 have m4:St.at st4 mb=.map (md+1) (entI (kv++[(x,o)])):=by rw [←hs4,at_set _ _ _ _ mlt3,if_pos rfl]
 have row4:∀ {e:D} {l:List Int},RowI st3 e l→RowI st4 e l:=fun r=>r.keep (by omega) fun i hi=>c4 i fun q=>shM3 r (by rw [←q]; exact hi)
 have k:Mv hb mb st d da st4 d da2:=by
  have k1:Mv hb mb st d da st2 d da2:=⟨a2,fun i hi _ _ _ h4=>a3 i hi h4,.inl rfl,a4⟩
  have k3:Mv hb mb st3 d da2 st4 d da2:=⟨by omega,fun i _ _ h2 _ _=>c4 i h2,.inl rfl,.inl rfl⟩
  exact (k1.trans (f3.mv hb mb d da2)).trans k3
 have ch:∀ i,i < st.length→i≠mb→rid da≠some i→St.at st4 i=St.at st i:=fun i hi h1 h2=>by rw [c4 i h1,f3.2 i (by omega),a3 i hi h2]
 have l24:st2.length≤st4.length:=by have:=f3.1; omega
 have ra4:RowI st4 da2 (insI x all):=row4 (a1.keep f3.1 fun i hi=>f3.2 i (a1.lt hi).1)
 have da_new:∀ i,rid da2=some i→i < st2.length:=fun i hi=>(a1.lt hi).1
 have d_old:∀ i,rid d=some i→i < st.length:=fun i hi=>(h.hp.row.lt hi).1
 obtain ⟨R,dr,dw,dc,fl,ho1,hr,hw,hc,_⟩:=ho
 have rowE:∀ {e:D} {l:List Int},RowB st2.length st3 e l (2 * cntT b)→RowE st0.length st4 d da2 e l:=fun r=>by
  refine ⟨row4 r.1,by have:=r.2.2.1; omega,fun i hi hei=>?_,fun i hi hei=>?_,fun i hi=>by have:=r.2.2.2 i hi; omega⟩
  ·have:=d_old i hi; have:=r.2.2.2 i hei; omega
  ·have:=da_new i hi; have:=r.2.2.2 i hei; omega
 have kn:atI kv x=none:=by
  cases hk:atI kv x with
  | none=>rfl
  | some o=>exact absurd (h.key x (by rw [hk]; simp)) hx
 refine ⟨m3,mlt3,?_,dr,dw,dc,fl,ho1,row4 hc.1,(rowE hc).2.2.1,hc.2.2.1⟩
 exact {
  hp:=h.hp.keep (by omega) (ch hb h.hp.lt (fun e=>hmb e.symm) shH) fun i hi=>ch i (d_old i hi) (fun q=>by
   obtain ⟨_,v,mm,el,g⟩:=h.hp.row.lt hi
   rw [q,hm] at g; cases g) fun q=>h.ap i hi q
  ra:=ra4
  ri:=rises_insI h.ri
  ap:=fun i hi hei=>by
   rcases a4 with q | ⟨j,q,hj⟩
   ·exact h.ap i hi (by rw [←q]; exact hei)
   ·rw [q] at hei; cases hei; have:=d_old _ hi; omega
  mp:=⟨by omega,_,m4⟩
  key:=fun f hf=>by
   rw [atI_app] at hf
   rw [mem_insI]
   cases hk:atI kv f with
   | some o=>exact .inr (h.key f (by rw [hk]; simp))
   | none=>
    rw [hk] at hf
    by_cases e:x=f
    ·exact .inl e.symm
    ·rw [if_neg e] at hf; exact absurd rfl hf
  ent:=fun f hf=>by
   rw [atI_app]
   by_cases e:f=x
   ·subst e
    rw [kn,if_pos rfl]
    exact ⟨o,rfl,b,R,W,C,dr,dw,dc,fl,hb',ho1,rowE hr,rowE hw,rowE hc,⟨hr.2.2.1,hw.2.2.1,hc.2.2.1⟩,hW,hC⟩
   ·have hf':f∈all:=((mem_insI x all f).1 hf).resolve_left e
    obtain ⟨o',e1,g⟩:=h.ent f hf'
    exact ⟨o',by rw [e1]; rfl,g.mv k h.hp.box ⟨_,_,hm⟩⟩
  snd:=fun f hf=>by
   rcases (mem_insI x all f).1 hf with e | hf'
   ·subst e
    rcases h.frm f ((hL f).2 (.inl rfl)) with q | ⟨g,b',g1,g2,g3⟩
    ·exact .base q hb'
    ·exact .step (h.snd g g1) g2 g3 hb'
   ·exact h.snd f hf'
  cmp:=fun f b' hf hb2=>by
   rw [mem_insI,List.mem_append]
   rcases h.cmp f b' hf hb2 with q | q
   ·exact .inl (.inr q)
   ·rcases (hL f).1 q with q | q
    ·exact .inl (.inl q)
    ·exact .inr (.inl q)
  cls:=fun g b' f y hg hgb hf hy=>by
   rw [mem_insI,List.mem_append]
   rcases (mem_insI x all g).1 hg with e | hg'
   ·subst e
    rw [hb'] at hgb; cases hgb
    exact .inr (.inr ((hC f).2 hf))
   ·rcases h.cls g b' f y hg' hgb hf hy with q | q
    ·exact .inl (.inr q)
    ·rcases (hL f).1 q with q | q
     ·exact .inl (.inl q)
     ·exact .inr (.inl q)
  frm:=fun f hf=>by
   rcases List.mem_append.1 hf with q | q
   ·rcases h.frm f ((hL f).2 (.inr q)) with p | ⟨g,b',g1,g2⟩
    ·exact .inl p
    ·exact .inr ⟨g,b',(mem_insI x all g).2 (.inr g1),g2⟩
   ·exact .inr ⟨x,b,(mem_insI x all x).2 (.inl rfl),hb',(hC f).1 q⟩
  le:=by omega
  old:=fun i hi=>by
   rw [ch i (by omega) (fun e=>by have:=h.bm; omega) fun e=>by have:=h.ba i e; omega]
   exact h.old i hi
  bh:=h.bh
  bm:=h.bm
  bd:=h.bd
  ba:=fun i hi=>by
   rcases a4 with q | ⟨j,q,hj⟩
   ·exact h.ba i (by rw [←q]; exact hi)
   ·rw [q] at hi; cases hi; omega }
end
end Go.Nt.Li
set_option linter.unusedSimpArgs false
set_option maxRecDepth 20000
namespace Go.Nt.Li
open Go Go.Nt
def Q93 (m:Tm) (c0:List Int) (st0:St) (hb mb:Nat) (ex:Ex) (s':List D) (_:List (Nat × List D)) (st':St):Prop:=
 ex=.exit 2∧∃ d' da' all' kv' K',get s' 8=da'∧RInv m c0 st0 hb mb st' d' da' [] [] all' kv' K'∧2 * all'.length≤2 * cntTs m.l
theorem l93_1 (m:Tm) (gm:good m) (hcm:cntT m≤100000) (c0:List Int) (st0:St) (hb mb:Nat):∀ (r:Nat) (s:List D) (bx:List (Nat × List D)) (st:St) (d da:D) (l all:List Int) (kv:List (Int × D)) (K:Nat),
  RInv m c0 st0 hb mb st d da l l all kv K→l.length+spare all 0 m.l≤r→r≤900000→K+spare all 0 m.l≤900000→2 * all.length+spare all 0 m.l≤2 * cntTs m.l →
  get s 2=.lp 2 1 0→getB bx 2=(1,clT m)→get s 6=.hp hb 0 1 0 0→get s 7=.mp mb→get s 8=da →
  Stops (lp T L93_1 ⟨⟨s,bx⟩,st⟩) (Q93 m c0 st0 hb mb):=by
 intro r
 induction r with
 | zero=>
  intro s bx st d da l all kv K h hr hR hK hA h2 b2 h6 h7 h8
  have e:l=[]:=List.eq_nil_of_length_eq_zero (by omega)
  subst e
  obtain ⟨a1,a2,a3,a4⟩:=h.hp.row.facts
  obtain ⟨bmd,bat⟩:=h.hp.at'
  have q:=c124 h.hp.row
  refine Stops_wp L93_1.eq_1 ?_
  simp at q
  simp [h2,b2,h6,h7,h8,bat,a2,q]
  exact ⟨rfl,_,_,_,_,_,by simp [h8],h,by omega⟩
 | succ r ih=>
  intro s bx st d da l all kv K h hr hR hK hA h2 b2 h6 h7 h8
  have em:=cntT_eq m
  obtain ⟨a1,a2,a3,a4⟩:=h.hp.row.facts
  obtain ⟨bmd,bat⟩:=h.hp.at'
  have q:=c124 h.hp.row
  by_cases hl:l=[]
  ·subst hl
   refine Stops_wp L93_1.eq_1 ?_
   simp at q
   simp [h2,b2,h6,h7,h8,bat,a2,q]
   exact ⟨rfl,_,_,_,_,_,by simp [h8],h,by omega⟩
  ·have hpos:=List.length_pos_iff.2 hl
   have hgt:(0 < (l.length:Int))=True:=eq_true (by omega)
   obtain ⟨st1,d1,l1,x,q1,p1,p2,p3⟩:=c125 h.hp hl (by omega)
   have plen:=p2.length_eq
   simp only [List.length_cons] at plen
   have H1:=h.hq p1 p3 (fun _ _ _ hf=>hf) (fun _ hf=>hf)
   have q2:=c126 m gm x
   obtain ⟨x1,x2,x3,x4,x5⟩:=H1.ra.facts
   have q3:=c95 H1.ra H1.ri (by omega) x
   have skip:(x∈all∨blk m x=none)→∀ s' bx',get s' 2=.lp 2 1 0→getB bx' 2=(1,clT m)→get s' 6=.hp hb 0 1 0 0→get s' 7=.mp mb→get s' 8=da →
     Stops (lp T L93_1 ⟨⟨s',bx'⟩,st1⟩) (Q93 m c0 st0 hb mb):=by
    intro hx s' bx' g2 gb g6 g7 g8
    refine ih s' bx' st1 d1 da l1 all kv K (h.hq p1 p3 (fun f b hb' hf=>?_) fun f hf=>p2.mem_iff.1 (List.mem_cons_of_mem _ hf)) (by omega) (by omega) hK hA g2 gb g6 g7 g8
    rcases hf with hf | hf
    ·exact .inl hf
    ·rcases List.mem_cons.1 (p2.mem_iff.2 hf) with rfl | hf
     ·rcases hx with hx | hx
      ·exact .inl hx
      ·rw [hx] at hb'; cases hb'
     ·exact .inr hf
   by_cases hs:x∈all
   ·have hsb:all.contains x=true:=by simpa using hs
    rw [hsb] at q3
    refine Stops_wp L93_1.eq_1 ?_
    generalize ((all.countP (· < x):Nat):Int)=cp at *
    generalize (blk m x).getD T0=B at *
    rw [encT_eq B] at q2
    simp [h2,b2,h6,h7,h8,bat,a2,q,hpos,q1,q2,q3,splice,←encT_eq m]
    refine skip (.inl hs) _ _ ?_ ?_ ?_ ?_ ?_ <;> simp [h2,b2,h6,h7,h8]
   ·have hsb:all.contains x=false:=by simpa using hs
    rw [hsb] at q3
    cases hb':blk m x with
    | none=>
     rw [hb'] at q2
     refine Stops_wp L93_1.eq_1 ?_
     generalize ((all.countP (· < x):Nat):Int)=cp at *
     simp only [Option.getD_none,Option.isSome_none,encT_0] at q2
     simp [h2,b2,h6,h7,h8,bat,a2,q,hpos,q1,q2,q3,splice,←encT_eq m]
     refine skip (.inr hb') _ _ ?_ ?_ ?_ ?_ ?_ <;> simp [h2,b2,h6,h7,h8]
    | some b=>
     rw [hb'] at q2
     obtain ⟨hf,hcb⟩:=blk_cnt hb'
     have hcf:=cntTs_mem (List.getElem_mem hf)
     have gb:=blk_good gm hb'
     have xn:((0+x.toNat:Nat):Int)=x:=by have:=(blk_lt hb').1; omega
     obtain ⟨da2,st2,q4,r1,r2,r3,r4⟩:=c94 H1.ra H1.ri (by omega) x
     obtain ⟨y1,y2,y3,y4,y5⟩:=r1.facts
     obtain ⟨o,st3,q5,f3,W,C,ho,hW,hC⟩:=c92 b gb (by omega) st2
     obtain ⟨_,md,hm⟩:=H1.mp
     obtain ⟨m3,mlt3,H4,dr,dw,dc,fl,ho1,rc,apc,hCl⟩:=H1.new hs hb' (fun f=>by rw [←p2.mem_iff,List.mem_cons]) r1 r2 r3 r4 f3 (by omega) ho hW hC hm
     have kn:atI kv x=none:=by
      cases hk:atI kv x with
      | none=>rfl
      | some o=>exact absurd (h.key x (by rw [hk]; simp)) hs
     have spn:=spare_new (a:=all) (b:=insI x all) (fun y hy=>(mem_insI x all y).2 (.inr hy)) m.l 0 x.toNat hf (by rw [xn]; exact (mem_insI x all x).2 (.inl rfl)) (by rw [xn]; exact hs)
     have ilen:=insI_len x all
     have cpos:1≤cntT m.l[x.toNat]:=by have:=cntT_eq m.l[x.toNat]; omega
     have mu:=kMuI_new (st:=st3) mb x o (by rw [ho1]; rfl) md kv kn
     subst ho1
     obtain ⟨c1,c2,c3,c4,c5⟩:=rc.facts
     obtain ⟨R,dr',dw',dc',fl',hoe,hr,hw,hc,_⟩:=ho
     simp only [D.agg.injEq,List.cons.injEq,and_true,D.int.injEq,true_and] at hoe
     obtain ⟨rfl,rfl,rfl,rfl⟩:=hoe
     obtain ⟨z1,z2,z3,_⟩:=hr.1.facts
     obtain ⟨w1,w2,w3,_⟩:=hw.1.facts
     have lo:=fun s' bx'=>l93_2 hb dc C (by omega) C.length 0 s' bx' _ d1 l1 K (by omega) (by omega) H4.hp (by omega) (by omega) rc apc
     refine Stops_wp L93_1.eq_1 ?_
     generalize ((all.countP (· < x):Nat):Int)=cp at *
     simp only [Option.getD_some,Option.isSome_some] at q2
     rw [encT_eq b] at q2 q5
     simp [h2,b2,h6,h7,h8,bat,a2,q,hpos,q1,q2,q3,splice,←encT_eq m,x1,q4,y1,q5,z1,z2,z3,w1,w2,w3,c1,c2,c3,c4,m3,mu]
     refine WL.useB L93_2_p L93_2_w (WB:=L93_2.wrB) rfl (lo _ _ ?_ ?_ ?_ ?_) ?_
     iterate 4 simp [h6,c4]
     rintro e' s' b' st' ⟨rfl,d5,l5,k1,k2,k3,k4⟩ hfr hbr
     have g2:=hfr 2 rfl
     have g6:=hfr 6 rfl
     have g7:=hfr 7 rfl
     have g8:=hfr 8 rfl
     have gb2:=hbr 2 rfl
     simp [h2] at g2
     simp [h6] at g6
     simp [h7] at g7
     simp at g8
     simp [b2] at gb2
     simp
     refine ih s' b' st' d5 da2 l5 (insI x all) (kv++[(x,_)]) (K+C.length) (H4.hq k1 k4 (fun f b2 _ hf=>hf.imp id fun hf=>?_) fun f hf=>?_) (by omega) (by omega) (by omega) (by omega) g2 gb2 g6 g7 g8
     ·rw [k2,List.drop_zero]; exact List.mem_append.1 hf
     ·rw [k2,List.drop_zero] at hf; exact List.mem_append.2 hf
theorem c93 (m:Tm) (gm:good m) (hcm:cntT m≤100000) (st:St) (dc:D) (C:List Int) (rc:RowI st dc C) (hC:C.length≤100000) :
  ∃ hb mb da st' all kv,callD T (ev T) 93 [encT m,dc] st=some (.tup [da,.mp mb],st')∧st.length≤st'.length∧(∀ i,i < st.length→St.at st' i=St.at st i)∧RowI st' da all∧rises all=true∧(∀ i,rid da=some i→st.length≤i)∧all.length≤cntTs m.l ∧
   (∀ f,f∈all↔Rch m C f)∧(∃ md el,St.at st' hb=.cells true 1 0 md false el)∧(hb < st'.length∧st.length≤hb)∧(mb < st'.length∧st.length≤mb)∧(∃ md,St.at st' mb=.map md (entI kv))∧∀ f,f∈all→∃ o,atI kv f=some o∧Ent m st.length st' .nils da f o:=by
 obtain ⟨c1,c2,c3,c4,c5⟩:=rc.facts
 generalize hs:(st++[Ob.cells true 1 0 0 false [.nils]])++[.map 0 []]=s0
 have hl0:s0.length=st.length+2:=by rw [←hs]; simp
 have at0:∀ i,i < st.length→St.at s0 i=St.at st i:=fun i hi=>by rw [←hs,at_append _ _ _ (by simp; omega),at_append _ _ _ hi]
 have ath:St.at s0 st.length=.cells true 1 0 0 false [.nils]:=by rw [←hs,at_append _ _ _ (by simp),at_append_self]
 have atm:St.at s0 (st.length+1)=.map 0 (entI []):=by
  rw [←hs,show st.length+1=(st++[Ob.cells true 1 0 0 false [.nils]]).length by simp,at_append_self]; rfl
 have H0:RInv m C st st.length (st.length+1) s0 .nils .nils [] C [] [] 0:={
  hp:=⟨by omega,⟨0,ath⟩,.inl ⟨rfl,rfl⟩⟩
  ra:=.nil _
  ri:=rfl
  ap:=fun i h=>by cases h
  mp:=⟨by omega,0,atm⟩
  key:=fun f h=>absurd rfl h
  ent:=fun f h=>by cases h
  snd:=fun f h=>by cases h
  cmp:=fun f b h _=>.inr h
  cls:=fun g b f x h=>by cases h
  frm:=fun f h=>.inl h
  le:=by omega
  old:=at0
  bh:=by omega
  bm:=by omega
  bd:=fun i h=>by cases h
  ba:=fun i h=>by cases h }
 have rc0:RowI s0 dc C:=rc.keep (by omega) fun i hi=>at0 i (rc.lt hi).1
 have sp:=spare_top [] m.l 0
 have em:=cntT_eq m
 rw [callD_rawE (fn:=F93) rfl rfl (by simp [c1])]
 have go:Ret (ev T 93 [encT m,dc] st) fun r st'=>∃ da mb all,r=.tup [da,.mp mb]∧mb=st.length+1∧∃ d' kv K',RInv m C st st.length mb st' d' da [] [] all kv K'∧all.length≤cntTs m.l:=by
  refine Ret_wp (fn:=F93) rfl ?_
  rw [F93]
  have lo:=fun s' bx'=>l93_0 st.length dc C (by omega) C.length 0 s' bx' s0 .nils [] 0 (by omega) (by omega) H0.hp (by omega) (by simp; omega) rc0 (fun i h=>by cases h)
  simp [c1,c4,hs]
  refine WL.useB L93_0_p L93_0_w (WB:=L93_0.wrB) rfl (lo _ _ ?_ ?_ ?_ ?_) ?_
  iterate 4 simp [c4]
  rintro e' s' b' st1 ⟨rfl,d1,l1,k1,k2,k3,k4⟩ hfr hbr
  have g2:=hfr 2 rfl
  have g6:=hfr 6 rfl
  have g7:=hfr 7 rfl
  have g8:=hfr 8 rfl
  have gb2:=hbr 2 rfl
  simp at g2 g6 g7 g8 gb2
  simp only [List.drop_zero,List.not_mem_nil,false_or,List.length_nil,Nat.zero_add] at k2 k3
  have H1:=H0.hq k1 k4 (fun f b _ hf=>hf.imp id fun hf=>(k2 f).2 hf) fun f hf=>(k2 f).1 hf
  have lo2:=fun s' bx'=>l93_1 m gm hcm C st st.length (st.length+1) (C.length+spare [] 0 m.l) s' bx' st1 d1 .nils l1 [] [] _ H1 (by omega) (by omega) (by omega) (by simp; omega)
  simp
  refine WL.use L93_1_p L93_1_w (lo2 _ _ g2 gb2 g6 g7 g8) ?_
  rintro e' s'' b'' st2 ⟨rfl,d',da',all',kv',K',q1,q2,q3⟩ hfr2
  have f7:=hfr2 7 rfl
  rw [g7] at f7
  obtain ⟨x1,x2,x3,_⟩:=q2.ra.facts
  simp [q1,f7,x1]
  exact ⟨da',_,⟨rfl,rfl⟩,rfl,all',⟨_,_,_,q2⟩,by omega⟩
 obtain ⟨r,st',g1,da,mb,all,rfl,rfl,d',kv,K',H,hl⟩:=go
 refine ⟨st.length,st.length+1,da,st',all,kv,g1,H.le,H.old,H.ra,H.ri,H.ba,hl,fun f=>⟨H.snd f,fun h=>?_⟩,H.hp.box,⟨H.hp.lt,H.bh⟩,⟨H.mp.1,H.bm⟩,H.mp.2,fun f hf=>?_⟩
 ·exact rch_closed (S:=fun f=>f∈all) (fun f b h1 h2=>(H.cmp f b h1 h2).resolve_right (by simp)) (fun g b f d h1 h2 h3 h4=>(H.cls g b f d h1 h2 h3 h4).resolve_right (by simp)) h
 ·obtain ⟨o,e,b,R,W,C',dr,dw,dc',fl,e1,e2,r,w,c,e3⟩:=H.ent f hf
  have nl:∀ {x l},RowE st.length st' d' da x l→RowE st.length st' .nils da x l:=fun h=>⟨h.1,h.2.1,fun i hi=>(by cases hi),h.2.2.2.1,h.2.2.2.2⟩
  exact ⟨o,e,b,R,W,C',dr,dw,dc',fl,e1,e2,nl r,nl w,nl c,e3⟩
end Go.Nt.Li
set_option linter.unusedSimpArgs false
set_option maxRecDepth 20000
namespace Go.Nt.Li
open Go Go.Nt
def AQ (st:St) (e:D) (st':St) (e':D):Prop:=st.length≤st'.length∧(∀ i,i < st.length→rid e≠some i→St.at st' i=St.at st i)∧(rid e'=rid e∨∃ k,rid e'=some k∧st.length≤k)
theorem AQ.refl (st:St) (e:D):AQ st e st e:=⟨Nat.le_refl _,fun _ _ _=>rfl,.inl rfl⟩
theorem AQ.trans {a b c:St} {d e f:D} (h:AQ a d b e) (k:AQ b e c f):AQ a d c f:=by
 obtain ⟨h1,h2,h3⟩:=h
 obtain ⟨k1,k2,k3⟩:=k
 refine ⟨Nat.le_trans h1 k1,fun i hi hr=>?_,?_⟩
 ·rw [k2 i (by omega) ?_,h2 i hi hr]
  rcases h3 with h3 | ⟨j,h3,h4⟩
  ·rw [h3]; exact hr
  ·rw [h3]; intro e; cases e; omega
 ·rcases k3 with k3 | ⟨j,k3,k4⟩
  ·rcases h3 with h3 | ⟨j,h3,h4⟩
   ·exact .inl (k3.trans h3)
   ·exact .inr ⟨j,k3.trans h3,h4⟩
  ·exact .inr ⟨j,k3,by omega⟩
theorem AQ.row {st st':St} {e e' de:D} {E:List Int} (h:AQ st e st' e') (r:RowI st de E) (ha:apart e de):RowI st' de E∧apart e' de:=by
 refine ⟨r.keep h.1 fun i hi=>h.2.1 i (r.lt hi).1 fun q=>ha i q hi,fun i hi hei=>?_⟩
 rcases h.2.2 with q | ⟨k,q,hk⟩
 ·exact ha i (by rw [←q]; exact hi) hei
 ·rw [q] at hi; cases hi; have:=(r.lt hei).1; omega
theorem RowI.wrap {st:St} {d:D} {l:List Int} (h:RowI st d l):d.okv=true∧d.cells=[d]:=⟨h.facts.1,h.facts.2.1⟩
def Q60 (k:Nat) (ex:Ex) (cs:List D) (g:Nat) (st:St) (e:D) (R E:List Int) (n:Nat) (ex':Ex) (_:List D) (b':List (Nat × List D)) (st':St):Prop:=
 ex'=ex∧∃ e' R',getB b' 8=(g,cs.set k e')∧RowI st' e' R'∧rises R'=true∧R'.length≤R.length+n∧(∀ x,x∈R'↔x∈R∨x∈E)∧AQ st e st' e'
theorem l60_1 (E:List Int) (de ew fl:D) (hE:E.length≤1000000):∀ (r i:Nat) (s:List D) (bx:List (Nat × List D)) (st:St) (er:D) (R:List Int),r=E.length - i→i≤E.length→RowI st de E→RowI st er R→rises R=true→R.length+r≤1000000→apart er de →
  get s 44=de→get s 45=.i E.length→get s 46=.i i→get s 8=.lp 8 1 0→getB bx 8=(1,[er,ew,fl]) →
  Stops (lp T L60_1 ⟨⟨s,bx⟩,st⟩) (Q60 0 (.exit 2) [er,ew,fl] 1 st er R (E.drop i) r):=by
 intro r
 induction r with
 | zero=>
  intro i s bx st er R hr hi rd rr ri hl ha h44 h45 h46 h8 b8
  have e:i=E.length:=by omega
  subst e
  refine Stops_wp L60_1.eq_1 ?_
  simp [h44,h45,h46,h8,b8]
  exact ⟨rfl,er,R,b8,rr,ri,by omega,by simp,.refl _ _⟩
 | succ r ih=>
  intro i s bx st er R hr hi rd rr ri hl ha h44 h45 h46 h8 b8
  have hlt:i < E.length:=by omega
  have hw:IntKind.wrap .i64 ((i:Int)+1)=((i+1:Nat):Int):=by rw [wrap64] <;> omega
  obtain ⟨id,v,md,e1,e2⟩:=rd.el i hlt
  have e3:(nI E)[i]?=some (.int .i64 E[i]):=by simp [hlt]
  obtain ⟨er1,st1,q,k1,k2,k3,k4⟩:=c94 rr ri (by omega) E[i]
  have kq:AQ st er st1 er1:=⟨k2,k3,k4⟩
  obtain ⟨x1,x2⟩:=k1.wrap
  obtain ⟨x3,x4⟩:=rr.wrap
  have ln:=insI_len E[i] R
  obtain ⟨kr,ka⟩:=kq.row rd ha
  have nx:=fun s' bx'=>ih (i+1) s' bx' st1 er1 (insI E[i] R) (by omega) (by omega) kr k1 (rises_insI ri) (by omega) ka
  generalize nI E=els at *
  refine Stops_wp L60_1.eq_1 ?_
  simp [h44,h45,h46,h8,b8,hlt,hw,e1,e2,e3,q,x1,x2,x3,x4,splice,-Int.natCast_add]
  refine (nx _ _ ?_ ?_ ?_ ?_ ?_).mono ?_
  iterate 5 simp [h44,h45,h8]
  rintro ex s' b' st' ⟨rfl,e',R',m1,m2,m3,m4,m5,m6⟩
  refine ⟨rfl,e',R',m1,m2,m3,by omega,fun x=>?_,kq.trans m6⟩
  rw [m5,mem_insI,List.drop_eq_getElem_cons hlt,List.mem_cons,or_comm (a:=x=E[i]),or_assoc]
theorem l60_2 (E:List Int) (de er fl:D) (hE:E.length≤1000000):∀ (r i:Nat) (s:List D) (bx:List (Nat × List D)) (st:St) (ew:D) (R:List Int),r=E.length - i→i≤E.length→RowI st de E→RowI st ew R→rises R=true→R.length+r≤1000000→apart ew de →
  get s 59=de→get s 60=.i E.length→get s 61=.i i→get s 8=.lp 8 1 0→getB bx 8=(1,[er,ew,fl]) →
  Stops (lp T L60_2 ⟨⟨s,bx⟩,st⟩) (Q60 1 (.exit 4) [er,ew,fl] 1 st ew R (E.drop i) r):=by
 intro r
 induction r with
 | zero=>
  intro i s bx st ew R hr hi rd rr ri hl ha h44 h45 h46 h8 b8
  have e:i=E.length:=by omega
  subst e
  refine Stops_wp L60_2.eq_1 ?_
  simp [h44,h45,h46,h8,b8]
  exact ⟨rfl,ew,R,b8,rr,ri,by omega,by simp,.refl _ _⟩
 | succ r ih=>
  intro i s bx st ew R hr hi rd rr ri hl ha h44 h45 h46 h8 b8
  have hlt:i < E.length:=by omega
  have hw:IntKind.wrap .i64 ((i:Int)+1)=((i+1:Nat):Int):=by rw [wrap64] <;> omega
  obtain ⟨id,v,md,e1,e2⟩:=rd.el i hlt
  have e3:(nI E)[i]?=some (.int .i64 E[i]):=by simp [hlt]
  obtain ⟨er1,st1,q,k1,k2,k3,k4⟩:=c94 rr ri (by omega) E[i]
  have kq:AQ st ew st1 er1:=⟨k2,k3,k4⟩
  obtain ⟨x1,x2⟩:=k1.wrap
  obtain ⟨x3,x4⟩:=rr.wrap
  have ln:=insI_len E[i] R
  obtain ⟨kr,ka⟩:=kq.row rd ha
  have nx:=fun s' bx'=>ih (i+1) s' bx' st1 er1 (insI E[i] R) (by omega) (by omega) kr k1 (rises_insI ri) (by omega) ka
  generalize nI E=els at *
  refine Stops_wp L60_2.eq_1 ?_
  simp [h44,h45,h46,h8,b8,hlt,hw,e1,e2,e3,q,x1,x2,x3,x4,splice,-Int.natCast_add]
  refine (nx _ _ ?_ ?_ ?_ ?_ ?_).mono ?_
  iterate 5 simp [h44,h45,h8]
  rintro ex s' b' st' ⟨rfl,e',R',m1,m2,m3,m4,m5,m6⟩
  refine ⟨rfl,e',R',m1,m2,m3,by omega,fun x=>?_,kq.trans m6⟩
  rw [m5,mem_insI,List.drop_eq_getElem_cons hlt,List.mem_cons,or_comm (a:=x=E[i]),or_assoc]
structure OInv (m t:Tm) (base:Nat) (st:St) (hb mb:Nat) (er ew da:D) (R W all:List Int) (kv:List (Int × D)) (i:Nat):Prop where
 ra:RowE base st er ew da all
 mp:mb < st.length∧∃ md,St.at st mb=.map md (entI kv)
 bx:hb < st.length∧∃ md el,St.at st hb=.cells true 1 0 md false el
 ent:∀ f,f∈all→∃ o,atI kv f=some o∧Ent m base st er ew f o
 rr:RowI st er R∧rises R=true∧R.length≤800 * (i+1)
 rw:RowI st ew W∧rises W=true∧W.length≤800 * (i+1)
 ap:apart er ew
 mem:∀ x,x∈W↔x∈wrT t∨∃ f b,f∈all.take i∧blk m f=some b∧x∈wrT b
theorem OInv.mv {m t:Tm} {base hb mb:Nat} {st st':St} {er ew da er' ew':D} {R W R' W' all:List Int} {kv:List (Int × D)} {i j:Nat} (h:OInv m t base st hb mb er ew da R W all kv i) (k:Mv hb mb st er ew st' er' ew')
  (same:∀ i,i=hb∨i=mb→St.at st' i=St.at st i) (rr:RowI st' er' R'∧rises R'=true∧R'.length≤800 * (j+1)) (rw:RowI st' ew' W'∧rises W'=true∧W'.length≤800 * (j+1)) (ap:apart er' ew')
  (mem:∀ x,x∈W'↔x∈wrT t∨∃ f b,f∈all.take j∧blk m f=some b∧x∈wrT b):OInv m t base st' hb mb er' ew' da R' W' all kv j:=by
 obtain ⟨mlt,md,mat⟩:=h.mp
 obtain ⟨blt,bmd,el,bat⟩:=h.bx
 exact ⟨h.ra.mv k ⟨_,_,bat⟩ ⟨_,_,mat⟩,⟨Nat.lt_of_lt_of_le mlt k.le,md,by rw [same mb (.inr rfl)]; exact mat⟩,⟨Nat.lt_of_lt_of_le blt k.le,bmd,el,by rw [same hb (.inl rfl)]; exact bat⟩,
  fun f hf=>by obtain ⟨o,e,g⟩:=h.ent f hf; exact ⟨o,e,g.mv k ⟨_,_,bat⟩ ⟨_,_,mat⟩⟩,rr,rw,ap,mem⟩
def Q60a (m t:Tm) (ex:Ex) (_:List D) (b':List (Nat × List D)) (st':St):Prop:=
 ex=.exit 0∧∃ er ew fl R W,getB b' 8=(1,[er,ew,.int .i64 fl])∧RowI st' er R∧RowI st' ew W∧apart er ew∧W.length≤800000∧R.length≤800000∧getB b' 4=(1,[.nils,.nils,.int .i64 0])∧∀ x,x∈W↔WrP m t x
theorem l60_0 (m t:Tm) (gm:good m) (hcm:cntT m≤400) (base hb mb:Nat) (da:D) (all:List Int) (kv:List (Int × D)) (hal:all.length≤400) (hall:∀ f,f∈all↔Rch m (caT t) f) :
  ∀ (r i:Nat) (s:List D) (bx:List (Nat × List D)) (st:St) (er ew:D) (R W:List Int) (fl:Int),r=all.length - i→i≤all.length→OInv m t base st hb mb er ew da R W all kv i →
   get s 35=da→get s 36=.i all.length→get s 37=.i i→get s 2=.lp 2 1 0→getB bx 2=(1,clT m)→get s 7=.mp mb→get s 8=.lp 8 1 0→getB bx 8=(1,[er,ew,.int .i64 fl])→getB bx 4=(1,[.nils,.nils,.int .i64 0]) →
  Stops (lp T L60_0 ⟨⟨s,bx⟩,st⟩) (Q60a m t):=by
 intro r
 induction r with
 | zero=>
  intro i s bx st er ew R W fl hr hi h h35 h36 h37 h2 b2 h7 h8 b8 b4
  have e:i=all.length:=by omega
  subst e
  refine Stops_wp L60_0.eq_1 ?_
  simp [h35,h36,h37]
  refine ⟨rfl,er,ew,fl,R,W,b8,h.rr.1,h.rw.1,h.ap,by have:=h.rw.2.2; omega,by have:=h.rr.2.2; omega,b4,fun x=>?_⟩
  rw [h.mem,List.take_length]
  unfold WrP
  simp only [hall]
 | succ r ih=>
  intro i s bx st er ew R W fl hr hi h h35 h36 h37 h2 b2 h7 h8 b8 b4
  have hlt:i < all.length:=by omega
  have hw:IntKind.wrap .i64 ((i:Int)+1)=((i+1:Nat):Int):=by rw [wrap64] <;> omega
  obtain ⟨id,v,mdd,e1,e2⟩:=h.ra.1.el i hlt
  have e3:(nI all)[i]?=some (.int .i64 all[i]):=by simp [hlt]
  obtain ⟨o,ho,b,Rf,Wf,Cf,dr,dw,dc,flf,hb',rfl,er1,ew1,ec1,⟨lR,lW,lC⟩,mW,mC⟩:=h.ent all[i] (List.getElem_mem hlt)
  obtain ⟨hbf,hcb⟩:=blk_cnt hb'
  have hcf:=cntTs_mem (List.getElem_mem hbf)
  have em:=cntT_eq m
  obtain ⟨mlt,md,mat⟩:=h.mp
  obtain ⟨blt,bmd,bel,bat⟩:=h.bx
  obtain ⟨rr1,rr2,rr3⟩:=h.rr
  obtain ⟨rw1,rw2,rw3⟩:=h.rw
  have nM:∀ {st:St} {e:D} {l:List Int} {md:Nat} {en:List (D × D)},St.at st mb=.map md en→RowI st e l→rid e≠some mb:=fun g r q=>by
   obtain ⟨_,v,mm,el,g2⟩:=r.lt q
   rw [g] at g2; cases g2
  have nB:∀ {st:St} {e:D} {l:List Int} {md:Nat} {el:List D},St.at st hb=.cells true 1 0 md false el→RowI st e l→rid e≠some hb:=fun g r q=>by
   obtain ⟨_,v,mm,el,g2⟩:=r.lt q
   rw [g] at g2; cases g2
  have lo1:=fun s' bx'=>l60_1 Rf dr ew (.int .i64 fl) (by omega) Rf.length 0 s' bx' st er R (by omega) (by omega) er1.1 rr1 rr2 (by omega) er1.2.2.1
  obtain ⟨x1,x2,x3,x4,x5⟩:=er1.1.facts
  obtain ⟨y1,y2,y3,y4,y5⟩:=ew1.1.facts
  obtain ⟨z1,z2,z3,z4,z5⟩:=ec1.1.facts
  refine Stops_wp L60_0.eq_1 ?_
  generalize nI all=els at *
  simp [h35,h36,h37,h2,h7,h8,hlt,e1,e2,e3,mat,ho,x1,x2,x3,x4]
  refine WL.useB L60_1_p L60_1_w (WB:=L60_1.wrB) rfl (lo1 _ _ ?_ ?_ ?_ ?_ ?_) ?_
  iterate 5 simp [h8,b8,x4]
  rintro e' s1 b1 st1 ⟨rfl,er',R',k1,k2,k3,k4,k5,k6⟩ hs1 hb1
  have sl:=fun j hj=>hs1 j hj
  have g2:=hs1 2 rfl; have g7:=hs1 7 rfl; have g8:=hs1 8 rfl; have g10:=hs1 10 rfl; have g35:=hs1 35 rfl; have g36:=hs1 36 rfl; have g37:=hs1 37 rfl
  have gb2:=hb1 2 rfl; have gb4:=hb1 4 rfl
  simp [h2] at g2; simp [h7] at g7; simp [h8] at g8; simp at g10; simp [h35] at g35; simp [h36] at g36; simp [h37] at g37; simp [b2] at gb2; simp [b4] at gb4
  simp only [List.set_cons_zero] at k1
  have M1:Mv hb mb st er ew st1 er' ew:=⟨k6.1,fun i hi _ _ h3 _=>k6.2.1 i hi h3,k6.2.2,.inl rfl⟩
  have same1:∀ i,i=hb∨i=mb→St.at st1 i=St.at st i:=fun i hi=>by
   rcases hi with rfl | rfl
   ·exact k6.2.1 _ blt (nB bat rr1)
   ·exact k6.2.1 _ mlt (nM mat rr1)
  obtain ⟨rwk,apk⟩:=k6.row rw1 h.ap
  have ew2:=ew1.mv M1 ⟨_,_,bat⟩ ⟨_,_,mat⟩
  have lo2:=fun s' bx'=>l60_2 Wf dw er' (.int .i64 fl) (by omega) Wf.length 0 s' bx' st1 ew W (by omega) (by omega) ew2.1 rwk rw2 (by omega) ew2.2.2.2.1
  have mat1:St.at st1 mb=.map md (entI kv):=by rw [same1 mb (.inr rfl)]; exact mat
  have bat1:St.at st1 hb=.cells true 1 0 bmd false bel:=by rw [same1 hb (.inl rfl)]; exact bat
  simp [g2,g7,g8,g10,mat1,ho,y1,y2,y3,y4]
  refine WL.useB L60_2_p L60_2_w (WB:=L60_2.wrB) rfl (lo2 _ _ ?_ ?_ ?_ ?_ ?_) ?_
  iterate 5 simp [g8,k1,y4]
  rintro e' s2 b2' st2 ⟨rfl,ew',W',j1,j2,j3,j4,j5,j6⟩ hs2 hb2
  have f2:=hs2 2 rfl; have f7:=hs2 7 rfl; have f8:=hs2 8 rfl; have f10:=hs2 10 rfl; have f35:=hs2 35 rfl; have f36:=hs2 36 rfl; have f37:=hs2 37 rfl
  have fb2:=hb2 2 rfl; have fb4:=hb2 4 rfl
  simp [g2] at f2; simp [g7] at f7; simp [g8] at f8; simp [g10] at f10; simp [g35] at f35; simp [g36] at f36; simp [g37] at f37; simp [gb2] at fb2; simp [gb4] at fb4
  simp only [List.set_cons_succ,List.set_cons_zero] at j1
  have M2:Mv hb mb st1 er' ew st2 er' ew':=⟨j6.1,fun i hi _ _ _ h4=>j6.2.1 i hi h4,.inl rfl,j6.2.2⟩
  have same2:∀ i,i=hb∨i=mb→St.at st2 i=St.at st1 i:=fun i hi=>by
   rcases hi with rfl | rfl
   ·exact j6.2.1 _ (Nat.lt_of_lt_of_le blt k6.1) (nB bat1 rwk)
   ·exact j6.2.1 _ (Nat.lt_of_lt_of_le mlt k6.1) (nM mat1 rwk)
  obtain ⟨rrk,apk2⟩:=j6.row k2 apk.symm
  have mat2:St.at st2 mb=.map md (entI kv):=by rw [same2 mb (.inr rfl)]; exact mat1
  have ec2:=(ec1.mv M1 ⟨_,_,bat⟩ ⟨_,_,mat⟩).mv M2 ⟨_,_,bat1⟩ ⟨_,_,mat1⟩
  obtain ⟨hb3,mb3,bk,st3,back,kv3,q3,l3,s3,rb,rib,_,_,_⟩:=c93 m gm (by omega) st2 dc Cf ec2.1 (by omega)
  have q4:=c95 rb rib (by omega) all[i]
  obtain ⟨u1,u2,u3,u4,u5⟩:=rb.facts
  have M3:Mv hb mb st2 er' ew' st3 er' ew':=⟨l3,fun i hi _ _ _ _=>s3 i hi,.inl rfl,.inl rfl⟩
  have lt2b:hb < st2.length:=Nat.lt_of_lt_of_le (Nat.lt_of_lt_of_le blt k6.1) j6.1
  have lt2m:mb < st2.length:=Nat.lt_of_lt_of_le (Nat.lt_of_lt_of_le mlt k6.1) j6.1
  have H:OInv m t base st3 hb mb er' ew' da R' W' all kv (i+1):=by
   refine h.mv ((M1.trans M2).trans M3) (fun i hi=>?_) ⟨rrk.keep l3 fun i hi=>s3 i (rrk.lt hi).1,k3,by omega⟩ ⟨j2.keep l3 fun i hi=>s3 i (j2.lt hi).1,j3,by omega⟩ apk2.symm fun x=>?_
   ·rw [s3 i (by rcases hi with rfl | rfl <;> assumption),same2 i hi,same1 i hi]
   ·rw [j5,h.mem,List.drop_zero,mW,List.take_succ_eq_append_getElem hlt,or_assoc]
    refine or_congr Iff.rfl ⟨fun hx=>?_,fun hx=>?_⟩
    ·rcases hx with ⟨f,b',hf,h1,h2⟩ | hx
     ·exact ⟨f,b',List.mem_append_left _ hf,h1,h2⟩
     ·exact ⟨all[i],b,List.mem_append_right _ (List.mem_singleton.2 rfl),hb',hx⟩
    ·obtain ⟨f,b',hf,h1,h2⟩:=hx
     rcases List.mem_append.1 hf with hf | hf
     ·exact .inl ⟨f,b',hf,h1,h2⟩
     ·simp only [List.mem_singleton] at hf
      subst hf
      rw [hb'] at h1; cases h1
      exact .inr h2
  have nx:=fun s' bx' fl'=>ih (i+1) s' bx' st3 er' ew' R' W' fl' (by omega) (by omega) H
  obtain ⟨v1,v2⟩:=k2.wrap
  obtain ⟨v3,v4⟩:=j2.wrap
  generalize ((back.countP (· < all[i]):Nat):Int)=cp at *
  cases hbk:back.contains all[i] with
  | true=>
   rw [hbk] at q4
   simp [f2,f7,f8,f10,f35,f36,f37,j1,fb2,mat2,ho,z1,z2,z3,z4,q3,q4,u1,v1,v2,v3,v4,or_i,splice,←encT_eq m,hw,-Int.natCast_add]
   refine nx _ _ (orI (orI fl flf) 2) ?_ ?_ ?_ ?_ ?_ ?_ ?_ ?_ ?_
   iterate 9 simp [f2,f7,f8,f35,f36,fb2,fb4]
  | false=>
   rw [hbk] at q4
   simp [f2,f7,f8,f10,f35,f36,f37,j1,fb2,mat2,ho,z1,z2,z3,z4,q3,q4,u1,v1,v2,v3,v4,or_i,splice,←encT_eq m,hw,-Int.natCast_add]
   refine nx _ _ (orI fl flf) ?_ ?_ ?_ ?_ ?_ ?_ ?_ ?_ ?_
   iterate 9 simp [f2,f7,f8,f35,f36,fb2,fb4]
abbrev rowF (l:List Int):D:=slE 1 .nil (nI l)
theorem RowI.fz {st:St} {d:D} {l:List Int} (h:RowI st d l):∃ st',fz0 st d=some (rowF l,st')∧st'.length=st.length∧∀ i,rid d≠some i→St.at st' i=St.at st i:=by
 rcases h with ⟨rfl,rfl⟩ | ⟨id,md,rfl,h1,h2,h3⟩
 ·exact ⟨st,rfl,rfl,fun _ _=>rfl⟩
 ·refine ⟨List.set st id (.cells false 1 (l.length - 1) (md+1) true (nI l)),?_,by simp,fun i hi=>by rw [at_set _ _ _ _ h1,if_neg (fun e=>hi (by rw [e]; rfl))]⟩
  have e:rowF l=.sl 1 false (nI l):=by
   cases l with
   | nil=>exact absurd rfl h2
   | cons a b=>rfl
  rw [e]
  simp [fz0,h3]
  exact List.take_of_length_le (by simp)
theorem c60 (m t:Tm) (gm:good m) (gt:good t) (hcm:cntT m≤400) (hct:cntT t≤400) (st:St) :
  ∃ R W fl,callD T (ev T) 60 [encT m,encT t] st=some (.agg [rowF R,rowF W,.int .i64 fl],st)∧W.length≤1000000∧∀ x,x∈W↔WrP m t x:=by
 obtain ⟨o,st1,q1,f1,W,C,⟨R,dr,dw,dc,fl,rfl,hr,hw,hc,p1,p2,p3⟩,hW,hC⟩:=c92 t gt (by omega) []
 have lr:=hr.2.2.1
 have lw:=hw.2.2.1
 have lc:=hc.2.2.1
 obtain ⟨hb,mb,da,st2,all,kv,q2,l2,s2,ra,ri,ba,la,hall,hbx,hbl,hml,hmat,hent⟩:=c93 m gm (by omega) st1 dc C hc.1 (by omega)
 have em:=cntT_eq m
 have kR:∀ {e l},RowI st1 e l→RowI st2 e l:=fun r=>r.keep l2 fun i hi=>s2 i (r.lt hi).1
 have apB:∀ {e x:D} {l:List Int},RowI st1 e l→(∀ i,rid x=some i→st1.length≤i)→apart e x:=fun r hx i hi hxi=>by have:=(r.lt hi).1; have:=hx i hxi; omega
 have rE:∀ {x l},RowE st1.length st2 .nils da x l→RowE st1.length st2 dr dw x l:=fun h=>⟨h.1,h.2.1,apB hr.1 h.2.2.2.2,apB hw.1 h.2.2.2.2,h.2.2.2.2⟩
 have H:OInv m t st1.length st2 hb mb dr dw da R W all kv 0:={
  ra:=⟨ra,by omega,apB hr.1 ba,apB hw.1 ba,ba⟩
  mp:=⟨hml.1,hmat⟩
  bx:=⟨hbl.1,hbx⟩
  ent:=fun f hf=>by
   obtain ⟨o,e,b,R,W,C,dr,dw,dc,fl,e1,e2,r,w,c,e3⟩:=hent f hf
   exact ⟨o,e,b,R,W,C,dr,dw,dc,fl,e1,e2,rE r,rE w,rE c,e3⟩
  rr:=⟨kR hr.1,hr.2.1,by omega⟩
  rw:=⟨kR hw.1,hw.2.1,by omega⟩
  ap:=p1
  mem:=fun x=>by rw [hW]; simp }
 have hall':∀ f,f∈all↔Rch m (caT t) f:=fun f=>(hall f).trans ⟨fun h=>h.mono fun x hx=>(hC x).1 hx,fun h=>h.mono fun x hx=>(hC x).2 hx⟩
 obtain ⟨x1,x2,x3,x4,x5⟩:=(kR hr.1).facts
 obtain ⟨y1,y2,y3,y4,y5⟩:=(kR hw.1).facts
 obtain ⟨z1,z2,z3,z4,z5⟩:=hc.1.facts
 obtain ⟨w1,w2,w3,w4,w5⟩:=ra.facts
 have lo:=fun s' bx'=>l60_0 m t gm hcm st1.length hb mb da all kv (by omega) hall' all.length 0 s' bx' st2 dr dw R W fl (by omega) (by omega) H
 have go:Ret (ev T 60 [encT m,encT t] []) fun r st3=>∃ R W fl st4,fz st3 r=some (.agg [rowF R,rowF W,.int .i64 fl],st4)∧W.length≤1000000∧∀ x,x∈W↔WrP m t x:=by
  refine Ret_wp (fn:=F60) rfl ?_
  rw [F60]
  simp [←encT_eq m,←encT_eq t,q1,q2,x1,x2,x3,x4,y1,y2,y3,y4,z1,z2,z3,z4,w1,w4,splice,fillD]
  refine WL.useB L60_0_p L60_0_w (WB:=L60_0.wrB) rfl (lo _ _ ?_ ?_ ?_ ?_ ?_ ?_ ?_ ?_ ?_) ?_
  iterate 9 simp [w4]
  rintro e' s3 b3 st3 ⟨rfl,er,ew,fl',R',W',j1,j2,j3,j4,j5,j6,j7,j8⟩ hs hb'
  have g4:=hs 4 rfl
  have g8:=hs 8 rfl
  simp at g4 g8
  obtain ⟨u1,u2⟩:=j2.wrap
  obtain ⟨u3,u4⟩:=j3.wrap
  obtain ⟨s4,k1,k2,k3⟩:=j2.fz
  have j3':RowI s4 ew W':=j3.keep (by omega) fun i hi=>k3 i fun e=>j4 i e hi
  obtain ⟨s5,k4,_,_⟩:=j3'.fz
  simp [g4,g8,j1,j7,u1,u2,u3,u4,splice]
  refine ⟨R',W',⟨fl',s5,?_⟩,by omega,j8⟩
  simp [k1,k4,kfzL,fzL]
 obtain ⟨r,st3,g,R',W',fl',st4,gf,gl,gm'⟩:=go
 exact ⟨R',W',fl',callD_pure (fn:=F60) (st2:=st4) rfl rfl (by simp) g gf (by simp),gl,gm'⟩
end Go.Nt.Li
set_option linter.unusedSimpArgs false
set_option maxRecDepth 20000
namespace Go.Nt.Li
open Go Go.Nt
def RowT (st:St) (d:D) (L:List Tm) (K:Nat):Prop:=
 d=.sl 6 true (encTs L)∨∃ id ver md,d=.rs id ver 6 0 L.length false∧id < st.length∧ver≤K∧St.at st id=.cells false 6 ver md false (encTs L)
theorem RowT.facts {st:St} {d:D} {L:List Tm} {K:Nat} (h:RowT st d L K):d.okv=true∧∀ st' q,lenD st' .slice d q=some (.i L.length):=by
 rcases h with rfl | ⟨id,ver,md,rfl,_⟩
 ·exact ⟨rfl,fun _ _=>by simp [lenD]⟩
 ·exact ⟨rfl,fun _ _=>rfl⟩
theorem RowT.app {st:St} {d:D} {L:List Tm} {K:Nat} (h:RowT st d L K) (hK:K≤1000000) (hL:L.length≤1000000) (k:List Tm) (hk:k.length≤1000000):∃ d' st',appendD st d (encTs k) 6=some (d',st')∧RowT st' d' (L++k) (K+1):=by
 have m1:¬ most < k.length:=by unfold most; omega
 have m2:L.length≤most:=by unfold most; omega
 have m3:L.length≤134217728:=by omega
 cases hke:k with
 | nil=>
  subst hke
  rcases h with rfl | ⟨id,ver,md,rfl,h1,h2,h3⟩
  ·exact ⟨.sl 6 true (encTs L),st,by simp [appendD,most],.inl (by simp)⟩
  ·refine ⟨.rs id ver 6 0 L.length false,st,by simp [appendD,h3,m2],.inr ⟨id,ver,md,by simp,h1,by omega,by simpa using h3⟩⟩
 | cons x r=>
  rw [←hke]
  have hne:k≠[]:=by rw [hke]; simp
  have hne2:encTs k≠[]:=by rw [hke]; simp
  have he:(encTs k).isEmpty=false:=by rw [hke]; rfl
  rcases h with rfl | ⟨id,ver,md,rfl,h1,h2,h3⟩
  ·refine ⟨.rs st.length 0 6 0 (L.length+k.length) false,st++[.cells false 6 0 0 false (encTs (L++k))],by simp [appendD,m1,m2,he,encTs_append],.inr ⟨st.length,0,0,by simp,by simp,by omega,by rw [at_append_self]⟩⟩
  ·have t1:ver+1 < tagB:=by unfold tagB; omega
   refine ⟨.rs id (ver+1) 6 0 (L.length+k.length) false,List.set st id (.cells false 6 (ver+1) (md+1) false (encTs (L++k))),?_,.inr ⟨id,ver+1,md+1,by simp,by simpa using h1,by omega,by rw [at_set _ _ _ _ h1,if_pos rfl]⟩⟩
   have e2:List.take L.length (encTs L)=encTs L:=List.take_of_length_le (by simp)
   simp [appendD,h3,m1,m2,he,t1,e2,encTs_append]
theorem RowT.fz {st:St} {d:D} {L:List Tm} {K:Nat} (h:RowT st d L K):∃ fl st',fz st d=some (slE 6 fl (encTs L),st'):=by
 rcases h with rfl | ⟨id,ver,md,rfl,h1,h2,h3⟩
 ·exact ⟨.full,st,by simp [slE]⟩
 ·refine ⟨.part,List.set st id (.cells false 6 ver (md+1) true (encTs L)),?_⟩
  have e2:List.take L.length (encTs L)=encTs L:=List.take_of_length_le (by simp)
  simp [fz,fz1,fz0,h3,e2,slE]
def Q55 (t:Tm) (n:Nat) (ex:Ex) (s':List D) (_:List (Nat × List D)) (st':St):Prop:=ex=.exit 0∧∃ L' K',RowT st' (get s' 3) L' K'∧L'.length≤n∧∀ x,x∈L'↔x∈subT t
theorem l55 (t:Tm):∀ (r i:Nat) (s:List D) (bx:List (Nat × List D)) (st:St) (d:D) (L:List Tm),r=cntTs (L.drop i)→i≤L.length→i+r≤100000→RowT st d L i→(∀ x,x∈L→good x)→(∀ x,x∈L.take i∨x∈subTs (L.drop i)↔x∈subT t) →
  get s 3=d→get s 4=.i i→Stops (lp T L55_0 ⟨⟨s,bx⟩,st⟩) (Q55 t (i+r)):=by
 intro r
 induction r with
 | zero=>
  intro i s bx st d L hr hi hb h hg hm h3 h4
  have e:L.drop i=[]:=by
   cases hd:L.drop i with
   | nil=>rfl
   | cons x r=>rw [hd,cntTs] at hr; have:=cntT_eq x; omega
  have e2:i=L.length:=by have:=congrArg List.length e; simp at this; omega
  obtain ⟨a1,a2⟩:=h.facts
  rw [e,subTs,e2,List.take_length] at hm
  refine Stops_wp L55_0.eq_1 ?_
  have hlt:¬ ((i:Int) < L.length):=by omega
  simp [h3,h4,a2,e2]
  exact ⟨rfl,L,_,by simpa [h3] using h,by omega,fun x=>by rw [←hm]; simp⟩
 | succ r ih=>
  intro i s bx st d L hr hi hb h hg hm h3 h4
  have hlt:i < L.length:=by
   apply Classical.byContradiction
   intro hn
   rw [List.drop_eq_nil_of_le (by omega),cntTs] at hr; omega
  have hd:=List.drop_eq_getElem_cons hlt
  have gx:=hg _ (List.getElem_mem hlt)
  have hw:IntKind.wrap .i64 ((i:Int)+1)=((i+1:Nat):Int):=by rw [wrap64] <;> omega
  rw [hd,cntTs,cntT_eq] at hr
  obtain ⟨a1,a2⟩:=h.facts
  have hlen:L.length≤i+(r+1):=by
   have q:=cntTs_len (L.drop i)
   rw [hd,cntTs,cntT_eq] at q
   simp only [List.length_cons,List.length_drop] at q; omega
  obtain ⟨d1,st1,q,h1⟩:=h.app (by omega) (by omega) L[i].l (good_len gx)
  have hlt2:(i:Int) < L.length:=by omega
  have dr1:(L++L[i].l).drop (i+1)=L.drop (i+1)++L[i].l:=List.drop_append_of_le_length (by omega)
  have nx:=fun s' bx'=>ih (i+1) s' bx' st1 d1 (L++L[i].l) (by rw [dr1,cntTs_app]; omega) (by simp; omega) (by omega) h1 (fun x hx=>by
   rcases List.mem_append.1 hx with hx | hx
   ·exact hg x hx
   ·exact good_mem gx hx) (fun x=>by
    rw [dr1,subTs_app,List.take_append_of_le_length (by omega),List.take_succ_eq_append_getElem hlt,←hm,hd,subTs,subT_eq]
    simp only [List.mem_append,List.mem_cons,List.mem_singleton,List.not_mem_nil,or_false]
    constructor
    ·rintro ((p | p) | (p | p)) <;> simp [p]
    ·rintro (p | ((p | p) | p)) <;> simp [p])
  have fin:Stops (lp T L55_0 ⟨⟨s,bx⟩,st⟩) (Q55 t (i+1+r)):=by
   rcases h with rfl | ⟨id,ver,md,rfl,k1,k2,k3⟩
   ·refine Stops_wp L55_0.eq_1 ?_
    simp [h3,h4,hlt,q,hw,idxAD,a2,-Int.natCast_add]
    refine nx _ _ ?_ ?_ <;> simp
   ·refine Stops_wp L55_0.eq_1 ?_
    simp [h3,h4,hlt,q,hw,k3,a2,-Int.natCast_add]
    refine nx _ _ ?_ ?_ <;> simp
  rw [show i+(r+1)=i+1+r by omega]
  exact fin
theorem c55 (t:Tm) (gt:good t) (ht:cntT t≤100000) (st:St):∃ fl L,callD T (ev T) 55 [encT t] st=some (slE 6 fl (encTs L),st)∧L.length≤cntT t∧∀ x,x∈L↔x∈subT t:=by
 have go:Ret (ev T 55 [encT t] []) fun r st'=>∃ fl L st2,fz st' r=some (slE 6 fl (encTs L),st2)∧L.length≤cntT t∧∀ x,x∈L↔x∈subT t:=by
  refine Ret_wp (fn:=F55) rfl ?_
  rw [F55]
  have lo:=fun s bx=>l55 t (cntT t) 0 s bx [] (.sl 6 true (encTs [t])) [t] (by simp [cntTs]) (by simp) (by omega) (.inl rfl) (by simpa using gt) (fun x=>by simp [subTs])
  simp only [encTs_cons,encTs_nil] at lo
  simp [←encT_eq t]
  refine WL.use L55_0_p L55_0_w (lo _ _ ?_ ?_) ?_
  iterate 2 simp
  rintro e' s' b' st' ⟨rfl,L',K',k1,k2,k3⟩ hf
  obtain ⟨x1,x2⟩:=k1.facts
  obtain ⟨fl,st2,k4⟩:=k1.fz
  simp [x1]
  exact ⟨fl,L',⟨st2,k4⟩,by omega,k3⟩
 obtain ⟨r,st',g,fl,L,st2,gf,gl⟩:=go
 exact ⟨fl,L,callD_pure (fn:=F55) (st2:=st2) rfl rfl (by simp) g gf (by simp),gl⟩
theorem l28 (fl:Fl) (L:List Tm) (hL:L.length≤1000000) (hg:∀ x,x∈L→good x):∀ (r i:Nat) (s:List D) (bx:List (Nat × List D)) (st:St),r=L.length - i→i≤L.length →
  get s 7=slE 6 fl (encTs L)→get s 8=.i L.length→get s 9=.i i→get s 3=.bool true→Stops (lp T L28_0 ⟨⟨s,bx⟩,st⟩) fun ex s' _ st'=>ex=.exit 0∧get s' 3=.bool ((L.drop i).all q0):=by
 intro r
 induction r with
 | zero=>
  intro i s bx st hr hi h7 h8 h9 h3
  have e:i=L.length:=by omega
  subst e
  refine Stops_wp L28_0.eq_1 ?_
  simp [h7,h8,h9,h3]
 | succ r ih=>
  intro i s bx st hr hi h7 h8 h9 h3
  have hlt:i < L.length:=by omega
  have hw:IntKind.wrap .i64 ((i:Int)+1)=((i+1:Nat):Int):=by rw [wrap64] <;> omega
  rw [List.drop_eq_getElem_cons hlt,List.all_cons]
  have nx:=fun s' bx'=>ih (i+1) s' bx' st (by omega) (by omega)
  generalize hx:L[i]=x
  have gl:=good_len (hg _ (List.getElem_mem hlt))
  rw [hx] at gl
  have ht:∀ c:Int,(c=5∨c=6∨c=7∨c=8∨c=9∨c=11∨c=13∨c=14∨c=15)→x.k=c→q0 x=true:=by
   intro c hc e
   unfold q0
   simp only [Bool.and_eq_true,decide_eq_true_eq,Bool.not_eq_true',decide_eq_false_iff_not]
   refine ⟨by omega,fun h=>by omega⟩
  by_cases k10:x.k=10
  ·have hq:q0 x=!decide ((x.n=12∨x.n=13)∧∀ y,x.l[1]?=some y→y.k≠5∨y.n=0):=by unfold q0; simp [k10]
   by_cases hn:x.n=12∨x.n=13
   ·by_cases h2:x.l.length < 2
    ·have e:q0 x=false:=by rw [hq,List.getElem?_eq_none (by omega)]; simp [hn]
     have h2':(x.l.length:Int) < 2:=by omega
     rw [e]
     refine Stops_wp L28_0.eq_1 ?_
     rcases hn with hn | hn <;> simp [h7,h8,h9,h3,hlt,hx,k10,hn,h2']
    ·have h2':¬ (x.l.length:Int) < 2:=by omega
     have h1:(1:Int) < x.l.length:=by omega
     have h1':1 < x.l.length:=by omega
     have e:q0 x=!decide (x.l[1].k≠5∨x.l[1].n=0):=by rw [hq,List.getElem?_eq_getElem h1']; simp [hn]
     by_cases p5:x.l[1].k=5
     ·by_cases p0:x.l[1].n=0
      ·rw [e]
       refine Stops_wp L28_0.eq_1 ?_
       rcases hn with hn | hn <;> simp [h7,h8,h9,h3,hlt,hx,k10,hn,h2',h1,h1',p5,p0]
      ·rw [e]
       refine Stops_wp L28_0.eq_1 ?_
       rcases hn with hn | hn <;> simp [h7,h8,h9,h3,hlt,hx,k10,hn,h2',h1,h1',p5,p0,hw,-Int.natCast_add]
       all_goals (refine nx _ _ ?_ ?_ ?_ ?_ <;> simp [h7,h8,h3])
     ·rw [e]
      refine Stops_wp L28_0.eq_1 ?_
      rcases hn with hn | hn <;> simp [h7,h8,h9,h3,hlt,hx,k10,hn,h2',h1,h1',p5]
   ·have hn1:x.n≠12:=fun e=>hn (.inl e)
    have hn2:x.n≠13:=fun e=>hn (.inr e)
    have e:q0 x=true:=by rw [hq]; simp [hn1,hn2]
    rw [e]
    refine Stops_wp L28_0.eq_1 ?_
    simp [h7,h8,h9,h3,hlt,hx,k10,hn1,hn2,hw,-Int.natCast_add]
    refine nx _ _ ?_ ?_ ?_ ?_ <;> simp [h7,h8,h3]
  ·by_cases hk:x.k=5∨x.k=6∨x.k=7∨x.k=8∨x.k=9∨x.k=11∨x.k=13∨x.k=14∨x.k=15
   ·rw [ht x.k hk rfl]
    refine Stops_wp L28_0.eq_1 ?_
    rcases hk with hk | hk | hk | hk | hk | hk | hk | hk | hk <;> simp [h7,h8,h9,h3,hlt,hx,hk,hw,-Int.natCast_add]
    all_goals (refine nx _ _ ?_ ?_ ?_ ?_ <;> simp [h7,h8,h3])
   ·have e:q0 x=false:=by
     unfold q0
     simp only [Bool.and_eq_false_iff,decide_eq_false_iff_not]
     exact .inl (by omega)
    have n1:x.k≠5:=by omega
    have n2:x.k≠6:=by omega
    have n3:x.k≠7:=by omega
    have n4:x.k≠8:=by omega
    have n5:x.k≠9:=by omega
    have n6:x.k≠11:=by omega
    have n7:x.k≠13:=by omega
    have n8:x.k≠14:=by omega
    have n9:x.k≠15:=by omega
    rw [e]
    refine Stops_wp L28_0.eq_1 ?_
    simp [h7,h8,h9,h3,hlt,hx,k10,n1,n2,n3,n4,n5,n6,n7,n8,n9]
theorem sub_good (t:Tm):good t→∀ x,x∈subT t→good x:=by
 induction t using Tm.ind with
 | h t ih=>
  intro gt x hx
  rw [subT_eq] at hx
  rcases List.mem_cons.1 hx with rfl | hx
  ·exact gt
  ·have parts:∀ l:List Tm,(∀ y,y∈l→y∈t.l)→x∈subTs l→good x:=by
    intro l
    induction l with
    | nil=>intro _ h; simp [subTs] at h
    | cons y r ir=>
     intro hy h
     rw [subTs,List.mem_append] at h
     rcases h with h | h
     ·exact ih y (hy y (by simp)) (good_mem gt (hy y (by simp))) x h
     ·exact ir (fun z hz=>hy z (by simp [hz])) h
   exact parts t.l (fun _ h=>h) hx
theorem c28 (t:Tm) (gt:good t) (ht:cntT t≤100000) (st:St):callD T (ev T) 28 [encT t] st=some (.bool (qtT t),st):=by
 refine callD_pureR (fn:=F28) rfl rfl (by simp) (by simp) ?_
 refine Ret_wp (fn:=F28) rfl ?_
 rw [F28]
 obtain ⟨fl,L,q,hl,hm⟩:=c55 t gt ht []
 have lo:=fun s bx st=>l28 fl L (by omega) (fun x hx=>sub_good t gt x ((hm x).1 hx)) L.length 0 s bx st (by omega) (by omega)
 simp [←encT_eq t,q]
 refine WL.use L28_0_p L28_0_w (lo _ _ _ ?_ ?_ ?_ ?_) ?_
 iterate 4 simp
 rintro e' s' b' st' ⟨rfl,p⟩ hf
 have e:(L.drop 0).all q0=qtT t:=by
  rw [List.drop_zero,Bool.eq_iff_iff,List.all_eq_true,qtT_sub]
  exact ⟨fun h x hx=>h x ((hm x).2 hx),fun h x hx=>h x ((hm x).1 hx)⟩
 rw [e] at p
 simp [p]
theorem mem_cut (d:Array Int):∀ (m:Nat) (x:Int),x∈Go.Lib.compactUpTo d m↔∃ j,j < m∧d[j]! = x
 | 0,x=>by simp [Go.Lib.compactUpTo]
 | m+1,x=>by
  rw [Go.Lib.compactUpTo_succ,List.mem_append,mem_cut d m x]
  by_cases h:Go.Lib.keeps d m=true
  ·rw [if_pos h,List.mem_singleton]
   constructor
   ·rintro (⟨j,h1,h2⟩ | rfl)
    ·exact ⟨j,by omega,h2⟩
    ·exact ⟨m,by omega,rfl⟩
   ·rintro ⟨j,h1,h2⟩
    by_cases e:j=m
    ·subst e; exact .inr h2.symm
    ·exact .inl ⟨j,by omega,h2⟩
  ·rw [if_neg h]
   simp only [List.not_mem_nil,or_false]
   have h0:m≠0:=fun e=>h (Go.Lib.keeps_lt_one d m (by omega))
   have h1:d[m]! = d[m - 1]! := by
    apply Classical.byContradiction
    intro e
    exact h (Go.Lib.keeps_pos e)
   constructor
   ·rintro ⟨j,h1,h2⟩; exact ⟨j,by omega,h2⟩
   ·rintro ⟨j,h2,h3⟩
    by_cases e:j=m
    ·subst e; exact ⟨j - 1,by omega,by rw [←h1]; exact h3⟩
    ·exact ⟨j,by omega,h3⟩
theorem mem_compact (l:List Int) (x:Int):x∈Go.Lib.compact l↔x∈l:=by
 unfold Go.Lib.compact
 rw [mem_cut,List.mem_iff_getElem]
 constructor
 ·rintro ⟨j,h1,h2⟩; exact ⟨j,h1,by simpa [h1] using h2⟩
 ·rintro ⟨j,h1,h2⟩; exact ⟨j,h1,by simpa [h1] using h2⟩
theorem RowI.app1 {st:St} {d:D} {l:List Int} (h:RowI st d l) (hl:l.length≤1000000) (n:Int):∃ d' st',appendD st d [.int .i64 n] 1=some (d',st')∧RowI st' d' (l++[n]):=by
 rcases h with ⟨rfl,rfl⟩ | ⟨id,md,rfl,h1,h2,h3⟩
 ·exact ⟨.rs st.length 0 1 0 1 false,st++[.cells false 1 0 0 false [.int .i64 n]],by simp [appendD,most],.inr ⟨st.length,0,rfl,by simp,by simp,by rw [at_append_self]; rfl⟩⟩
 ·have hp:=List.length_pos_iff.2 h2
  have e1:l.length - 1+1=l.length:=by omega
  have t1:l.length < tagB:=by unfold tagB; omega
  have m2:l.length≤most:=by unfold most; omega
  have m3:l.length≤134217728:=by omega
  refine ⟨.rs id l.length 1 0 (l.length+1) false,List.set st id (.cells false 1 l.length (md+1) false (nI (l++[n]))),?_,.inr ⟨id,md+1,by simp,by simpa using h1,by simp,by rw [at_set _ _ _ _ h1,if_pos rfl]; simp⟩⟩
  have e2:List.take l.length (nI l)=nI l:=List.take_of_length_le (by simp)
  simp [appendD,h3,e1,t1,m2,m3,most,e2]
def Q59 (L:List Int) (ex:Ex) (s':List D) (_:List (Nat × List D)) (st':St):Prop:=ex=.exit 0∧RowI st' (get s' 3) L
theorem l59 (fl:Fl) (L:List Tm) (hL:L.length≤1000000):∀ (r i:Nat) (s:List D) (bx:List (Nat × List D)) (st:St) (d:D) (l:List Int),r=L.length - i→i≤L.length→RowI st d l→l.length≤i →
  get s 7=slE 6 fl (encTs L)→get s 8=.i L.length→get s 9=.i i→get s 3=d→Stops (lp T L59_0 ⟨⟨s,bx⟩,st⟩) (Q59 (l++((L.drop i).filter fun x=>decide (x.k=9)).map fun x=>x.n)):=by
 intro r
 induction r with
 | zero=>
  intro i s bx st d l hr hi h hl h7 h8 h9 h3
  have e:i=L.length:=by omega
  subst e
  refine Stops_wp L59_0.eq_1 ?_
  simp [h7,h8,h9]
  exact ⟨rfl,by simpa [h3] using h⟩
 | succ r ih=>
  intro i s bx st d l hr hi h hl h7 h8 h9 h3
  have hlt:i < L.length:=by omega
  have hw:IntKind.wrap .i64 ((i:Int)+1)=((i+1:Nat):Int):=by rw [wrap64] <;> omega
  rw [List.drop_eq_getElem_cons hlt]
  generalize hx:L[i]=x
  by_cases k9:x.k=9
  ·obtain ⟨d1,st1,q,h1⟩:=h.app1 (by omega) x.n
   have nx:=fun s' bx'=>ih (i+1) s' bx' st1 d1 _ (by omega) (by omega) h1 (by simp; omega)
   rw [List.filter_cons,if_pos (by simpa using k9),List.map_cons]
   rw [show l++x.n::((L.drop (i+1)).filter fun x=>decide (x.k=9)).map (fun x=>x.n)=(l++[x.n])++((L.drop (i+1)).filter fun x=>decide (x.k=9)).map (fun x=>x.n) by simp]
   generalize (l++[x.n])++((L.drop (i+1)).filter fun x=>decide (x.k=9)).map (fun x=>x.n)=R at *
   refine Stops_wp L59_0.eq_1 ?_
   simp [h7,h8,h9,h3,hlt,hx,k9,q,hw,-Int.natCast_add]
   refine nx _ _ ?_ ?_ ?_ ?_ <;> simp [h7,h8]
  ·have nx:=fun s' bx'=>ih (i+1) s' bx' st d l (by omega) (by omega) h (by omega)
   rw [List.filter_cons,if_neg (by simpa using k9)]
   refine Stops_wp L59_0.eq_1 ?_
   simp [h7,h8,h9,hlt,hx,k9,hw,-Int.natCast_add]
   refine nx _ _ ?_ ?_ ?_ ?_ <;> simp [h7,h8,h3]
theorem c59 (t:Tm) (gt:good t) (ht:cntT t≤100000) (st:St):∃ fl G,callD T (ev T) 59 [encT t] st=some (slE 1 fl (nI G),st)∧(∀ x,x∈G↔x∈glT t)∧G.length≤1000000:=by
 obtain ⟨fl,L,q,hl,hm⟩:=c55 t gt ht []
 have hG:∀ x,x∈(L.filter fun x=>decide (x.k=9)).map (fun x=>x.n)↔x∈glT t:=fun x=>by
  unfold glT
  simp only [List.mem_map,List.mem_filter,hm]
 have hGl:((L.filter fun x=>decide (x.k=9)).map (fun x=>x.n)).length≤100000:=by simp; have:=List.length_filter_le (fun x:Tm=>decide (x.k=9)) L; omega
 generalize hGe:(L.filter fun x=>decide (x.k=9)).map (fun x=>x.n)=G at hG hGl
 have go:Ret (ev T 59 [encT t] []) fun r st'=>∃ fl G' st2,fz st' r=some (slE 1 fl (nI G'),st2)∧(∀ x,x∈G'↔x∈glT t)∧G'.length≤1000000:=by
  refine Ret_wp (fn:=F59) rfl ?_
  rw [F59]
  have lo:=fun s bx st=>l59 fl L (by omega) L.length 0 s bx st .nils [] (by omega) (by omega) (.nil _) (by simp)
  simp [←encT_eq t,q]
  refine WL.use L59_0_p L59_0_w (lo _ _ _ ?_ ?_ ?_ ?_) ?_
  iterate 4 simp
  rintro e' s' b' st' ⟨rfl,p⟩ hf
  rw [List.drop_zero,List.nil_append,hGe] at p
  rcases p with ⟨e,h0⟩ | ⟨id,md,e,h1,h2,h3⟩
  ·have q90:callD T (ev T) 90 [.nils] st'=some (.tup [],st'):=by
    rw [callD_rawE (fn:=F90) rfl rfl (by simp),ev_eq 90 F90 rfl,F90]
    have hp:primD 19 [.nils] st'=some ([],st'):=by rw [primD,if_pos (by decide)]; simp [primI]
    simp [hp]
   have q91:callD T (ev T) 91 [.nils] st'=some (.nils,st'):=by
    rw [callD_rawE (fn:=F91) rfl rfl (by simp),ev_eq 91 F91 rfl,F91]
    have hp:primD 23 [.nils] st'=some ([.nils],st'):=by rw [primD,if_pos (by decide)]; simp [primI]
    simp [hp]
   simp [e,q90,q91]
   exact ⟨.nil,[],rfl,fun x=>by rw [←hG,h0],by simp⟩
  ·have hm':G.length < most:=by unfold most; omega
   generalize hS:G.mergeSort (fun x y=>decide (x≤y))=S
   have pS:S.Perm G:=by rw [←hS]; exact List.mergeSort_perm _ _
   have lS:S.length=G.length:=pS.length_eq
   have q90:callD T (ev T) 90 [.rs id (G.length - 1) 1 0 G.length false] st'=some (.tup [],List.set st' id (.cells false 1 (G.length - 1) (md+1) false (nI S))):=by
    rw [callD_rawE (fn:=F90) rfl rfl (by simp),ev_eq 90 F90 rfl,F90]
    have hp:primD 19 [.rs id (G.length - 1) 1 0 G.length false] st'=some ([],List.set st' id (.cells false 1 (G.length - 1) (md+1) false (nI S))):=by
     rw [primD,if_pos (by decide)]
     simp only [primI,h3,ints_nI,Option.bind_some,hS]
     simp [hm']
    simp [hp]
   have a2:St.at (List.set st' id (.cells false 1 (G.length - 1) (md+1) false (nI S))) id=.cells false 1 (G.length - 1) (md+1) false (nI S):=by rw [at_set _ _ _ _ h1,if_pos rfl]
   generalize hs2:List.set st' id (.cells false 1 (G.length - 1) (md+1) false (nI S))=s2 at *
   have l2:id < s2.length:=by rw [←hs2]; simpa using h1
   obtain ⟨s3,hs3⟩:∃ s3,s3=List.set s2 id (.cells false 1 (G.length - 1) (md+1+1) false ((Go.Lib.compact S++List.replicate (S.length - (Go.Lib.compact S).length) 0).map (.int .i64))):=⟨_,rfl⟩
   have q91:callD T (ev T) 91 [.rs id (G.length - 1) 1 0 G.length false] s2=some (.rs id (G.length - 1) 1 0 (Go.Lib.compact S).length false,s3):=by
    rw [callD_rawE (fn:=F91) rfl rfl (by simp),ev_eq 91 F91 rfl,F91]
    have hp:primD 23 [.rs id (G.length - 1) 1 0 G.length false] s2=some ([.rs id (G.length - 1) 1 0 (Go.Lib.compact S).length false],s3):=by
     rw [primD,if_pos (by decide),hs3]
     simp only [primI,a2,ints_nI,Option.bind_some]
     simp [hm',lS]
    simp [hp]
   have ff:∃ s4,fz s3 (.rs id (G.length - 1) 1 0 (Go.Lib.compact S).length false)=some (slE 1 .part (nI (Go.Lib.compact S)),s4):=by
    have a3:St.at s3 id=.cells false 1 (G.length - 1) (md+1+1) false ((Go.Lib.compact S++List.replicate (S.length - (Go.Lib.compact S).length) 0).map (.int .i64)):=by rw [hs3,at_set _ _ _ _ l2,if_pos rfl]
    refine ⟨List.set s3 id (.cells false 1 (G.length - 1) (md+1+1+1) true ((Go.Lib.compact S++List.replicate (S.length - (Go.Lib.compact S).length) 0).map (.int .i64))),?_⟩
    simp [fz,fz1,fz0,a3,slE]
   obtain ⟨s4,ff⟩:=ff
   simp [e,q90,q91]
   refine ⟨.part,Go.Lib.compact S,⟨s4,?_⟩,fun x=>by rw [mem_compact,pS.mem_iff,hG],?_⟩
   ·simpa using ff
   ·have:(Go.Lib.compact S).length≤S.length:=by
     unfold Go.Lib.compact Go.Lib.compactUpTo
     rw [List.length_map]
     exact Nat.le_trans (List.length_filter_le _ _) (by simp)
    omega
 obtain ⟨r,st',g,fl,G',st2,gf,gl⟩:=go
 exact ⟨fl,G',callD_pure (fn:=F59) (st2:=st2) rfl rfl (by simp) g gf (by simp),gl⟩
theorem l119 (fl:Fl) (l:List Int) (hl:l.length≤1000000) (x:Int):∀ (r i:Nat) (s:List D) (bx:List (Nat × List D)) (st:St),r=l.length - i→i≤l.length →
  get s 6=slE 1 fl (nI l)→get s 0=slE 1 fl (nI l)→get s 7=.i l.length→get s 8=.i i→get s 1=.int .i64 x→Stops (lp T L119_0 ⟨⟨s,bx⟩,st⟩) fun ex s' _ st'=>st'=st∧((ex=.exit 0∧x∉l.drop i)∨(ex=.ret∧(∃ k:Nat,get s' 4=.i k)∧x∈l.drop i)):=by
 intro r
 induction r with
 | zero=>
  intro i s bx st hr hi h6 h0 h7 h8 h1
  have e:i=l.length:=by omega
  subst e
  refine Stops_wp L119_0.eq_1 ?_
  simp [h6,h0,h7,h8,h1]
 | succ r ih=>
  intro i s bx st hr hi h6 h0 h7 h8 h1
  have hlt:i < l.length:=by omega
  have hw:IntKind.wrap .i64 ((i:Int)+1)=((i+1:Nat):Int):=by rw [wrap64] <;> omega
  have e3:(nI l)[i]?=some (.int .i64 l[i]):=by simp [hlt]
  have nx:=fun s' bx'=>ih (i+1) s' bx' st (by omega) (by omega)
  have hd:=List.drop_eq_getElem_cons hlt
  generalize nI l=els at *
  by_cases hx:x=l[i]
  ·have e:(x∈l.drop i)=True:=eq_true (by rw [hd]; exact List.mem_cons.2 (.inl hx))
   simp only [e]
   refine Stops_wp L119_0.eq_1 ?_
   simp [h6,h0,h7,h8,h1,hlt,e3,←hx]
  ·have e:(x∈l.drop i)=(x∈l.drop (i+1)):=propext ⟨fun h=>by rw [hd] at h; exact (List.mem_cons.1 h).resolve_left hx,fun h=>by rw [hd]; exact List.mem_cons_of_mem _ h⟩
   simp only [e]
   refine Stops_wp L119_0.eq_1 ?_
   generalize (x∈l.drop (i+1))=P at *
   simp [h6,h0,h7,h8,h1,hlt,e3,hx,hw,-Int.natCast_add]
   refine nx _ _ ?_ ?_ ?_ ?_ ?_ <;> simp [h6,h0,h7,h1]
theorem c89 (fl:Fl) (l:List Int) (hl:l.length≤1000000) (x:Int) (st:St):callD T (ev T) 89 [slE 1 fl (nI l),.int .i64 x] st=some (.bool (decide (x∈l)),st):=by
 have q:∃ k:Int,callD T (ev T) 119 [slE 1 fl (nI l),.int .i64 x] []=some (.int .i64 k,[])∧(0≤k↔x∈l):=by
  have go:Ret (ev T 119 [slE 1 fl (nI l),.int .i64 x] []) fun r _=>∃ k:Int,r=.int .i64 k∧(0≤k↔x∈l):=by
   refine Ret_wp (fn:=F119) rfl ?_
   rw [F119]
   have lo:=fun s bx=>l119 fl l hl x l.length 0 s bx [] (by omega) (by omega)
   simp
   refine WL.use L119_0_p L119_0_w (lo _ _ ?_ ?_ ?_ ?_ ?_) ?_
   iterate 5 simp
   rintro e' s' b' st' ⟨rfl,p⟩ hf
   rw [List.drop_zero] at p
   rcases p with ⟨rfl,p⟩ | ⟨rfl,⟨k,hk⟩,p⟩
   ·simp [p]
   ·simp [hk,p]
  obtain ⟨r,st',g,k,rfl,hk⟩:=go
  exact ⟨k,callD_pure (fn:=F119) (st2:=st') rfl rfl (by simp) g (by simp) (by simp),hk⟩
 obtain ⟨k,q,hk⟩:=q
 refine callD_pureR (fn:=F89) rfl rfl (by simp) (by simp) ?_
 refine Ret_wp (fn:=F89) rfl ?_
 rw [F89]
 simp only [←hk]
 simp [q]
theorem c88 (fl:Fl) (l:List Int) (hl:l.length≤1000000) (x:Int) (st:St):callD T (ev T) 88 [.int .i64 x,.iptr (slE 1 fl (nI l))] st=some (.bool (decide (x∈l)),st):=by
 refine callD_pureR (fn:=F88) rfl rfl (by simp) (by simp) ?_
 refine Ret_wp (fn:=F88) rfl ?_
 rw [F88]
 have q:=c89 fl l hl x
 simp [q]
theorem l118 (fa fb:Fl) (a b:List Int) (ha:a.length≤1000000) (hb:b.length≤1000000):∀ (r i:Nat) (s:List D) (bx:List (Nat × List D)) (st:St),r=a.length - i→i≤a.length →
  get s 6=slE 1 fa (nI a)→get s 0=slE 1 fa (nI a)→get s 7=.i a.length→get s 8=.i i→get s 1=.fn 88 [] [.iptr (slE 1 fb (nI b))]→Stops (lp T L118_0 ⟨⟨s,bx⟩,st⟩) fun ex s' _ st'=>st'=st∧((ex=.exit 0∧¬ ∃ x,x∈a.drop i∧x∈b)∨(ex=.ret∧(∃ k:Nat,get s' 4=.i k)∧∃ x,x∈a.drop i∧x∈b)):=by
 intro r
 induction r with
 | zero=>
  intro i s bx st hr hi h6 h0 h7 h8 h1
  have e:i=a.length:=by omega
  subst e
  refine Stops_wp L118_0.eq_1 ?_
  simp [h6,h0,h7,h8,h1]
 | succ r ih=>
  intro i s bx st hr hi h6 h0 h7 h8 h1
  have hlt:i < a.length:=by omega
  have hw:IntKind.wrap .i64 ((i:Int)+1)=((i+1:Nat):Int):=by rw [wrap64] <;> omega
  have e3:(nI a)[i]?=some (.int .i64 a[i]):=by simp [hlt]
  have nx:=fun s' bx'=>ih (i+1) s' bx' st (by omega) (by omega)
  have q:=c88 fb b hb a[i] st
  have hd:=List.drop_eq_getElem_cons hlt
  generalize nI a=els at *
  by_cases hx:a[i]∈b
  ·have e:(∃ x,x∈a.drop i∧x∈b)=True:=eq_true ⟨a[i],by rw [hd]; exact List.mem_cons.2 (.inl rfl),hx⟩
   rw [decide_eq_true hx] at q
   simp only [e]
   refine Stops_wp L118_0.eq_1 ?_
   simp [h6,h0,h7,h8,h1,hlt,e3,q]
  ·rw [decide_eq_false hx] at q
   have e:(∃ x,x∈a.drop i∧x∈b)=∃ x,x∈a.drop (i+1)∧x∈b:=propext ⟨fun ⟨x,h,hb⟩=>by
    rw [hd] at h
    rcases List.mem_cons.1 h with rfl | h
    ·exact absurd hb hx
    ·exact ⟨x,h,hb⟩,fun ⟨x,h,hb⟩=>⟨x,by rw [hd]; exact List.mem_cons_of_mem _ h,hb⟩⟩
   simp only [e]
   refine Stops_wp L118_0.eq_1 ?_
   generalize (∃ x,x∈a.drop (i+1)∧x∈b)=P at *
   simp [h6,h0,h7,h8,h1,hlt,e3,q,hw,-Int.natCast_add]
   refine nx _ _ ?_ ?_ ?_ ?_ ?_ <;> simp [h6,h0,h7,h1]
theorem c58 (fa fb:Fl) (a b:List Int) (ha:a.length≤1000000) (hb:b.length≤1000000) (st:St) (p:Bool) (hp:p=true↔∃ x,x∈a∧x∈b):callD T (ev T) 58 [slE 1 fa (nI a),slE 1 fb (nI b)] st=some (.bool p,st):=by
 have q:∃ k:Int,callD T (ev T) 118 [slE 1 fa (nI a),.fn 88 [] [.iptr (slE 1 fb (nI b))]] []=some (.int .i64 k,[])∧(0≤k↔∃ x,x∈a∧x∈b):=by
  have go:Ret (ev T 118 [slE 1 fa (nI a),.fn 88 [] [.iptr (slE 1 fb (nI b))]] []) fun r _=>∃ k:Int,r=.int .i64 k∧(0≤k↔∃ x,x∈a∧x∈b):=by
   refine Ret_wp (fn:=F118) rfl ?_
   rw [F118]
   have lo:=fun s bx=>l118 fa fb a b ha hb a.length 0 s bx [] (by omega) (by omega)
   simp only [List.drop_zero] at lo
   generalize (∃ x,x∈a∧x∈b)=P at *
   simp
   refine WL.use L118_0_p L118_0_w (lo _ _ ?_ ?_ ?_ ?_ ?_) ?_
   iterate 5 simp
   rintro e' s' b' st' ⟨rfl,p⟩ hf
   rcases p with ⟨rfl,p⟩ | ⟨rfl,⟨k,hk⟩,p⟩
   ·simp [p]
   ·simp [hk,p]
  obtain ⟨r,st',g,k,rfl,hk⟩:=go
  exact ⟨k,callD_pure (fn:=F118) (st2:=st') rfl rfl (by simp) g (by simp) (by simp),hk⟩
 obtain ⟨k,q,hk⟩:=q
 have hpk:p=decide (0≤k):=by rw [Bool.eq_iff_iff,hp,←hk]; simp
 have q87:∀ st,callD T (ev T) 87 [slE 1 fa (nI a),.fn 88 [] [.iptr (slE 1 fb (nI b))]] st=some (.bool p,st):=fun st=>by
  refine callD_pureR (fn:=F87) rfl rfl (by simp) (by simp) ?_
  refine Ret_wp (fn:=F87) rfl ?_
  rw [F87,hpk]
  simp [q]
 refine callD_pureR (fn:=F58) rfl rfl (by simp) (by simp) ?_
 refine Ret_wp (fn:=F58) rfl ?_
 rw [F58]
 simp [q87]
theorem c32 (m t e:Tm) (gm:good m) (gt:good t) (ge:good e) (hm:cntT m≤400) (ht:cntT t≤400) (he:cntT e≤400) (st:St):∃ p,callD T (ev T) 32 [encT m,encT t,encT e] st=some (.bool p,st)∧(p=true↔∃ x,x∈glT e∧WrP m t x):=by
 obtain ⟨fl,G,q1,g1,g2⟩:=c59 e ge (by omega) []
 obtain ⟨R,W,f,q2,w1,w2⟩:=c60 m t gm gt hm ht []
 have hq:=fun p=>c58 fl .nil G W g2 w1 [] p
 obtain ⟨p,hp⟩:∃ p:Bool,p=true↔∃ x,x∈G∧x∈W:=by
  rcases Classical.em (∃ x,x∈G∧x∈W) with h | h
  ·exact ⟨true,by simp [h]⟩
  ·exact ⟨false,by simp only [h]; simp⟩
 refine ⟨p,?_,by rw [hp]; simp only [g1,w2]⟩
 have q3:=hq p hp
 refine callD_pureR (fn:=F32) rfl rfl (by simp) (by simp) ?_
 refine Ret_wp (fn:=F32) rfl ?_
 rw [F32]
 simp [←encT_eq,q1,q2,q3]
end Go.Nt.Li
set_option linter.unusedSimpArgs false
set_option maxRecDepth 20000
namespace Go.Nt.Li
open Go Go.Nt
def RowX (st:St) (d:D) (l:List Int) (K:Nat):Prop:=
 (d=.sl 1 true []∧l=[])∨∃ id ver md rest,d=.rs id ver 1 0 l.length false∧id < st.length∧ver≤K∧l.length+rest.length≤1000000∧St.at st id=.cells false 1 ver md false (nI (l++rest))
theorem RowX.nil (st:St) (K:Nat):RowX st (.sl 1 true []) [] K:=.inl ⟨rfl,rfl⟩
theorem RowX.facts {st:St} {d:D} {l:List Int} {K:Nat} (h:RowX st d l K):d.okv=true∧d.cells=[d]∧d.fits none=true∧(∀ st' q,lenD st' .slice d q=some (.i l.length))∧listD st 1 d=some (nI l)∧srcD st 1 d=some (nI l):=by
 rcases h with ⟨rfl,rfl⟩ | ⟨id,ver,md,rest,rfl,h1,h2,h3,h4⟩
 ·exact ⟨rfl,rfl,rfl,fun _ _=>rfl,rfl,rfl⟩
 ·refine ⟨rfl,rfl,rfl,fun _ _=>rfl,?_,?_⟩ <;> simp [listD,srcD,h4]
theorem RowX.more {st:St} {d:D} {l:List Int} {K K':Nat} (h:RowX st d l K) (hK:K≤K'):RowX st d l K':=by
 rcases h with h | ⟨id,ver,md,rest,rfl,h1,h2,h3⟩
 ·exact .inl h
 ·exact .inr ⟨id,ver,md,rest,rfl,h1,by omega,h3⟩
theorem RowX.keep {st st':St} {d:D} {l:List Int} {K:Nat} (h:RowX st d l K) (hl:st.length≤st'.length) (ha:∀ i,rid d=some i→St.at st' i=St.at st i):RowX st' d l K:=by
 rcases h with h | ⟨id,ver,md,rest,rfl,h1,h2,h3,h4⟩
 ·exact .inl h
 ·exact .inr ⟨id,ver,md,rest,rfl,by omega,h2,h3,by rw [ha id rfl]; exact h4⟩
theorem RowX.lt {st:St} {d:D} {l:List Int} {K:Nat} (h:RowX st d l K) {i:Nat} (hi:rid d=some i):i < st.length:=by
 rcases h with ⟨rfl,_⟩ | ⟨id,ver,md,rest,rfl,h1,_⟩
 ·cases hi
 ·cases hi; exact h1
theorem RowX.app {st:St} {d:D} {l:List Int} {K:Nat} (h:RowX st d l K) (hK:K≤1000000) (k:List Int) (hl:l.length+k.length≤1000000) :
  ∃ d' st',appendD st d (nI k) 1=some (d',st')∧RowX st' d' (l++k) (K+1)∧AQ st d st' d':=by
 have m1:¬ most < k.length:=by unfold most; omega
 cases hk:k with
 | nil=>
  rw [List.append_nil]
  rcases h with ⟨rfl,rfl⟩ | ⟨id,ver,md,rest,rfl,h1,h2,h3,h4⟩
  ·exact ⟨.sl 1 true [],st,rfl,.inl ⟨rfl,rfl⟩,.refl _ _⟩
  ·have m2:l.length+rest.length≤most:=by unfold most; omega
   have m3:l.length+rest.length≤134217728:=by omega
   exact ⟨.rs id ver 1 0 l.length false,st,by simp [appendD,h4,m2,m3,most],.inr ⟨id,ver,md,rest,rfl,h1,by omega,h3,h4⟩,.refl _ _⟩
 | cons x r=>
  rw [←hk]
  have he:(nI k).isEmpty=false:=by rw [hk]; rfl
  rcases h with ⟨rfl,rfl⟩ | ⟨id,ver,md,rest,rfl,h1,h2,h3,h4⟩
  ·exact ⟨.rs st.length 0 1 0 k.length false,st++[.cells false 1 0 0 false (nI k)],by simp [appendD,m1,he],.inr ⟨st.length,0,0,[],by simp,by simp,by omega,by simpa using hl,by rw [at_append_self]; simp⟩,by simp,fun i hi _=>at_append _ _ _ hi,.inr ⟨_,rfl,Nat.le_refl _⟩⟩
  ·have m2:l.length+rest.length≤most:=by unfold most; omega
   have t1:ver+1 < tagB:=by unfold tagB; omega
   have e2:List.take l.length (nI (l++rest))=nI l:=by rw [show nI (l++rest)=nI l++nI rest by simp [nI]]; simp [nI]
   refine ⟨.rs id (ver+1) 1 0 (l.length+k.length) false,List.set st id (.cells false 1 (ver+1) (md+1) false (nI (l++k))),?_,.inr ⟨id,ver+1,md+1,[],by simp,by simpa using h1,by omega,by simpa using hl,by rw [at_set _ _ _ _ h1,if_pos rfl]; simp⟩,by simp,fun i hi hr=>by rw [at_set _ _ _ _ h1,if_neg (fun e=>hr (by rw [e]; rfl))],.inl rfl⟩
   have m4:(nI (l++rest)).length=l.length+rest.length:=by simp
   generalize nI (l++rest)=els at *
   simp [appendD,h4,m1,m2,m4,he,t1,e2]
theorem RowX.fz {st:St} {d:D} {l:List Int} {K:Nat} (h:RowX st d l K):∃ fl st',fz st d=some (slE 1 fl (nI l),st')∧fz0 st d=some (slE 1 fl (nI l),st'):=by
 rcases h with ⟨rfl,rfl⟩ | ⟨id,ver,md,rest,rfl,h1,h2,h3,h4⟩
 ·exact ⟨.emp,st,rfl,rfl⟩
 ·have e2:List.take l.length (nI (l++rest))=nI l:=by rw [show nI (l++rest)=nI l++nI rest by simp [nI]]; simp [nI]
  have m4:(nI (l++rest)).length=l.length+rest.length:=by simp
  refine ⟨.part,List.set st id (.cells false 1 ver (md+1) true (nI (l++rest))),?_⟩
  generalize nI (l++rest)=els at *
  have e3:fz0 st (.rs id ver 1 0 l.length false)=some (slE 1 .part (nI l),List.set st id (.cells false 1 ver (md+1) true els)):=by
   simp only [fz0,h4]
   rw [if_pos ⟨trivial,trivial,by omega⟩]
   simp [slE,e2]
  exact ⟨e3,e3⟩
theorem RowX.cut {st:St} {d:D} {l:List Int} {K:Nat} (h:RowX st d l K) (n:Nat) (hn:n≤l.length):∃ d',sliceD d none (some (.i n)) none=some d'∧RowX st d' (l.take n) K∧rid d'=rid d∧slcTy (some 1) d=true:=by
 rcases h with ⟨rfl,rfl⟩ | ⟨id,ver,md,rest,rfl,h1,h2,h3,h4⟩
 ·have:n=0:=by simpa using hn
  subst this
  exact ⟨.sl 1 true [],rfl,.inl ⟨rfl,rfl⟩,rfl,rfl⟩
 ·have hn':(n:Int)≤l.length:=by omega
  refine ⟨.rs id ver 1 0 n false,by simp [sliceD,boundD,hn],.inr ⟨id,ver,md,l.drop n++rest,by simp [Nat.min_eq_left hn],h1,h2,by simp; omega,by rw [h4,←List.append_assoc,List.take_append_drop]⟩,rfl,rfl⟩
theorem RowX.from' {st:St} {d:D} {l:List Int} {K:Nat} (h:RowX st d l K) (n:Nat) (hn:n≤l.length):∃ d',sliceD d (some (.i n)) none none=some d'∧srcD st 1 d'=some (nI (l.drop n)):=by
 rcases h with ⟨rfl,rfl⟩ | ⟨id,ver,md,rest,rfl,h1,h2,h3,h4⟩
 ·have:n=0:=by simpa using hn
  subst this
  exact ⟨.sl 1 true [],rfl,rfl⟩
 ·refine ⟨.rs id ver 1 n (l.length - n) false,by simp [sliceD,boundD,hn],?_⟩
  have e2:List.take (l.length - n) (List.drop n (nI (l++rest)))=nI (l.drop n):=by
   rw [show nI (l++rest)=nI l++nI rest by simp [nI],List.drop_append_of_le_length (by simpa using hn)]
   rw [List.take_append_of_le_length (by simp),List.take_of_length_le (by simp)]
   simp [nI]
  have m4:(nI (l++rest)).length=l.length+rest.length:=by simp
  generalize nI (l++rest)=els at *
  simp only [srcD,listD,h4]
  rw [if_pos ⟨trivial,trivial,trivial,by omega⟩,e2]
theorem RowX.el {st:St} {d:D} {l:List Int} {K:Nat} (h:RowX st d l K) (i:Nat) (hi:i < l.length):∃ id v md els,idxAD d i 1 none none=some (.hp id v 1 i 0)∧St.at st id=.cells false 1 v md false els∧els[i]?=some (.int .i64 l[i]):=by
 rcases h with ⟨rfl,rfl⟩ | ⟨id,ver,md,rest,rfl,h1,h2,h3,h4⟩
 ·simp at hi
 ·exact ⟨id,ver,md,_,by simp [idxAD,hi],h4,nI_get l rest i hi⟩
theorem l131 (x:Int) (d:D) (l:List Int) (hl:l.length≤1000000) (st:St) (hd:(∃ fl,d=slE 1 fl (nI l))∨∃ K,RowX st d l K):∀ (r i:Nat) (s:List D) (bx:List (Nat × List D)),r=l.length - i→i≤l.length →
  get s 0=d→get s 5=.i i→get s 1=.int .i64 x→Stops (lp T L131_0 ⟨⟨s,bx⟩,st⟩) fun ex s' _ st'=>st'=st∧((ex=.exit 0∧x∉l.drop i)∨(ex=.ret∧get s' 4=.bool true∧x∈l.drop i)):=by
 intro r
 induction r with
 | zero=>
  intro i s bx hr hi h0 h5 h1
  have e:i=l.length:=by omega
  subst e
  have hn:∀ q,lenD st .slice d q=some (.i l.length):=fun q=>by
   rcases hd with ⟨fl,rfl⟩ | ⟨K,h⟩
   ·simp
   ·exact h.facts.2.2.2.1 _ _
  refine Stops_wp L131_0.eq_1 ?_
  simp [h0,h5,h1,hn]
 | succ r ih=>
  intro i s bx hr hi h0 h5 h1
  have hlt:i < l.length:=by omega
  have hw:IntKind.wrap .i64 ((i:Int)+1)=((i+1:Nat):Int):=by rw [wrap64] <;> omega
  have nx:=fun s' bx'=>ih (i+1) s' bx' (by omega) (by omega)
  have hdr:=List.drop_eq_getElem_cons hlt
  have e:(x∈l.drop i)=(x=l[i]∨x∈l.drop (i+1)):=by rw [hdr]; exact propext List.mem_cons
  simp only [e]
  generalize (x∈l.drop (i+1))=P at *
  rcases hd with ⟨fl,rfl⟩ | ⟨K,h⟩
  ·by_cases hx:x=l[i]
   ·refine Stops_wp L131_0.eq_1 ?_
    simp [h0,h5,h1,hlt,←hx]
   ·have hx2:¬ l[i]=x:=fun e=>hx e.symm
    simp only [hx,false_or]
    refine Stops_wp L131_0.eq_1 ?_
    simp [h0,h5,h1,hlt,hx2,hw,-Int.natCast_add]
    refine nx _ _ ?_ ?_ ?_ <;> simp [h0,h1]
  ·have hn:=h.facts.2.2.2.1
   obtain ⟨id,v,md,els,g1,g2,g3⟩:=h.el i hlt
   by_cases hx:x=l[i]
   ·refine Stops_wp L131_0.eq_1 ?_
    simp [h0,h5,h1,hlt,hn,g1,g2,g3,←hx]
   ·have hx2:¬ l[i]=x:=fun e=>hx e.symm
    simp only [hx,false_or]
    refine Stops_wp L131_0.eq_1 ?_
    simp [h0,h5,h1,hlt,hn,g1,g2,g3,hx2,hw,-Int.natCast_add]
    refine nx _ _ ?_ ?_ ?_ <;> simp [h0,h1]
theorem c131 (x:Int) (d:D) (l:List Int) (hl:l.length≤1000000) (st:St) (hd:(∃ fl,d=slE 1 fl (nI l))∨∃ K,RowX st d l K):callD T (ev T) 131 [d,.int .i64 x] st=some (.bool (decide (x∈l)),st):=by
 have ho:d.okv=true:=by
  rcases hd with ⟨fl,rfl⟩ | ⟨K,h⟩
  ·simp
  ·exact h.facts.1
 have go:Ret (ev T 131 [d,.int .i64 x] st) fun r st'=>r=.bool (decide (x∈l))∧st'=st:=by
  refine Ret_wp (fn:=F131) rfl ?_
  rw [F131]
  have lo:=fun s bx=>l131 x d l hl st hd l.length 0 s bx (by omega) (by omega)
  simp
  refine WL.use L131_0_p L131_0_w (lo _ _ ?_ ?_ ?_) ?_
  iterate 3 simp
  rintro e' s' b' st' ⟨rfl,p⟩ hf
  rw [List.drop_zero] at p
  rcases p with ⟨rfl,p⟩ | ⟨rfl,hk,p⟩
  ·simp [p]
  ·simp [hk,p]
 obtain ⟨r,st',g,rfl,rfl⟩:=go
 exact callD_pop (fn:=F131) (st2:=st') rfl rfl (by simp [ho]) g (by simp) (by simp) (by simp)
end Go.Nt.Li
set_option linter.unusedSimpArgs false
set_option maxRecDepth 20000
namespace Go.Nt.Li
open Go Go.Nt
mutual
 def loT:Tm→List Int
  | .mk k n _ _ l _ _=>if k=7 then [n] else loTs l
 def loTs:List Tm→List Int
  | []=>[]
  | x::r=>loT x++loTs r
end
theorem loT_eq (t:Tm):loT t=if t.k=7 then [t.n] else loTs t.l:=by cases t; rw [loT]; rfl
theorem len_of (g:Tm→List Int) (gs:List Tm→List Int) (h0:gs []=[]) (h1:∀ x l,gs (x::l)=g x++gs l) (h2:∀ t,(g t).length≤1+(gs t.l).length) (t:Tm):(g t).length≤cntT t:=by
 induction t using Tm.ind with
 | h t ih=>
  have parts:∀ l:List Tm,(∀ x,x∈l→x∈t.l)→(gs l).length≤cntTs l:=by
   intro l
   induction l with
   | nil=>intro _; rw [h0]; exact Nat.zero_le _
   | cons x r ir=>
    intro hx
    have a:=ih x (hx x (by simp))
    have b:=ir fun y hy=>hx y (by simp [hy])
    rw [h1,cntTs,List.length_append]; omega
  have:=parts t.l fun _ h=>h
  have:=h2 t
  rw [cntT_eq]; omega
theorem lens_of (g:Tm→List Int) (gs:List Tm→List Int) (h0:gs []=[]) (h1:∀ x l,gs (x::l)=g x++gs l) (h:∀ t,(g t).length≤cntT t):∀ l,(gs l).length≤cntTs l
 | []=>by rw [h0]; exact Nat.zero_le _
 | x::r=>by have:=h x; have:=lens_of g gs h0 h1 h r; rw [h1,cntTs,List.length_append]; omega
theorem glT_len:∀ t,(glT t).length≤cntT t:=len_of glT glTs rfl glTs_cons fun t=>by rw [glT_eq]; split <;> simp <;> omega
theorem caT_len:∀ t,(caT t).length≤cntT t:=len_of caT caTs (by rw [caTs]) (fun x l=>by rw [caTs]) fun t=>by rw [caT_eq,ca0]; split <;> simp <;> omega
theorem wrT_len:∀ t,(wrT t).length≤cntT t:=len_of wrT wrTs (by rw [wrTs]) (fun x l=>by rw [wrTs]) fun t=>by rw [wrT_eq,wr0]; split <;> simp <;> omega
theorem loT_len:∀ t,(loT t).length≤cntT t:=len_of loT loTs (by rw [loTs]) (fun x l=>by rw [loTs]) fun t=>by rw [loT_eq]; split <;> simp
theorem glTs_len:∀ l,(glTs l).length≤cntTs l:=lens_of glT glTs rfl glTs_cons glT_len
theorem caTs_len:∀ l,(caTs l).length≤cntTs l:=lens_of caT caTs (by rw [caTs]) (fun x l=>by rw [caTs]) caT_len
theorem wrTs_len:∀ l,(wrTs l).length≤cntTs l:=lens_of wrT wrTs (by rw [wrTs]) (fun x l=>by rw [wrTs]) wrT_len
theorem loTs_len:∀ l,(loTs l).length≤cntTs l:=lens_of loT loTs (by rw [loTs]) (fun x l=>by rw [loTs]) loT_len
def QX (L:List Int) (ex:Ex) (s':List D) (_:List (Nat × List D)) (st':St):Prop:=ex=.exit 0∧∃ K,RowX st' (get s' 3) L K
theorem l102 (t:Tm) (gt:good t) (ht:cntT t≤400000) (hc:∀ u,u∈t.l→∀ st,∃ fl,callD T (ev T) 102 [encT u] st=some (slE 1 fl (nI (glT u)),st)):∀ (r i:Nat) (s:List D) (bx:List (Nat × List D)) (st:St) (d:D) (l:List Int),r=t.l.length - i→i≤t.l.length→RowX st d l (i+1)→l.length+cntTs (t.l.drop i)≤1000000 →
  get s 1=.lp 1 1 0→getB bx 1=(1,clT t)→get s 3=d→get s 4=.i i→Stops (lp T L102_0 ⟨⟨s,bx⟩,st⟩) (QX (l++glTs (t.l.drop i))):=by
 intro r
 have hl:=good_len gt
 induction r with
 | zero=>
  intro i s bx st d l hr hi h hb h1 b1 h3 h4
  have e:i=t.l.length:=by omega
  subst e
  have e0:glTs []=[]:=rfl
  rw [List.drop_length,e0,List.append_nil]
  refine Stops_wp L102_0.eq_1 ?_
  simp [h1,b1,h4]
  exact ⟨rfl,_,by simpa [h3] using h⟩
 | succ r ih=>
  intro i s bx st d l hr hi h hb h1 b1 h3 h4
  have hlt:i < t.l.length:=by omega
  have hw:IntKind.wrap .i64 ((i:Int)+1)=((i+1:Nat):Int):=by rw [wrap64] <;> omega
  obtain ⟨fl,q⟩:=hc _ (List.getElem_mem hlt) st
  rw [List.drop_eq_getElem_cons hlt,cntTs] at hb
  have gl:=glT_len t.l[i]
  obtain ⟨d1,st1,qa,h1',_⟩:=h.app (by omega) (glT t.l[i]) (by omega)
  obtain ⟨x1,x2,_⟩:=h.facts
  have nx:=fun s' bx'=>ih (i+1) s' bx' st1 d1 (l++glT t.l[i]) (by omega) (by omega) h1' (by simp; omega)
  rw [List.drop_eq_getElem_cons hlt,glTs_cons,←List.append_assoc]
  generalize (l++glT t.l[i])++glTs (t.l.drop (i+1))=R at *
  generalize nI (glT t.l[i])=els at *
  refine Stops_wp L102_0.eq_1 ?_
  simp [h1,b1,h3,h4,hlt,hw,←encT_eq,q,qa,-Int.natCast_add]
  refine nx _ _ ?_ ?_ ?_ ?_ <;> simp [h1,b1]
theorem c102 (t:Tm):good t→cntT t≤400000→∀ st,∃ fl,callD T (ev T) 102 [encT t] st=some (slE 1 fl (nI (glT t)),st):=by
 induction t using Tm.ind with
 | h t ih=>
  intro gt ht st
  have em:=cntT_eq t
  have go:Ret (ev T 102 [encT t] []) fun r st'=>∃ fl st2,fz st' r=some (slE 1 fl (nI (glT t)),st2):=by
   refine Ret_wp (fn:=F102) rfl ?_
   rw [F102]
   have lo:=fun s bx st d l h=>l102 t gt ht (fun u hu=>ih u hu (good_mem gt hu) (by have:=cntTs_mem hu; omega)) t.l.length 0 s bx st d l (by omega) (by omega) h
   rw [glT_eq]
   by_cases hk:t.k=9
   ·obtain ⟨d1,st1,qa,h1',_⟩:=(RowX.nil [] 0).app (by omega) [t.n] (by simp)
    simp only [List.map_cons,List.map_nil] at qa
    obtain ⟨x1,x2,_⟩:=h1'.facts
    simp [hk,qa]
    refine WL.use L102_0_p L102_0_w (lo _ _ st1 d1 [t.n] h1' (by simp; omega) ?_ ?_ ?_ ?_) ?_
    iterate 4 simp [hk]
    rintro e' s' b' st' ⟨rfl,K,p⟩ hf
    obtain ⟨y1,_⟩:=p.facts
    obtain ⟨fl,st2,ff,_⟩:=p.fz
    rw [List.drop_zero] at ff
    simp [y1]
    exact ⟨fl,st2,ff⟩
   ·simp [hk]
    refine WL.use L102_0_p L102_0_w (lo _ _ [] (.sl 1 true []) [] (.nil _ _) (by simp; omega) ?_ ?_ ?_ ?_) ?_
    iterate 4 simp
    rintro e' s' b' st' ⟨rfl,K,p⟩ hf
    obtain ⟨y1,_⟩:=p.facts
    obtain ⟨fl,st2,ff,_⟩:=p.fz
    rw [List.drop_zero,List.nil_append] at ff
    simp [y1]
    exact ⟨fl,st2,ff⟩
  obtain ⟨r,st',g1,fl,st2,gf⟩:=go
  exact ⟨fl,callD_pure (fn:=F102) (st2:=st2) rfl rfl (by simp) g1 gf (by simp)⟩
theorem l133 (t:Tm) (gt:good t) (ht:cntT t≤400000) (hc:∀ u,u∈t.l→∀ st,∃ fl,callD T (ev T) 133 [encT u] st=some (slE 1 fl (nI (caT u)),st)):∀ (r i:Nat) (s:List D) (bx:List (Nat × List D)) (st:St) (d:D) (l:List Int),r=t.l.length - i→i≤t.l.length→RowX st d l (i+1)→l.length+cntTs (t.l.drop i)≤1000000 →
  get s 1=.lp 1 1 0→getB bx 1=(1,clT t)→get s 3=d→get s 4=.i i→Stops (lp T L133_0 ⟨⟨s,bx⟩,st⟩) (QX (l++caTs (t.l.drop i))):=by
 intro r
 have hl:=good_len gt
 induction r with
 | zero=>
  intro i s bx st d l hr hi h hb h1 b1 h3 h4
  have e:i=t.l.length:=by omega
  subst e
  have e0:caTs []=[]:=(by rw [caTs])
  rw [List.drop_length,e0,List.append_nil]
  refine Stops_wp L133_0.eq_1 ?_
  simp [h1,b1,h4]
  exact ⟨rfl,_,by simpa [h3] using h⟩
 | succ r ih=>
  intro i s bx st d l hr hi h hb h1 b1 h3 h4
  have hlt:i < t.l.length:=by omega
  have hw:IntKind.wrap .i64 ((i:Int)+1)=((i+1:Nat):Int):=by rw [wrap64] <;> omega
  obtain ⟨fl,q⟩:=hc _ (List.getElem_mem hlt) st
  rw [List.drop_eq_getElem_cons hlt,cntTs] at hb
  have gl:=caT_len t.l[i]
  obtain ⟨d1,st1,qa,h1',_⟩:=h.app (by omega) (caT t.l[i]) (by omega)
  obtain ⟨x1,x2,_⟩:=h.facts
  have nx:=fun s' bx'=>ih (i+1) s' bx' st1 d1 (l++caT t.l[i]) (by omega) (by omega) h1' (by simp; omega)
  rw [List.drop_eq_getElem_cons hlt,caTs,←List.append_assoc]
  generalize (l++caT t.l[i])++caTs (t.l.drop (i+1))=R at *
  generalize nI (caT t.l[i])=els at *
  refine Stops_wp L133_0.eq_1 ?_
  simp [h1,b1,h3,h4,hlt,hw,←encT_eq,q,qa,-Int.natCast_add]
  refine nx _ _ ?_ ?_ ?_ ?_ <;> simp [h1,b1]
theorem c133 (t:Tm):good t→cntT t≤400000→∀ st,∃ fl,callD T (ev T) 133 [encT t] st=some (slE 1 fl (nI (caT t)),st):=by
 induction t using Tm.ind with
 | h t ih=>
  intro gt ht st
  have em:=cntT_eq t
  have go:Ret (ev T 133 [encT t] []) fun r st'=>∃ fl st2,fz st' r=some (slE 1 fl (nI (caT t)),st2):=by
   refine Ret_wp (fn:=F133) rfl ?_
   rw [F133]
   have lo:=fun s bx st d l h=>l133 t gt ht (fun u hu=>ih u hu (good_mem gt hu) (by have:=cntTs_mem hu; omega)) t.l.length 0 s bx st d l (by omega) (by omega) h
   rw [caT_eq,ca0]
   by_cases hk:t.k=16
   ·obtain ⟨d1,st1,qa,h1',_⟩:=(RowX.nil [] 0).app (by omega) [t.n] (by simp)
    simp only [List.map_cons,List.map_nil] at qa
    obtain ⟨x1,x2,_⟩:=h1'.facts
    simp [hk,qa]
    refine WL.use L133_0_p L133_0_w (lo _ _ st1 d1 [t.n] h1' (by simp; omega) ?_ ?_ ?_ ?_) ?_
    iterate 4 simp [hk]
    rintro e' s' b' st' ⟨rfl,K,p⟩ hf
    obtain ⟨y1,_⟩:=p.facts
    obtain ⟨fl,st2,ff,_⟩:=p.fz
    rw [List.drop_zero] at ff
    simp [y1]
    exact ⟨fl,st2,ff⟩
   ·simp [hk]
    refine WL.use L133_0_p L133_0_w (lo _ _ [] (.sl 1 true []) [] (.nil _ _) (by simp; omega) ?_ ?_ ?_ ?_) ?_
    iterate 4 simp
    rintro e' s' b' st' ⟨rfl,K,p⟩ hf
    obtain ⟨y1,_⟩:=p.facts
    obtain ⟨fl,st2,ff,_⟩:=p.fz
    rw [List.drop_zero,List.nil_append] at ff
    simp [y1]
    exact ⟨fl,st2,ff⟩
  obtain ⟨r,st',g1,fl,st2,gf⟩:=go
  exact ⟨fl,callD_pure (fn:=F133) (st2:=st2) rfl rfl (by simp) g1 gf (by simp)⟩
theorem l69 (t:Tm) (gt:good t) (ht:cntT t≤400000) (hc:∀ u,u∈t.l→∀ st,∃ fl,callD T (ev T) 69 [encT u] st=some (slE 1 fl (nI (loT u)),st)):∀ (r i:Nat) (s:List D) (bx:List (Nat × List D)) (st:St) (d:D) (l:List Int),r=t.l.length - i→i≤t.l.length→RowX st d l (i+1)→l.length+cntTs (t.l.drop i)≤1000000 →
  get s 1=.lp 1 1 0→getB bx 1=(1,clT t)→get s 3=d→get s 4=.i i→Stops (lp T L69_0 ⟨⟨s,bx⟩,st⟩) (QX (l++loTs (t.l.drop i))):=by
 intro r
 have hl:=good_len gt
 induction r with
 | zero=>
  intro i s bx st d l hr hi h hb h1 b1 h3 h4
  have e:i=t.l.length:=by omega
  subst e
  have e0:loTs []=[]:=(by rw [loTs])
  rw [List.drop_length,e0,List.append_nil]
  refine Stops_wp L69_0.eq_1 ?_
  simp [h1,b1,h4]
  exact ⟨rfl,_,by simpa [h3] using h⟩
 | succ r ih=>
  intro i s bx st d l hr hi h hb h1 b1 h3 h4
  have hlt:i < t.l.length:=by omega
  have hw:IntKind.wrap .i64 ((i:Int)+1)=((i+1:Nat):Int):=by rw [wrap64] <;> omega
  obtain ⟨fl,q⟩:=hc _ (List.getElem_mem hlt) st
  rw [List.drop_eq_getElem_cons hlt,cntTs] at hb
  have gl:=loT_len t.l[i]
  obtain ⟨d1,st1,qa,h1',_⟩:=h.app (by omega) (loT t.l[i]) (by omega)
  obtain ⟨x1,x2,_⟩:=h.facts
  have nx:=fun s' bx'=>ih (i+1) s' bx' st1 d1 (l++loT t.l[i]) (by omega) (by omega) h1' (by simp; omega)
  rw [List.drop_eq_getElem_cons hlt,loTs,←List.append_assoc]
  generalize (l++loT t.l[i])++loTs (t.l.drop (i+1))=R at *
  generalize nI (loT t.l[i])=els at *
  refine Stops_wp L69_0.eq_1 ?_
  simp [h1,b1,h3,h4,hlt,hw,←encT_eq,q,qa,-Int.natCast_add]
  refine nx _ _ ?_ ?_ ?_ ?_ <;> simp [h1,b1]
theorem c69 (t:Tm):good t→cntT t≤400000→∀ st,∃ fl,callD T (ev T) 69 [encT t] st=some (slE 1 fl (nI (loT t)),st):=by
 induction t using Tm.ind with
 | h t ih=>
  intro gt ht st
  have em:=cntT_eq t
  have go:Ret (ev T 69 [encT t] []) fun r st'=>∃ fl st2,fz st' r=some (slE 1 fl (nI (loT t)),st2):=by
   refine Ret_wp (fn:=F69) rfl ?_
   rw [F69]
   have lo:=fun s bx st d l h=>l69 t gt ht (fun u hu=>ih u hu (good_mem gt hu) (by have:=cntTs_mem hu; omega)) t.l.length 0 s bx st d l (by omega) (by omega) h
   rw [loT_eq]
   by_cases hk:t.k=7
   ·obtain ⟨d1,st1,qa,h1',_⟩:=(RowX.nil [] 0).app (by omega) [t.n] (by simp)
    simp only [List.map_cons,List.map_nil] at qa
    obtain ⟨x1,x2,_⟩:=h1'.facts
    obtain ⟨fl,st2,ff,_⟩:=h1'.fz
    simp [hk,qa,x1]
    exact ⟨fl,st2,ff⟩
   ·simp [hk]
    refine WL.use L69_0_p L69_0_w (lo _ _ [] (.sl 1 true []) [] (.nil _ _) (by simp; omega) ?_ ?_ ?_ ?_) ?_
    iterate 4 simp
    rintro e' s' b' st' ⟨rfl,K,p⟩ hf
    obtain ⟨y1,_⟩:=p.facts
    obtain ⟨fl,st2,ff,_⟩:=p.fz
    rw [List.drop_zero,List.nil_append] at ff
    simp [y1]
    exact ⟨fl,st2,ff⟩
  obtain ⟨r,st',g1,fl,st2,gf⟩:=go
  exact ⟨fl,callD_pure (fn:=F69) (st2:=st2) rfl rfl (by simp) g1 gf (by simp)⟩
end Go.Nt.Li
set_option linter.unusedSimpArgs false
set_option maxRecDepth 20000
namespace Go.Nt.Li
open Go Go.Nt
def NR (b:Nat) (st st':St) (d:D):Prop:=st.length≤st'.length∧(∀ i,i < b→St.at st' i=St.at st i)∧∀ i,rid d=some i→b≤i
theorem NR.app {b:Nat} {st st1 st2:St} {d d1 d2:D} (hb:b≤st.length) (hd:∀ i,rid d=some i→b≤i) (h:NR st.length st st1 d1) (k:AQ st1 d st2 d2):NR b st st2 d2:=by
 obtain ⟨h1,h2,h3⟩:=h
 obtain ⟨k1,k2,k3⟩:=k
 refine ⟨Nat.le_trans h1 k1,fun i hi=>?_,fun i hi=>?_⟩
 ·rw [k2 i (by omega) fun e=>by have:=hd i e; omega,h2 i (by omega)]
 ·rcases k3 with q | ⟨j,q,hj⟩
  ·exact hd i (by rw [←q]; exact hi)
  ·rw [q] at hi; cases hi; omega
theorem NR.trans {b:Nat} {s0 s1 s2:St} {d1 d2:D} (h:NR b s0 s1 d1) (k:NR b s1 s2 d2):NR b s0 s2 d2:=
 ⟨Nat.le_trans h.1 k.1,fun i hi=>(k.2.1 i hi).trans (h.2.1 i hi),k.2.2⟩
theorem NR.nil (st:St):NR st.length st st (.sl 1 true []):=⟨Nat.le_refl _,fun _ _=>rfl,fun i h=>by cases h⟩
theorem AQ.nr {st st':St} {d':D} (k:AQ st (.sl 1 true []) st' d'):NR st.length st st' d':=NR.app (Nat.le_refl _) (fun i h=>by cases h) (NR.nil st) k
def QN (b:Nat) (st:St) (P:List Int→Prop) (slot:Nat) (ex:Ex) (s':List D) (_:List (Nat × List D)) (st':St):Prop:=ex=.exit 0∧∃ L,RowX st' (get s' slot) L 400003∧P L∧NR b st st' (get s' slot)
theorem l135 (t:Tm) (gt:good t) (ht:cntT t≤400000) (hc:∀ u,u∈t.l→∀ st,∃ d' st',callD T (ev T) 135 [encT u] st=some (d',st')∧RowX st' d' (wrT u) 400003∧NR st.length st st' d') (b:Nat):∀ (r i:Nat) (s:List D) (bx:List (Nat × List D)) (st:St) (d:D) (l:List Int),r=t.l.length - i→i≤t.l.length→RowX st d l (i+1)→l.length+cntTs (t.l.drop i)≤1000000→b≤st.length→(∀ i,rid d=some i→b≤i) →
  get s 1=.lp 1 1 0→getB bx 1=(1,clT t)→get s 3=d→get s 4=.i i→Stops (lp T L135_0 ⟨⟨s,bx⟩,st⟩) (QN b st (·=l++wrTs (t.l.drop i)) 3):=by
 intro r
 have hl:=good_len gt
 have hll:=cntTs_len t.l
 have em:=cntT_eq t
 induction r with
 | zero=>
  intro i s bx st d l hr hi h hb hbs hbd h1 b1 h3 h4
  have e:i=t.l.length:=by omega
  subst e
  rw [List.drop_length,wrTs,List.append_nil]
  refine Stops_wp L135_0.eq_1 ?_
  simp [h1,b1,h4]
  exact ⟨rfl,l,by simpa [h3] using h.more (by omega),rfl,Nat.le_refl _,fun _ _=>rfl,by simpa [h3] using hbd⟩
 | succ r ih=>
  intro i s bx st d l hr hi h hb hbs hbd h1 b1 h3 h4
  have hlt:i < t.l.length:=by omega
  have hw:IntKind.wrap .i64 ((i:Int)+1)=((i+1:Nat):Int):=by rw [wrap64] <;> omega
  obtain ⟨d1,st1,q,r1,n1⟩:=hc _ (List.getElem_mem hlt) st
  rw [List.drop_eq_getElem_cons hlt,cntTs] at hb
  have gl:=wrT_len t.l[i]
  have hk:=h.keep n1.1 fun i hi=>n1.2.1 i (h.lt hi)
  obtain ⟨d2,st2,qa,h2,aq⟩:=hk.app (by omega) (wrT t.l[i]) (by omega)
  have nr:=NR.app hbs hbd n1 aq
  obtain ⟨y1,y2,y3,y4,y5,y6⟩:=r1.facts
  have nx:=fun s' bx'=>ih (i+1) s' bx' st2 d2 (l++wrT t.l[i]) (by omega) (by omega) h2 (by simp; omega) (by have:=nr.1; omega) nr.2.2
  rw [List.drop_eq_getElem_cons hlt,wrTs,←List.append_assoc]
  generalize (l++wrT t.l[i])++wrTs (t.l.drop (i+1))=R at *
  generalize nI (wrT t.l[i])=els at *
  refine Stops_wp L135_0.eq_1 ?_
  simp [h1,b1,h3,h4,hlt,hw,←encT_eq,q,y6,qa,-Int.natCast_add]
  refine (nx _ _ ?_ ?_ ?_ ?_).mono ?_
  iterate 4 simp [h1,b1]
  rintro e s' b' st' ⟨rfl,L,p1,p2,p3⟩
  exact ⟨rfl,L,p1,p2,nr.trans p3⟩
theorem c135 (t:Tm):good t→cntT t≤400000→∀ st,∃ d' st',callD T (ev T) 135 [encT t] st=some (d',st')∧RowX st' d' (wrT t) 400003∧NR st.length st st' d':=by
 induction t using Tm.ind with
 | h t ih=>
  intro gt ht st
  have em:=cntT_eq t
  rw [callD_rawE (fn:=F135) rfl rfl (by simp)]
  have go:Ret (ev T 135 [encT t] st) fun r st'=>RowX st' r (wrT t) 400003∧NR st.length st st' r:=by
   refine Ret_wp (fn:=F135) rfl ?_
   rw [F135]
   have lo:=fun s bx st1 d l h=>l135 t gt ht (fun u hu=>ih u hu (good_mem gt hu) (by have:=cntTs_mem hu; omega)) st.length t.l.length 0 s bx st1 d l (by omega) (by omega) h
   rw [wrT_eq,wr0]
   have none:(¬ ((t.k=22∧t.l≠[])∧(rootT (t.l.headD default)).k=9))→∀ s' bx' K,get s' 1=.lp 1 1 0→getB bx' 1=(1,clT t)→get s' 3=.sl 1 true []→get s' 4=.i 0 →
     (∀ e s b st',QN st.length st (·=[]++wrTs t.l) 3 e s b st'→K e ⟨⟨s,b⟩,st'⟩)→WL T L135_0 ⟨⟨s',bx'⟩,st⟩ K:=by
    intro _ s' bx' K g1 g2 g3 g4 k
    refine WL.use L135_0_p L135_0_w (lo _ _ st (.sl 1 true []) [] (.nil _ _) (by simp; omega) (Nat.le_refl _) (fun i h=>by cases h) g1 g2 g3 g4) ?_
    intro e s b st' p _
    exact k e s b st' (by simpa using p)
   by_cases hk:t.k=22
   ·cases hl:t.l with
    | nil=>
     have hn:¬ ((t.k=22∧t.l≠[])∧(rootT (t.l.headD default)).k=9):=fun q=>q.1.2 hl
     rw [hl] at none hn
     rw [if_neg hn]
     simp [hk,hl]
     refine none hn _ _ _ ?_ ?_ ?_ ?_ ?_
     iterate 4 simp [hk,hl]
     rintro e' s' b' st' ⟨rfl,L,p1,p2,p3⟩
     subst p2
     obtain ⟨y1,_⟩:=p1.facts
     simp [y1]
     exact ⟨by simpa using p1,p3⟩
    | cons x r=>
     have qr:=fun st=>c130 x (good_mem gt (by rw [hl]; simp)) st
     have gr:=rootT x
     by_cases r9:(rootT x).k=9
     ·have hp:(t.k=22∧t.l≠[])∧(rootT (t.l.headD default)).k=9:=⟨⟨hk,by rw [hl]; simp⟩,by rw [hl]; exact r9⟩
      obtain ⟨d1,st1,qa,h1',aq⟩:=(RowX.nil st 0).app (by omega) [(rootT x).n] (by simp)
      simp only [List.map_cons,List.map_nil] at qa
      have nr:=aq.nr
      have lo1:=fun s bx=>lo s bx st1 d1 [(rootT x).n] h1' (by simp; omega) nr.1 nr.2.2
      rw [hl] at hp lo1
      rw [if_pos hp]
      rw [encT_eq (rootT x),r9] at qr
      simp [hk,hl,←encT_eq x,qr,r9,qa]
      refine WL.use L135_0_p L135_0_w (lo1 _ _ ?_ ?_ ?_ ?_) ?_
      iterate 4 simp [hk,hl]
      rintro e' s' b' st' ⟨rfl,L,p1,p2,p3⟩ hf
      subst p2
      obtain ⟨y1,_⟩:=p1.facts
      simp [y1]
      exact ⟨by simpa using p1,nr.trans p3⟩
     ·have hn:¬ ((t.k=22∧t.l≠[])∧(rootT (t.l.headD default)).k=9):=fun q=>r9 (by have:=q.2; rw [hl] at this; exact this)
      rw [hl] at none hn
      rw [if_neg hn]
      rw [encT_eq (rootT x)] at qr
      simp [hk,hl,←encT_eq x,qr,r9]
      refine none hn _ _ _ ?_ ?_ ?_ ?_ ?_
      iterate 4 simp [hk,hl]
      rintro e' s' b' st' ⟨rfl,L,p1,p2,p3⟩
      subst p2
      obtain ⟨y1,_⟩:=p1.facts
      simp [y1]
      exact ⟨by simpa using p1,p3⟩
   ·have hn:¬ ((t.k=22∧t.l≠[])∧(rootT (t.l.headD default)).k=9):=fun q=>hk q.1.1
    rw [if_neg hn]
    simp [hk]
    refine none hn _ _ _ ?_ ?_ ?_ ?_ ?_
    iterate 4 simp [hk]
    rintro e' s' b' st' ⟨rfl,L,p1,p2,p3⟩
    subst p2
    obtain ⟨y1,_⟩:=p1.facts
    simp [y1]
    exact ⟨by simpa using p1,p3⟩
  obtain ⟨r,st',g1,g2,g3⟩:=go
  exact ⟨r,st',g1,g2,g3⟩
end Go.Nt.Li
set_option linter.unusedSimpArgs false
set_option maxRecDepth 20000
namespace Go.Nt.Li
open Go Go.Nt
theorem l134 (pl:Bool) (t:Tm) (gt:good t) (ht:cntT t≤400000) (hc:∀ u,u∈t.l→∀ pl st,∃ d' st' L,callD T (ev T) 134 [encT u,.bool pl] st=some (d',st')∧RowX st' d' L 400003∧L.length≤2 * cntT u∧NR st.length st st' d') (b:Nat):∀ (r i:Nat) (s:List D) (bx:List (Nat × List D)) (st:St) (d:D) (l:List Int),r=t.l.length - i→i≤t.l.length→RowX st d l (i+2)→l.length+2 * cntTs (t.l.drop i)≤1000000→b≤st.length→(∀ i,rid d=some i→b≤i) →
  get s 1=.bool pl→get s 2=.lp 2 1 0→getB bx 2=(1,clT t)→get s 5=d→get s 6=.i i→Stops (lp T L134_0 ⟨⟨s,bx⟩,st⟩) (QN b st (fun L=>L.length≤l.length+2 * cntTs (t.l.drop i)) 5):=by
 intro r
 have hl:=good_len gt
 have hll:=cntTs_len t.l
 have em:=cntT_eq t
 have w1:IntKind.wrap .i64 1=1:=by rw [wrap64] <;> omega
 induction r with
 | zero=>
  intro i s bx st d l hr hi h hb hbs hbd hpl h1 b1 h3 h4
  have e:i=t.l.length:=by omega
  subst e
  refine Stops_wp L134_0.eq_1 ?_
  simp [h1,b1,h4,hpl]
  exact ⟨rfl,l,by simpa [h3] using h.more (by omega),by omega,Nat.le_refl _,fun _ _=>rfl,by simpa [h3] using hbd⟩
 | succ r ih=>
  intro i s bx st d l hr hi h hb hbs hbd hpl h1 b1 h3 h4
  have hlt:i < t.l.length:=by omega
  have hw:IntKind.wrap .i64 ((i:Int)+1)=((i+1:Nat):Int):=by rw [wrap64] <;> omega
  have key:∀ (p:Bool),∃ d1 st1 els d2 st2,callD T (ev T) 134 [encT t.l[i],.bool p] st=some (d1,st1)∧srcD st1 1 d1=some els∧appendD st1 d els 1=some (d2,st2) ∧
    ∀ s' bx',get s' 1=.bool pl→get s' 2=.lp 2 1 0→getB bx' 2=(1,clT t)→get s' 5=d2→get s' 6=.i (i+1:Nat)→Stops (lp T L134_0 ⟨⟨s',bx'⟩,st2⟩) (QN b st (fun L=>L.length≤l.length+2 * cntTs (t.l.drop i)) 5):=by
   intro p
   obtain ⟨d1,st1,L1,q,r1,lL,n1⟩:=hc _ (List.getElem_mem hlt) p st
   have hd:=List.drop_eq_getElem_cons hlt
   have hb2:=hb
   rw [hd,cntTs] at hb2
   have hk:=h.keep n1.1 fun i hi=>n1.2.1 i (h.lt hi)
   obtain ⟨d2,st2,qa,h2,aq⟩:=hk.app (by omega) L1 (by omega)
   have nr:=NR.app hbs hbd n1 aq
   obtain ⟨y1,y2,y3,y4,y5,y6⟩:=r1.facts
   refine ⟨d1,st1,_,d2,st2,q,y6,qa,fun s' bx' g1 g2 g3 g4 g5=>?_⟩
   refine (ih (i+1) s' bx' st2 d2 (l++L1) (by omega) (by omega) h2 (by simp; omega) (by have:=nr.1; omega) nr.2.2 g1 g2 g3 g4 g5).mono ?_
   rintro e s' b' st' ⟨rfl,L,p1,p2,p3⟩
   refine ⟨rfl,L,p1,?_,nr.trans p3⟩
   have:cntTs (t.l.drop i)=cntT t.l[i]+cntTs (t.l.drop (i+1)):=by rw [hd,cntTs]
   simp only [List.length_append] at p2
   omega
  generalize QN b st (fun L=>L.length≤l.length+2 * cntTs (t.l.drop i)) 5=Q at *
  by_cases h0:i=0
  ·subst h0
   by_cases k22:t.k=22
   ·obtain ⟨d1,st1,els,d2,st2,q,y6,qa,nx⟩:=key true
    refine Stops_wp L134_0.eq_1 ?_
    simp [h1,b1,h3,h4,hpl,hlt,hw,w1,←encT_eq,q,y6,qa,k22,-Int.natCast_add]
    refine nx _ _ ?_ ?_ ?_ ?_ ?_ <;> simp [h1,b1,hpl]
   ·cases pl with
    | false=>
     obtain ⟨d1,st1,els,d2,st2,q,y6,qa,nx⟩:=key false
     refine Stops_wp L134_0.eq_1 ?_
     simp [h1,b1,h3,h4,hpl,hlt,hw,w1,←encT_eq,q,y6,qa,k22,-Int.natCast_add]
     refine nx _ _ ?_ ?_ ?_ ?_ ?_ <;> simp [h1,b1,hpl]
    | true=>
     by_cases k12:t.k=12
     ·obtain ⟨d1,st1,els,d2,st2,q,y6,qa,nx⟩:=key true
      refine Stops_wp L134_0.eq_1 ?_
      simp [h1,b1,h3,h4,hpl,hlt,hw,w1,←encT_eq,q,y6,qa,k22,k12,-Int.natCast_add]
      refine nx _ _ ?_ ?_ ?_ ?_ ?_ <;> simp [h1,b1,hpl]
     ·by_cases k13:t.k=13
      ·obtain ⟨d1,st1,els,d2,st2,q,y6,qa,nx⟩:=key true
       refine Stops_wp L134_0.eq_1 ?_
       simp [h1,b1,h3,h4,hpl,hlt,hw,w1,←encT_eq,q,y6,qa,k22,k12,k13,-Int.natCast_add]
       refine nx _ _ ?_ ?_ ?_ ?_ ?_ <;> simp [h1,b1,hpl]
      ·obtain ⟨d1,st1,els,d2,st2,q,y6,qa,nx⟩:=key false
       refine Stops_wp L134_0.eq_1 ?_
       simp [h1,b1,h3,h4,hpl,hlt,hw,w1,←encT_eq,q,y6,qa,k22,k12,k13,-Int.natCast_add]
       refine nx _ _ ?_ ?_ ?_ ?_ ?_ <;> simp [h1,b1,hpl]
  ·have h0':¬ (i:Int)=0:=by omega
   obtain ⟨d1,st1,els,d2,st2,q,y6,qa,nx⟩:=key false
   refine Stops_wp L134_0.eq_1 ?_
   simp [h1,b1,h3,h4,hpl,hlt,hw,w1,←encT_eq,q,y6,qa,h0,h0',-Int.natCast_add]
   refine nx _ _ ?_ ?_ ?_ ?_ ?_ <;> simp [h1,b1,hpl]
theorem c134 (t:Tm):good t→cntT t≤400000→∀ pl st,∃ d' st' L,callD T (ev T) 134 [encT t,.bool pl] st=some (d',st')∧RowX st' d' L 400003∧L.length≤2 * cntT t∧NR st.length st st' d':=by
 induction t using Tm.ind with
 | h t ih=>
  intro gt ht pl st
  have em:=cntT_eq t
  rw [callD_rawE (fn:=F134) rfl rfl (by simp)]
  have go:Ret (ev T 134 [encT t,.bool pl] st) fun r st'=>∃ L,RowX st' r L 400003∧L.length≤2 * cntT t∧NR st.length st st' r:=by
   refine Ret_wp (fn:=F134) rfl ?_
   rw [F134]
   have lo:=fun s bx st1 d l h=>l134 pl t gt ht (fun u hu=>ih u hu (good_mem gt hu) (by have:=cntTs_mem hu; omega)) st.length t.l.length 0 s bx st1 d l (by omega) (by omega) h
   have run:∀ st1 d l,RowX st1 d l 1→l.length≤2→NR st.length st st1 d→∀ s' bx' K,get s' 1=.bool pl→get s' 2=.lp 2 1 0→getB bx' 2=(1,clT t)→get s' 5=d→get s' 6=.i 0 →
     (∀ e s b st',QN st.length st (fun L=>L.length≤2 * cntT t) 5 e s b st'→K e ⟨⟨s,b⟩,st'⟩)→WL T L134_0 ⟨⟨s',bx'⟩,st1⟩ K:=by
    intro st1 d l hx hl2 nr s' bx' K g1 g2 g3 g4 g5 k
    refine WL.use L134_0_p L134_0_w (lo _ _ st1 d l (hx.more (by omega)) (by simp; omega) nr.1 nr.2.2 g1 g2 g3 g4 g5) ?_
    rintro e s b st' ⟨rfl,L,p1,p2,p3⟩ _
    exact k _ s b st' ⟨rfl,L,p1,by rw [List.drop_zero] at p2; omega,nr.trans p3⟩
   have emp:=run st (.sl 1 true []) [] (.nil _ _) (by simp) (NR.nil st)
   have one:∀ n:Int,∃ d1 st1,appendD st (.sl 1 true []) [.int .i64 n] 1=some (d1,st1)∧∀ s' bx' K,get s' 1=.bool pl→get s' 2=.lp 2 1 0→getB bx' 2=(1,clT t)→get s' 5=d1→get s' 6=.i 0 →
     (∀ e s b st',QN st.length st (fun L=>L.length≤2 * cntT t) 5 e s b st'→K e ⟨⟨s,b⟩,st'⟩)→WL T L134_0 ⟨⟨s',bx'⟩,st1⟩ K:=by
    intro n
    obtain ⟨d1,st1,qa,h1',aq⟩:=(RowX.nil st 0).app (by omega) [n] (by simp)
    exact ⟨d1,st1,by simpa using qa,run st1 d1 [n] h1' (by simp) aq.nr⟩
   by_cases k9:t.k=9
   ·cases pl with
    | false=>
     obtain ⟨d1,st1,qa,rn⟩:=one t.n
     simp [k9,qa]
     refine rn _ _ _ ?_ ?_ ?_ ?_ ?_ ?_
     iterate 5 simp [k9]
     rintro e' s' b' st' ⟨rfl,L,p1,p2,p3⟩
     obtain ⟨y1,_⟩:=p1.facts
     simp [y1]
     exact ⟨L,p1,p2,p3⟩
    | true=>
     simp [k9]
     refine emp _ _ _ ?_ ?_ ?_ ?_ ?_ ?_
     iterate 5 simp [k9]
     rintro e' s' b' st' ⟨rfl,L,p1,p2,p3⟩
     obtain ⟨y1,_⟩:=p1.facts
     simp [y1]
     exact ⟨L,p1,p2,p3⟩
   ·by_cases k22:t.k=22
    ·cases hl:t.l with
     | nil=>
      simp [k9,k22,hl]
      refine emp _ _ _ ?_ ?_ ?_ ?_ ?_ ?_
      iterate 5 simp [k22,hl]
      rintro e' s' b' st' ⟨rfl,L,p1,p2,p3⟩
      obtain ⟨y1,_⟩:=p1.facts
      simp [y1]
      exact ⟨L,p1,p2,p3⟩
     | cons x r=>
      have qr:=fun st=>c130 x (good_mem gt (by rw [hl]; simp)) st
      rw [encT_eq (rootT x)] at qr
      by_cases x9:x.k=9
      ·simp [k9,k22,hl,x9]
       refine emp _ _ _ ?_ ?_ ?_ ?_ ?_ ?_
       iterate 5 simp [k22,hl]
       rintro e' s' b' st' ⟨rfl,L,p1,p2,p3⟩
       obtain ⟨y1,_⟩:=p1.facts
       simp [y1]
       exact ⟨L,p1,p2,p3⟩
      ·by_cases r9:(rootT x).k=9
       ·obtain ⟨d1,st1,qa,rn⟩:=one (rootT x).n
        rw [r9] at qr
        simp [k9,k22,hl,x9,←encT_eq x,qr,qa]
        refine rn _ _ _ ?_ ?_ ?_ ?_ ?_ ?_
        iterate 5 simp [k22,hl]
        rintro e' s' b' st' ⟨rfl,L,p1,p2,p3⟩
        obtain ⟨y1,_⟩:=p1.facts
        simp [y1]
        exact ⟨L,p1,p2,p3⟩
       ·simp [k9,k22,hl,x9,←encT_eq x,qr,r9]
        refine emp _ _ _ ?_ ?_ ?_ ?_ ?_ ?_
        iterate 5 simp [k22,hl]
        rintro e' s' b' st' ⟨rfl,L,p1,p2,p3⟩
        obtain ⟨y1,_⟩:=p1.facts
        simp [y1]
        exact ⟨L,p1,p2,p3⟩
    ·simp [k9,k22]
     refine emp _ _ _ ?_ ?_ ?_ ?_ ?_ ?_
     iterate 5 simp
     rintro e' s' b' st' ⟨rfl,L,p1,p2,p3⟩
     obtain ⟨y1,_⟩:=p1.facts
     simp [y1]
     exact ⟨L,p1,p2,p3⟩
  obtain ⟨r,st',g1,L,g2,g3,g4⟩:=go
  exact ⟨r,st',L,g1,g2,g3,g4⟩
end Go.Nt.Li
set_option linter.unusedSimpArgs false
set_option maxRecDepth 20000
namespace Go.Nt.Li
open Go Go.Nt
theorem RowX.fz1' {st:St} {d:D} {l:List Int} {K:Nat} (h:RowX st d l K):∃ fl st',fz1 st d=some (slE 1 fl (nI l),st'):=by
 obtain ⟨fl,st',_,e⟩:=h.fz
 refine ⟨fl,st',?_⟩
 rw [←e]
 rcases h with ⟨rfl,_⟩ | ⟨id,ver,md,rest,rfl,_⟩ <;> rfl
theorem l173 (m:Tm) (gm:good m) (hm:cntT m≤400) (fl:Fl) (l:List Int) (hl:l.length≤1000000):∀ (r i:Nat) (s:List D) (bx:List (Nat × List D)) (st:St) (d:D) (o:List Int),r=m.l.length - i→i≤m.l.length→RowX st d o i→o.length≤i →
  get s 1=slE 1 fl (nI l)→get s 2=.lp 2 1 0→getB bx 2=(1,clT m)→get s 5=d→get s 6=.i i→Stops (lp T L173_0 ⟨⟨s,bx⟩,st⟩) fun ex s' b' st'=>QN 0 st (·=o++((List.range' i r).filter fun j:Nat=>l.contains (j:Int) && (fnAt m j).isSome).map fun j:Nat=>(j:Int)) 5 ex s' b' st':=by
 intro r
 have hml:=cntTs_len m.l
 have em:=cntT_eq m
 induction r with
 | zero=>
  intro i s bx st d o hr hi h ho h1 h2 b2 h5 h6
  have e:i=m.l.length:=by omega
  subst e
  refine Stops_wp L173_0.eq_1 ?_
  simp [h1,h2,b2,h6]
  exact ⟨rfl,o,by simpa [h5] using h.more (by omega),rfl,Nat.le_refl _,fun _ h=>by omega,fun _ _=>by omega⟩
 | succ r ih=>
  intro i s bx st d o hr hi h ho h1 h2 b2 h5 h6
  have hlt:i < m.l.length:=by omega
  have hw:IntKind.wrap .i64 ((i:Int)+1)=((i+1:Nat):Int):=by rw [wrap64] <;> omega
  have q:=c131 (i:Int) (slE 1 fl (nI l)) l hl st (.inl ⟨fl,rfl⟩)
  have skip:(l.contains (i:Int) && (fnAt m i).isSome)=false→∀ s' bx',get s' 1=slE 1 fl (nI l)→get s' 2=.lp 2 1 0→getB bx' 2=(1,clT m)→get s' 5=d→get s' 6=.i (i+1:Nat) →
    Stops (lp T L173_0 ⟨⟨s',bx'⟩,st⟩) fun ex s' b' st'=>QN 0 st (·=o++((List.range' i (r+1)).filter fun j:Nat=>l.contains (j:Int) && (fnAt m j).isSome).map fun j:Nat=>(j:Int)) 5 ex s' b' st':=by
   intro hf s' bx' g1 g2 gb g5 g6
   rw [List.range'_succ,List.filter_cons,if_neg (by rw [hf]; decide)]
   exact ih (i+1) s' bx' st d o (by omega) (by omega) (h.more (by omega)) (by omega) g1 g2 gb g5 g6
  obtain ⟨d1,st1,qa,h1',aq⟩:=h.app (by omega) [(i:Int)] (by simp; omega)
  simp only [List.map_cons,List.map_nil] at qa
  have take:(l.contains (i:Int) && (fnAt m i).isSome)=true→∀ s' bx',get s' 1=slE 1 fl (nI l)→get s' 2=.lp 2 1 0→getB bx' 2=(1,clT m)→get s' 5=d1→get s' 6=.i (i+1:Nat) →
    Stops (lp T L173_0 ⟨⟨s',bx'⟩,st1⟩) fun ex s' b' st'=>QN 0 st (·=o++((List.range' i (r+1)).filter fun j:Nat=>l.contains (j:Int) && (fnAt m j).isSome).map fun j:Nat=>(j:Int)) 5 ex s' b' st':=by
   intro hf s' bx' g1 g2 gb g5 g6
   rw [List.range'_succ,List.filter_cons,if_pos hf]
   refine (ih (i+1) s' bx' st1 d1 (o++[(i:Int)]) (by omega) (by omega) h1' (by simp; omega) g1 g2 gb g5 g6).mono ?_
   rintro e s' b' st' ⟨rfl,L,p1,p2,p3⟩
   exact ⟨rfl,L,p1,by rw [p2]; simp,Nat.le_trans aq.1 p3.1,fun _ h=>by omega,fun _ _=>by omega⟩
  generalize hQ:(fun ex s' b' st'=>QN 0 st (·=o++((List.range' i (r+1)).filter fun j:Nat=>l.contains (j:Int) && (fnAt m j).isSome).map fun j:Nat=>(j:Int)) 5 ex s' b' st')=Q at *
  have hfa:fnAt m i=if m.l[i].k=33∧m.l[i].l.length=3 then m.l[i].l[2]? else none:=by unfold fnAt; simp [hlt]
  by_cases hc:(i:Int)∈l
  ·have hcb:l.contains (i:Int)=true:=by simpa using hc
   rw [decide_eq_true hc] at q
   by_cases k33:m.l[i].k=33
   ·by_cases l3:m.l[i].l.length=3
    ·have l3':(m.l[i].l.length:Int)=3:=by omega
     have hs:(fnAt m i).isSome=true:=by rw [hfa,if_pos ⟨k33,l3⟩,List.getElem?_eq_getElem (by omega)]; rfl
     refine Stops_wp L173_0.eq_1 ?_
     simp [h1,h2,b2,h5,h6,hlt,q,k33,l3',hw,qa,-Int.natCast_add]
     refine take (by rw [hcb,hs]; rfl) _ _ ?_ ?_ ?_ ?_ ?_ <;> simp [h1,h2,b2]
    ·have l3':¬ (m.l[i].l.length:Int)=3:=by omega
     have hs:(fnAt m i).isSome=false:=by rw [hfa,if_neg (fun e=>l3 e.2)]; rfl
     refine Stops_wp L173_0.eq_1 ?_
     simp [h1,h2,b2,h5,h6,hlt,q,k33,l3',hw,-Int.natCast_add]
     refine skip (by rw [hs,Bool.and_false]) _ _ ?_ ?_ ?_ ?_ ?_ <;> simp [h1,h2,b2,h5]
   ·have hs:(fnAt m i).isSome=false:=by rw [hfa,if_neg (fun e=>k33 e.1)]; rfl
    refine Stops_wp L173_0.eq_1 ?_
    simp [h1,h2,b2,h5,h6,hlt,q,k33,hw,-Int.natCast_add]
    refine skip (by rw [hs,Bool.and_false]) _ _ ?_ ?_ ?_ ?_ ?_ <;> simp [h1,h2,b2,h5]
  ·have hcb:l.contains (i:Int)=false:=by simpa using hc
   rw [decide_eq_false hc] at q
   refine Stops_wp L173_0.eq_1 ?_
   simp [h1,h2,b2,h5,h6,hlt,q,hw,-Int.natCast_add]
   refine skip (by rw [hcb,Bool.false_and]) _ _ ?_ ?_ ?_ ?_ ?_ <;> simp [h1,h2,b2,h5]
theorem c173 (m:Tm) (gm:good m) (hm:cntT m≤400) (fl:Fl) (l:List Int) (hl:l.length≤1000000) (st:St):∃ fl',callD T (ev T) 173 [encT m,slE 1 fl (nI l)] st=some (slE 1 fl' (nI (fnsR m l)),st):=by
 have go:Ret (ev T 173 [encT m,slE 1 fl (nI l)] []) fun r st'=>∃ fl' st2,fz st' r=some (slE 1 fl' (nI (fnsR m l)),st2):=by
  refine Ret_wp (fn:=F173) rfl ?_
  rw [F173]
  have lo:=fun s bx=>l173 m gm hm fl l hl m.l.length 0 s bx [] (.sl 1 true []) [] (by omega) (by omega) (.nil _ _) (by simp)
  rw [←List.range_eq_range',List.nil_append] at lo
  simp [←encT_eq m]
  refine WL.use L173_0_p L173_0_w (lo _ _ ?_ ?_ ?_ ?_ ?_) ?_
  iterate 5 simp
  rintro e' s' b' st' ⟨rfl,L,p1,p2,p3⟩ hf
  obtain ⟨y1,_⟩:=p1.facts
  obtain ⟨fl',st2,ff,_⟩:=p1.fz
  rw [p2] at ff
  simp [y1]
  exact ⟨fl',st2,ff⟩
 obtain ⟨r,st',g1,fl',st2,gf⟩:=go
 exact ⟨fl',callD_pure (fn:=F173) (st2:=st2) rfl rfl (by simp) g1 gf (by simp)⟩
theorem fnsR_len (m:Tm) (l:List Int):(fnsR m l).length≤m.l.length:=by unfold fnsR; simp; exact Nat.le_trans (List.length_filter_le _ _) (by simp)
theorem fnsR_blk {m:Tm} {l:List Int} {f:Int} (h:f∈fnsR m l):0≤f∧∃ (hf:f.toNat < m.l.length) (h2:2 < m.l[f.toNat].l.length),blk m f=some (m.l[f.toNat].l[2]):=by
 obtain ⟨_,b,hb⟩:=(mem_fnsR m l f).1 h
 obtain ⟨h0,hf,hm⟩:=blk_lt hb
 refine ⟨h0,hf,?_⟩
 unfold blk fnAt at hb ⊢
 rw [if_neg (by omega)] at hb ⊢
 rw [List.getElem?_eq_getElem hf] at hb ⊢
 simp only [Option.bind_some] at hb ⊢
 split at hb
 ·next hk=>rw [if_pos hk]; exact ⟨by omega,List.getElem?_eq_getElem (by omega)⟩
 ·cases hb
def Q132a (R:List Int) (ex:Ex) (s':List D) (_:List (Nat × List D)) (st':St):Prop:=ex=.exit 2∧∃ K,RowX st' (get s' 7) R K∧R.length≤200000
theorem l132_1 (m:Tm) (gm:good m) (hm:cntT m≤400) (fl:Fl) (out src:List Int) (ho:out=fnsR m src):∀ (r i:Nat) (s:List D) (bx:List (Nat × List D)) (st:St) (d:D) (o:List Int),r=out.length - i→i≤out.length→RowX st d o (i+1)→o.length≤400 * (i+1) →
  get s 2=.lp 2 1 0→getB bx 2=(1,clT m)→get s 5=slE 1 fl (nI out)→get s 7=d→get s 8=.i i→Stops (lp T L132_1 ⟨⟨s,bx⟩,st⟩) (Q132a (o++callsF m (out.drop i))):=by
 intro r
 have hml:=cntTs_len m.l
 have em:=cntT_eq m
 have ol:=fnsR_len m src
 rw [←ho] at ol
 induction r with
 | zero=>
  intro i s bx st d o hr hi h hol h2 b2 h5 h7 h8
  have e:i=out.length:=by omega
  subst e
  have e0:callsF m []=[]:=rfl
  rw [List.drop_length,e0,List.append_nil]
  refine Stops_wp L132_1.eq_1 ?_
  simp [h2,b2,h5,h8]
  exact ⟨rfl,_,by simpa [h7] using h,by omega⟩
 | succ r ih=>
  intro i s bx st d o hr hi h hol h2 b2 h5 h7 h8
  have hlt:i < out.length:=by omega
  have hw:IntKind.wrap .i64 ((i:Int)+1)=((i+1:Nat):Int):=by rw [wrap64] <;> omega
  obtain ⟨f0,hf,hf2,hb⟩:=fnsR_blk (m:=m) (l:=src) (f:=out[i]) (by rw [←ho]; exact List.getElem_mem hlt)
  have hcf:=cntTs_mem (List.getElem_mem hf)
  have hcb:=cntTs_mem (List.getElem_mem hf2)
  have ef:=cntT_eq m.l[(out[i]).toNat]
  obtain ⟨fl1,q⟩:=c133 m.l[(out[i]).toNat].l[2] (good_mem (good_mem gm (List.getElem_mem hf)) (List.getElem_mem hf2)) (by omega) st
  have cl:=caT_len m.l[(out[i]).toNat].l[2]
  obtain ⟨d1,st1,qa,h1',aq⟩:=h.app (by omega) (caT m.l[(out[i]).toNat].l[2]) (by omega)
  have nx:=fun s' bx'=>ih (i+1) s' bx' st1 d1 _ (by omega) (by omega) h1' (by simp; omega)
  have e:callsF m (out.drop i)=caT m.l[(out[i]).toNat].l[2]++callsF m (out.drop (i+1)):=by
   rw [List.drop_eq_getElem_cons hlt]
   show (((blk m out[i]).map caT).getD [])++_=_
   rw [hb]; rfl
  rw [e,←List.append_assoc]
  have n0:¬ out[i] < 0:=by omega
  have e3:(nI out)[i]?=some (.int .i64 out[i]):=by simp [hlt]
  have ln:(nI out).length=out.length:=by simp
  generalize (o++caT m.l[(out[i]).toNat].l[2])++callsF m (out.drop (i+1))=R at *
  generalize nI (caT m.l[(out[i]).toNat].l[2])=els at *
  generalize hF:out[i]=F at *
  refine Stops_wp L132_1.eq_1 ?_
  simp [h2,b2,h5,h7,h8,hlt,hF,n0,hf,hf2,hw,←encT_eq,q,qa,-Int.natCast_add]
  refine nx _ _ ?_ ?_ ?_ ?_ ?_ <;> simp [h2,b2,h5]
theorem rnd_fns (m:Tm):∀ (k:Nat) (src:List Int),∃ src',rndN m k (fnsR m src)=fnsR m src'
 | 0,src=>⟨src,rfl⟩
 | k+1,src=>rnd_fns m k _
theorem rndN_last (m:Tm):∀ (k:Nat) (l:List Int),rndN m (k+1) l=rnd m (rndN m k l)
 | 0,l=>rfl
 | k+1,l=>by rw [rndN,rndN_last m k,rndN]
def Q132 (R:List Int) (ex:Ex) (s':List D) (_:List (Nat × List D)) (_:St):Prop:=ex=.exit 0∧∃ fl,get s' 5=slE 1 fl (nI R)
theorem l132_0 (m:Tm) (gm:good m) (hm:cntT m≤400):∀ (r i:Nat) (s:List D) (bx:List (Nat × List D)) (st:St) (fl:Fl) (src:List Int),r=m.l.length - i→i≤m.l.length →
  get s 2=.lp 2 1 0→getB bx 2=(1,clT m)→get s 5=slE 1 fl (nI (fnsR m src))→get s 6=.i i→Stops (lp T L132_0 ⟨⟨s,bx⟩,st⟩) (Q132 (rndN m r (fnsR m src))):=by
 intro r
 have hml:=cntTs_len m.l
 have em:=cntT_eq m
 induction r with
 | zero=>
  intro i s bx st fl src hr hi h2 b2 h5 h6
  have e:i=m.l.length:=by omega
  subst e
  refine Stops_wp L132_0.eq_1 ?_
  simp [h2,b2,h6]
  exact ⟨rfl,fl,by simpa [rndN] using h5⟩
 | succ r ih=>
  intro i s bx st fl src hr hi h2 b2 h5 h6
  have hlt:i < m.l.length:=by omega
  have hw:IntKind.wrap .i64 ((i:Int)+1)=((i+1:Nat):Int):=by rw [wrap64] <;> omega
  have ol:=fnsR_len m src
  obtain ⟨d1,st1,qa,h1',aq⟩:=(RowX.nil st 0).app (by omega) (fnsR m src) (by simp; omega)
  simp only [List.nil_append] at h1'
  have lo:=fun s' bx'=>l132_1 m gm hm fl (fnsR m src) src rfl (fnsR m src).length 0 s' bx' st1 d1 (fnsR m src) (by omega) (by omega) h1' (by omega)
  rw [List.drop_zero] at lo
  rw [rndN]
  refine Stops_wp L132_0.eq_1 ?_
  simp [h2,b2,h5,h6,hlt,qa]
  refine WL.useB L132_1_p L132_1_w (WB:=L132_1.wrB) rfl (lo _ _ ?_ ?_ ?_ ?_ ?_) ?_
  iterate 5 simp [h2,b2,h5]
  rintro e' s' b' st' ⟨rfl,K,p1,p2⟩ hf hfb
  have g2:=hf 2 rfl
  have g6:=hf 6 rfl
  have gb:=hfb 2 rfl
  simp [h2] at g2
  simp [h6] at g6
  simp [b2] at gb
  obtain ⟨fl2,st2,pa⟩:=p1.fz1'
  obtain ⟨fl3,q3⟩:=c173 m gm hm fl2 (fnsR m src++callsF m (fnsR m src)) (by omega) st2
  have q4:callD T (ev T) 173 [encT m,get s' 7] st'=some (slE 1 fl3 (nI (rnd m (fnsR m src))),st2):=callD_args (fn:=F173) rfl rfl (by simp only [pureArgs,encT_fz1,encT_pure,Option.bind_some,if_true,pa,slE_pure]) (by simp) q3
  have nx:=fun s' bx'=>ih (i+1) s' bx' st2 fl3 (fnsR m src++callsF m (fnsR m src)) (by omega) (by omega)
  unfold rnd at q4 ⊢
  generalize fnsR m (fnsR m src++callsF m (fnsR m src))=R at *
  simp [g2,gb,g6,←encT_eq m,q4,hw,-Int.natCast_add]
  refine nx _ _ ?_ ?_ ?_ ?_ <;> simp [g2,gb]
theorem c132 (m:Tm) (gm:good m) (hm:cntT m≤400) (fl:Fl) (l:List Int) (hl:l.length≤1000000) (st:St):∃ fl',callD T (ev T) 132 [encT m,slE 1 fl (nI l)] st=some (slE 1 fl' (nI (rndN m m.l.length (fnsR m l))),st):=by
 obtain ⟨fl1,q1⟩:=c173 m gm hm fl l hl []
 have go:Ret (ev T 132 [encT m,slE 1 fl (nI l)] []) fun r st'=>∃ fl' st2,fz st' r=some (slE 1 fl' (nI (rndN m m.l.length (fnsR m l))),st2):=by
  refine Ret_wp (fn:=F132) rfl ?_
  rw [F132]
  have lo:=fun s bx st=>l132_0 m gm hm m.l.length 0 s bx st fl1 l (by omega) (by omega)
  generalize rndN m m.l.length (fnsR m l)=R at *
  simp [←encT_eq m,q1]
  refine WL.use L132_0_p L132_0_w (lo _ _ _ ?_ ?_ ?_ ?_) ?_
  iterate 4 simp
  rintro e' s' b' st' ⟨rfl,fl',p⟩ hf
  simp [p]
  exact ⟨fl',rfl⟩
 obtain ⟨r,st',g1,fl',st2,gf⟩:=go
 exact ⟨fl',callD_pure (fn:=F132) (st2:=st2) rfl rfl (by simp) g1 gf (by simp)⟩
theorem l137_1 (d:D) (o:List Int) (K:Nat) (fl:Fl) (l:List Int) (i:Nat) (hi:i < l.length) (ho:o.length≤1000000) (st:St) (h:RowX st d o K):∀ (r:Nat) (s:List D) (bx:List (Nat × List D)),r≤o.length →
  get s 0=slE 1 fl (nI l)→get s 3=d→get s 4=.i i→get s 5=.i r→Stops (lp T L137_1 ⟨⟨s,bx⟩,st⟩) fun ex s' _ st'=>ex=.exit 2∧st'=st∧∃ n:Nat,n≤o.length∧get s' 5=.i n:=by
 intro r
 induction r with
 | zero=>
  intro s bx hr h0 h3 h4 h5
  refine Stops_wp L137_1.eq_1 ?_
  simp [h0,h3,h4,h5]
  exact ⟨0,by omega,rfl⟩
 | succ r ih=>
  intro s bx hr h0 h3 h4 h5
  have hw:IntKind.wrap .i64 (((r+1:Nat):Int) - 1)=(r:Int):=by rw [wrap64] <;> omega
  have hp:(0:Int) < ((r+1:Nat):Int):=by omega
  obtain ⟨id,v,md,els,g1,g2,g3⟩:=h.el r (by omega)
  have nx:=fun s' bx'=>ih s' bx' (by omega)
  by_cases hlt:l[i] < o[r]
  ·refine Stops_wp L137_1.eq_1 ?_
   simp [h0,h3,h4,h5,hp,hw,g1,g2,g3,hi,hlt,-Int.natCast_add]
   refine nx _ _ ?_ ?_ ?_ ?_ <;> simp [h0,h3,h4]
  ·refine Stops_wp L137_1.eq_1 ?_
   simp [h0,h3,h4,h5,hp,hw,g1,g2,g3,hi,hlt,-Int.natCast_add]
   omega
def Q137 (l:List Int) (n:Nat) (ex:Ex) (s':List D) (_:List (Nat × List D)) (st':St):Prop:=ex=.exit 0∧∃ O K,RowX st' (get s' 3) O K∧O.length≤n∧∀ x,x∈O↔x∈l
theorem l137_0 (fl:Fl) (l:List Int) (hl:l.length≤400000):∀ (r i:Nat) (s:List D) (bx:List (Nat × List D)) (st:St) (d:D) (o:List Int),r=l.length - i→i≤l.length→RowX st d o (2 * i)→o.length≤i→(∀ x,x∈o↔x∈l.take i) →
  get s 0=slE 1 fl (nI l)→get s 3=d→get s 4=.i i→Stops (lp T L137_0 ⟨⟨s,bx⟩,st⟩) (Q137 l l.length):=by
 intro r
 induction r with
 | zero=>
  intro i s bx st d o hr hi h ho hm h0 h3 h4
  have e:i=l.length:=by omega
  subst e
  rw [List.take_length] at hm
  refine Stops_wp L137_0.eq_1 ?_
  simp [h0,h4]
  exact ⟨rfl,o,_,by simpa [h3] using h,ho,hm⟩
 | succ r ih=>
  intro i s bx st d o hr hi h ho hm h0 h3 h4
  have hlt:i < l.length:=by omega
  have hw:IntKind.wrap .i64 ((i:Int)+1)=((i+1:Nat):Int):=by rw [wrap64] <;> omega
  have q:=c131 l[i] d o (by omega) st (.inr ⟨_,h⟩)
  obtain ⟨x1,x2,x3,x4,x5,x6⟩:=h.facts
  have ht:∀ x,x∈l.take (i+1)↔x∈l.take i∨x=l[i]:=fun x=>by rw [List.take_succ_eq_append_getElem hlt,List.mem_append,List.mem_singleton]
  by_cases hx:l[i]∈o
  ·rw [decide_eq_true hx] at q
   have nx:=fun s' bx'=>ih (i+1) s' bx' st d o (by omega) (by omega) (h.more (by omega)) (by omega) (fun x=>by
    rw [ht,←hm]
    exact ⟨.inl,fun p=>p.elim id fun e=>e ▸ hx⟩)
   refine Stops_wp L137_0.eq_1 ?_
   simp [h0,h3,h4,hlt,q,hw,-Int.natCast_add]
   refine nx _ _ ?_ ?_ ?_ <;> simp [h0,h3]
  ·rw [decide_eq_false hx] at q
   have lo:=fun s' bx'=>l137_1 d o _ fl l i hlt (by omega) st h o.length s' bx' (Nat.le_refl _)
   refine Stops_wp L137_0.eq_1 ?_
   simp [h0,h3,h4,hlt,q,x4]
   refine WL.use L137_1_p L137_1_w (lo _ _ ?_ ?_ ?_ ?_) ?_
   iterate 4 simp [h0,h3,h4]
   rintro e' s' b' st' ⟨rfl,rfl,n,hn,h5⟩ hf
   have g0:=hf 0 rfl
   have g3:=hf 3 rfl
   have g4:=hf 4 rfl
   simp [h0] at g0
   simp [h3] at g3
   simp [h4] at g4
   obtain ⟨dr,e1,e2⟩:=h.from' n hn
   obtain ⟨d6,st1,a1,r6,aq6⟩:=(RowX.nil st' 0).app (by omega) (o.drop n) (by simp; omega)
   simp only [List.nil_append] at r6
   have nr6:=aq6.nr
   have h1:RowX st1 d o (2 * i):=h.keep nr6.1 fun j hj=>nr6.2.1 j (h.lt hj)
   obtain ⟨dc,c1,c2,c3,c4⟩:=h1.cut n hn
   obtain ⟨d52,st2,a2,r52,aq52⟩:=c2.app (by omega) [l[i]] (by simp; omega)
   have hd6:∀ j,rid d6=some j→rid d≠some j:=fun j hj e=>by have:=nr6.2.2 j hj; have:=h.lt e; omega
   have r6':RowX st2 d6 (o.drop n) (0+1):=r6.keep aq52.1 fun j hj=>aq52.2.1 j (r6.lt hj) fun e=>hd6 j hj (by rw [←c3]; exact e)
   obtain ⟨d54,st3,a3,r54,aq54⟩:=r52.app (by omega) (o.drop n) (by simp; omega)
   have s6:=r6'.facts.2.2.2.2.2
   have ok6:=r6.facts.1
   obtain ⟨y1,y2,_⟩:=r54.facts
   have nx:=fun s'' bx'=>ih (i+1) s'' bx' st3 d54 (o.take n++[l[i]]++o.drop n) (by omega) (by omega) (r54.more (by omega)) (by simp; omega) (fun x=>by
    rw [ht,←hm]
    have:x∈o↔x∈o.take n∨x∈o.drop n:=by rw [←List.mem_append,List.take_append_drop]
    simp only [List.mem_append,List.mem_singleton,this]
    constructor
    ·rintro ((p | p) | p) <;> simp [p]
    ·rintro ((p | p) | p) <;> simp [p])
   have hs:slcTy (some 1) d=true:=c4
   simp only [List.map_cons,List.map_nil] at a2
   generalize nI (o.drop n)=els at *
   simp [g0,g3,g4,h5,hs,e1,e2,a1,c1,hlt,a2,s6,a3,hw,-Int.natCast_add]
   refine nx _ _ ?_ ?_ ?_ <;> simp [g0]
theorem c137 (fl:Fl) (l:List Int) (hl:l.length≤400000) (st:St):∃ fl' O,callD T (ev T) 137 [slE 1 fl (nI l)] st=some (slE 1 fl' (nI O),st)∧O.length≤l.length∧∀ x,x∈O↔x∈l:=by
 have go:Ret (ev T 137 [slE 1 fl (nI l)] []) fun r st'=>∃ fl' O st2,fz st' r=some (slE 1 fl' (nI O),st2)∧O.length≤l.length∧∀ x,x∈O↔x∈l:=by
  refine Ret_wp (fn:=F137) rfl ?_
  rw [F137]
  have lo:=fun s bx=>l137_0 fl l hl l.length 0 s bx [] (.sl 1 true []) [] (by omega) (by omega) (.nil _ _) (by simp) (by simp)
  simp
  refine WL.use L137_0_p L137_0_w (lo _ _ ?_ ?_ ?_) ?_
  iterate 3 simp
  rintro e' s' b' st' ⟨rfl,O,K,p1,p2,p3⟩ hf
  obtain ⟨y1,_⟩:=p1.facts
  obtain ⟨fl',st2,ff,_⟩:=p1.fz
  simp [y1]
  exact ⟨fl',O,⟨st2,ff⟩,p2,p3⟩
 obtain ⟨r,st',g1,fl',O,st2,gf,g2⟩:=go
 exact ⟨fl',O,callD_pure (fn:=F137) (st2:=st2) rfl rfl (by simp) g1 gf (by simp),g2⟩
end Go.Nt.Li
set_option linter.unusedSimpArgs false
set_option maxRecDepth 20000
namespace Go.Nt.Li
open Go Go.Nt
def QB (slot:Nat) (ex:Ex) (s':List D) (_:List (Nat × List D)) (_:St):Prop:=(ex=.exit 0∨ex=.ret∧∃ b,get s' slot=.bool b)
theorem l136 (f:Int) (t:Tm) (gt:good t) (hc:∀ u,u∈t.l→∀ st,∃ b,callD T (ev T) 136 [encT u,.int .i64 f] st=some (.bool b,st)):∀ (r i:Nat) (s:List D) (bx:List (Nat × List D)) (st:St),r=t.l.length - i→i≤t.l.length →
  get s 1=.int .i64 f→get s 2=.lp 2 1 0→getB bx 2=(1,clT t)→get s 5=.i i→Stops (lp T L136_0 ⟨⟨s,bx⟩,st⟩) (QB 4):=by
 intro r
 have hl:=good_len gt
 induction r with
 | zero=>
  intro i s bx st hr hi h1 h2 b2 h5
  have e:i=t.l.length:=by omega
  subst e
  refine Stops_wp L136_0.eq_1 ?_
  simp [h1,h2,b2,h5]
  exact .inl rfl
 | succ r ih=>
  intro i s bx st hr hi h1 h2 b2 h5
  have hlt:i < t.l.length:=by omega
  have hw:IntKind.wrap .i64 ((i:Int)+1)=((i+1:Nat):Int):=by rw [wrap64] <;> omega
  obtain ⟨b,q⟩:=hc _ (List.getElem_mem hlt) st
  have nx:=fun s' bx'=>ih (i+1) s' bx' st (by omega) (by omega)
  cases b
  ·refine Stops_wp L136_0.eq_1 ?_
   simp [h1,h2,b2,h5,hlt,hw,←encT_eq,q,-Int.natCast_add]
   refine nx _ _ ?_ ?_ ?_ ?_ <;> simp [h1,h2,b2]
  ·refine Stops_wp L136_0.eq_1 ?_
   simp [h1,h2,b2,h5,hlt,←encT_eq,q]
   exact .inr ⟨rfl,true,by simp⟩
theorem c136 (f:Int) (hf:f=1∨f=2∨f=4∨f=8) (t:Tm):good t→∀ st,∃ b,callD T (ev T) 136 [encT t,.int .i64 f] st=some (.bool b,st):=by
 induction t using Tm.ind with
 | h t ih=>
  intro gt st
  have go:Ret (ev T 136 [encT t,.int .i64 f] []) fun r _=>∃ b,r=.bool b:=by
   refine Ret_wp (fn:=F136) rfl ?_
   rw [F136]
   have run:∀ s' bx' st1 K,get s' 1=.int .i64 f→get s' 2=.lp 2 1 0→getB bx' 2=(1,clT t)→get s' 5=.i 0→(∀ e s b st',QB 4 e s b st'→K e ⟨⟨s,b⟩,st'⟩)→WL T L136_0 ⟨⟨s',bx'⟩,st1⟩ K:=by
    intro s' bx' st1 K g1 g2 gb g5 k
    refine WL.use L136_0_p L136_0_w (l136 f t gt (fun u hu=>ih u hu (good_mem gt hu)) t.l.length 0 s' bx' st1 (by omega) (by omega) g1 g2 gb g5) ?_
    intro e s b st' p _
    exact k e s b st' p
   have hlen:=good_len gt
   have fin:∀ (e:Ex) (s:List D) (b:List (Nat × List D)) (st':St),QB 4 e s b st'→(e=.exit 0∨e=.ret∧∃ b,get s 4=.bool b):=fun e s b st' h=>h
   rcases hf with rfl | rfl | rfl | rfl
   ·by_cases k12:t.k=12
    ·simp [k12]
    ·by_cases k18:t.k=18
     ·simp [k18]
     ·by_cases k10:t.k=10
      ·by_cases hn:t.n=12∨t.n=13
       ·by_cases h2:t.l.length < 2
        ·have h2':(t.l.length:Int) < 2:=by omega
         rcases hn with hn | hn <;> simp [k10,hn,h2']
        ·have h2':¬ (t.l.length:Int) < 2:=by omega
         have h1:(1:Int) < t.l.length:=by omega
         have h1':1 < t.l.length:=by omega
         by_cases p5:t.l[1].k=5
         ·by_cases p0:t.l[1].n=0
          ·rcases hn with hn | hn <;> simp [k10,hn,h2',h1,h1',p5,p0]
          ·rcases hn with hn | hn <;> simp [k10,hn,h2',h1,h1',p5,p0]
           all_goals
            refine run _ _ _ _ ?_ ?_ ?_ ?_ ?_
            iterate 4 simp [k10,hn]
            intro e s b st' p
            rcases p with rfl | ⟨rfl,b,p⟩
            ·simp
            ·simp [p]
         ·rcases hn with hn | hn <;> simp [k10,hn,h2',h1,h1',p5]
       ·have n1:t.n≠12:=fun e=>hn (.inl e)
        have n2:t.n≠13:=fun e=>hn (.inr e)
        simp [k10,n1,n2]
        refine run _ _ _ _ ?_ ?_ ?_ ?_ ?_
        iterate 4 simp [k10]
        intro e s b st' p
        rcases p with rfl | ⟨rfl,b,p⟩
        ·simp
        ·simp [p]
      ·simp [k12,k18,k10]
       refine run _ _ _ _ ?_ ?_ ?_ ?_ ?_
       iterate 4 simp
       intro e s b st' p
       rcases p with rfl | ⟨rfl,b,p⟩
       ·simp
       ·simp [p]
   ·by_cases k24:t.k=24
    ·simp [k24]
    ·by_cases k25:t.k=25
     ·simp [k25]
     ·simp [k24,k25]
      refine run _ _ _ _ ?_ ?_ ?_ ?_ ?_
      iterate 4 simp
      intro e s b st' p
      rcases p with rfl | ⟨rfl,b,p⟩
      ·simp
      ·simp [p]
   ·by_cases k26:t.k=26
    ·simp [k26]
    ·simp [k26]
     refine run _ _ _ _ ?_ ?_ ?_ ?_ ?_
     iterate 4 simp
     intro e s b st' p
     rcases p with rfl | ⟨rfl,b,p⟩
     ·simp
     ·simp [p]
   ·by_cases k18:t.k=18
    ·simp [k18]
    ·simp [k18]
     refine run _ _ _ _ ?_ ?_ ?_ ?_ ?_
     iterate 4 simp
     intro e s b st' p
     rcases p with rfl | ⟨rfl,b,p⟩
     ·simp
     ·simp [p]
  obtain ⟨r,st',g,b,rfl⟩:=go
  exact ⟨b,callD_pure (fn:=F136) (st2:=st') rfl rfl (by simp) g (by simp) (by simp)⟩
theorem l39 (t:Tm) (gt:good t) (hc:∀ u,u∈t.l→∀ st,callD T (ev T) 39 [encT u] st=some (.bool (qtT u),st)):∀ (r i:Nat) (s:List D) (bx:List (Nat × List D)) (st:St),r=t.l.length - i→i≤t.l.length →
  get s 1=.lp 1 1 0→getB bx 1=(1,clT t)→get s 4=.i i→Stops (lp T L39_0 ⟨⟨s,bx⟩,st⟩) fun ex s' _ _=>(ex=.exit 0∧qtTs (t.l.drop i)=true)∨(ex=.ret∧get s' 2=.bool false∧qtTs (t.l.drop i)=false):=by
 intro r
 have hl:=good_len gt
 induction r with
 | zero=>
  intro i s bx st hr hi h1 b1 h4
  have e:i=t.l.length:=by omega
  subst e
  rw [List.drop_length,qtTs]
  refine Stops_wp L39_0.eq_1 ?_
  simp [h1,b1,h4]
 | succ r ih=>
  intro i s bx st hr hi h1 b1 h4
  have hlt:i < t.l.length:=by omega
  have hw:IntKind.wrap .i64 ((i:Int)+1)=((i+1:Nat):Int):=by rw [wrap64] <;> omega
  have q:=hc _ (List.getElem_mem hlt) st
  have nx:=fun s' bx'=>ih (i+1) s' bx' st (by omega) (by omega)
  rw [List.drop_eq_getElem_cons hlt,qtTs]
  generalize qtTs (t.l.drop (i+1))=B at *
  cases hb:qtT t.l[i] with
  | true=>
   rw [hb] at q
   refine Stops_wp L39_0.eq_1 ?_
   simp [h1,b1,h4,hlt,hw,←encT_eq,q,-Int.natCast_add]
   refine nx _ _ ?_ ?_ ?_ <;> simp [h1,b1]
  | false=>
   rw [hb] at q
   refine Stops_wp L39_0.eq_1 ?_
   simp [h1,b1,h4,hlt,←encT_eq,q]
theorem c39 (t:Tm):good t→∀ st,callD T (ev T) 39 [encT t] st=some (.bool (qtT t),st):=by
 induction t using Tm.ind with
 | h t ih=>
  intro gt st
  refine callD_pureR (fn:=F39) rfl rfl (by simp) (by simp) ?_
  refine Ret_wp (fn:=F39) rfl ?_
  rw [F39,qtT_eq]
  have hlen:=good_len gt
  have run:q0 t=true→∀ s' bx' st1 K,get s' 1=.lp 1 1 0→getB bx' 1=(1,clT t)→get s' 4=.i 0→(∀ e s b st',((e=.exit 0∧qtTs t.l=true)∨(e=.ret∧get s 2=.bool false∧qtTs t.l=false))→K e ⟨⟨s,b⟩,st'⟩)→WL T L39_0 ⟨⟨s',bx'⟩,st1⟩ K:=by
   intro _ s' bx' st1 K g1 gb g4 k
   refine WL.use L39_0_p L39_0_w (l39 t gt (fun u hu=>ih u hu (good_mem gt hu)) t.l.length 0 s' bx' st1 (by omega) (by omega) g1 gb g4) ?_
   intro e s b st' p _
   exact k e s b st' (by simpa using p)
  by_cases k10:t.k=10
  ·have hq:q0 t=!decide ((t.n=12∨t.n=13)∧∀ y,t.l[1]?=some y→y.k≠5∨y.n=0):=by unfold q0; simp [k10]
   by_cases hn:t.n=12∨t.n=13
   ·by_cases h2:t.l.length < 2
    ·have h2':(t.l.length:Int) < 2:=by omega
     have e:q0 t=false:=by rw [hq,List.getElem?_eq_none (by omega)]; simp [hn]
     rw [e]
     rcases hn with hn | hn <;> simp [k10,hn,h2']
    ·have h2':¬ (t.l.length:Int) < 2:=by omega
     have h1:(1:Int) < t.l.length:=by omega
     have h1':1 < t.l.length:=by omega
     have e:q0 t=!decide (t.l[1].k≠5∨t.l[1].n=0):=by rw [hq,List.getElem?_eq_getElem h1']; simp [hn]
     by_cases p5:t.l[1].k=5
     ·by_cases p0:t.l[1].n=0
      ·rw [e]
       rcases hn with hn | hn <;> simp [k10,hn,h2',h1,h1',p5,p0]
      ·have e1:q0 t=true:=by rw [e]; simp [p5,p0]
       rw [e1,Bool.true_and]
       rcases hn with hn | hn <;> simp [k10,hn,h2',h1,h1',p5,p0]
       all_goals
        refine run e1 _ _ _ _ ?_ ?_ ?_ ?_
        iterate 3 simp [k10,hn]
        rintro e s b st' (⟨rfl,p⟩ | ⟨rfl,p1,p2⟩)
        ·simp [p]
        ·simp [p1,p2]
     ·rw [e]
      rcases hn with hn | hn <;> simp [k10,hn,h2',h1,h1',p5]
   ·have n1:t.n≠12:=fun e=>hn (.inl e)
    have n2:t.n≠13:=fun e=>hn (.inr e)
    have e1:q0 t=true:=by rw [hq]; simp [n1,n2]
    rw [e1,Bool.true_and]
    simp [k10,n1,n2]
    refine run e1 _ _ _ _ ?_ ?_ ?_ ?_
    iterate 3 simp [k10]
    rintro e s b st' (⟨rfl,p⟩ | ⟨rfl,p1,p2⟩)
    ·simp [p]
    ·simp [p1,p2]
  ·by_cases hk:t.k=5∨t.k=6∨t.k=7∨t.k=8∨t.k=9∨t.k=11∨t.k=13∨t.k=14∨t.k=15
   ·have e1:q0 t=true:=by
     unfold q0
     simp only [Bool.and_eq_true,decide_eq_true_eq,Bool.not_eq_true',decide_eq_false_iff_not]
     exact ⟨by omega,fun h=>k10 h.1⟩
    rw [e1,Bool.true_and]
    rcases hk with hk | hk | hk | hk | hk | hk | hk | hk | hk <;> simp [hk]
    all_goals
     refine run e1 _ _ _ _ ?_ ?_ ?_ ?_
     iterate 3 simp [hk]
     rintro e s b st' (⟨rfl,p⟩ | ⟨rfl,p1,p2⟩)
     ·simp [p]
     ·simp [p1,p2]
   ·have e1:q0 t=false:=by
     unfold q0
     simp only [Bool.and_eq_false_iff,decide_eq_false_iff_not]
     exact .inl (by omega)
    have n1:t.k≠5:=by omega
    have n2:t.k≠6:=by omega
    have n3:t.k≠7:=by omega
    have n4:t.k≠8:=by omega
    have n5:t.k≠9:=by omega
    have n6:t.k≠11:=by omega
    have n7:t.k≠13:=by omega
    have n8:t.k≠14:=by omega
    have n9:t.k≠15:=by omega
    rw [e1]
    simp [k10,n1,n2,n3,n4,n5,n6,n7,n8,n9]
theorem l101 (fa fb:Fl) (a b:List Int) (ha:a.length≤1000000) (hb:b.length≤1000000):∀ (r i:Nat) (s:List D) (bx:List (Nat × List D)) (st:St),r=a.length - i→i≤a.length →
  get s 0=slE 1 fa (nI a)→get s 1=slE 1 fb (nI b)→get s 5=.i i→Stops (lp T L101_0 ⟨⟨s,bx⟩,st⟩) fun ex s' _ _=>((ex=.exit 0∧¬ ∃ x,x∈a.drop i∧x∈b)∨(ex=.ret∧get s' 4=.bool true∧∃ x,x∈a.drop i∧x∈b)):=by
 intro r
 induction r with
 | zero=>
  intro i s bx st hr hi h0 h1 h5
  have e:i=a.length:=by omega
  subst e
  refine Stops_wp L101_0.eq_1 ?_
  simp [h0,h1,h5]
 | succ r ih=>
  intro i s bx st hr hi h0 h1 h5
  have hlt:i < a.length:=by omega
  have hw:IntKind.wrap .i64 ((i:Int)+1)=((i+1:Nat):Int):=by rw [wrap64] <;> omega
  have nx:=fun s' bx'=>ih (i+1) s' bx' st (by omega) (by omega)
  have q:=c131 a[i] (slE 1 fb (nI b)) b hb st (.inl ⟨fb,rfl⟩)
  have hd:=List.drop_eq_getElem_cons hlt
  by_cases hx:a[i]∈b
  ·have e:(∃ x,x∈a.drop i∧x∈b)=True:=eq_true ⟨a[i],by rw [hd]; exact List.mem_cons.2 (.inl rfl),hx⟩
   rw [decide_eq_true hx] at q
   simp only [e]
   refine Stops_wp L101_0.eq_1 ?_
   simp [h0,h1,h5,hlt,q]
  ·rw [decide_eq_false hx] at q
   have e:(∃ x,x∈a.drop i∧x∈b)=∃ x,x∈a.drop (i+1)∧x∈b:=propext ⟨fun ⟨x,h,hb⟩=>by
    rw [hd] at h
    rcases List.mem_cons.1 h with rfl | h
    ·exact absurd hb hx
    ·exact ⟨x,h,hb⟩,fun ⟨x,h,hb⟩=>⟨x,by rw [hd]; exact List.mem_cons_of_mem _ h,hb⟩⟩
   simp only [e]
   refine Stops_wp L101_0.eq_1 ?_
   generalize (∃ x,x∈a.drop (i+1)∧x∈b)=P at *
   simp [h0,h1,h5,hlt,q,hw,-Int.natCast_add]
   refine nx _ _ ?_ ?_ ?_ <;> simp [h0,h1]
theorem c101 (fa fb:Fl) (a b:List Int) (ha:a.length≤1000000) (hb:b.length≤1000000) (st:St) (p:Bool) (hp:p=true↔∃ x,x∈a∧x∈b):callD T (ev T) 101 [slE 1 fa (nI a),slE 1 fb (nI b)] st=some (.bool p,st):=by
 refine callD_pureR (fn:=F101) rfl rfl (by simp) (by simp) ?_
 refine Ret_wp (fn:=F101) rfl ?_
 rw [F101]
 have lo:=fun s bx st=>l101 fa fb a b ha hb a.length 0 s bx st (by omega) (by omega)
 simp only [List.drop_zero] at lo
 rw [←hp] at lo
 simp
 refine WL.use L101_0_p L101_0_w (lo _ _ _ ?_ ?_ ?_) ?_
 iterate 3 simp
 rintro e' s' b' st' (⟨rfl,p1⟩ | ⟨rfl,p1,p2⟩) hf
 ·simp [p1]
 ·simp [p1,p2]
end Go.Nt.Li
set_option linter.unusedSimpArgs false
set_option maxRecDepth 20000
namespace Go.Nt.Li
open Go Go.Nt
theorem RowX.fzf {st:St} {d:D} {l:List Int} {K:Nat} (h:RowX st d l K):∃ fl st',fz1 st d=some (slE 1 fl (nI l),st')∧st'.length=st.length∧∀ i,rid d≠some i→St.at st' i=St.at st i:=by
 rcases h with ⟨rfl,rfl⟩ | ⟨id,ver,md,rest,rfl,h1,h2,h3,h4⟩
 ·exact ⟨.emp,st,rfl,rfl,fun _ _=>rfl⟩
 ·have e2:List.take l.length (nI (l++rest))=nI l:=by rw [show nI (l++rest)=nI l++nI rest by simp [nI]]; simp [nI]
  have m4:(nI (l++rest)).length=l.length+rest.length:=by simp
  refine ⟨.part,List.set st id (.cells false 1 ver (md+1) true (nI (l++rest))),?_,by simp,fun i hi=>by rw [at_set _ _ _ _ h1,if_neg (fun e=>hi (by rw [e]; rfl))]⟩
  generalize nI (l++rest)=els at *
  simp only [fz1,fz0,h4]
  rw [if_pos ⟨trivial,trivial,by omega⟩]
  simp [slE,e2]
theorem rndN_blk {m:Tm} {c:List Int} {f:Int} (h:f∈rndN m m.l.length (fnsR m c)):0≤f∧∃ (hf:f.toNat < m.l.length) (h2:2 < m.l[f.toNat].l.length),blk m f=some (m.l[f.toNat].l[2]):=by
 obtain ⟨src,e⟩:=rnd_fns m m.l.length c
 rw [e] at h
 exact fnsR_blk h
theorem rndN_len (m:Tm) (c:List Int):(rndN m m.l.length (fnsR m c)).length≤m.l.length:=by
 obtain ⟨src,e⟩:=rnd_fns m m.l.length c
 rw [e]; exact fnsR_len m src
def Q103a (st:St) (ex:Ex) (s':List D) (_:List (Nat × List D)) (st':St):Prop:=ex=.exit 2∧st'=st∧∃ b,get s' 10=.bool b
theorem l103_1 (m:Tm) (gm:good m) (hm:cntT m≤400) (f:Int) (hf:f=1∨f=2∨f=4∨f=8) (fl:Fl) (c all:List Int) (hall:all=rndN m m.l.length (fnsR m c)):∀ (r i:Nat) (s:List D) (bx:List (Nat × List D)) (st:St) (b:Bool),r=all.length - i→i≤all.length →
  get s 2=.lp 2 1 0→getB bx 2=(1,clT m)→get s 5=slE 1 fl (nI all)→get s 9=.int .i64 f→get s 10=.bool b→get s 11=.i i→Stops (lp T L103_1 ⟨⟨s,bx⟩,st⟩) (Q103a st):=by
 intro r
 have hml:=cntTs_len m.l
 have em:=cntT_eq m
 have al:=rndN_len m c
 rw [←hall] at al
 induction r with
 | zero=>
  intro i s bx st b hr hi h2 b2 h5 h9 h10 h11
  have e:i=all.length:=by omega
  subst e
  refine Stops_wp L103_1.eq_1 ?_
  simp [h2,b2,h5,h11]
  exact ⟨rfl,rfl,b,by simpa using h10⟩
 | succ r ih=>
  intro i s bx st b hr hi h2 b2 h5 h9 h10 h11
  have hlt:i < all.length:=by omega
  have hw:IntKind.wrap .i64 ((i:Int)+1)=((i+1:Nat):Int):=by rw [wrap64] <;> omega
  obtain ⟨f0,hF,hF2,hb⟩:=rndN_blk (m:=m) (c:=c) (f:=all[i]) (by rw [←hall]; exact List.getElem_mem hlt)
  have hcf:=cntTs_mem (List.getElem_mem hF)
  have hcb:=cntTs_mem (List.getElem_mem hF2)
  have ef:=cntT_eq m.l[(all[i]).toNat]
  have gb:=good_mem (good_mem gm (List.getElem_mem hF)) (List.getElem_mem hF2)
  have nx:=fun s' bx' b'=>ih (i+1) s' bx' st b' (by omega) (by omega)
  have n0:¬ all[i] < 0:=by omega
  obtain ⟨bh,q1⟩:=c136 f hf m.l[(all[i]).toNat].l[2] gb st
  obtain ⟨fl1,q2⟩:=c133 m.l[(all[i]).toNat].l[2] gb (by omega) []
  have cl:=caT_len m.l[(all[i]).toNat].l[2]
  obtain ⟨fl2,q3⟩:=c132 m gm hm fl1 (caT m.l[(all[i]).toNat].l[2]) (by omega) []
  have q2':=callQ_pure (fn:=F133) rfl rfl (by simp) (by simp) q2
  have q3':=callQ_pure (fn:=F132) rfl rfl (by simp) (by simp) q3
  have rl:=rndN_len m (caT m.l[(all[i]).toNat].l[2])
  have q4:=c131 all[i] (slE 1 fl2 (nI (rndN m m.l.length (fnsR m (caT m.l[(all[i]).toNat].l[2]))))) _ (by omega) st (.inl ⟨_,rfl⟩)
  generalize hd:decide (all[i]∈rndN m m.l.length (fnsR m (caT m.l[(all[i]).toNat].l[2])))=bi at q4
  generalize rndN m m.l.length (fnsR m (caT m.l[(all[i]).toNat].l[2]))=R at *
  generalize caT m.l[(all[i]).toNat].l[2]=C at *
  generalize hFF:all[i]=F at *
  generalize hB:m.l[F.toNat].l[2]=B at *
  rw [encT_eq B] at q1 q2'
  cases b with
  | true=>
   refine Stops_wp L103_1.eq_1 ?_
   simp [h2,b2,h5,h9,h10,h11,hlt,hFF,n0,hF,hF2,hB,hw,splice,-Int.natCast_add]
   refine nx _ _ true ?_ ?_ ?_ ?_ ?_ ?_ <;> simp [h2,b2,h5,h9]
  | false=>
   cases bh with
   | true=>
    refine Stops_wp L103_1.eq_1 ?_
    simp [h2,b2,h5,h9,h10,h11,hlt,hFF,n0,hF,hF2,hB,hw,splice,q1,-Int.natCast_add]
    refine nx _ _ true ?_ ?_ ?_ ?_ ?_ ?_ <;> simp [h2,b2,h5,h9]
   | false=>
    by_cases f2:f=2
    ·subst f2
     refine Stops_wp L103_1.eq_1 ?_
     simp [h2,b2,h5,h9,h10,h11,hlt,hFF,n0,hF,hF2,hB,hw,splice,q1,q2',←encT_eq m,q3',q4,-Int.natCast_add]
     refine nx _ _ bi ?_ ?_ ?_ ?_ ?_ ?_ <;> simp [h2,b2,h5,h9]
    ·refine Stops_wp L103_1.eq_1 ?_
     simp [h2,b2,h5,h9,h10,h11,hlt,hFF,n0,hF,hF2,hB,hw,splice,q1,f2,-Int.natCast_add]
     refine nx _ _ false ?_ ?_ ?_ ?_ ?_ ?_ <;> simp [h2,b2,h5,h9]
def Q103b (st:St) (ex:Ex) (s':List D) (_:List (Nat × List D)) (st':St):Prop:=ex=.exit 0∧st'=st∧∃ n:Int,get s' 8=.int .i64 n
theorem l103_0 (m t:Tm) (gm:good m) (gt:good t) (hm:cntT m≤400) (fl:Fl) (c all:List Int) (hall:all=rndN m m.l.length (fnsR m c)) (st:St):∀ (r:Nat) (f:Int) (s:List D) (bx:List (Nat × List D)) (n:Int),(r=0∧f=16∨r=1∧f=8∨r=2∧f=4∨r=3∧f=2∨r=4∧f=1) →
  get s 2=.lp 2 1 0→getB bx 2=(1,clT m)→get s 3=.lp 3 1 0→getB bx 3=(1,clT t)→get s 5=slE 1 fl (nI all)→get s 8=.int .i64 n→get s 9=.int .i64 f→Stops (lp T L103_0 ⟨⟨s,bx⟩,st⟩) (Q103b st):=by
 intro r
 induction r with
 | zero=>
  intro f s bx n hr h2 b2 h3 b3 h5 h8 h9
  have e:f=16:=by omega
  subst e
  refine Stops_wp L103_0.eq_1 ?_
  simp [h9]
  exact ⟨rfl,rfl,n,by simpa using h8⟩
 | succ r ih=>
  intro f s bx n hr h2 b2 h3 b3 h5 h8 h9
  have hf:f=1∨f=2∨f=4∨f=8:=by omega
  have hle:f≤8:=by omega
  have hw:IntKind.wrap .i64 (f * 2)=f * 2:=by rw [wrap64] <;> omega
  obtain ⟨b,q⟩:=c136 f hf t gt st
  have lo:=fun s' bx'=>l103_1 m gm hm f hf fl c all hall all.length 0 s' bx' st b (by omega) (by omega)
  have nx:=fun s' bx' n'=>ih (f * 2) s' bx' n' (by omega)
  refine Stops_wp L103_0.eq_1 ?_
  simp [h2,h3,b3,h9,hle,←encT_eq t,q]
  refine WL.useB L103_1_p L103_1_w (WB:=L103_1.wrB) rfl (lo _ _ ?_ ?_ ?_ ?_ ?_ ?_) ?_
  iterate 6 simp [h2,b2,h5,h9]
  rintro e' s' b' st' ⟨rfl,rfl,fd,p⟩ hs hsb
  have g2:=hs 2 rfl; have g3:=hs 3 rfl; have g5:=hs 5 rfl; have g8:=hs 8 rfl; have g9:=hs 9 rfl
  have gb2:=hsb 2 rfl; have gb3:=hsb 3 rfl
  simp [h2] at g2; simp [h3] at g3; simp [h5] at g5; simp [h8] at g8; simp [h9] at g9; simp [b2] at gb2; simp [b3] at gb3
  cases fd with
  | true=>
   simp [p,g8,g9,hw]
   refine nx _ _ (IntKind.wrap .i64 (n+f)) ?_ ?_ ?_ ?_ ?_ ?_ ?_ <;> simp [g2,g3,g5,gb2,gb3]
  | false=>
   simp [p,g9,hw]
   refine nx _ _ n ?_ ?_ ?_ ?_ ?_ ?_ ?_ <;> simp [g2,g3,g5,gb2,gb3,g8]
def wrF (m:Tm) (out:List Int):List Int:=out.flatMap fun f=>((blk m f).map wrT).getD []
theorem mem_wrF (m:Tm) (out:List Int) (x:Int):x∈wrF m out↔∃ f b,f∈out∧blk m f=some b∧x∈wrT b:=by
 unfold wrF
 rw [List.mem_flatMap]
 constructor
 ·rintro ⟨f,h1,h2⟩
  cases hb:blk m f with
  | none=>rw [hb] at h2; simp at h2
  | some b=>rw [hb] at h2; exact ⟨f,b,h1,hb,by simpa using h2⟩
 ·rintro ⟨f,b,h1,h2,h3⟩
  exact ⟨f,h1,by rw [h2]; simpa using h3⟩
def Q103c (W:List Int) (ex:Ex) (s':List D) (_:List (Nat × List D)) (st':St):Prop:=ex=.exit 4∧∃ R K K',RowX st' (get s' 6) R K∧RowX st' (get s' 7) W K'∧R.length≤400000∧W.length≤400000∧∀ i,rid (get s' 6)=some i→rid (get s' 7)≠some i
theorem l103_2 (m:Tm) (gm:good m) (hm:cntT m≤400) (fl:Fl) (c all:List Int) (hall:all=rndN m m.l.length (fnsR m c)):∀ (r i:Nat) (s:List D) (bx:List (Nat × List D)) (st:St) (dr dw:D) (R W:List Int) (K K':Nat),r=all.length - i→i≤all.length→RowX st dr R K→RowX st dw W K'→K+r≤900000→K'+r≤900000→R.length≤800 * (i+1)→W.length≤800 * (i+1)→apart dr dw →
  get s 2=.lp 2 1 0→getB bx 2=(1,clT m)→get s 5=slE 1 fl (nI all)→get s 6=dr→get s 7=dw→get s 13=.i i→Stops (lp T L103_2 ⟨⟨s,bx⟩,st⟩) (Q103c (W++wrF m (all.drop i))):=by
 intro r
 have hml:=cntTs_len m.l
 have em:=cntT_eq m
 have al:=rndN_len m c
 rw [←hall] at al
 induction r with
 | zero=>
  intro i s bx st dr dw R W K K' hr hi hR hW kR kW lR lW ap h2 b2 h5 h6 h7 h13
  have e:i=all.length:=by omega
  subst e
  have e0:wrF m []=[]:=rfl
  rw [List.drop_length,e0,List.append_nil]
  refine Stops_wp L103_2.eq_1 ?_
  simp [h2,b2,h5,h13]
  exact ⟨rfl,R,K,K',by simpa [h6] using hR,by simpa [h7] using hW,by omega,by omega,by simpa [h6,h7] using fun i hi=>ap i hi⟩
 | succ r ih=>
  intro i s bx st dr dw R W K K' hr hi hR hW kR kW lR lW ap h2 b2 h5 h6 h7 h13
  have hlt:i < all.length:=by omega
  have hw:IntKind.wrap .i64 ((i:Int)+1)=((i+1:Nat):Int):=by rw [wrap64] <;> omega
  obtain ⟨f0,hF,hF2,hb⟩:=rndN_blk (m:=m) (c:=c) (f:=all[i]) (by rw [←hall]; exact List.getElem_mem hlt)
  have hcf:=cntTs_mem (List.getElem_mem hF)
  have hcb:=cntTs_mem (List.getElem_mem hF2)
  have ef:=cntT_eq m.l[(all[i]).toNat]
  have gb:=good_mem (good_mem gm (List.getElem_mem hF)) (List.getElem_mem hF2)
  have n0:¬ all[i] < 0:=by omega
  have e:wrF m (all.drop i)=wrT m.l[(all[i]).toNat].l[2]++wrF m (all.drop (i+1)):=by
   rw [List.drop_eq_getElem_cons hlt]
   show (((blk m all[i]).map wrT).getD [])++_=_
   rw [hb]; rfl
  have wl:=wrT_len m.l[(all[i]).toNat].l[2]
  rw [e,←List.append_assoc]
  generalize hFF:all[i]=F at *
  generalize hB:m.l[F.toNat].l[2]=B at *
  obtain ⟨d1,st1,L1,q1,r1,ll1,n1⟩:=c134 B gb (by omega) false st
  have hR1:=hR.keep n1.1 fun j hj=>n1.2.1 j (hR.lt hj)
  have hW1:=hW.keep n1.1 fun j hj=>n1.2.1 j (hW.lt hj)
  obtain ⟨dr2,st2,a2,hR2,aq2⟩:=hR1.app (by omega) L1 (by omega)
  have hW2:RowX st2 dw W K':=hW1.keep aq2.1 fun j hj=>aq2.2.1 j (hW1.lt hj) fun q=>ap j q hj
  have ap2:apart dr2 dw:=fun j hj hj2=>by
   rcases aq2.2.2 with q | ⟨k,q,hk⟩
   ·exact ap j (by rw [←q]; exact hj) hj2
   ·rw [q] at hj; cases hj; have:=hW1.lt hj2; omega
  have s1:=r1.facts.2.2.2.2.2
  obtain ⟨d3,st3,q3,r3,n3⟩:=c135 B gb (by omega) st2
  have hR3:=hR2.keep n3.1 fun j hj=>n3.2.1 j (hR2.lt hj)
  have hW3:=hW2.keep n3.1 fun j hj=>n3.2.1 j (hW2.lt hj)
  obtain ⟨dw4,st4,a4,hW4,aq4⟩:=hW3.app (by omega) (wrT B) (by omega)
  have hR4:RowX st4 dr2 (R++L1) (K+1):=hR3.keep aq4.1 fun j hj=>aq4.2.1 j (hR3.lt hj) fun q=>ap2 j hj q
  have ap4:apart dr2 dw4:=fun j hj hj2=>by
   rcases aq4.2.2 with q | ⟨k,q,hk⟩
   ·exact ap2 j hj (by rw [←q]; exact hj2)
   ·rw [q] at hj2; cases hj2; have:=hR3.lt hj; omega
  have s3:=r3.facts.2.2.2.2.2
  have nx:=fun s' bx'=>ih (i+1) s' bx' st4 dr2 dw4 (R++L1) (W++wrT B) (K+1) (K'+1) (by omega) (by omega) hR4 hW4 (by omega) (by omega) (by simp; omega) (by simp; omega) ap4
  generalize (W++wrT B)++wrF m (all.drop (i+1))=Z at *
  generalize nI L1=e1 at *
  generalize nI (wrT B)=e2 at *
  refine Stops_wp L103_2.eq_1 ?_
  simp [h2,b2,h5,h6,h7,h13,hlt,hFF,n0,hF,hF2,hB,hw,q1,s1,a2,q3,s3,a4,-Int.natCast_add]
  refine nx _ _ ?_ ?_ ?_ ?_ ?_ ?_ <;> simp [h2,b2,h5]
theorem c103 (m t:Tm) (gm:good m) (gt:good t) (hm:cntT m≤400) (ht:cntT t≤400) (st:St) :
  ∃ f1 R f2 W fl,callD T (ev T) 103 [encT m,encT t] st=some (.agg [slE 1 f1 (nI R),slE 1 f2 (nI W),.int .i64 fl],st)∧W.length≤1000000∧∀ x,x∈W↔WrP m t x:=by
 obtain ⟨fl1,q1⟩:=c133 t gt (by omega) []
 have cl:=caT_len t
 obtain ⟨fl2,q2⟩:=c132 m gm hm fl1 (caT t) (by omega) []
 have hmem:∀ f,f∈rndN m m.l.length (fnsR m (caT t))↔Rch m (caT t) f:=reach_ok m (caT t)
 have rl:=rndN_len m (caT t)
 have hml:=cntTs_len m.l
 have em:=cntT_eq m
 generalize hall:rndN m m.l.length (fnsR m (caT t))=all at *
 obtain ⟨dr,st1,R,q3,r3,lR,n3⟩:=c134 t gt (by omega) false []
 obtain ⟨dw,st2,q4,r4,n4⟩:=c135 t gt (by omega) st1
 have wl:=wrT_len t
 have r3':=r3.keep n4.1 fun j hj=>n4.2.1 j (r3.lt hj)
 have ap:apart dr dw:=fun j hj hj2=>by have:=r3.lt hj; have:=n4.2.2 j hj2; omega
 have lo1:=fun s bx=>l103_0 m t gm gt hm fl2 (caT t) all hall.symm st2 4 1 s bx 0 (by omega)
 have lo2:=fun s bx=>l103_2 m gm hm fl2 (caT t) all hall.symm all.length 0 s bx st2 dr dw R (wrT t) _ _ (by omega) (by omega) r3' r4 (by omega) (by omega) (by omega) (by omega) ap
 rw [List.drop_zero] at lo2
 have hW:∀ x,x∈wrT t++wrF m all↔WrP m t x:=fun x=>by
  rw [List.mem_append,mem_wrF]
  unfold WrP
  simp only [hmem]
 have go:Ret (ev T 103 [encT m,encT t] []) fun r st'=>∃ f1 R f2 W fl st3,fz st' r=some (.agg [slE 1 f1 (nI R),slE 1 f2 (nI W),.int .i64 fl],st3)∧W.length≤1000000∧∀ x,x∈W↔WrP m t x:=by
  refine Ret_wp (fn:=F103) rfl ?_
  rw [F103]
  generalize wrT t++wrF m all=W at *
  simp [←encT_eq m,←encT_eq t,q1,q2,q3,q4]
  refine WL.useB L103_0_p L103_0_w (WB:=L103_0.wrB) rfl (lo1 _ _ ?_ ?_ ?_ ?_ ?_ ?_ ?_) ?_
  iterate 7 simp
  rintro e' s1 b1 st' ⟨rfl,rfl,n,p8⟩ hs hsb
  have g2:=hs 2 rfl; have g4:=hs 4 rfl; have g5:=hs 5 rfl; have g6:=hs 6 rfl; have g7:=hs 7 rfl
  have gb2:=hsb 2 rfl; have gb4:=hsb 4 rfl
  simp at g2 g4 g5 g6 g7 gb2 gb4
  simp
  refine WL.useB L103_2_p L103_2_w (WB:=L103_2.wrB) rfl (lo2 _ _ ?_ ?_ ?_ ?_ ?_ ?_) ?_
  iterate 6 simp [g2,g5,g6,g7,gb2]
  rintro e' s2 b2 st3 ⟨rfl,R',K,K',k1,k2,k3,k4,k5⟩ hs2 hsb2
  have f4:=hs2 4 rfl; have f8:=hs2 8 rfl
  have fb4:=hsb2 4 rfl
  simp [g4] at f4
  simp [p8] at f8
  simp [gb4] at fb4
  obtain ⟨fa,st4,z1,z2,z3⟩:=k1.fzf
  have k2':RowX st4 (get s2 7) W K':=k2.keep (by omega) fun i hi=>z3 i fun e=>k5 i e hi
  obtain ⟨fb,st5,y1,y2,y3⟩:=k2'.fzf
  obtain ⟨fc,O1,w1,_,_⟩:=c137 fa R' k3 st4
  obtain ⟨fd,O2,w2,w3,w4⟩:=c137 fb W k4 st5
  have p1:callD T (ev T) 137 [get s2 6] st3=some (slE 1 fc (nI O1),st4):=callD_args (fn:=F137) rfl rfl (by simp only [pureArgs,z1,Option.bind_some,slE_pure,if_true]) (by simp) w1
  have p2:callD T (ev T) 137 [get s2 7] st4=some (slE 1 fd (nI O2),st5):=callD_args (fn:=F137) rfl rfl (by simp only [pureArgs,y1,Option.bind_some,slE_pure,if_true]) (by simp) w2
  simp [f4,f8,fb4,p1,p2,fillD,splice]
  exact ⟨fc,O1,fd,O2,⟨rfl,rfl⟩,by omega,fun x=>by rw [w4,hW]⟩
 obtain ⟨r,st',g1,f1,R',f2,W,fl,st3,gf,g2,g3⟩:=go
 exact ⟨f1,R',f2,W,fl,callD_pure (fn:=F103) (st2:=st3) rfl rfl (by simp) g1 gf (by simp),g2,g3⟩
end Go.Nt.Li
set_option linter.unusedSimpArgs false
namespace Go.Nt.Li
open Go Go.Nt
theorem sameT_er (a:Tm):∀ b,er a=er b→sameT a b=true:=by
 induction a using Tm.ind with
 | h a ih=>
  intro b h
  obtain ⟨h1,h2,h3,h4⟩:=(er_iff a b).1 h
  have parts:∀ (l l':List Tm),(∀ x,x∈l→x∈a.l)→l.map er=l'.map er→sameT.sameTs l l'=true:=by
   intro l
   induction l with
   | nil=>intro l' _ h; have:=er_len h; cases l' with | nil=>rfl | cons=>simp at this
   | cons x l il=>
    intro l' hx e
    cases l' with
    | nil=>cases e
    | cons y l'=>
     simp only [List.map_cons,List.cons.injEq] at e
     rw [sameT.sameTs,ih x (hx x (by simp)) y e.1,il l' (fun z hz=>hx z (by simp [hz])) e.2]; rfl
  rw [sameT_eq,h1,h2,h3,parts a.l b.l (fun _ h=>h) h4]; simp
theorem mapT_ok {q:Fl→List Tm→Fl} {f:Nat→Tm→Tm} {A B:Int} {D:Nat} (hf:∀ d u,d≤D→u.k=7→good u→lowN A u→good (f d u)∧lowN B (f d u)) (t:Tm) :
  ∀ d,good t→lowN A t→d+cntT t≤D→good (mapT q f d t)∧lowN B (mapT q f d t):=by
 induction t using Tm.ind with
 | h t ih=>
  intro d gt lt hd
  rw [mapT_eq]
  by_cases h7:t.k=7
  ·rw [if_pos h7]
   exact hf d t (by omega) h7 gt lt
  ·rw [if_neg h7]
   obtain ⟨g1,g2,g3,g4,g5,g6,g7⟩:=(good_iff t).1 gt
   have lt':=((lowN_iff A t).1 lt).2
   have hlen:=mapTs_len q f d t t.l 0
   have memb:∀ u,u∈mapTs q f d t 0 t.l→good u∧lowN B u:=fun u hu=>by
    obtain ⟨j,hj,rfl⟩:=List.mem_iff_getElem.1 hu
    rw [mapTs_get q f d t t.l 0 j (by omega)]
    have hj':j < t.l.length:=by omega
    have:=in_cnt t j hj'
    exact ih _ (List.getElem_mem hj') _ (g7 _ (List.getElem_mem hj')) (lt' _ (List.getElem_mem hj')) (by rw [Nat.zero_add]; omega)
   exact ⟨(good_iff _).2 ⟨g1,g2,g3,g4,g5,by show (mapTs q f d t 0 t.l).length≤1000000; omega,fun u hu=>(memb u hu).1⟩,(lowN_iff B _).2 ⟨fun h=>absurd h h7,fun u hu=>(memb u hu).2⟩⟩
theorem mapT_cnt {q:Fl→List Tm→Fl} {f:Nat→Tm→Tm} {c D:Nat} (hc:1≤c) (hf:∀ d u,cntT u≤D→cntT (f d u)≤c * cntT u) (t:Tm):∀ d,cntT t≤D→cntT (mapT q f d t)≤c * cntT t:=by
 induction t using Tm.ind with
 | h t ih=>
  intro d hd
  have em:=cntT_eq t
  rw [mapT_eq]
  by_cases h7:t.k=7
  ·rw [if_pos h7]; exact hf d t hd
  ·rw [if_neg h7]
   have sums:∀ (l:List Tm) (i:Nat),(∀ x,x∈l→x∈t.l)→cntTs (mapTs q f d t i l)≤c * cntTs l:=by
    intro l
    induction l with
    | nil=>intro i _; rw [mapTs]; exact Nat.zero_le _
    | cons x l il=>
     intro i hx
     have a:=ih x (hx x (by simp)) (d+inT t i) (by have:=cntTs_mem (hx x (by simp)); omega)
     have b:=il (i+1) fun y hy=>hx y (by simp [hy])
     rw [mapTs,cntTs,cntTs,Nat.mul_add]
     omega
   have s0:=sums t.l 0 fun _ h=>h
   rw [cntT_eq (.mk t.k t.n t.s (q t.fl t.l) (mapTs q f d t 0 t.l) t.a t.b),em,Nat.mul_add]
   show cntTs (mapTs q f d t 0 t.l)+1≤_
   omega
theorem raF_ok {by' fr A B:Int} (h1:A+by'≤B) (h2:A≤B) (hA:A≤1000000000000000) (hby:-1000000000000000≤by'∧by'≤1000000000000000) (hfr:0≤fr) (d:Nat) (u:Tm) (h7:u.k=7) (gu:good u) (lu:lowN A u):good (raF by' fr d u)∧lowN B (raF by' fr d u):=by
 have hn:=((lowN_iff A u).1 lu).1 h7
 obtain ⟨g1,g2,g3,g4,g5,g6,g7⟩:=(good_iff u).1 gu
 have lo:∀ (x:Tm),lowN A x→lowN B x:=by
  intro x
  induction x using Tm.ind with
  | h x ih=>
   intro hx
   obtain ⟨p1,p2⟩:=(lowN_iff A x).1 hx
   exact (lowN_iff B x).2 ⟨fun h=>by have:=p1 h; omega,fun y hy=>ih y hy (p2 y hy)⟩
 have lp:=((lowN_iff A u).1 lu).2
 unfold raF
 by_cases h:fr≤(if u.n < d then -1 else u.n - d)
 ·rw [if_pos h]
  have hge:¬ u.n < d:=fun e=>by rw [if_pos e] at h; omega
  unfold in64 at g2
  refine ⟨(good_iff _).2 ⟨g1,?_,g3,g4,g5,g6,g7⟩,(lowN_iff B _).2 ⟨fun _=>?_,fun y hy=>lo y (lp y hy)⟩⟩
  ·unfold in64; show -9223372036854775808≤u.n+by'∧u.n+by'≤9223372036854775807; omega
  ·show u.n+by'≤B; omega
 ·rw [if_neg h]; exact ⟨gu,lo u lu⟩
theorem raF_er (by' fr:Int) (d:Nat) (t u:Tm) (h:er t=er u):er (raF by' fr d t)=er (raF by' fr d u):=by
 obtain ⟨h1,h2,h3,h4⟩:=(er_iff t u).1 h
 unfold raF
 rw [h2]
 by_cases hc:fr≤(if u.n < d then -1 else u.n - d)
 ·rw [if_pos hc,if_pos hc]
  exact (er_iff _ _).2 ⟨h1,rfl,h3,h4⟩
 ·rw [if_neg hc,if_neg hc]; exact h
theorem anyL_no (t:Tm):∀ d,anyL (fun _ _=>false) d t=false:=by
 induction t using Tm.ind with
 | h t ih=>
  intro d
  rw [anyL_eq]
  split
  ·rfl
  ·have parts:∀ (l:List Tm) (i:Nat),(∀ x,x∈l→x∈t.l)→anyLs (fun _ _=>false) d t i l=false:=by
    intro l
    induction l with
    | nil=>intro i _; rw [anyLs]
    | cons x l il=>intro i hx; rw [anyLs,ih x (hx x (by simp)),il (i+1) fun y hy=>hx y (by simp [hy])]; rfl
   exact parts t.l 0 fun _ h=>h
theorem loP_1:loP 1 0=fun _ _=>false:=by funext d n; simp [loP]
theorem loP_m (d:Nat) (n:Int):loP (-1) 0 d n=nmP 0 d n:=by
 unfold loP nmP
 by_cases h:n < d
 ·rw [if_pos h]; simp [h]
 ·rw [if_neg h]
  rw [Bool.eq_iff_iff]; simp only [decide_eq_true_eq]
  constructor
  ·intro q; omega
  ·intro q; omega
theorem fnP_n (a:Int) (ha:0≤a) (d:Nat) (n:Int):fnP a d n=nmP a d n:=by
 unfold fnP nmP
 by_cases h:n < d
 ·rw [if_pos h]
  rw [Bool.eq_iff_iff]; simp only [decide_eq_true_eq]; omega
 ·rw [if_neg h]; simp [h]
theorem asg_setR (a:Int) (ha:0≤a) (t:Tm):∀ d:Nat,asg (a+d) t=setR a d t:=by
 induction t using Tm.ind with
 | h t ih=>
  intro d
  rw [asg_eq,setR_eq]
  by_cases h7:t.k=7
  ·rw [if_pos h7,if_pos h7]
  rw [if_neg h7,if_neg h7]
  have hp:((t.k=22∧t.l≠[])∧(rootT (t.l.headD default)).k=7∧(rootT (t.l.headD default)).n=a+d)↔asP a d t=true:=by
   unfold asP nmP
   simp only [Bool.and_eq_true,decide_eq_true_eq]
   constructor
   ·rintro ⟨h1,h2,h3⟩
    refine ⟨h1,h2,?_⟩
    rw [if_neg (by omega)]; omega
   ·rintro ⟨h1,h2,h3⟩
    refine ⟨h1,h2,?_⟩
    split at h3 <;> omega
  by_cases hc:(t.k=22∧t.l≠[])∧(rootT (t.l.headD default)).k=7∧(rootT (t.l.headD default)).n=a+d
  ·rw [if_pos hc,if_pos (hp.1 hc)]
  ·rw [if_neg hc,if_neg (fun q=>hc (hp.2 q))]
   have parts:∀ (l:List Tm) (i:Nat),(∀ x,x∈l→x∈t.l)→asgs (a+d) t i l=setRs a d t i l:=by
    intro l
    induction l with
    | nil=>intro i _; rw [asgs,setRs]
    | cons x l il=>
     intro i hx
     rw [asgs,setRs,il (i+1) fun y hy=>hx y (by simp [hy])]
     have:=ih x (hx x (by simp)) (d+inT t i)
     rw [←this]
     congr 2
     omega
   exact parts t.l 0 fun _ h=>h
theorem asg_0 (a:Int) (ha:0≤a) (t:Tm):asg a t=setR a 0 t:=by
 have:=asg_setR a ha t 0
 simpa using this
def upP (e:Tm):Tm:=mapT qP (raF 1 0) 0 e
def upR (e:Tm):Tm:=mapT qE (raF 1 0) 0 e
theorem up_er (e:Tm):er (upP e)=er (upR e):=mapT_er (fun d t u h=>raF_er 1 0 d t u h) e e 0 rfl
theorem put_er {e e':Tm} (he:er e=er e') (d:Nat) (t u:Tm) (h:er t=er u):er (pgF e 0 d t)=er (puF e' 0 d u):=by
 obtain ⟨h1,h2,h3,h4⟩:=(er_iff t u).1 h
 unfold pgF puF
 rw [h2]
 by_cases hn:u.n < d
 ·rw [if_pos (.inl hn),if_pos hn,if_neg (fun q=>by have:=q.2; omega)]; exact h
 ·rw [if_neg hn]
  by_cases h0:u.n - d=0
  ·rw [if_neg (fun q=>q.elim hn fun q=>q h0),if_pos ⟨by omega,h0⟩]
   exact mapT_er (fun d t u h=>raF_er _ 0 d t u h) e e' 0 he
  ·rw [if_pos (.inr h0),if_neg (fun q=>h0 q.2)]; exact h
theorem raF_cnt (by' fr:Int) (d:Nat) (u:Tm):cntT (raF by' fr d u)≤1 * cntT u:=by
 unfold raF
 by_cases h:fr≤(if u.n < d then -1 else u.n - d)
 ·rw [if_pos h,cntT_eq,cntT_eq u,Nat.one_mul]; exact Nat.le_refl _
 ·rw [if_neg h]; omega
theorem upP_ok {e:Tm} (ge:good e) (le:lowN 1099511627776 e) (ce:cntT e≤400):good (upP e)∧lowN 1099511627777 (upP e)∧cntT (upP e)≤400:=by
 obtain ⟨h1,h2⟩:=mapT_ok (q:=qP) (f:=raF 1 0) (A:=1099511627776) (B:=1099511627777) (D:=400) (fun d u _ h7 gu lu=>raF_ok (by omega) (by omega) (by omega) (by omega) (by omega) d u h7 gu lu) e 0 ge le (by omega)
 have:=mapT_cnt (q:=qP) (f:=raF 1 0) (c:=1) (D:=400) (by omega) (fun d u _=>raF_cnt 1 0 d u) e 0 ce
 exact ⟨h1,h2,by unfold upP; omega⟩
theorem sub_ok {e r:Tm} (ge:good e) (le:lowN 1099511627777 e) (ce:cntT e≤400) (gr:good r) (lr:lowN 1099511627776 r) (cr:cntT r≤400):good (mapT qP (pgF e 0) 0 r)∧lowN 1099511628777 (mapT qP (pgF e 0) 0 r)∧cntT (mapT qP (pgF e 0) 0 r)≤160000:=by
 have lo:∀ (x:Tm),lowN 1099511627776 x→lowN 1099511628777 x:=by
  intro x
  induction x using Tm.ind with
  | h x ih=>
   intro hx
   obtain ⟨p1,p2⟩:=(lowN_iff _ x).1 hx
   exact (lowN_iff _ x).2 ⟨fun h=>by have:=p1 h; omega,fun y hy=>ih y hy (p2 y hy)⟩
 obtain ⟨h1,h2⟩:=mapT_ok (q:=qP) (f:=pgF e 0) (A:=1099511627776) (B:=1099511628777) (D:=400) (fun d u hd h7 gu lu=>by
  unfold pgF
  split
  ·exact ⟨gu,lo u lu⟩
  ·exact mapT_ok (D:=400) (fun d' u' _ h7 gu lu=>raF_ok (by omega) (by omega) (by omega) (by omega) (by omega) d' u' h7 gu lu) e 0 ge le (by omega)) r 0 gr lr (by omega)
 refine ⟨h1,h2,?_⟩
 have:=mapT_cnt (q:=qP) (f:=pgF e 0) (c:=400) (D:=400) (by omega) (fun d u hu=>by
  unfold pgF
  have:=cntT_eq u
  split
  ·omega
  ·have:=mapT_cnt (q:=qP) (f:=raF d 0) (c:=1) (D:=400) (by omega) (fun d' u' _=>raF_cnt d 0 d' u') e 0 ce
   omega) r 0 cr
 omega
theorem low_ok {x:Tm} (gx:good x) (lx:lowN 1099511628777 x) (cx:cntT x≤1000000):good (mapT qP (raF (-1) 0) 0 x):=
 (mapT_ok (q:=qP) (f:=raF (-1) 0) (A:=1099511628777) (B:=1099511628777) (D:=1000000) (fun d u _ h7 gu lu=>raF_ok (by omega) (by omega) (by omega) (by omega) (by omega) d u h7 gu lu) x 0 gx lx (by omega)).1
end Go.Nt.Li
set_option linter.unusedSimpArgs false
set_option maxRecDepth 20000
namespace Go.Nt.Li
open Go Go.Nt
abbrev cutL (fa:Fl) (ah:List Tm) (p r:Tm):List D:=[slE 6 fa (encTs ah),.int .i64 p.k,.int .i64 p.n,.str p.s,slE 6 p.fl (encTs p.l),.int .i64 p.a,.int .i64 p.b,.int .i64 r.k,.int .i64 r.n,.str r.s,slE 6 r.fl (encTs r.l),.int .i64 r.a,.int .i64 r.b]
abbrev cutD (fa:Fl) (ah:List Tm) (p r:Tm):D:=.agg (cutL fa ah p r)
abbrev blT (fl:Fl) (l:List Tm):Tm:=.mk 29 0 [] fl l 0 0
theorem c19 (t:Tm) (gt:good t) (h29:t.k=29) (hn:t.n=0) (hs:t.s=[]) (i:Nat) (hi:i < t.l.length) (st:St):∃ fa fr,callD T (ev T) 19 [encT t,.i i] st=some (.tup [cutD fa (t.l.take i) t.l[i] (blT fr (t.l.drop (i+1))),.bool true],st):=by
 have hl:=good_len gt
 obtain ⟨fa,e1⟩:=slice_to t.fl t.l i (by omega)
 have hw:IntKind.wrap .i64 ((i:Int)+1)=((i+1:Nat):Int):=by rw [wrap64] <;> omega
 have e2:=slE_from 6 t.fl (encTs t.l) .i64 ((i+1:Nat):Int) (by omega) (by simp; omega)
 simp only [Int.toNat_natCast,encTs_drop] at e2
 refine ⟨fa,t.fl.sub (encTs t.l),callD_pureR (fn:=F19) rfl rfl (by simp) (by simp) ?_⟩
 refine Ret_wp (fn:=F19) rfl ?_
 rw [F19]
 have h0:¬ (i:Int) < 0:=by omega
 have h1:¬ (t.l.length:Int)≤i:=by omega
 simp [h29,hn,hs,h0,h1,hi,e1,hw,e2,splice,fillD,-Int.natCast_add]
theorem c19n (t:Tm) (gt:good t) (i:Int) (h:¬ (t.k=29∧t.n=0∧t.s=[]∧0≤i∧i < t.l.length)) (st:St):∃ d,callD T (ev T) 19 [encT t,.int .i64 i] st=some (.tup [d,.bool false],st)∧d.okv=true∧d.cells.length=13∧d.cells.all D.okv=true:=by
 have q:callD T (ev T) 19 [encT t,.int .i64 i] st=some (.tup [.agg [.nils,.int .i64 0,.int .i64 0,.str [],.nils,.int .i64 0,.int .i64 0,.int .i64 0,.int .i64 0,.str [],.nils,.int .i64 0,.int .i64 0],.bool false],st):=by
  refine callD_pureR (fn:=F19) rfl rfl (by simp) (by simp) ?_
  refine Ret_wp (fn:=F19) rfl ?_
  rw [F19]
  by_cases h29:t.k=29
  ·by_cases hn:t.n=0
   ·by_cases hs:t.s=[]
    ·by_cases h0:i < 0
     ·simp [h29,hn,hs,h0,splice,fillD]
     ·have h1:(t.l.length:Int)≤i:=by
       apply Classical.byContradiction
       intro q
       exact h ⟨h29,hn,hs,by omega,by omega⟩
      simp [h29,hn,hs,h0,h1,splice,fillD]
    ·simp [h29,hn,hs,splice,fillD]
   ·simp [h29,hn,splice,fillD]
  ·simp [h29,splice,fillD]
 exact ⟨_,q,rfl,rfl,rfl⟩
theorem c27 (fa:Fl) (ah:List Tm) (p r:Tm) (st:St):callD T (ev T) 27 [cutD fa ah p r] st=some (.tup [encT (if p.k=20∧p.l.length=1 then p.l.headD T0 else T0),.bool (decide (p.k=20∧p.l.length=1))],st):=by
 refine callD_pureR (fn:=F27) rfl rfl (by simp) (by simp) ?_
 refine Ret_wp (fn:=F27) rfl ?_
 rw [F27]
 by_cases h20:p.k=20
 ·by_cases h1:p.l.length=1
  ·have h1':(p.l.length:Int)=1:=by omega
   obtain ⟨x,hx⟩:=List.length_eq_one_iff.1 h1
   simp [h20,h1,hx,splice]
   rw [encT_eq]
  ·have h1':¬ (p.l.length:Int)=1:=by omega
   simp [h20,h1,h1',splice,fillD,encT_0]
 ·simp [h20,splice,fillD,encT_0]
theorem c31 (fa:Fl) (ah:List Tm) (p r:Tm) (gr:good r) (cr:cntT r≤400) (k:Int) (hk:0≤k∧k≤1000000000000000) (st:St):callD T (ev T) 31 [cutD fa ah p r,.int .i64 k] st=some (.bool (!asg (k+1) r),st):=by
 refine callD_pureR (fn:=F31) rfl rfl (by simp) (by simp) ?_
 refine Ret_wp (fn:=F31) rfl ?_
 rw [F31]
 obtain ⟨n,rfl⟩:∃ n:Nat,k=n:=⟨k.toNat,by omega⟩
 have hw:IntKind.wrap .i64 ((n:Int)+1)=((n+1:Nat):Int):=by rw [wrap64] <;> omega
 have q:=c29 r gr (n+1) (by omega)
 have e:((n:Int)+1)=((n+1:Nat):Int):=by omega
 rw [e]
 simp [splice,hw,←encT_eq r,q,-Int.natCast_add]
theorem l30 (cap:D) (e:Tm) (ge:good e) (P:Int→Prop) (hc:∀ u,u∈e.l→∀ st,∃ b,callD T (ev T) 30 [encT u,.fn 31 [cap] []] st=some (.bool b,st)∧(b=true↔∀ n,n∈loT u→P n)):∀ (r i:Nat) (s:List D) (bx:List (Nat × List D)) (st:St),r=e.l.length - i→i≤e.l.length →
  get s 1=.fn 31 [cap] []→get s 20=slE 6 e.fl (encTs e.l)→get s 21=.i e.l.length→get s 22=.i i→Stops (lp T L30_0 ⟨⟨s,bx⟩,st⟩) fun ex s' _ _=>(ex=.exit 0∧∀ n,n∈loTs (e.l.drop i)→P n)∨(ex=.ret∧get s' 4=.bool false∧¬ ∀ n,n∈loTs (e.l.drop i)→P n):=by
 intro r
 have hl:=good_len ge
 induction r with
 | zero=>
  intro i s bx st hr hi h1 h20 h21 h22
  have e':i=e.l.length:=by omega
  subst e'
  rw [List.drop_length,loTs]
  refine Stops_wp L30_0.eq_1 ?_
  simp [h1,h20,h21,h22]
 | succ r ih=>
  intro i s bx st hr hi h1 h20 h21 h22
  have hlt:i < e.l.length:=by omega
  have hw:IntKind.wrap .i64 ((i:Int)+1)=((i+1:Nat):Int):=by rw [wrap64] <;> omega
  obtain ⟨b,q,hb⟩:=hc _ (List.getElem_mem hlt) st
  have nx:=fun s' bx'=>ih (i+1) s' bx' st (by omega) (by omega)
  have hd:(∀ n,n∈loTs (e.l.drop i)→P n)↔(b=true∧∀ n,n∈loTs (e.l.drop (i+1))→P n):=by
   rw [List.drop_eq_getElem_cons hlt,loTs,hb]
   simp only [List.mem_append]
   exact ⟨fun h=>⟨fun n hn=>h n (.inl hn),fun n hn=>h n (.inr hn)⟩,fun h n hn=>hn.elim (h.1 n) (h.2 n)⟩
  simp only [hd]
  generalize (∀ n,n∈loTs (e.l.drop (i+1))→P n)=Q at *
  cases b with
  | true=>
   refine Stops_wp L30_0.eq_1 ?_
   simp [h1,h20,h21,h22,hlt,hw,splice,←encT_eq,q,-Int.natCast_add]
   refine nx _ _ ?_ ?_ ?_ ?_ <;> simp [h1,h20,h21]
  | false=>
   refine Stops_wp L30_0.eq_1 ?_
   simp [h1,h20,h21,h22,hlt,splice,←encT_eq,q]
theorem c30 (fa:Fl) (ah:List Tm) (p r:Tm) (gr:good r) (cr:cntT r≤400) (e:Tm):good e→lowN 1099511627776 e→∀ st,∃ b,callD T (ev T) 30 [encT e,.fn 31 [cutD fa ah p r] []] st=some (.bool b,st)∧(b=true↔∀ n,n∈loT e→n < 0∨asg (n+1) r=false):=by
 induction e using Tm.ind with
 | h e ih=>
  intro ge le st
  have hl:=good_len ge
  obtain ⟨l1,l2⟩:=(lowN_iff _ e).1 le
  have go:Ret (ev T 30 [encT e,.fn 31 [cutD fa ah p r] []] []) fun v _=>∃ b,v=.bool b∧(b=true↔∀ n,n∈loT e→n < 0∨asg (n+1) r=false):=by
   refine Ret_wp (fn:=F30) rfl ?_
   rw [F30,loT_eq]
   by_cases h7:e.k=7
   ·rw [if_pos h7]
    by_cases h0:e.n < 0
    ·simp [h7,h0]
    ·have q:=c31 fa ah p r gr cr e.n ⟨by omega,by have:=l1 h7; omega⟩
     simp [h7,h0,q]
   ·rw [if_neg h7]
    have lo:=fun s bx st=>l30 (cutD fa ah p r) e ge (fun n=>n < 0∨asg (n+1) r=false) (fun u hu st=>ih u hu (good_mem ge hu) (l2 u hu) st) e.l.length 0 s bx st (by omega) (by omega)
    simp only [List.drop_zero] at lo
    generalize (∀ n,n∈loTs e.l→n < 0∨asg (n+1) r=false)=P at *
    simp [h7]
    refine WL.use L30_0_p L30_0_w (lo _ _ _ ?_ ?_ ?_ ?_) ?_
    iterate 4 simp
    rintro e' s' b' st' (⟨rfl,p1⟩ | ⟨rfl,p1,p2⟩) hf
    ·simp [p1]
    ·simp [p1,p2]
  obtain ⟨v,st',g,b,rfl,hb⟩:=go
  exact ⟨b,callD_pure (fn:=F30) (st2:=st') rfl rfl (by simp) g (by simp) (by simp),hb⟩
def frontT (t:Tm):Int:=if t.k=22∧1 < t.l.length then 1 else if (t.k=20∨t.k=26∨t.k=27∨t.k=28∨t.k=23)∧0 < t.l.length then 0 else -1
theorem c36 (t:Tm) (gt:good t) (st:St):callD T (ev T) 36 [encT t] st=some (.int .i64 (frontT t),st):=by
 refine callD_pureR (fn:=F36) rfl rfl (by simp) (by simp) ?_
 refine Ret_wp (fn:=F36) rfl ?_
 rw [F36]
 have hl:=good_len gt
 unfold frontT
 by_cases h22:t.k=22
 ·by_cases h1:1 < t.l.length
  ·have h1':¬ (t.l.length:Int)≤1:=by omega
   simp [h22,h1,h1']
  ·have h1':(t.l.length:Int)≤1:=by omega
   simp [h22,h1,h1']
 ·by_cases hk:t.k=20∨t.k=26∨t.k=27∨t.k=28∨t.k=23
  ·by_cases h0:0 < t.l.length
   ·have h0':¬ (t.l.length:Int)≤0:=by omega
    have hne:t.l≠[]:=List.length_pos_iff.1 h0
    rcases hk with hk | hk | hk | hk | hk <;> simp [hk,h0,h0',hne]
   ·have h0':(t.l.length:Int)≤0:=by omega
    have h00:t.l.length=0:=by omega
    rcases hk with hk | hk | hk | hk | hk <;> simp [hk,h00]
  ·have n1:t.k≠20:=by omega
   have n2:t.k≠26:=by omega
   have n3:t.k≠27:=by omega
   have n4:t.k≠28:=by omega
   have n5:t.k≠23:=by omega
   have hm:¬ (t.l.length:Int)≤-1:=by omega
   simp [h22,n1,n2,n3,n4,n5,hm]
theorem c71 (t:Tm) (gt:good t) (st:St):callD T (ev T) 71 [encT t] st=some (.int .i64 (frontT t),st):=by
 refine callD_pureR (fn:=F71) rfl rfl (by simp) (by simp) ?_
 refine Ret_wp (fn:=F71) rfl ?_
 rw [F71]
 have hl:=good_len gt
 unfold frontT
 by_cases h22:t.k=22
 ·by_cases h1:1 < t.l.length
  ·have h1':(1:Int) < t.l.length:=by omega
   simp [h22,h1,h1']
  ·have h1':¬ (1:Int) < t.l.length:=by omega
   simp [h22,h1,h1']
 ·by_cases hk:t.k=20∨t.k=26∨t.k=27∨t.k=28∨t.k=23
  ·by_cases h0:0 < t.l.length
   ·have h0':(0:Int) < t.l.length:=by omega
    have hne:t.l≠[]:=List.length_pos_iff.1 h0
    rcases hk with hk | hk | hk | hk | hk <;> simp [hk,h0,h0',hne]
   ·have h00:t.l.length=0:=by omega
    rcases hk with hk | hk | hk | hk | hk <;> simp [hk,h00]
  ·have n1:t.k≠20:=by omega
   have n2:t.k≠26:=by omega
   have n3:t.k≠27:=by omega
   have n4:t.k≠28:=by omega
   have n5:t.k≠23:=by omega
   simp [h22,n1,n2,n3,n4,n5]
end Go.Nt.Li
