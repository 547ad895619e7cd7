/-
  VALUES: trees (V), and how they read as data.
  No condition.
-/
import Derived.Test.YtnflammoeakgfaaGreatNtSim
import Derived.Test.YtnflammoeakgfaaGreatNtRead
import Derived.Test.YtnflammoeakgfaaGreatLiIr
namespace Go.Nt
inductive V where
 | mk (n:Int) (fl:Fl) (l:List V)
 deriving Inhabited
def V.n:V→Int | .mk n _ _=>n
def V.fl:V→Fl | .mk _ fl _=>fl
def V.l:V→List V | .mk _ _ l=>l
mutual
 def encV:V→D
  | .mk n fl l=>.agg [.int .i64 n,slE 2 fl (encVs l)]
 def encVs:List V→List D
  | []=>[]
  | v::l=>encV v::encVs l
end
@[simp] theorem encVs_nil:encVs []=[]:=by simp [encVs]
@[simp] theorem encVs_cons (v:V) (l:List V):encVs (v::l)=encV v::encVs l:=by simp [encVs]
theorem encVs_map (l:List V):encVs l=l.map encV:=by induction l <;> simp_all
@[simp] theorem encVs_len (l:List V):(encVs l).length=l.length:=by simp [encVs_map]
@[simp] theorem encVs_get (l:List V) (i:Nat):(encVs l)[i]?=l[i]?.map encV:=by simp [encVs_map]
@[simp] theorem encVs_at (l:List V) (i:Nat) (h:i < (encVs l).length):(encVs l)[i]=encV (l[i]'(by simpa using h)):=by simp [encVs_map]
theorem encVs_drop (l:List V) (i:Nat):(encVs l).drop i=encVs (l.drop i):=by simp [encVs_map]
theorem encVs_append (l r:List V):encVs (l++r)=encVs l++encVs r:=by simp [encVs_map]
theorem encV_eq (v:V):encV v=.agg [.int .i64 v.n,slE 2 v.fl (encVs v.l)]:=by cases v; simp [encV,V.n,V.fl,V.l]
@[simp] theorem encV_cells (v:V):(encV v).cells=[.int .i64 v.n,slE 2 v.fl (encVs v.l)]:=by rw [encV_eq]; rfl
@[simp] theorem encV_fits (v:V):(encV v).fits (some 2)=true:=by rw [encV_eq]; rfl
@[simp] theorem encV_okv (v:V):(encV v).okv=true:=by rw [encV_eq]; rfl
@[simp] theorem encV_pure (v:V):(encV v).pure=true:=by rw [encV_eq]; simp
@[simp] theorem encV_pureT (v:V):(encV v).pureT=true:=by rw [encV_eq]; simp
@[simp] theorem encV_fz1 (st:St) (v:V):fz1 st (encV v)=some (encV v,st):=by rw [encV_eq]; simp
@[simp] theorem encV_fz (st:St) (v:V):fz st (encV v)=some (encV v,st):=by rw [encV_eq]; simp
@[simp] theorem rewrap_encV (v:V) (ds:List D):rewrap (encV v) ds=some (.agg ds):=by rw [encV_eq]; rfl
theorem encVs_set (l:List V) (k:Nat) (u:V):encVs (l.set k u)=(encVs l).set k (encV u):=by simp [encVs_map,List.map_set]
theorem kHs_encV (u:V) (l:List V) (mod k:Nat) (hk:k < l.length):kHs [.cells false 2 0 mod false (encVs l)] 0 0 2 k 0 (encV u) (.cells false 2 0 mod false (encVs l))=some (.undef,none,some [.cells false 2 0 (mod+1) false (encVs (l.set k u))]):=by
 simp [kHs,hk,←encV_eq,encVs_set]
theorem V.ind {p:V→Prop} (h:∀ v,(∀ u,u∈v.l→p u)→p v) (v:V):p v:=
 V.rec (motive_1:=p) (motive_2:=fun l=>∀ u,u∈l→p u)
  (fun n fl l ih=>h (.mk n fl l) ih)
  (fun u hu=>by cases hu)
  (fun v l hv hl u hu=>by
   cases hu with
   | head=>exact hv
   | tail _ hu=>exact hl u hu) v
mutual
 def same:V→V→Bool
  | .mk n _ l,.mk m _ k=>n == m && sames l k
 def sames:List V→List V→Bool
  | [],[]=>true
  | v::l,u::k=>same v u && sames l k
  | _,_=>false
end
end Go.Nt
namespace Go.Nt
open Go Go.ChangeShapes Go.WideShapes Go.RowKit
def in64 (n:Int):Prop:=-9223372036854775808≤n∧n≤9223372036854775807
mutual
 def V.ok:V→Prop
  | .mk n _ l=>in64 n∧l.length≤9223372036854775807∧V.oks l
 def V.oks:List V→Prop
  | []=>True
  | v::l=>v.ok∧V.oks l
end
theorem V.oks_iff (l:List V):V.oks l↔∀ v,v∈l→v.ok:=by
 induction l with
 | nil=>simp [V.oks]
 | cons v l ih=>simp [V.oks,ih]
theorem V.ok_iff (v:V):v.ok↔in64 v.n∧v.l.length≤9223372036854775807∧∀ u,u∈v.l→u.ok:=by
 cases v; simp [V.ok,V.n,V.l,V.oks_iff]
theorem wf64 {n:Int} (h:(Lit.int .i64 n).wf=true):in64 n:=by
 simp [Lit.wf,IntKind.min,IntKind.max,IntKind.signed,IntKind.bits] at h
 unfold in64; omega
variable {H:Type} {enc:TypeId × Value→H} {P:Program} {w:World} {base:Nat} {spare:Nat→Bool} {held:Bool}
theorem read_V {tV tS tI:TypeId} {f0 f1:Field} (hV:P.underlying tV=some (.struct #[f0,f1])) (e0:f0.type=tI) (o0:f0.offset=0) (e1:f1.type=tS) (o1:f1.offset=1)
  (hI:P.underlying tI=some (.int .i64)) (hS:P.underlying tS=some (.slice tV)) (c:P.cellsOf tV=2) (cI:P.cellsOf tI=1) (cS:P.cellsOf tS=1) :
  ∀ (fuel:Nat) (cs:List Value) (x:DataW H × List MemPlace),DataW.trod enc P w base spare held fuel tV cs=some x→∃ v:V,v.ok∧Rep w N0 [] bl0 (.agg cs.toArray) (encV v):=by
 intro fuel
 induction fuel using Nat.strongRecOn with
 | ind fuel ih=>
  intro cs x h
  obtain ⟨xs,n,rfl,rfl,hl,hlen,hf⟩:=DataW.trod_struct hV h
  rw [c] at hl
  match cs,hl with
  | [c0,c1],_=>
   match xs,hlen with
   | [y0,y1],_=>
    have h0:=hf 0 f0 rfl
    have h1:=hf 1 f1 rfl
    simp only [e0,o0,cI,e1,o1,cS,List.drop_zero,List.take_succ_cons,List.take_zero,List.drop_succ_cons,List.getElem?_cons_zero,List.getElem?_cons_succ] at h0 h1
    obtain ⟨n0,q0,_,hw0⟩:=DataW.trod_int hI h0
    obtain rfl:c0=.int .i64 n0:=by simpa using q0
    have mk:∀ (fl:Fl) (l:List V),l.length≤9223372036854775807→(∀ u,u∈l→u.ok)→Rep w N0 [] bl0 c1 (slE 2 fl (l.map encV))→∃ v:V,v.ok∧Rep w N0 [] bl0 (.agg #[.int .i64 n0,c1]) (encV v):=by
     intro fl l g1 g2 g3
     refine ⟨.mk n0 fl l,(V.ok_iff _).2 ⟨wf64 hw0,g1,g2⟩,?_⟩
     rw [encV_eq,encVs_map]
     refine .agg _ _ rfl ?_ ?_
     ·intro i d hd
      match i,hd with
      | 0,hd=>simp at hd; subst hd; rfl
      | 1,hd=>simp at hd; subst hd; cases fl <;> cases l <;> rfl
     ·intro i v d hv hd
      match i,hv,hd with
      | 0,hv,hd=>simp at hv hd; subst hv; subst hd; exact .int _ _
      | 1,hv,hd=>simp at hv hd; subst hv; subst hd; exact g3
    rcases DataW.trod_slice hS h1 with ⟨q1,_⟩ | ⟨a,len,cap,elems,rest,m,rfl,q1,_,_,hlc,hcm,hel,hat,_⟩
    ·obtain rfl:c1=.slice none 0 0:=by simpa using q1
     exact mk .nil [] (by simp) (fun u hu=>by simp at hu) .nils
    ·obtain rfl:c1=.slice (some a) len cap:=by simpa using q1
     rw [c] at hat
     obtain ⟨l,l1,l2,l3⟩:=rep_slice (w:=w) (base:=base) (enc:=encV) (a:=a) (len:=len) (cap:=cap) (sz:=2) V.ok (by omega) hlc (fun v _=>⟨encV_pure v,by simp⟩) (by
      intro i hi
      have hi':i < elems.length:=by omega
      have:=hat i hi
      rw [List.getElem?_eq_getElem hi',Option.bind_eq_some_iff] at this
      obtain ⟨es,he,ht⟩:=this
      obtain ⟨v,hv,hr⟩:=ih m (by omega) es _ ht
      exact ⟨es,.agg es.toArray,v,he,by simp [Value.cells],hr,hv⟩)
     have hml:maxLen=9223372036854775807:=rfl
     exact mk .part l (by omega) l2 l3
theorem read_ints {tS tI:TypeId} (hI:P.underlying tI=some (.int .i64)) (hS:P.underlying tS=some (.slice tI)) (cI:P.cellsOf tI=1) {fuel:Nat} {v:Value} {x:DataW H × List MemPlace}
  (h:DataW.trod enc P w base spare held fuel tS [v]=some x):∃ (fl:Fl) (l:List Int),l.length≤9223372036854775807∧(∀ n,n∈l→in64 n)∧Rep w N0 [] bl0 v (slE 1 fl (l.map (.int .i64))):=by
 rcases DataW.trod_slice hS h with ⟨q1,_⟩ | ⟨a,len,cap,elems,rest,m,rfl,q1,_,_,hlc,hcm,hel,hat,_⟩
 ·obtain rfl:v=.slice none 0 0:=by simpa using q1
  exact ⟨.nil,[],by simp,(fun u hu=>by simp at hu),.nils⟩
 ·obtain rfl:v=.slice (some a) len cap:=by simpa using q1
  rw [cI] at hat
  obtain ⟨l,l1,l2,l3⟩:=rep_slice (w:=w) (base:=base) (enc:=fun n:Int=>D.int .i64 n) (a:=a) (len:=len) (cap:=cap) (sz:=1) in64 (by omega) hlc (fun v _=>⟨rfl,rfl⟩) (by
   intro i hi
   have hi':i < elems.length:=by omega
   have:=hat i hi
   rw [List.getElem?_eq_getElem hi',Option.bind_eq_some_iff] at this
   obtain ⟨es,he,ht⟩:=this
   obtain ⟨n,rfl,_,hw⟩:=DataW.trod_int hI ht
   exact ⟨_,.int .i64 n,n,he,rfl,.int _ _,wf64 hw⟩)
  have hml:maxLen=9223372036854775807:=rfl
  exact ⟨.part,l,by omega,l2,l3⟩
end Go.Nt
namespace Go.Nt
open Go Go.ChangeShapes Go.WideShapes Go.RowKit
inductive Tm where
 | mk (k n:Int) (s:List UInt8) (fl:Fl) (l:List Tm) (a b:Int)
 deriving Inhabited
def Tm.k:Tm→Int | .mk k _ _ _ _ _ _=>k
def Tm.n:Tm→Int | .mk _ n _ _ _ _ _=>n
def Tm.s:Tm→List UInt8 | .mk _ _ s _ _ _ _=>s
def Tm.fl:Tm→Fl | .mk _ _ _ fl _ _ _=>fl
def Tm.l:Tm→List Tm | .mk _ _ _ _ l _ _=>l
def Tm.a:Tm→Int | .mk _ _ _ _ _ a _=>a
def Tm.b:Tm→Int | .mk _ _ _ _ _ _ b=>b
mutual
 def encT:Tm→D
  | .mk k n s fl l a b=>.agg [.int .i64 k,.int .i64 n,.str s,slE 6 fl (encTs l),.int .i64 a,.int .i64 b]
 def encTs:List Tm→List D
  | []=>[]
  | v::l=>encT v::encTs l
end
@[simp] theorem encTs_nil:encTs []=[]:=by simp [encTs]
@[simp] theorem encTs_cons (v:Tm) (l:List Tm):encTs (v::l)=encT v::encTs l:=by simp [encTs]
theorem encTs_map (l:List Tm):encTs l=l.map encT:=by induction l <;> simp_all
@[simp] theorem encTs_len (l:List Tm):(encTs l).length=l.length:=by simp [encTs_map]
@[simp] theorem encTs_get (l:List Tm) (i:Nat):(encTs l)[i]?=l[i]?.map encT:=by simp [encTs_map]
@[simp] theorem encTs_at (l:List Tm) (i:Nat) (h:i < (encTs l).length):(encTs l)[i]=encT (l[i]'(by simpa using h)):=by simp [encTs_map]
theorem encTs_drop (l:List Tm) (i:Nat):(encTs l).drop i=encTs (l.drop i):=by simp [encTs_map]
theorem encTs_append (l r:List Tm):encTs (l++r)=encTs l++encTs r:=by simp [encTs_map]
abbrev clT (v:Tm):List D:=[.int .i64 v.k,.int .i64 v.n,.str v.s,slE 6 v.fl (encTs v.l),.int .i64 v.a,.int .i64 v.b]
theorem encT_eq (v:Tm):encT v=.agg [.int .i64 v.k,.int .i64 v.n,.str v.s,slE 6 v.fl (encTs v.l),.int .i64 v.a,.int .i64 v.b]:=by cases v; simp [encT,Tm.k,Tm.n,Tm.s,Tm.fl,Tm.l,Tm.a,Tm.b]
@[simp] theorem encT_cells (v:Tm):(encT v).cells=[.int .i64 v.k,.int .i64 v.n,.str v.s,slE 6 v.fl (encTs v.l),.int .i64 v.a,.int .i64 v.b]:=by rw [encT_eq]; rfl
@[simp] theorem encT_fits (v:Tm):(encT v).fits (some 6)=true:=by rw [encT_eq]; rfl
@[simp] theorem encT_okv (v:Tm):(encT v).okv=true:=by rw [encT_eq]; rfl
@[simp] theorem encT_pure (v:Tm):(encT v).pure=true:=by rw [encT_eq]; simp
@[simp] theorem encT_pureT (v:Tm):(encT v).pureT=true:=by rw [encT_eq]; simp
@[simp] theorem encT_fz1 (st:St) (v:Tm):fz1 st (encT v)=some (encT v,st):=by rw [encT_eq]; simp
@[simp] theorem encT_fz (st:St) (v:Tm):fz st (encT v)=some (encT v,st):=by rw [encT_eq]; simp
@[simp] theorem rewrap_encT (v:Tm) (ds:List D):rewrap (encT v) ds=some (.agg ds):=by rw [encT_eq]; rfl
theorem Tm.ind {p:Tm→Prop} (h:∀ v,(∀ u,u∈v.l→p u)→p v) (v:Tm):p v:=
 Tm.rec (motive_1:=p) (motive_2:=fun l=>∀ u,u∈l→p u)
  (fun k n s fl l a b ih=>h (.mk k n s fl l a b) ih)
  (fun u hu=>by cases hu)
  (fun v l hv hl u hu=>by
   cases hu with
   | head=>exact hv
   | tail _ hu=>exact hl u hu) v
mutual
 def Tm.ok:Tm→Prop
  | .mk k n s _ l a b=>in64 k∧in64 n∧s.length≤9223372036854775807∧in64 a∧in64 b∧l.length≤9223372036854775807∧Tm.oks l
 def Tm.oks:List Tm→Prop
  | []=>True
  | v::l=>v.ok∧Tm.oks l
end
theorem Tm.oks_iff (l:List Tm):Tm.oks l↔∀ v,v∈l→v.ok:=by
 induction l with
 | nil=>simp [Tm.oks]
 | cons v l ih=>simp [Tm.oks,ih]
theorem Tm.ok_iff (v:Tm):v.ok↔in64 v.k∧in64 v.n∧v.s.length≤9223372036854775807∧in64 v.a∧in64 v.b∧v.l.length≤9223372036854775807∧∀ u,u∈v.l→u.ok:=by
 cases v; simp [Tm.ok,Tm.k,Tm.n,Tm.s,Tm.l,Tm.a,Tm.b,Tm.oks_iff]
mutual
 def cntT:Tm→Nat
  | .mk _ _ _ _ l _ _=>cntTs l+1
 def cntTs:List Tm→Nat
  | []=>0
  | v::l=>cntT v+cntTs l
end
theorem cntT_eq (v:Tm):cntT v=cntTs v.l+1:=by cases v; simp [cntT,Tm.l]
theorem cntTs_len (l:List Tm):l.length≤cntTs l:=by
 induction l with
 | nil=>simp [cntTs]
 | cons v l ih=>have:=cntT_eq v; simp only [cntTs,List.length_cons]; omega
theorem cntTs_mem {l:List Tm} {u:Tm} (h:u∈l):cntT u≤cntTs l:=by
 induction l with
 | nil=>cases h
 | cons v l ih=>
  simp only [cntTs]
  cases h with
  | head=>omega
  | tail _ h=>have:=ih h; omega
variable {H:Type} {enc:TypeId × Value→H} {P:Program} {w:World} {base:Nat} {spare:Nat→Bool} {held:Bool}
theorem read_T {tV tS tI tN tZ:TypeId} {f0 f1 f2 f3 f4 f5:Field} (hV:P.underlying tV=some (.struct #[f0,f1,f2,f3,f4,f5])) (e0:f0.type=tI) (o0:f0.offset=0) (e1:f1.type=tN) (o1:f1.offset=1)
  (e2:f2.type=tZ) (o2:f2.offset=2) (e3:f3.type=tS) (o3:f3.offset=3) (e4:f4.type=tI) (o4:f4.offset=4) (e5:f5.type=tI) (o5:f5.offset=5)
  (hI:P.underlying tI=some (.int .i64)) (hN:P.underlying tN=some (.int .i64)) (hZ:P.underlying tZ=some .string) (hS:P.underlying tS=some (.slice tV)) (c:P.cellsOf tV=6) (cI:P.cellsOf tI=1) (cN:P.cellsOf tN=1) (cZ:P.cellsOf tZ=1) (cS:P.cellsOf tS=1) :
  ∀ (fuel:Nat) (cs:List Value) (x:DataW H × List MemPlace),DataW.trod enc P w base spare held fuel tV cs=some x→∃ v:Tm,v.ok∧Rep w N0 [] bl0 (.agg cs.toArray) (encT v):=by
 intro fuel
 induction fuel using Nat.strongRecOn with
 | ind fuel ih=>
  intro cs x h
  obtain ⟨xs,n,rfl,rfl,hl,hlen,hf⟩:=DataW.trod_struct hV h
  rw [c] at hl
  match cs,hl with
  | [c0,c1,c2,c3,c4,c5],_=>
   match xs,hlen with
   | [y0,y1,y2,y3,y4,y5],_=>
    have h0:=hf 0 f0 rfl
    have h1:=hf 1 f1 rfl
    have h2:=hf 2 f2 rfl
    have h3:=hf 3 f3 rfl
    have h4:=hf 4 f4 rfl
    have h5:=hf 5 f5 rfl
    simp only [e0,o0,cI,e1,o1,cS,e2,o2,e3,o3,e4,o4,e5,o5,cN,cZ,List.drop_zero,List.take_succ_cons,List.take_zero,List.drop_succ_cons,List.getElem?_cons_zero,List.getElem?_cons_succ] at h0 h1 h2 h3 h4 h5
    obtain ⟨n0,q0,_,hw0⟩:=DataW.trod_int hI h0
    obtain rfl:c0=.int .i64 n0:=by simpa using q0
    obtain ⟨n1,q1,_,hw1⟩:=DataW.trod_int hN h1
    obtain rfl:c1=.int .i64 n1:=by simpa using q1
    obtain ⟨s2,q2,_,hw2⟩:=DataW.trod_string hZ h2
    obtain rfl:c2=.string s2:=by simpa using q2
    obtain ⟨n4,q4,_,hw4⟩:=DataW.trod_int hI h4
    obtain rfl:c4=.int .i64 n4:=by simpa using q4
    obtain ⟨n5,q5,_,hw5⟩:=DataW.trod_int hI h5
    obtain rfl:c5=.int .i64 n5:=by simpa using q5
    have hml:maxLen=9223372036854775807:=rfl
    have mk:∀ (fl:Fl) (l:List Tm),l.length≤9223372036854775807→(∀ u,u∈l→u.ok)→Rep w N0 [] bl0 c3 (slE 6 fl (encTs l)) →
      ∃ v:Tm,v.ok∧Rep w N0 [] bl0 (.agg #[.int .i64 n0,.int .i64 n1,.string s2,c3,.int .i64 n4,.int .i64 n5]) (encT v):=by
     intro fl l g1 g2 g3
     refine ⟨.mk n0 n1 s2.data.toList fl l n4 n5,(Tm.ok_iff _).2 ⟨wf64 hw0,wf64 hw1,by simp [Tm.s]; rw [←hml]; exact hw2,wf64 hw4,wf64 hw5,g1,g2⟩,?_⟩
     rw [encT_eq]
     refine .agg _ _ rfl ?_ ?_
     ·intro i d hd
      match i,hd with
      | 0,hd=>simp at hd; subst hd; rfl
      | 1,hd=>simp at hd; subst hd; rfl
      | 2,hd=>simp at hd; subst hd; rfl
      | 3,hd=>simp at hd; subst hd; cases fl <;> cases l <;> rfl
      | 4,hd=>simp at hd; subst hd; rfl
      | 5,hd=>simp at hd; subst hd; rfl
     ·intro i v d hv hd
      match i,hv,hd with
      | 0,hv,hd=>simp at hv hd; subst hv; subst hd; exact .int _ _
      | 1,hv,hd=>simp at hv hd; subst hv; subst hd; exact .int _ _
      | 2,hv,hd=>simp at hv hd; subst hv; subst hd; exact .str _
      | 3,hv,hd=>simp at hv hd; subst hv; subst hd; exact g3
      | 4,hv,hd=>simp at hv hd; subst hv; subst hd; exact .int _ _
      | 5,hv,hd=>simp at hv hd; subst hv; subst hd; exact .int _ _
    rcases DataW.trod_slice hS h3 with ⟨q1,_⟩ | ⟨a,len,cap,elems,rest,m,rfl,q1,_,_,hlc,hcm,hel,hat,_⟩
    ·obtain rfl:c3=.slice none 0 0:=by simpa using q1
     exact mk .nil [] (by simp) (fun u hu=>by simp at hu) .nils
    ·obtain rfl:c3=.slice (some a) len cap:=by simpa using q1
     rw [c] at hat
     obtain ⟨l,l1,l2,l3⟩:=rep_slice (w:=w) (base:=base) (enc:=encT) (a:=a) (len:=len) (cap:=cap) (sz:=6) Tm.ok (by omega) hlc (fun v _=>⟨encT_pure v,by simp⟩) (by
      intro i hi
      have hi':i < elems.length:=by omega
      have:=hat i hi
      rw [List.getElem?_eq_getElem hi',Option.bind_eq_some_iff] at this
      obtain ⟨es,he,ht⟩:=this
      obtain ⟨v,hv,hr⟩:=ih m (by omega) es _ ht
      exact ⟨es,.agg es.toArray,v,he,by simp [Value.cells],hr,hv⟩)
     rw [←encTs_map] at l3
     exact mk .part l (by omega) l2 l3
end Go.Nt
set_option linter.unusedSimpArgs false
namespace Go.Nt.Li
open Go Go.Nt
theorem l11 (v:Tm) (hv:v.l.length≤9223372036854775807) (ml:Int) (hm:0 < ml∧ml≤1000)
  (ih:∀ u,u∈v.l→∀ (left lv:Int) (st:St),0≤left∧left≤1000→0≤lv∧lv≤1000→∃ r,callD T (ev T) 11 [encT u,.int .i64 left,.int .i64 lv] st=some (.int .i64 r,st)∧-1≤r∧r≤left∧(0≤r→r=left - cntT u)) :
  ∀ (r i:Nat) (left:Int) (s:List D) (bx:List (Nat × List D)),r=v.l.length - i→i≤v.l.length→-1≤left∧left≤1000→get s 1=.int .i64 left→get s 2=.int .i64 ml→get s 3=.lp 3 1 0→getB bx 3=(1,clT v)→get s 7=.int .i64 i →
  Stops (lp T L11_0 ⟨⟨s,bx⟩,[]⟩) fun e s' _ st'=>st'=[]∧e=.exit 0∧∃ q,get s' 1=.int .i64 q∧-1≤q∧q≤left∧(0≤q→q=left - cntTs (v.l.drop i)):=by
 intro r
 induction r with
 | zero=>
  intro i left s bx hr hi hl h1 h2 h3 b3 h7
  have e:i=v.l.length:=by omega
  subst e
  rw [lp_kL,L11_0,List.drop_length]
  simp [h1,h2,h3,b3,h7,cntTs]
  omega
 | succ r ihr=>
  intro i left s bx hr hi hl h1 h2 h3 b3 h7
  rw [lp_kL,L11_0]
  have hlt:i < v.l.length:=by omega
  have hw:IntKind.wrap .i64 ((i:Int)+1)=i+1:=by rw [wrap64] <;> omega
  have hw2:IntKind.wrap .i64 (ml - 1)=ml - 1:=by rw [wrap64] <;> omega
  have hmem:v.l[i]∈v.l:=List.getElem_mem hlt
  rw [List.drop_eq_getElem_cons hlt,cntTs]
  by_cases hn:0≤left
  ·obtain ⟨q,hq,hq1,hq2,hq3⟩:=ih _ hmem left (ml - 1) [] ⟨hn,hl.2⟩ (by omega)
   simp [h1,h2,h3,b3,h7,hlt,hn,hw,hw2,hq]
   rw [←L11_0]
   refine (ihr (i+1) q _ _ (by omega) (by omega) (by omega) ?_ ?_ ?_ b3 ?_).mono ?_
   iterate 4 simp [h2,h3]
   rintro e s' b' st ⟨rfl,rfl,q2,g1,g2,g3,g4⟩
   refine ⟨rfl,rfl,q2,g1,g2,by omega,fun g=>?_⟩
   have:=g4 g
   have:=hq3 (by omega)
   omega
  ·simp [h1,h2,h3,b3,h7,hlt,hn]
   omega
theorem c11 (v:Tm):v.ok→∀ (left lv:Int) (st:St),0≤left∧left≤1000→0≤lv∧lv≤1000→∃ r,callD T (ev T) 11 [encT v,.int .i64 left,.int .i64 lv] st=some (.int .i64 r,st)∧-1≤r∧r≤left∧(0≤r→r=left - cntT v):=by
 induction v using Tm.ind with
 | h v ih=>
  intro hv left lv st hl hm
  obtain ⟨k1,k2,k4,k5,k6,k7,k3⟩:=(Tm.ok_iff v).1 hv
  have go:∃ r,ev T 11 [encT v,.int .i64 left,.int .i64 lv] []=some (.int .i64 r,[])∧-1≤r∧r≤left∧(0≤r→r=left - cntT v):=by
   rw [ev_eq 11 F11 rfl,F11]
   by_cases h0:lv≤0
   ·refine ⟨-1,?_,by omega,by omega,by omega⟩
    simp [h0]
   ·have hw:IntKind.wrap .i64 (left - 1)=left - 1:=by rw [wrap64] <;> omega
    simp [h0,hw]
    refine (l11 v k7 lv (by omega) (fun u hu=>ih u hu (k3 u hu)) _ 0 (left - 1) _ _ rfl (by omega) (by omega) ?_ ?_ ?_ ?_ ?_).use (fun r=>∃ x,kfin _ (kseq _ (kblock 0 r))=some (.int .i64 x,[])∧-1≤x∧x≤left∧(0≤x→x=left - cntT v)) ?_
    iterate 5 simp
    rintro e s' b' st ⟨rfl,rfl,q,g1,g2,g3,g4⟩
    refine ⟨q,by simp [g1],g2,by omega,fun g=>?_⟩
    have:=g4 g
    rw [cntT_eq]
    simp at this
    omega
  obtain ⟨r,h1,h2,h3,h4⟩:=go
  exact ⟨r,callD_pure (fn:=F11) (st2:=[]) rfl rfl (by simp) h1 (by simp) (by simp),h2,h3,h4⟩
theorem l12 (v:Tm) (hv:v.l.length≤9223372036854775807) (ih:∀ u,u∈v.l→∀ (st:St),∃ r,callD T (ev T) 12 [encT u] st=some (.bool r,st)) :
  ∀ (r i:Nat) (s:List D) (bx:List (Nat × List D)),r=v.l.length - i→i≤v.l.length→get s 1=.lp 1 1 0→getB bx 1=(1,clT v)→get s 3=.int .i64 i →
  Stops (lp T L12_0 ⟨⟨s,bx⟩,[]⟩) fun e s' _ st'=>st'=[]∧(e=.exit 0∨e=.ret∧get s' 2=.bool true):=by
 intro r
 induction r with
 | zero=>
  intro i s bx hr hi h1 b1 h3
  have e:i=v.l.length:=by omega
  subst e
  rw [lp_kL,L12_0]
  simp [h1,b1,h3]
 | succ r ihr=>
  intro i s bx hr hi h1 b1 h3
  rw [lp_kL,L12_0]
  have hlt:i < v.l.length:=by omega
  have hw:IntKind.wrap .i64 ((i:Int)+1)=i+1:=by rw [wrap64] <;> omega
  obtain ⟨q,hq⟩:=ih _ (List.getElem_mem hlt) []
  cases q with
  | true=>simp [h1,b1,h3,hlt,hw,hq]
  | false=>
   simp [h1,b1,h3,hlt,hw,hq]
   rw [←L12_0]
   refine ihr (i+1) _ _ (by omega) (by omega) ?_ b1 ?_
   iterate 2 simp [h1]
theorem c12 (v:Tm):v.ok→∀ (st:St),∃ r,callD T (ev T) 12 [encT v] st=some (.bool r,st):=by
 induction v using Tm.ind with
 | h v ih=>
  intro hv st
  obtain ⟨k1,k2,k4,k5,k6,k7,k3⟩:=(Tm.ok_iff v).1 hv
  have go:∃ r,ev T 12 [encT v] []=some (.bool r,[]):=by
   rw [ev_eq 12 F12 rfl,F12]
   by_cases h0:(40:Int) < v.s.length
   ·exact ⟨true,by simp [h0]⟩
   ·simp [h0,-Bool.exists_bool]
    refine (l12 v k7 (fun u hu=>ih u hu (k3 u hu)) _ 0 _ _ rfl (by omega) ?_ ?_ ?_).use (fun r=>∃ x,kfin _ (kseq _ (kblock 0 r))=some (.bool x,[])) ?_
    iterate 3 simp
    rintro e s' b' st ⟨rfl,rfl | ⟨rfl,h⟩⟩
    ·exact ⟨false,by simp⟩
    ·exact ⟨true,by simp [h]⟩
  obtain ⟨r,h1⟩:=go
  exact ⟨r,callD_pure (fn:=F12) (st2:=[]) rfl rfl (by simp) h1 (by simp) (by simp)⟩
theorem c4 (v:Tm) (hv:v.ok) (st:St):∃ b,callD T (ev T) 4 [encT v] st=some (.bool b,st)∧(b=false→cntT v≤400):=by
 obtain ⟨r,h1,h2,h3,h4⟩:=c11 v hv 400 70 [] (by omega) (by omega)
 obtain ⟨q,hq⟩:=c12 v hv []
 refine ⟨decide (r < 0) || q,callD_pure (fn:=F4) rfl rfl (by simp) (r:=.bool (decide (r < 0) || q)) (st1:=[]) (st2:=[]) ?_ (by simp) (by simp),fun h=>?_⟩
 ·rw [ev_eq 4 F4 rfl,F4]
  by_cases g:r < 0
  ·simp [←encT_eq,h1,g]
  ·simp [←encT_eq,h1,g,hq]
 ·simp at h
  have:=h4 h.1
  omega
end Go.Nt.Li
set_option linter.unusedSimpArgs false
namespace Go.Nt.Li
open Go Go.Nt
def prod (n c:Int):Int:=if n < 1∨16 < n∨64 < n * c then 0 else n * c
def arrM (rec:Int→Int):Tm→Int
 | .mk k n _ _ l _ _=>if (k=1∨k=2)∧l=[] then 1 else if k=3 then (match l with | [x]=>prod n (arrM rec x) | _=>0) else if k=4∧l=[] then rec n else 0
def sumM (f:Tm→Int):List Tm→Int→Int
 | [],acc=>acc
 | p::ps,acc=>match p.l with
  | [x]=>if p.k=34 then (if f x=0∨64 < acc+f x then 0 else sumM f ps (acc+f x)) else 0
  | _=>0
def recM (m:Tm):Nat→Int→Int
 | 0,_=>0
 | r+1,n=>if h:0≤n∧n < m.l.length then (if (m.l[n.toNat]'(by omega)).k=30 then sumM (arrM (recM m r)) (m.l[n.toNat]'(by omega)).l 0 else 0) else 0
theorem arrM_eq (rec:Int→Int) (t:Tm):arrM rec t=if (t.k=1∨t.k=2)∧t.l=[] then 1 else if t.k=3 then (match t.l with | [x]=>prod t.n (arrM rec x) | _=>0) else if t.k=4∧t.l=[] then rec t.n else 0:=by
 cases t with
 | mk k n s fl l a b=>
  match l with
  | []=>simp [arrM,Tm.k,Tm.n,Tm.l]
  | [x]=>simp [arrM,Tm.k,Tm.n,Tm.l]
  | x::y::l=>simp [arrM,Tm.k,Tm.n,Tm.l]
theorem prod_in (n c:Int) (hc:0≤c):0≤prod n c∧prod n c≤64:=by
 unfold prod
 split
 ·omega
 ·next h=>
  have:0≤n * c:=Int.mul_nonneg (by omega) hc
  omega
theorem arrM_in (rec:Int→Int) (h:∀ n,0≤rec n∧rec n≤64) (t:Tm):0≤arrM rec t∧arrM rec t≤64:=by
 induction t using Tm.ind with
 | h t ih=>
  rw [arrM_eq]
  split
  ·omega
  ·split
   ·split
    ·next x hx=>exact prod_in _ _ (ih x (by rw [hx]; simp)).1
    ·omega
   ·split
    ·exact h _
    ·omega
theorem sumM_in (f:Tm→Int) (h:∀ t,0≤f t∧f t≤64) (l:List Tm) (acc:Int) (ha:0≤acc∧acc≤64):0≤sumM f l acc∧sumM f l acc≤64:=by
 induction l generalizing acc with
 | nil=>exact ha
 | cons p l ih=>
  rw [sumM]
  split
  ·next x hx=>
   have:=h x
   split
   ·split
    ·omega
    ·exact ih _ (by omega)
   ·omega
  ·omega
theorem recM_in (m:Tm) (r:Nat) (n:Int):0≤recM m r n∧recM m r n≤64:=by
 induction r generalizing n with
 | zero=>simp [recM]
 | succ r ih=>
  rw [recM]
  split
  ·split
   ·exact sumM_in _ (arrM_in _ ih) _ _ (by omega)
   ·omega
  ·omega
abbrev clM (m:Tm) (d:Int):List D:=[.int .i64 m.k,.int .i64 m.n,.str m.s,slE 6 m.fl (encTs m.l),.int .i64 m.a,.int .i64 m.b,.int .i64 d]
theorem clM_pure (m:Tm) (d:Int) (st:St) (args:List D) (h:pureArgs st args=some (args,st)):pureArgs st (.agg (clM m d)::args)=some (.agg (clM m d)::args,st):=by simp [h]
def cellsV (m t:Tm):Int:=arrM (recM m (m.l.length+1)) t
end Go.Nt.Li
set_option linter.unusedSimpArgs false
namespace Go.Nt.Li
open Go Go.Nt
@[simp] theorem cast1 (m:Nat):((m:Int)=1)=(m=1):=propext (by omega)
@[simp] theorem cast2 (m:Nat):((m:Int)=2)=(m=2):=propext (by omega)
@[simp] theorem cast3 (m:Nat):((m:Int)=3)=(m=3):=propext (by omega)
@[simp] theorem cast_ss1 (m:Nat):((m:Int)+1+1=1)=False:=eq_false (by omega)
@[simp] theorem cast_sss1 (m:Nat):((m:Int)+1+1+1=1)=False:=eq_false (by omega)
@[simp] theorem cast_sss2 (m:Nat):((m:Int)+1+1+1=2)=False:=eq_false (by omega)
@[simp] theorem cast_pos (m:Nat):((0:Int) < m)=(0 < m):=propext (by omega)
abbrev tK (k:Int):Tm:=.mk k 0 [] .nil [] 0 0
abbrev T0:Tm:=tK 0
theorem encT_K (k:Int):encT (tK k)=.agg [.int .i64 k,.int .i64 0,.str [],.nils,.int .i64 0,.int .i64 0]:=by simp [encT,slE]
theorem encT_0:encT T0=.agg [.int .i64 0,.int .i64 0,.str [],.nils,.int .i64 0,.int .i64 0]:=encT_K 0
@[simp] theorem k_mk (k n:Int) (s:List UInt8) (fl:Fl) (l:List Tm) (a b:Int):(Tm.mk k n s fl l a b).k=k:=rfl
@[simp] theorem n_mk (k n:Int) (s:List UInt8) (fl:Fl) (l:List Tm) (a b:Int):(Tm.mk k n s fl l a b).n=n:=rfl
@[simp] theorem s_mk (k n:Int) (s:List UInt8) (fl:Fl) (l:List Tm) (a b:Int):(Tm.mk k n s fl l a b).s=s:=rfl
@[simp] theorem fl_mk (k n:Int) (s:List UInt8) (fl:Fl) (l:List Tm) (a b:Int):(Tm.mk k n s fl l a b).fl=fl:=rfl
@[simp] theorem l_mk (k n:Int) (s:List UInt8) (fl:Fl) (l:List Tm) (a b:Int):(Tm.mk k n s fl l a b).l=l:=rfl
@[simp] theorem a_mk (k n:Int) (s:List UInt8) (fl:Fl) (l:List Tm) (a b:Int):(Tm.mk k n s fl l a b).a=a:=rfl
@[simp] theorem b_mk (k n:Int) (s:List UInt8) (fl:Fl) (l:List Tm) (a b:Int):(Tm.mk k n s fl l a b).b=b:=rfl
mutual
 def good:Tm→Prop
  | .mk k n s _ l a b=>in64 k∧in64 n∧s.length≤9223372036854775807∧in64 a∧in64 b∧l.length≤1000000∧goods l
 def goods:List Tm→Prop
  | []=>True
  | v::l=>good v∧goods l
end
theorem goods_iff (l:List Tm):goods l↔∀ v,v∈l→good v:=by
 induction l with
 | nil=>simp [goods]
 | cons v l ih=>simp [goods,ih]
theorem good_iff (v:Tm):good v↔in64 v.k∧in64 v.n∧v.s.length≤9223372036854775807∧in64 v.a∧in64 v.b∧v.l.length≤1000000∧∀ u,u∈v.l→good u:=by
 cases v; simp [good,goods_iff]
theorem good_of (t:Tm):t.ok→cntT t≤1000000→good t:=by
 induction t using Tm.ind with
 | h t ih=>
  intro h hc
  obtain ⟨k1,k2,k4,k5,k6,k7,k3⟩:=(Tm.ok_iff t).1 h
  rw [cntT_eq] at hc
  have:=cntTs_len t.l
  exact (good_iff t).2 ⟨k1,k2,k4,k5,k6,by omega,fun u hu=>ih u hu (k3 u hu) (by have:=cntTs_mem hu; omega)⟩
theorem good_ok (t:Tm):good t→t.ok:=by
 induction t using Tm.ind with
 | h t ih=>
  intro h
  obtain ⟨k1,k2,k4,k5,k6,k7,k3⟩:=(good_iff t).1 h
  exact (Tm.ok_iff t).2 ⟨k1,k2,k4,k5,k6,by omega,fun u hu=>ih u hu (k3 u hu)⟩
theorem good_K (k:Int) (h:in64 k):good (tK k):=(good_iff _).2 ⟨h,by simp [in64],by simp,by simp [in64],by simp [in64],by simp,fun u hu=>by cases hu⟩
def litT (t:Tm):Tm:=if t.k=5 then tK 1 else if t.k=6 then tK 2 else T0
def isT (t:Tm) (k:Int):Bool:=decide (t.k=k) && t.l.isEmpty
def shapedT (t:Tm):Bool:=
 if t.k=5∨t.k=7∨t.k=8∨t.k=9∨t.k=18 then decide (t.l.length=0) else
 if t.k=6 then decide (t.l.length=0) && (decide (t.n=0) || decide (t.n=1)) else
 if t.k=11 then decide (t.l.length=1) && (decide (t.n=1) || decide (t.n=2)) else
 if t.k=10 then decide (t.l.length=2) && (decide (1≤t.n) && decide (t.n≤13)) else
 if t.k=13 then decide (t.l.length=1) else
 if t.k=12 then decide (t.l.length=2) else
 if t.k=14∨t.k=15 then decide (0 < t.l.length) else
 decide (t.k=16) || decide (t.k=17)
def bfl:List Tm→Fl
 | []=>.nil
 | _::_=>.full
def bareT:Tm→Tm
 | .mk k n s _ l _ _=>.mk k n s (bfl l) (l.map bareT) 0 0
theorem bareT_eq (t:Tm):bareT t=.mk t.k t.n t.s (bfl t.l) (t.l.map bareT) 0 0:=by cases t; simp [bareT]
def sameT:Tm→Tm→Bool
 | .mk k n s _ l _ _,u=>k == u.k && (n == u.n && (s == u.s && sameTs l u.l))
where sameTs:List Tm→List Tm→Bool
 | [],[]=>true
 | a::l,b::k=>sameT a b && sameTs l k
 | _,_=>false
theorem sameT_eq (a b:Tm):sameT a b=(a.k == b.k && (a.n == b.n && (a.s == b.s && sameT.sameTs a.l b.l))):=by cases a; simp [sameT]
def badPart (p:Tm):Bool:=decide (p.k≠34) || decide (p.l.length≠1)
def declT (m:Tm) (n:Int) (kind:Int):Tm × Bool:=
 if h:0≤n∧n < m.l.length then
  (if (m.l[n.toNat]'(by omega)).k=kind then
   (if kind=31 then (m.l[n.toNat]'(by omega),decide ((m.l[n.toNat]'(by omega)).l.length=1) && decide ((litT ((m.l[n.toNat]'(by omega)).l.headD T0)).k≠0)) else
    if kind=32 then (m.l[n.toNat]'(by omega),decide ((m.l[n.toNat]'(by omega)).l.length=1)) else
    if kind=33 then (m.l[n.toNat]'(by omega),decide ((m.l[n.toNat]'(by omega)).l.length=3)) else
    if (m.l[n.toNat]'(by omega)).l.any badPart then (T0,false) else (m.l[n.toNat]'(by omega),decide (0 < (m.l[n.toNat]'(by omega)).l.length)))
   else (T0,false))
 else (T0,false)
def localT (locs:List Tm) (n:Int):Option Tm:=if 0≤n∧n < locs.length then locs[locs.length - 1 - n.toNat]? else none
def namedT (m:Tm) (locs:List Tm) (t:Tm):Tm × Bool:=
 if t.k=7 then (match localT locs t.n with | some d=>(d,true) | none=>(T0,false)) else
 if t.k=8 then (if (declT m t.n 31).2 then (litT ((declT m t.n 31).1.l.headD T0),true) else (T0,false)) else
 if t.k=9 then (if (declT m t.n 32).2 then ((declT m t.n 32).1.l.headD T0,true) else (T0,false)) else
 if t.k=15 then declT m t.n 30 else
 if t.k=16 then declT m t.n 33 else
 if t.k=17 then (T0,false) else (T0,true)
def binT (op:Int) (a b:Tm):Tm:=
 if (op≤2∧(isT a 2 && isT b 2)=true)∨((3≤op∧op≤4)∧((isT a 1 && isT b 1) || (isT a 2 && isT b 2))=true)∨((5≤op∧op≤8)∧(isT a 1 && isT b 1)=true) then tK 2
 else if 9≤op∧(isT a 1 && isT b 1)=true then tK 1 else T0
def leafT (k:Int) (d:Tm):Tm:=if k=5∨k=18 then tK 1 else if k=6 then tK 2 else bareT d
def typField (m:Tm) (n:Int):Tm × Bool:=
 if h:0≤n∧n.tdiv 64 < m.l.length then
  (match (m.l[(n.tdiv 64).toNat]'(by have:=Int.tdiv_nonneg h.1 (by omega:(0:Int)≤64); omega)).l[(n.tmod 64).toNat]? with
   | some p=>if (m.l[(n.tdiv 64).toNat]'(by have:=Int.tdiv_nonneg h.1 (by omega:(0:Int)≤64); omega)).k=30∧p.k=34∧p.l.length=1 then (p.l.headD T0,true) else (T0,false)
   | none=>(T0,false))
 else (T0,false)
def byName (s:List UInt8):Nat→List Tm→Option (Nat × Tm)
 | _,[]=>none
 | i,p::l=>if p.s=s∧i < 64 then some (i,p.l.headD T0) else byName s (i+1) l
def fieldT (m:Tm) (n:Int) (s:List UInt8) (of:Tm):Int × Tm × Bool:=
 if (declT m of.n 30).2 then
  (if s=[] then (n,bareT (typField m n).1,(typField m n).2 && decide (n.tdiv 64=of.n)) else
   match byName s 0 (declT m of.n 30).1.l with
   | some (i,f)=>(of.n * 64+i,bareT f,true)
   | none=>(0,T0,false))
 else (0,T0,false)
def allT:List Tm→List Tm→Bool
 | [],[]=>true
 | t::ts,p::ps=>(decide (p.l.length=1) && sameT t (bareT (p.l.headD T0))) && allT ts ps
 | _,_=>false
def listT (m:Tm) (p0:Tm) (ts:List Tm):Tm × Int:=
 if ts.all (fun t=>sameT t p0) then
  (if cellsV m (.mk 3 ts.length [] .full [p0] 0 0)=0 then (T0,11) else (.mk 3 ts.length [] .full [p0] 0 0,0))
 else (T0,10)
def ruleT (m:Tm) (k n:Int) (s:List UInt8) (d:Tm) (p:List Tm):Tm × Int × Int:=
 if k=5∨k=18∨k=6∨k=7∨k=8∨k=9 then (leafT k d,0,n) else
 if k=10 then (match p with | [a,b]=>(binT n a b,if (binT n a b).k=0 then 10 else 0,n) | _=>(T0,10,n)) else
 if k=11 then (match p with | [a]=>if (n=1∧isT a 1=true)∨(n=2∧isT a 2=true) then (a,0,n) else (T0,10,n) | _=>(T0,10,n)) else
 if k=12 then (match p with | [a,b]=>if (a.k=3∧a.l.length=1)∧isT b 1=true then (a.l.headD T0,0,n) else (T0,10,n) | _=>(T0,10,n)) else
 if k=13 then (match p with | [a]=>if a.k=4∧a.l=[] then (if (fieldT m n s a).2.2 then ((fieldT m n s a).2.1,0,(fieldT m n s a).1) else (T0,8,n)) else (T0,10,n) | _=>(T0,10,n)) else
 if k=14 then ((listT m (p.headD T0) p).1,(listT m (p.headD T0) p).2,n) else
 if k=15 then (if allT p d.l then (.mk 4 n [] .nil [] 0 0,0,n) else (T0,10,n)) else
 if k=16 then (if allT p (d.l.headD T0).l then (bareT ((d.l.tail).headD T0),0,n) else (T0,10,n)) else (T0,10,n)
mutual
 def ofT (m:Tm) (locs:List Tm):Tm→Except (Int × Int) (Tm × Tm)
  | .mk k n s fl l a b=>
   if shapedT (.mk k n s fl l a b)=false then .error (a,12) else
   if (namedT m locs (.mk k n s fl l a b)).2=false then .error (a,8) else
   match ofTs m locs l with
   | .error e=>.error e
   | .ok (ts,ss)=>
    if (ruleT m k n s (namedT m locs (.mk k n s fl l a b)).1 ts).2.1=0 then .ok ((ruleT m k n s (namedT m locs (.mk k n s fl l a b)).1 ts).1,.mk k (ruleT m k n s (namedT m locs (.mk k n s fl l a b)).1 ts).2.2 [] .nil ss 0 0)
    else .error (a,(ruleT m k n s (namedT m locs (.mk k n s fl l a b)).1 ts).2.1)
 def ofTs (m:Tm) (locs:List Tm):List Tm→Except (Int × Int) (List Tm × List Tm)
  | []=>.ok ([],[])
  | t::l=>match ofT m locs t with
   | .error e=>.error e
   | .ok (a,s)=>match ofTs m locs l with
    | .error e=>.error e
    | .ok (ts,ss)=>.ok (a::ts,s::ss)
end
theorem ofT_eq (m:Tm) (locs:List Tm) (t:Tm):ofT m locs t=if shapedT t=false then .error (t.a,12) else
   if (namedT m locs t).2=false then .error (t.a,8) else
   match ofTs m locs t.l with
   | .error e=>.error e
   | .ok (ts,ss)=>
    if (ruleT m t.k t.n t.s (namedT m locs t).1 ts).2.1=0 then .ok ((ruleT m t.k t.n t.s (namedT m locs t).1 ts).1,.mk t.k (ruleT m t.k t.n t.s (namedT m locs t).1 ts).2.2 [] .nil ss 0 0)
    else .error (t.a,(ruleT m t.k t.n t.s (namedT m locs t).1 ts).2.1):=by
 cases t; simp only [ofT,k_mk,n_mk,s_mk,a_mk,l_mk] <;> rfl
theorem kHs_encT {st:St} {i v sz m x':Nat} {es:List D} {y z:Tm} (hat:St.at st i=.cells false sz v m false es) (hz:es[x']?=some (encT z)) :
  kHs st i v sz x' 0 (encT y) (.cells false sz v m false es)=some (.undef,none,some (List.set st i (.cells false sz v (m+1) false (es.set x' (encT y))))):=by
 simp [kHs,hat,hz,splice,←encT_eq]
end Go.Nt.Li
set_option linter.unusedSimpArgs false
namespace Go.Nt.Li
open Go Go.Nt
def pfl:List Tm→Fl
 | []=>.nil
 | _::_=>.part
def cleanT:Tm→Tm
 | .mk k n _ _ l _ _=>.mk k n [] (pfl l) (l.map cleanT) 0 0
theorem cleanT_eq (t:Tm):cleanT t=.mk t.k t.n [] (pfl t.l) (t.l.map cleanT) 0 0:=by cases t; simp [cleanT]
def partsN (k:Int):Nat × Nat:=if k=22 then (2,0) else if k=23 then (3,2) else if k=24 then (2,1) else if k=25 then (3,1) else (1,0)
def isStmt (k:Int):Bool:=decide (k=20) || decide (k=21) || decide (k=22) || decide (k=23) || decide (k=24) || decide (k=25) || decide (k=26) || decide (k=27) || decide (k=28)
def shapeT (t:Tm):Bool:=
 if t.k=29 then true else isStmt t.k && (decide (t.l.length=(partsN t.k).1) && (t.l.drop ((partsN t.k).1 - (partsN t.k).2)).all fun x=>decide (x.k=29))
def rootT:Tm→Tm
 | .mk k n s fl l a b=>if k=12∨k=13 then (match l with | []=>.mk k n s fl l a b | x::_=>rootT x) else .mk k n s fl l a b
theorem rootT_eq (t:Tm):rootT t=if t.k=12∨t.k=13 then (match t.l with | []=>t | x::_=>rootT x) else t:=by
 cases t with
 | mk k n s fl l a b=>rw [rootT.eq_def] <;> rfl
theorem root_in {t:Tm} (h:t.k=12∨t.k=13):rootT t=(match t.l with | []=>t | x::_=>rootT x):=by rw [rootT_eq,if_pos h]
theorem root_out {t:Tm} (h:¬ (t.k=12∨t.k=13)):rootT t=t:=by rw [rootT_eq,if_neg h]
abbrev Er (α:Type):Type:=Except (Int × Int) α
def onlyT (m:Tm) (locs:List Tm) (t:Tm) (k1 k2:Int):Er Tm:=
 match ofT m locs t with
 | .error e=>.error e
 | .ok (a,s)=>if (isT a k1 || isT a k2)=true then .ok s else .error (t.a,10)
def kindT (m t:Tm):Er Tm:=if cellsV m t=0 then .error (t.a,11) else .ok (cleanT t)
def leafS (m ret:Tm) (locs:List Tm) (k:Int) (a0:Int) (l:List Tm):Er (List Tm × List Tm):=
 match l with
 | [t]=>
  if k=20 then (match ofT m locs t with | .error e=>.error e | .ok (a,s)=>.ok ([s],locs++[a])) else
  if k=21 then (match kindT m t with | .error e=>.error e | .ok s=>.ok ([s],locs++[t])) else
  if k=26 then (match onlyT m locs t 1 2 with | .error e=>.error e | .ok s=>.ok ([s],locs)) else
  if k=27 then (match ofT m locs t with | .error e=>.error e | .ok (a,s)=>if sameT a (bareT ret)=true then .ok ([s],locs) else .error (t.a,10)) else
  if t.k≠16 then .error (t.a,12) else (match ofT m locs t with | .error e=>.error e | .ok (_,s)=>.ok ([s],locs))
 | [t,u]=>(match ofT m locs t with
  | .error e=>.error e
  | .ok (a,s)=>match ofT m locs u with
   | .error e=>.error e
   | .ok (b,v)=>if (rootT t).k≠7∧(rootT t).k≠9 then .error (t.a,12) else if sameT a b=true then .ok ([s,v],locs) else .error (a0,10))
 | _=>.error (a0,12)
mutual
 def stmtT (m ret:Tm):List Tm→Tm→Er (Tm × List Tm)
  | locs,.mk k n s fl l a b=>
   if shapeT (.mk k n s fl l a b)=false then .error (a,12) else
   if k=29 then (match blkT m ret locs l with | .error e=>.error e | .ok ss=>.ok (.mk 29 n [] (pfl ss) ss 0 0,locs)) else
   if k=23∨k=24∨k=25 then (match nesT m ret k (if k=25 then 1 else 2) locs l with | .error e=>.error e | .ok ss=>.ok (.mk k n [] (pfl ss) ss 0 0,locs)) else
   match leafS m ret locs k a l with
   | .error e=>.error e
   | .ok (ss,locs')=>.ok (.mk k n [] .full ss 0 0,locs')
 def blkT (m ret:Tm):List Tm→List Tm→Er (List Tm)
  | _,[]=>.ok []
  | locs,t::l=>match stmtT m ret locs t with
   | .error e=>.error e
   | .ok (s,locs')=>match blkT m ret locs' l with
    | .error e=>.error e
    | .ok ss=>.ok (s::ss)
 def nesT (m ret:Tm) (k want:Int):List Tm→List Tm→Er (List Tm)
  | _,[]=>.ok []
  | locs,.mk xk xn xs xfl xl xa xb::l=>
   match (if xk≠29 then onlyT m locs (.mk xk xn xs xfl xl xa xb) want want else
    match blkT m ret (if k=25 then locs++[tK 1] else locs) xl with
    | .error e=>.error e
    | .ok ss=>.ok (.mk 29 xn [] (pfl ss) ss 0 0)) with
   | .error e=>.error e
   | .ok s=>match nesT m ret k want (if xk=29∧k=25 then locs++[tK 1] else locs) l with
    | .error e=>.error e
    | .ok ss=>.ok (s::ss)
end
def partedT (l:List Tm):Bool:=l.all fun p=>decide (p.k=34) && decide (p.l.length=1)
def plainT:Tm→Bool
 | .mk k _ _ _ l _ _=>if k=3 then (match l with | x::_=>plainT x | []=>true) else decide (k≠4)
def kindsT (m:Tm):List Tm→Er Unit
 | []=>.ok ()
 | t::l=>if cellsV m t=0 then .error (t.a,11) else kindsT m l
def plainsT (m:Tm):List Tm→Er Unit
 | []=>.ok ()
 | t::l=>if plainT t=false then .error (t.a,12) else plainsT m l
def headT (m t:Tm):Er (List Tm):=
 match t.l with
 | [p,r,b]=>
  if (t.n≠0∧t.n≠1)∨p.k≠35∨partedT p.l=false∨b.k≠29 then .error (t.a,12) else
  (match kindsT m (p.l.map (fun x=>x.l.headD T0)++[r]) with
   | .error e=>.error e
   | .ok ()=>match (if t.n=1 then plainsT m (p.l.map (fun x=>x.l.headD T0)++[r]) else .ok ()) with
    | .error e=>.error e
    | .ok ()=>.ok (p.l.map (fun x=>x.l.headD T0)))
 | _=>.error (t.a,12)
def litOK (d:Tm):Bool:=
 match d.l with
 | [x]=>x.l.isEmpty && (decide (x.k=5) || (decide (x.k=6) && (decide (x.n=0) || decide (x.n=1))))
 | _=>false
def declR (m:Tm) (i:Nat) (t:Tm):Er Tm:=
 if t.k=30 then (if t.l=[]∨partedT t.l=false then .error (t.a,12) else if cellsV m (.mk 4 i [] .nil [] 0 0)=0 then .error (t.a,11) else .ok (cleanT t)) else
 if t.k=31 then (if litOK t=false then .error (t.a,12) else .ok (cleanT t)) else
 if t.k=32∧t.l.length=1 then (if cellsV m (t.l.headD T0)=0 then .error ((t.l.headD T0).a,11) else .ok (cleanT t)) else
 if t.k=33 then (match headT m t with
  | .error e=>.error e
  | .ok tys=>match blkT m (t.l.tail.headD T0) tys (t.l.tail.tail.headD T0).l with
   | .error e=>.error e
   | .ok ss=>.ok (.mk 33 t.n [] .part [cleanT (t.l.headD T0),cleanT (t.l.tail.headD T0),.mk 29 (t.l.tail.tail.headD T0).n [] (pfl ss) ss 0 0] 0 0)) else
 .error (t.a,12)
def declsR (m:Tm):Nat→List Tm→Er (List Tm)
 | _,[]=>.ok []
 | i,d::l=>match declR m i d with
  | .error e=>.error e
  | .ok s=>match declsR m (i+1) l with
   | .error e=>.error e
   | .ok ss=>.ok (s::ss)
def moduleT (m:Tm):Er Tm:=if m.k≠36 then .error (m.a,12) else
 match declsR m 0 m.l with
 | .error e=>.error e
 | .ok ss=>.ok (.mk 36 m.n [] (pfl ss) ss 0 0)
def sameR:Tm→Tm→Bool
 | .mk k n _ _ l _ _,u=>k == u.k && (n == u.n && (u.s == [] && (u.a == 0 && (u.b == 0 && sameRs l u.l))))
where sameRs:List Tm→List Tm→Bool
 | [],[]=>true
 | a::l,b::k=>sameR a b && sameRs l k
 | _,_=>false
theorem sameR_eq (t u:Tm):sameR t u=(t.k == u.k && (t.n == u.n && (u.s == [] && (u.a == 0 && (u.b == 0 && sameR.sameRs t.l u.l))))):=by cases t; simp [sameR]
def rightT (m:Tm):Bool:=match moduleT m with
 | .error _=>false
 | .ok s=>sameR s m
end Go.Nt.Li
set_option linter.unusedSimpArgs false
namespace Go.Nt.Li
open Go Go.Nt
def bareE:Tm→Tm
 | .mk k n s _ l _ _=>.mk k n s .emp (l.map bareE) 0 0
theorem bareE_eq (t:Tm):bareE t=.mk t.k t.n t.s .emp (t.l.map bareE) 0 0:=by cases t; simp [bareE]
def nlE:Tm→Tm
 | .mk k n _ _ l _ _=>.mk k n [] .nil (l.map nlE) 0 0
theorem nlE_eq (t:Tm):nlE t=.mk t.k t.n [] .nil (t.l.map nlE) 0 0:=by cases t; simp [nlE]
def placedT:Tm→Tm→Bool
 | .mk k n s _ l a b,u=>k == u.k && (n == u.n && (s == u.s && (a == u.a && (b == u.b && placedTs l u.l))))
where placedTs:List Tm→List Tm→Bool
 | [],[]=>true
 | a::l,b::k=>placedT a b && placedTs l k
 | _,_=>false
theorem placedT_eq (a b:Tm):placedT a b=(a.k == b.k && (a.n == b.n && (a.s == b.s && (a.a == b.a && (a.b == b.b && placedT.placedTs a.l b.l))))):=by cases a; simp [placedT]
theorem placedTs_len:∀ (l k:List Tm),l.length≠k.length→placedT.placedTs l k=false
 | [],[],h=>absurd rfl h
 | [],_::_,_=>rfl
 | _::_,[],_=>rfl
 | a::l,b::k,h=>by simp only [placedT.placedTs,placedTs_len l k (by simpa using h),Bool.and_false]
def freeT:Tm→Bool
 | .mk k _ _ _ l _ _=>!decide (k=4) && (l.map freeT).all id
theorem freeT_eq (t:Tm):freeT t=(!decide (t.k=4) && t.l.all freeT):=by cases t; simp [freeT,List.all_map] <;> rfl
def atT:Tm→List Int→Tm × Bool
 | t,[]=>(t,true)
 | t,i::w=>if h:0≤i∧i < t.l.length then atT (t.l[i.toNat]'(by omega)) w else (T0,false)
abbrev encW (w:List Int):List D:=w.map (.int .i64)
def ruleE (m:Tm) (k n:Int) (s:List UInt8) (d:Tm) (p:List Tm):Except Int (Tm × Int):=
 if k=13 then (match p with
  | [a]=>if a.k=4∧a.l=[] then (if (fieldT m n s a).2.2 then .ok (bareE (typField m (fieldT m n s a).1).1,(fieldT m n s a).1) else .error 8) else .error 10
  | _=>.error 10) else
 if k=16 then (if allT p (d.l.headD T0).l then .ok (bareE (d.l.tail.headD T0),n) else .error 10) else
 if (ruleT m k n s d p).2.1=0 then .ok ((ruleT m k n s d p).1,n) else .error (ruleT m k n s d p).2.1
def aloneE (m:Tm) (locs:List Tm) (t:Tm):Tm:=
 if t.k=7∨t.k=9 then bareE (namedT m locs t).1 else if t.k=8 then (namedT m locs t).1 else if t.k=18 then tK 1 else litT t
mutual
 def ofE (m:Tm) (locs:List Tm):Tm→Er (Tm × Tm)
  | .mk k n s fl l a b=>
   if shapedT (.mk k n s fl l a b)=false then .error (a,12) else
   if (namedT m locs (.mk k n s fl l a b)).2=false then .error (a,8) else
   if l=[]∧k≠16 then .ok (aloneE m locs (.mk k n s fl l a b),.mk k n [] .nil [] 0 0) else
   match ofsE m locs l with
   | .error e=>.error e
   | .ok (ts,ss)=>match ruleE m k n s (namedT m locs (.mk k n s fl l a b)).1 ts with
    | .error e=>.error (a,e)
    | .ok (ty,n')=>.ok (ty,.mk k n' [] .emp ss 0 0)
 def ofsE (m:Tm) (locs:List Tm):List Tm→Er (List Tm × List Tm)
  | []=>.ok ([],[])
  | t::l=>match ofE m locs t with
   | .error e=>.error e
   | .ok (a,s)=>match ofsE m locs l with
    | .error e=>.error e
    | .ok (ts,ss)=>.ok (a::ts,s::ss)
end
theorem ofE_eq (m:Tm) (locs:List Tm) (t:Tm):ofE m locs t=if shapedT t=false then .error (t.a,12) else
   if (namedT m locs t).2=false then .error (t.a,8) else
   if t.l=[]∧t.k≠16 then .ok (aloneE m locs t,.mk t.k t.n [] .nil [] 0 0) else
   match ofsE m locs t.l with
   | .error e=>.error e
   | .ok (ts,ss)=>match ruleE m t.k t.n t.s (namedT m locs t).1 ts with
    | .error e=>.error (t.a,e)
    | .ok (ty,n')=>.ok (ty,.mk t.k n' [] .emp ss 0 0):=by
 cases t; simp only [ofE,k_mk,n_mk,s_mk,a_mk,l_mk] <;> rfl
def bringsE (m:Tm) (locs:List Tm) (t:Tm):List Tm:=
 if t.k=20∧t.l.length=1 then locs++[match ofE m locs (t.l.headD T0) with | .ok (a,_)=>a | .error _=>T0] else
 if t.k=21∧t.l.length=1 then locs++[t.l.headD T0] else locs
def onlyE (m:Tm) (locs:List Tm) (t:Tm) (a b:Int):Er Tm:=
 match ofE m locs t with
 | .error e=>.error e
 | .ok (ty,s)=>if (isT ty a || isT ty b)=true then .ok s else .error (t.a,10)
def partsE (k:Int):Int × Int:=if k=20∨k=21∨k=26∨k=27∨k=28 then (1,0) else if k=22 then (2,0) else if k=23 then (3,2) else if k=24 then (2,1) else if k=25 then (3,1) else (-1,0)
def shapeE (t:Tm):Bool:=if t.k=29 then true else decide ((t.l.length:Int)=(partsE t.k).1) && (t.l.drop ((partsE t.k).1 - (partsE t.k).2).toNat).all fun x=>decide (x.k=29)
def exprE (m ret:Tm) (locs:List Tm) (k:Int) (x:Tm):Er Tm:=
 if k=21 then (if cellsV m x=0 then .error (x.a,11) else .ok (nlE x)) else
 if k=23∨k=24 then onlyE m locs x 2 2 else
 if k=25 then onlyE m locs x 1 1 else
 if k=26 then onlyE m locs x 1 2 else
 if k=28∧x.k≠16 then .error (x.a,12) else
 match ofE m locs x with
 | .error e=>.error e
 | .ok (a,s)=>if k=27∧sameT a (bareE ret)=false then .error (x.a,10) else .ok s
def tyE (m:Tm) (locs:List Tm) (t:Tm):Tm:=match ofE m locs t with | .ok (a,_)=>a | .error _=>T0
mutual
 def stmtE (m ret:Tm) (locs:List Tm):Tm→Er Tm
  | .mk k n s fl l a b=>
   if shapeE (.mk k n s fl l a b)=false then .error (a,12) else
   if k=29 then (match blkE m ret locs l with | .error e=>.error e | .ok ss=>.ok (.mk 29 n [] .emp ss 0 0)) else
   match prtsE m ret locs k ((partsE k).1 - (partsE k).2) 0 l with
   | .error e=>.error e
   | .ok ss=>
    if k=22∧((rootT (l.headD T0)).k≠7∧(rootT (l.headD T0)).k≠9) then .error ((l.headD T0).a,12) else
    if k=22∧sameT (tyE m locs (l.headD T0)) (tyE m locs (l.tail.headD T0))=false then .error (a,10) else
    .ok (.mk k n [] .emp ss 0 0)
 def blkE (m ret:Tm):List Tm→List Tm→Er (List Tm)
  | _,[]=>.ok []
  | locs,t::l=>match stmtE m ret locs t with
   | .error e=>.error e
   | .ok s=>match blkE m ret (bringsE m locs t) l with
    | .error e=>.error e
    | .ok ss=>.ok (s::ss)
 def prtsE (m ret:Tm) (locs:List Tm) (k from0:Int):Int→List Tm→Er (List Tm)
  | _,[]=>.ok []
  | i,.mk xk xn xs xfl xl xa xb::l=>
   match (if i ≥ from0 then (match blkE m ret (if k=25 then locs++[tK 1] else locs) xl with
    | .error e=>.error e
    | .ok ss=>.ok (.mk xk xn [] .emp ss 0 0)) else exprE m ret locs k (.mk xk xn xs xfl xl xa xb)) with
   | .error e=>.error e
   | .ok s=>match prtsE m ret locs k from0 (i+1) l with
    | .error e=>.error e
    | .ok ss=>.ok (s::ss)
end
def fnE (m t:Tm):Er Tm:=
 match t.l with
 | [p,r,b]=>
  if (t.n≠0∧t.n≠1)∨p.k≠35∨partedT p.l=false∨b.k≠29 then .error (t.a,12) else
  (match kindsT m (p.l.map (fun x=>x.l.headD T0)++[r]) with
   | .error e=>.error e
   | .ok ()=>match (if t.n=1 then plainsT m (p.l.map (fun x=>x.l.headD T0)++[r]) else .ok ()) with
    | .error e=>.error e
    | .ok ()=>match blkE m r (p.l.map (fun x=>x.l.headD T0)) b.l with
     | .error e=>.error e
     | .ok ss=>.ok (.mk t.k t.n [] .nil [nlE p,nlE r,.mk b.k b.n [] .emp ss 0 0] 0 0))
 | _=>.error (t.a,12)
def declE (m:Tm) (i:Nat) (t:Tm):Er Tm:=
 if t.k=33 then fnE m t else
 if t.k=30 then (if t.l=[]∨partedT t.l=false then .error (t.a,12) else if cellsV m (.mk 4 i [] .nil [] 0 0)=0 then .error (t.a,11) else .ok (nlE t)) else
 if t.k=32∧t.l.length=1 then (if cellsV m (t.l.headD T0)=0 then .error ((t.l.headD T0).a,11) else .ok (nlE t)) else
 if t.k=31∧litOK t=true then .ok (nlE t) else .error (t.a,12)
def declsE (m:Tm):Nat→List Tm→Er (List Tm)
 | _,[]=>.ok []
 | i,d::l=>match declE m i d with
  | .error e=>.error e
  | .ok s=>match declsE m (i+1) l with
   | .error e=>.error e
   | .ok ss=>.ok (s::ss)
def moduleE (m:Tm):Er Tm:=if m.k≠36 then .error (m.a,12) else
 match declsE m 0 m.l with
 | .error e=>.error e
 | .ok ss=>.ok (.mk 36 m.n [] .emp ss 0 0)
def rightE (m:Tm):Bool:=match moduleE m with
 | .error _=>false
 | .ok s=>placedT s m
end Go.Nt.Li
