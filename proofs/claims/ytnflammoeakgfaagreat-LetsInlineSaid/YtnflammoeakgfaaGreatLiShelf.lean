/-
  STRINGS' INDEX AND JOIN: that the machine's prims 3, 7 and 11 are what (internal/stringslite).Index at one byte, strings.IndexByte and strings.Join do, in any program that bears facts of what its functions do.
  No condition: the facts are hypotheses of the theorems.
-/
import Derived.Test.YtnflammoeakgfaaGreatNtSim
import Derived.Lib.Bytealg
import Derived.Lib.Join
import Derived.Shelf.Spec.SlicesInsertGrow
import Derived.Shelf.Sort.Plain
import Derived.Shelf.Slices.In.SortNone
import Derived.Shelf.Slices.Cells
import Derived.Shelf.Slices.SearchI
import Derived.Shelf.Slices.Empties
import Derived.Test.YtnflammoeakgfaaGreatLiIr
import Derived.Shelf.Slices.CompactI
import Derived.Test.YtnflammoeakgfaaGreatChecked
namespace Go.Nt
open Go
variable {P:Program}
theorem findB_eq (c:UInt8):∀ (s:List UInt8) (i:Nat),findB c s i=if Lib.indexByte s c=-1 then -1 else Lib.indexByte s c+i
 | [],i=>rfl
 | x::s,i=>by
  have ih:=findB_eq c s (i+1)
  have hge:∀ l:List UInt8,Lib.indexByte l c=-1∨0≤Lib.indexByte l c:=by
   intro l
   induction l with
   | nil=>left; rfl
   | cons y l ih=>
    simp only [Lib.indexByte]
    split
    ·right; omega
    ·split
     ·left; rfl
     ·rename_i h; simp at h; right; rcases ih with h' | h'
      ·exact absurd h' h
      ·omega
  by_cases h:x=c
  ·subst h; simp [findB,Lib.indexByte]
  ·have hb:(x == c)=false:=by simpa using h
   rcases hge s with h1 | h1
   ·simp [findB,Lib.indexByte,h,ih,h1]
   ·have h2:¬ Lib.indexByte s c=-1:=by omega
    have h3:(Lib.indexByte s c == -1)=false:=by simpa using h2
    have h4:¬ Lib.indexByte s c+1=-1:=by omega
    simp only [findB,if_neg h,ih,if_neg h2,Lib.indexByte,hb,h3,Bool.false_eq_true,if_false,if_neg h4]
    omega
theorem rep_str_inv {w:World} {N:Nat→Prop} {st:St} {bl:Bl} {v:Value} {l:List UInt8} (h:Rep w N st bl v (.str l)):∃ b:ByteArray,v=.string b∧b.data.toList=l:=by
 generalize hx:D.str l=x at h
 cases h <;> cases hx
 exact ⟨_,rfl,rfl⟩
theorem bytes_of {b:ByteArray} {l:List UInt8} (h:b.data.toList=l):b=⟨l.toArray⟩:=by
 cases b; subst h; simp
theorem findB_zero (c:UInt8) (s:List UInt8):findB c s 0=Lib.indexByte s c:=by
 rw [findB_eq]; split
 ·rename_i h; rw [h]
 ·simp
theorem prim_byte {f:Nat} {ifn:IFunc} (hk:Known P f) (hc:ifn.code=.prim 3) (hr:ifn.res=[.t 0])
  (h:∀ (s:ByteArray) (c:Int) (w:World),Calls P f #[.string s,.int .u8 c] w fun e w'=>e=.returned (.int .i64 (Lib.indexByte s.data.toList c.toNat.toUInt8))∧w'=w):PrimF P f ifn:=by
 refine ⟨hk,_,hc,fun args st ds st1 r st' hp hf=>?_⟩
 rw [primD,if_neg (by decide)] at hp
 unfold primS at hp
 split at hp
 ·cases ‹3 % 4=0›
 ·cases ‹3 % 4=1›
 ·cases ‹3 % 4=2›
 ·rename_i s c _
  split at hp
  ·rename_i hcc
   simp only [Option.some.injEq,Prod.mk.injEq] at hp
   obtain ⟨rfl,rfl⟩:=hp
   intro w L bl vs H hL hsz hrep
   obtain ⟨v0,v1,rfl⟩:∃ v0 v1,vs=#[v0,v1]:=by
    match vs,hsz with
    | ⟨[v0,v1]⟩,_=>exact ⟨v0,v1,rfl⟩
   have h0:=hrep 0 v0 _ rfl rfl
   have h1:=hrep 1 v1 _ rfl rfl
   obtain ⟨b,rfl,rfl⟩:=rep_str_inv h0
   cases h1
   refine (h b c w).mono ?_
   rintro e' w' ⟨rfl,rfl⟩
   rw [hr] at hf
   simp only [finish,resL,resD,get,List.getD_cons_zero,D.okv,if_true,Option.bind_some,Option.some.injEq,Prod.mk.injEq] at hf
   obtain ⟨rfl,rfl⟩:=hf
   rw [findB_zero]
   exact ⟨_,bl,rfl,H,.int _ _,.refl _ _ _⟩
  ·cases hp
 ·split at hp
  ·cases ‹3=7›
  ·cases hp
 ·split at hp
  ·cases ‹3=11›
  ·cases hp
 ·cases hp
theorem prim_index {f:Nat} {ifn:IFunc} (hk:Known P f) (hc:ifn.code=.prim 7) (hr:ifn.res=[.t 0])
  (h:∀ (s:ByteArray) (c:UInt8) (w:World),Calls P f #[.string s,.string ⟨#[c]⟩] w fun e w'=>e=.returned (.int .i64 (Lib.indexByte s.data.toList c))∧w'=w):PrimF P f ifn:=by
 refine ⟨hk,_,hc,fun args st ds st1 r st' hp hf=>?_⟩
 rw [primD,if_neg (by decide)] at hp
 unfold primS at hp
 split at hp
 ·cases ‹7 % 4=0›
 ·cases ‹7 % 4=1›
 ·cases ‹7 % 4=2›
 ·split at hp
  ·rename_i hh; cases hh.1
  ·cases hp
 ·rename_i s c _
  split at hp
  ·simp only [Option.some.injEq,Prod.mk.injEq] at hp
   obtain ⟨rfl,rfl⟩:=hp
   intro w L bl vs H hL hsz hrep
   obtain ⟨v0,v1,rfl⟩:∃ v0 v1,vs=#[v0,v1]:=by
    match vs,hsz with
    | ⟨[v0,v1]⟩,_=>exact ⟨v0,v1,rfl⟩
   have h0:=hrep 0 v0 _ rfl rfl
   have h1:=hrep 1 v1 _ rfl rfl
   obtain ⟨b,rfl,rfl⟩:=rep_str_inv h0
   obtain ⟨b2,rfl,hb2⟩:=rep_str_inv h1
   rw [bytes_of hb2]
   refine (h b c w).mono ?_
   rintro e' w' ⟨rfl,rfl⟩
   rw [hr] at hf
   simp only [finish,resL,resD,get,List.getD_cons_zero,D.okv,if_true,Option.bind_some,Option.some.injEq,Prod.mk.injEq] at hf
   obtain ⟨rfl,rfl⟩:=hf
   rw [findB_zero]
   exact ⟨_,bl,rfl,H,.int _ _,.refl _ _ _⟩
  ·cases hp
 ·split at hp
  ·cases ‹7=11›
  ·cases hp
 ·cases hp
theorem unstrs:∀ {ds:List D} {l:List (List UInt8)},ds.mapM unstr=some l→l.length=ds.length∧∀ (j:Nat) (x:List UInt8),l[j]?=some x→ds[j]?=some (.str x)
 | [],l,h=>by simp at h; subst h; simp
 | d::ds,l,h=>by
  simp only [List.mapM_cons,Option.bind_eq_bind,Option.bind_eq_some_iff,Option.pure_def,Option.some.injEq] at h
  obtain ⟨x,hx,r,hr,rfl⟩:=h
  obtain ⟨h1,h2⟩:=unstrs hr
  have hd:d=.str x:=by
   unfold unstr at hx
   split at hx
   ·simp only [Option.some.injEq] at hx; subst hx; rfl
   ·cases hx
  refine ⟨by simp [h1],fun j y hy=>?_⟩
  cases j with
  | zero=>simp at hy ⊢; subst hy; exact hd
  | succ j=>simpa using h2 j y (by simpa using hy)
theorem prim_join {f:Nat} {ifn:IFunc} (hk:Known P f) (hc:ifn.code=.prim 11) (hr:ifn.res=[.t 0])
  (hnone:∀ (a:Option Addr) (c:Nat) (sep:ByteArray) (w:World),Calls P f #[.slice a 0 c,.string sep] w fun e w'=>e=.returned (.string ⟨#[]⟩)∧w'=w)
  (hsome:∀ (bk o c:Nat) (xs:List ByteArray) (sep:ByteArray) (w:World),(∀ (j:Nat) x,xs[j]?=some x→w.cell? ⟨bk,o+j,none⟩=some (.string x))→bk < w.heap.size→xs.length≤140737488355328→xs.length≤c →
   (Lib.join (xs.map (·.data.toList)) sep.data.toList).length≤140737488355328 →
   Calls P f #[.slice (some ⟨bk,o,none⟩) xs.length c,.string sep] w fun e w'=>e=.returned (.string ⟨(Lib.join (xs.map (·.data.toList)) sep.data.toList).toArray⟩)∧Go.RowKit.Below w.heap.size w w'):PrimF P f ifn:=by
 refine ⟨hk,_,hc,fun args st ds st1 r st' hp hf=>?_⟩
 rw [primD,if_neg (by decide)] at hp
 unfold primS at hp
 split at hp
 ·cases ‹11 % 4=0›
 ·cases ‹11 % 4=1›
 ·cases ‹11 % 4=2›
 ·split at hp
  ·rename_i hh; cases hh.1
  ·cases hp
 ·split at hp
  ·cases ‹11=7›
  ·cases hp
 ·rename_i d sep _ _
  split at hp
  ·obtain ⟨l,hl,hp⟩:=Option.bind_eq_some_iff.1 hp
   obtain ⟨ss,hss,hp⟩:=Option.bind_eq_some_iff.1 hp
   split at hp
   ·rename_i hlim
    simp only [Option.some.injEq,Prod.mk.injEq] at hp
    obtain ⟨rfl,rfl⟩:=hp
    intro w L bl vs H hL hsz hrep
    obtain ⟨v0,v1,rfl⟩:∃ v0 v1,vs=#[v0,v1]:=by
     match vs,hsz with
     | ⟨[v0,v1]⟩,_=>exact ⟨v0,v1,rfl⟩
    have h0:=hrep 0 v0 _ rfl rfl
    have h1:=hrep 1 v1 _ rfl rfl
    obtain ⟨b,rfl,rfl⟩:=rep_str_inv h1
    rw [hr] at hf
    simp only [finish,resL,resD,get,List.getD_cons_zero,D.okv,if_true,Option.bind_some,Option.some.injEq,Prod.mk.injEq] at hf
    obtain ⟨rfl,rfl⟩:=hf
    obtain ⟨p,cap,vl,rfl,e2,e3,e4,e5⟩:=slice_els H h0 hl
    obtain ⟨hlen,hget⟩:=unstrs hss
    by_cases hn:l=[]
    ·subst hn
     simp at hss; subst hss
     refine (hnone p cap b w).mono ?_
     rintro e' w' ⟨rfl,rfl⟩
     exact ⟨_,bl,rfl,H,.str ⟨#[]⟩,.refl _ _ _⟩
    ·have hpos:0 < l.length:=List.length_pos_iff.2 hn
     have hvl:vl.length=l.length:=e4.1
     obtain ⟨q,rfl,hsp,_⟩:=e5 0 vl[0] (by simp)
     have hqe:q=⟨q.block,q.off,none⟩:=by cases q; simp at hsp; simp [hsp]
     have hcell:∀ (j:Nat) (x:ByteArray),(ss.map fun s=>(⟨s.toArray⟩:ByteArray))[j]?=some x→w.cell? ⟨q.block,q.off+j,none⟩=some (.string x):=by
      intro j x hx
      rw [List.getElem?_map,Option.map_eq_some_iff] at hx
      obtain ⟨s,hs,rfl⟩:=hx
      have hg:=hget j s hs
      have hj:j < vl.length:=by rw [hvl]; exact (List.getElem?_eq_some_iff.1 hg).1
      obtain ⟨q',hq',_,hcells⟩:=e5 j vl[j] (by simp [hj])
      simp only [Option.some.injEq] at hq'
      subst hq'
      obtain ⟨hrj,_⟩:=e4.2 j vl[j] _ (by simp [hj]) hg
      obtain ⟨b2,hb2,hb3⟩:=rep_str_inv hrj
      have:=hcells 0 (.string b2) (by rw [hb2]; rfl)
      simp only [Nat.mul_one,Nat.add_zero] at this
      rw [this,bytes_of hb3]
     have hmap:(ss.map fun s=>(⟨s.toArray⟩:ByteArray)).map (·.data.toList)=ss:=by
      rw [List.map_map]
      exact (List.map_congr_left fun x _=>rfl).trans (List.map_id ss)
     have hb:q.block < w.heap.size:=cell_lt (a:=⟨q.block,q.off+0,none⟩) (hcell 0 ⟨(ss[0]'(by omega)).toArray⟩ (by simp [List.getElem?_map]))
     have hss':(ss.map fun s=>(⟨s.toArray⟩:ByteArray)).length=l.length:=by simp [hlen]
     have hm:(most:Nat)=134217728:=rfl
     have hc:=hsome q.block q.off cap (ss.map fun s=>(⟨s.toArray⟩:ByteArray)) b w hcell hb (by rw [hss']; omega) (by rw [hss']; exact e2) (by rw [hmap]; show (b.data.toList.intercalate ss).length≤_; omega)
     rw [hss',←hqe,hmap] at hc
     refine hc.mono ?_
     rintro e' w' ⟨rfl,bel⟩
     have E:=Evo.grown st bl (fun i hi=>H.lt hi) bel.os bel.tape bel.output bel.size (fun k hk=>bel.block k hk)
     exact ⟨_,bl,rfl,H.grown bel.os bel.tape bel.output bel.size (fun k hk=>bel.block k hk),.str ⟨(b.data.toList.intercalate ss).toArray⟩,E⟩
   ·cases hp
  ·cases hp
 ·cases hp
end Go.Nt
set_option linter.unusedSimpArgs false
namespace Go.Nt
open Go Go.Sort
variable {P:Program}
abbrev dI (n:Int):D:=.int .i64 n
abbrev vI (n:Int):Value:=.int .i64 n
theorem ints_eq:∀ {l:List D} {zs:List Int},ints l=some zs→l=zs.map dI
 | [],zs,h=>by simp [ints] at h; subst h; rfl
 | d::l,zs,h=>by
  unfold ints at h
  split at h
  ·cases ‹d::l=[]›
  ·rename_i n l' e
   cases e
   obtain ⟨zs',h1,rfl⟩:=Option.map_eq_some_iff.1 h
   rw [ints_eq h1]; rfl
  ·cases h
theorem ints_map (zs:List Int):ints (zs.map dI)=some zs:=by
 induction zs with
 | nil=>rfl
 | cons z zs ih=>simp [ints,ih]
theorem obI {w:World} {N:Nat→Prop} {st:St} {bl:Bl} {b ver mod:Nat} {fr:Bool} {zs:List Int} (h:ObRel w N st bl b (.cells false 1 ver mod fr (zs.map dI))) :
  ∃ cs e lo hi,w.heap[b]?=some (.cells cs e (lo,hi))∧(fr=false→∀ o,o≤cs.size→¬ (lo≤o∧o < hi))∧zs.length≤cs.size∧TagOK false ver e (zs.length * 1) cs.size∧∀ (i:Nat) (z:Int),zs[i]?=some z→cs[i]?=some (vI z):=by
 obtain ⟨cs,e,lo,hi,h1,h2,⟨h3,h4⟩,h5⟩:=h
 simp only [List.length_map] at h3 h4
 refine ⟨cs,e,lo,hi,h1,h2,by omega,h4,fun i z hz=>?_⟩
 obtain ⟨_,_,_,h6⟩:=h5 i (dI z) (by simp [hz])
 obtain ⟨_,v,hv,hr⟩:=h6 0 (dI z) rfl
 cases hr
 simpa using hv
theorem obI_mk {w:World} {N:Nat→Prop} {st:St} {bl:Bl} {b ver mod:Nat} {zs:List Int} {cs:Array Value} {e:TypeId} {lo hi:Nat} (h1:w.heap[b]?=some (.cells cs e (lo,hi))) (h2:∀ o,o≤cs.size→¬ (lo≤o∧o < hi))
  (h3:zs.length≤cs.size) (h4:TagOK false ver e (zs.length * 1) cs.size) (h5:∀ (i:Nat) (z:Int),zs[i]?=some z→cs[i]?=some (vI z)):ObRel w N st bl b (.cells false 1 ver mod false (zs.map dI)):=by
 refine ⟨cs,e,lo,hi,h1,fun _=>h2,⟨by simpa using h3,by simpa using h4⟩,fun i d hd=>?_⟩
 simp only [List.getElem?_map,Option.map_eq_some_iff] at hd
 obtain ⟨z,hz,rfl⟩:=hd
 refine ⟨rfl,rfl,fun _=>rfl,fun j c hc=>?_⟩
 cases j with
 | zero=>
  simp [D.cells] at hc; subst hc
  exact ⟨rfl,vI z,by simpa using h5 i z hz,.int _ _⟩
 | succ j=>simp [D.cells] at hc
theorem frozen_of {w:World} {b o:Nat} {cs:Array Value} {e:TypeId} {lo hi:Nat} (h1:w.heap[b]?=some (.cells cs e (lo,hi))) (h2:¬ (lo≤o∧o < hi)):w.frozen? ⟨b,o,none⟩=false:=by
 unfold World.frozen?
 simp only [h1]
 simpa using h2
theorem cell_of {w:World} {b o:Nat} {cs:Array Value} {e:TypeId} {f:Nat × Nat} (h1:w.heap[b]?=some (.cells cs e f)):w.cell? ⟨b,o,none⟩=cs[o]?:=by
 unfold World.cell?
 simp [h1]
theorem updI {w w':World} {L:Nat→Prop} {st:St} {bl:Bl} {id ver mod ver' nb:Nat} {l:List D} {zs':List Int} {cs':Array Value} {e:TypeId} {lo hi:Nat} (H:HRel w L st bl) (hL:∀ b,L b→b < w.heap.size) (hid:id < st.length)
  (ho:St.at st id=.cells false 1 ver mod false l) (h1:w'.os=w.os) (h2:w'.tape=w.tape) (h3:w'.output=w.output) (h4:w.heap.size≤w'.heap.size) (h5:∀ k,k < w.heap.size→k≠bl id→w'.heap[k]?=w.heap[k]?)
  (hnb:nb=bl id∨w.heap.size≤nb) (hver:ver < ver'∨(ver'=ver∧nb=bl id∧SameSize w w' (bl id)))
  (g1:w'.heap[nb]?=some (.cells cs' e (lo,hi))) (g2:∀ o,o≤cs'.size→¬ (lo≤o∧o < hi)) (g3:zs'.length≤cs'.size) (g4:TagOK false ver' e (zs'.length * 1) cs'.size) (g5:∀ (i:Nat) (z:Int),zs'[i]?=some z→cs'[i]?=some (vI z)) :
  HRel w' L (List.set st id (.cells false 1 ver' (mod+1) false (zs'.map dI))) (fun i=>if i=id then nb else bl i)∧Evo w st bl w' (List.set st id (.cells false 1 ver' (mod+1) false (zs'.map dI))) (fun i=>if i=id then nb else bl i):=by
 have E:=upd_ext (w':=w') H hid (by rw [ho]; rfl) (.cells false 1 ver' (mod+1) false (zs'.map dI)) nb h1 h2 h3 h4 h5 hnb (by rw [ho]; exact hver) (by rw [ho]; exact Nat.lt_succ_self _) (by rw [ho]; simp [Ob.isMap])
 exact ⟨H.upd hL hid E h5 hnb (obI_mk g1 g2 g3 g4 g5),E⟩
theorem putA_cons (cs:Array Value) (o:Nat) (v:Value) (vs:List Value) (h:o+(vs.length+1)≤cs.size):putA (cs.setIfInBounds o v) (o+1) vs=putA cs o (v::vs):=by
 refine Array.ext_getElem? fun k=>?_
 rw [putA_get _ _ _ (by simp; omega),putA_get _ _ _ (by simpa using h)]
 by_cases h1:k=o
 ·subst h1
  rw [if_neg (by omega),if_pos (by simp)]
  simp [show k < cs.size by omega]
 ·by_cases h2:o+1≤k∧k < o+1+vs.length
  ·rw [if_pos h2,if_pos (by simp; omega),show k - o=k - (o+1)+1 by omega]; rfl
  ·rw [if_neg h2,if_neg (by simp; omega),Array.getElem?_setIfInBounds,if_neg (fun e=>h1 e.symm)]
theorem setCells_wr (b:Nat):∀ (vs:List Value) (o:Nat) (w:World) {cs:Array Value} {e:TypeId} {f:Nat × Nat},w.heap[b]?=some (.cells cs e f)→o+vs.length≤cs.size→Wr w (w.setCells b o vs) b (.cells (putA cs o vs) e f)
 | [],o,w,cs,e,f,h,_=>⟨rfl,rfl,rfl,rfl,fun _ _=>rfl,by simpa [World.setCells,putA] using h⟩
 | v::vs,o,w,cs,e,f,h,hs=>by
  have hb:b < w.heap.size:=(Array.getElem?_eq_some_iff.1 h).1
  have h1:(w.setCell ⟨b,o,none⟩ v).heap[b]?=some (.cells (cs.setIfInBounds o v) e f):=by
   simp [World.setCell,Array.getElem?_modify,h]
  have:=setCells_wr b vs (o+1) (w.setCell ⟨b,o,none⟩ v) h1 (by simp at hs ⊢; omega)
  rw [World.setCells]
  refine ⟨this.os,this.tape,this.output,this.size.trans (by simp [World.setCell]),fun k hk=>(this.same k hk).trans ?_,?_⟩
  ·simp [World.setCell,Array.getElem?_modify,Ne.symm hk]
  ·rw [this.new,putA_cons cs o v vs (by simpa using hs)]
theorem vArg {w:World} {L:Nat→Prop} {st:St} {bl:Bl} {v:Value} {vid vver voff:Nat} {vf:Bool} {n:Int} (H:HRel w L st bl) (h:Rep w (NN L st bl) st bl v (.rs vid vver 1 voff 1 vf)) (hx:listD st 1 (.rs vid vver 1 voff 1 vf)=some [dI n]) :
  ∃ vo cap,v=.slice (some ⟨bl vid,vo,none⟩) 1 cap∧vid < st.length∧w.cell? ⟨bl vid,vo,none⟩=some (vI n)∧((St.at st vid).live=true→∃ cs e lo hi,w.heap[bl vid]?=some (.cells cs e (lo,hi))∧(∀ o,o≤cs.size→¬ (lo≤o∧o < hi))∧vo < cs.size):=by
 obtain ⟨p,cap,vl,e1,e2,e3,e4,e5⟩:=slice_els H h hx
 have hO:=hx
 simp only [listD] at hO
 split at hO
 ·rename_i box sz ver mod fr elems hob
  split at hO
  ·rename_i hcon
   cases h with
   | rs _ _ _ _ _ _ a cap' hi hv hc hf ha=>
    simp only [Value.slice.injEq] at e1
    obtain ⟨rfl,h1,rfl⟩:=e1
    have hcap:cap'≠0:=by omega
    have ha':=(ha (by rw [hob]; first | exact hcon.1 | exact hcon.2.1)).1 hcap
    subst ha'
    have hvl:vl.length=1:=e4.1
    have hg:=List.getElem?_eq_getElem (l:=vl) (i:=0) (by omega)
    obtain ⟨q,hq,_,hq3⟩:=e5 0 _ hg
    simp only [Option.some.injEq] at hq; subst hq
    have hr:=(e4.2 0 _ (dI n) hg rfl).1
    have hcell:w.cell? ⟨bl vid,voff * 1,none⟩=some (vI n):=by
     generalize vl[0]=u at *
     cases hr
     have:=hq3 0 (vI n) rfl
     simpa using this
    refine ⟨voff * 1,cap',rfl,hi,hcell,fun hl=>?_⟩
    have hob2:=H.obj vid hi
    rw [hob] at hob2 hl
    obtain ⟨cs,e,lo,hi',k1,k2,_⟩:=hob2
    rw [cell_of k1] at hcell
    exact ⟨cs,e,lo,hi',k1,k2 (by simpa [Ob.live] using hl),(Array.getElem?_eq_some_iff.1 hcell).1⟩
  ·cases hO
 ·cases hO
theorem zeroI (n:Nat):(Builtin.zeroCells (Value.int .i64 0).cells n).size=n:=by simp [Builtin.zeroCells,Value.cells]
theorem ins_get (zs:List Int) (n:Int) (i:Nat) (hi:i≤zs.length) (k:Nat):(zs.take i++n::zs.drop i)[k]?=if k < i then zs[k]? else if k=i then some n else zs[k - 1]?:=by
 by_cases h1:k < i
 ·rw [if_pos h1,List.getElem?_append_left (by simp; omega),List.getElem?_take_of_lt h1]
 ·rw [if_neg h1,List.getElem?_append_right (by simp; omega)]
  have:(zs.take i).length=i:=by simp; omega
  rw [this]
  by_cases h2:k=i
  ·subst h2; simp
  ·rw [if_neg h2,show k - i=k - 1 - i+1 by omega,List.getElem?_cons_succ,List.getElem?_drop,show i+(k - 1 - i)=k - 1 by omega]
theorem prim_insert {ρ:Go.Shelf.Ren} (Ly:Go.Proofs.Lays2.n21 P ρ) {f:Nat} {ifn:IFunc} (hk:Known P f) (hf:ρ.f 21=f) (hc:ifn.code=.prim 15) (hr:ifn.res=[.t 0]):PrimF P f ifn:=by
 refine ⟨hk,_,hc,fun args st ds st1 r st' hp hfin=>?_⟩
 rw [hr] at hfin
 rw [primD,if_pos (by decide)] at hp
 unfold primI at hp
 split at hp
 case h_1=>
  rename_i s i vid vver voff vf _
  obtain ⟨x,hx,hp⟩:=Option.bind_eq_some_iff.1 hp
  split at hp
  ·rename_i n q0
   clear q0
   split at hp
   ·rename_i hi0
    subst hi0
    simp only [Option.some.injEq,Prod.mk.injEq] at hp
    obtain ⟨rfl,rfl⟩:=hp
    simp only [finish,resL,resD,get,List.getD_cons_zero,D.okv,if_true,Option.bind_some,Option.some.injEq,Prod.mk.injEq] at hfin
    obtain ⟨rfl,rfl⟩:=hfin
    intro w L bl vs H hL hsz hrep
    obtain ⟨v0,v1,v2,rfl⟩:∃ v0 v1 v2,vs=#[v0,v1,v2]:=by
     match vs,hsz with
     | ⟨[v0,v1,v2]⟩,_=>exact ⟨v0,v1,v2,rfl⟩
    have h0:=hrep 0 v0 _ rfl rfl
    have h1:=hrep 1 v1 _ rfl rfl
    have h2:=hrep 2 v2 _ rfl rfl
    cases h0; cases h1
    obtain ⟨vo,cap,rfl,hvid,hcell,_⟩:=vArg H h2 hx
    have hcall:=Go.Proofs.Any2.slices_Insert_int_end_grow Ly none 0 0 (bl vid) vo 1 cap [] [vI n] w (by omega) (by omega) (by omega) (by decide) rfl rfl (fun _=>rfl) (fun a h=>by cases h)
     (fun j v hj=>by cases j with | zero=>simp at hj; subst hj; simpa using hcell | succ j=>simp at hj) (fun v hv=>by simp at hv; subst hv; rfl)
    rw [hf] at hcall
    refine hcall.mono ?_
    rintro e' w' ⟨rfl,rfl⟩
    have A:=drewAl w (.cells ((([]:List Value)++[vI n]).toArray++Builtin.zeroCells (Value.int .i64 0).cells (grownCap w (0+1) 0 (ρ.t 3) - (0+1))) (ρ.t 3))
    have hge:=grownCap_ge w (0+1) 0 (ρ.t 3)
    have hle:=grownCap_le_maxLen w (0+1) 0 (ρ.t 3) (by unfold maxLen; omega)
    unfold maxLen at hle
    have E:=new_ext H A (.cells false 1 0 0 false ([n].map dI))
    refine ⟨_,_,rfl,H.new hL A (ob:=.cells false 1 0 0 false ([n].map dI)) (obI_mk (lo:=0) (hi:=0) A.new (fun _ _=>by omega) (by simp) tag_zero fun j z hz=>?_),?_,E⟩
    ·cases j with
     | zero=>simp at hz; subst hz; rw [Array.getElem?_append_left (by simp)]; rfl
     | succ j=>simp at hz
    ·refine .rs _ _ _ _ _ _ _ _ (by simp) (by simp) (by omega) (by simp) fun _=>⟨fun _=>by simp,_,_,(0,0),by simp only [↓reduceIte]; exact A.new,?_⟩
     simp only [Array.size_append,zeroI]
     simp
     omega
   ·cases hp
  ·rename_i n id ver len q0
   clear q0
   split at hp
   ·rename_i ver' mod elems hob
    split at hp
    ·rename_i hcon
     obtain ⟨rfl,rfl,hi1,hi2,hmo,hvt,hne,hlv⟩:=hcon
     obtain ⟨zs,hzs,hp⟩:=Option.bind_eq_some_iff.1 hp
     obtain rfl:=ints_eq hzs
     simp only [Option.some.injEq,Prod.mk.injEq] at hp
     obtain ⟨rfl,rfl⟩:=hp
     simp only [finish,resL,resD,get,List.getD_cons_zero,D.okv,if_true,Option.bind_some,Option.some.injEq,Prod.mk.injEq] at hfin
     obtain ⟨rfl,rfl⟩:=hfin
     intro w L bl vs H hL hsz hrep
     obtain ⟨v0,v1,v2,rfl⟩:∃ v0 v1 v2,vs=#[v0,v1,v2]:=by
      match vs,hsz with
      | ⟨[v0,v1,v2]⟩,_=>exact ⟨v0,v1,v2,rfl⟩
     have h0:=hrep 0 v0 _ rfl rfl
     have h1:=hrep 1 v1 _ rfl rfl
     have h2:=hrep 2 v2 _ rfl rfl
     clear hrep
     obtain ⟨vo,vcap,rfl,hvid,hcell,hfz⟩:=vArg H h2 hx
     obtain ⟨vcs,ve,vlo,vhi,j1,j2,j3⟩:=hfz hlv
     cases h1
     simp only [List.length_map] at *
     obtain ⟨a,cap,hid,rfl,hcl,hacap,c0,e0,f0,hc0,hroom⟩:∃ (a:Addr) (cap:Nat),id < st.length∧v0=.slice (some a) zs.length cap∧(zs.length≤cap∧cap≤9223372036854775807)∧(cap≠0→a=⟨bl id,0,none⟩)∧∃ c e f,w.heap[bl id]?=some (.cells c e f)∧cap≤c.size:=by
      cases h0 with
      | rs _ _ _ _ _ _ a cap hi hv hc hf ha=>
       obtain ⟨k1,c0,e0,f0,k2,k3⟩:=ha (by rw [hob]; rfl)
       exact ⟨a,cap,hi,rfl,hc,fun h=>by rw [k1 h,Nat.zero_mul],c0,e0,f0,k2,by simpa using k3⟩
     have hO:=H.obj id hid
     rw [hob] at hO
     obtain ⟨cs,e,lo,hi,k1,k2,k3,_,k5⟩:=obI hO
     rw [hc0] at k1
     simp only [Option.some.injEq,Obj.cells.injEq] at k1
     obtain ⟨rfl,rfl,rfl⟩:=k1
     obtain ⟨i,rfl⟩:∃ k:Nat,i=(k:Int):=⟨i.toNat,by omega⟩
     have hin:i≤zs.length:=by omega
     have hbl:bl vid≠bl id:=fun q=>hne (H.inj _ _ hvid hid q)
     have hcs:∀ j v,(zs.map vI)[j]?=some v→w.cell? ⟨bl id,0+j,none⟩=some v:=fun j v hj=>by
      simp only [List.getElem?_map,Option.map_eq_some_iff] at hj
      obtain ⟨z,hz,rfl⟩:=hj
      rw [cell_of hc0,Nat.zero_add]; exact k5 j z hz
     have hvs:∀ j v,[vI n][j]?=some v→w.cell? ⟨bl vid,vo+j,none⟩=some v:=fun j v hj=>by
      cases j with
      | zero=>simp at hj; subst hj; simpa using hcell
      | succ j=>simp at hj
     have one:∀ v∈zs.map vI,v.oneCell'=true:=fun v hv=>by
      obtain ⟨z,_,rfl⟩:=List.mem_map.1 hv; rfl
     have one1:∀ v∈[vI n],v.oneCell'=true:=fun v hv=>by simp at hv; subst hv; rfl
     have hm63:zs.length < 134217728:=hmo
     have hget:=ins_get zs n i hin
     have hnl:(zs.take i++n::zs.drop i).length=zs.length+1:=by simp; omega
     obtain ⟨ob,hobE⟩:∃ ob,ob=Ob.cells false 1 (ver'+1) (mod+1) false ((zs.take i++n::zs.drop i).map dI):=⟨_,rfl⟩
     have place:∀ w' cs',w'.os=w.os→w'.tape=w.tape→w'.output=w.output→w'.heap.size=w.heap.size→(∀ k,k≠bl id→w'.heap[k]?=w.heap[k]?)→w'.heap[bl id]?=some (.cells cs' e0 (lo,hi))→cs'.size=c0.size→zs.length+1≤cap →
       (∀ j,j < zs.length+1→cs'[j]?=((zs.take i++n::zs.drop i)[j]?).map vI) →
       ∃ bl',HRel w' L (List.set st id ob) bl'∧Rep w' (NN L (List.set st id ob) bl') (List.set st id ob) bl' (.slice (some ⟨bl id,0,none⟩) (zs.length+1) cap) (.rs id (ver'+1) 1 0 (zs.length+1) false)∧Evo w st bl w' (List.set st id ob) bl':=by
      intro w' cs' q1 q2 q3 q4 q5 q6 q7 q8 q9
      subst hobE
      obtain ⟨U1,U2⟩:=updI (zs':=zs.take i++n::zs.drop i) H hL hid hob q1 q2 q3 (Nat.le_of_eq q4.symm) (fun k _ hk=>q5 k hk) (.inl rfl) (.inl (Nat.lt_succ_self ver')) q6 (by rw [q7]; exact k2 rfl) (by rw [hnl,q7]; omega) (tag_small hvt) (fun j z hz=>by
       rw [q9 j (by rw [←hnl]; exact (List.getElem?_eq_some_iff.1 hz).1),hz]; rfl)
      refine ⟨_,U1,?_,U2⟩
      refine .rs _ _ _ _ _ _ _ _ (by simpa using hid) (by rw [at_set _ _ _ _ hid,if_pos rfl]; exact Nat.le_refl _) ⟨q8,hcl.2⟩ (by simp) fun _=>⟨fun _=>by simp,cs',e0,(lo,hi),by simpa using q6,by rw [q7]; simpa using hroom⟩
     have fresh:∀ w' cs' e' cap',w'.os=w.os→w'.tape=w.tape→w'.output=w.output→w'.heap.size=w.heap.size+1→(∀ k,k < w.heap.size→w'.heap[k]?=w.heap[k]?)→w'.heap[w.heap.size]?=some (.cells cs' e' (0,0))→cs'.size=cap'→zs.length+1≤cap'∧cap'≤9223372036854775807 →
       (∀ j,j < zs.length+1→cs'[j]?=((zs.take i++n::zs.drop i)[j]?).map vI) →
       ∃ bl',HRel w' L (List.set st id ob) bl'∧Rep w' (NN L (List.set st id ob) bl') (List.set st id ob) bl' (.slice (some ⟨w.heap.size,0,none⟩) (zs.length+1) cap') (.rs id (ver'+1) 1 0 (zs.length+1) false)∧Evo w st bl w' (List.set st id ob) bl':=by
      intro w' cs' e' cap' q1 q2 q3 q4 q5 q6 q7 q8 q9
      subst hobE
      obtain ⟨U1,U2⟩:=updI (zs':=zs.take i++n::zs.drop i) H hL hid hob q1 q2 q3 (by omega) (fun k hk _=>q5 k hk) (.inr (Nat.le_refl _)) (.inl (Nat.lt_succ_self ver')) q6 (fun _ _=>by omega) (by rw [hnl,q7]; omega) (tag_small hvt) (fun j z hz=>by
       rw [q9 j (by rw [←hnl]; exact (List.getElem?_eq_some_iff.1 hz).1),hz]; rfl)
      refine ⟨_,U1,?_,U2⟩
      refine .rs _ _ _ _ _ _ _ _ (by simpa using hid) (by rw [at_set _ _ _ _ hid,if_pos rfl]; exact Nat.le_refl _) q8 (by simp) fun _=>⟨fun _=>by simp,cs',e',(0,0),by simpa using q6,by omega⟩
     rw [Int.toNat_natCast]
     have hobE':Ob.cells false 1 (ver'+1) (mod+1) false ((zs.take i++n::zs.drop i).map (D.int .i64))=ob:=hobE.symm
     rw [hobE']
     have hk2:=k2 rfl
     by_cases hend:i=zs.length
     ·subst hend
      by_cases hrm:zs.length+1≤cap
      ·have ha:=hacap (by omega)
       subst ha
       have hcall:=Go.Proofs.Any2.slices_Insert_int_end_room Ly (bl id) 0 zs.length cap (bl vid) vo 1 vcap [vI n] w (by omega) hrm hcl.2 rfl
        (fun j hj=>by rw [cell_of hc0]; simp; omega) (fun j hj=>frozen_of hc0 (hk2 _ (by omega))) hvs one1
       rw [hf] at hcall
       refine hcall.mono ?_
       rintro e' w' ⟨rfl,rfl⟩
       have W:=setCells_wr (bl id) [vI n] (0+zs.length) w hc0 (by simp; omega)
       obtain ⟨bl',g1,g2,g3⟩:=place _ _ W.os W.tape W.output W.size W.same W.new (putA_size _ _ _ (by simp; omega)) hrm (fun j hj=>by
        rw [putA_get _ _ _ (by simp; omega),hget]
        by_cases hj2:j < zs.length
        ·rw [if_neg (by omega),if_pos hj2,k5 j _ (List.getElem?_eq_getElem hj2)]; simp [hj2]
        ·have:j=zs.length:=by omega
         subst this
         rw [if_pos (by simp)]; simp)
       exact ⟨_,bl',rfl,g1,g2,g3⟩
      ·have hcall:=Go.Proofs.Any2.slices_Insert_int_end_grow Ly (some a) zs.length cap (bl vid) vo 1 vcap (zs.map vI) [vI n] w (by omega) hcl.1 (by omega) (by omega) (by simp) rfl (fun h=>by cases h)
        (fun a' ha' j v hj=>by
         cases ha'
         have hz:zs≠[]:=by intro e; subst e; simp at hj
         rw [hacap (by have:=List.length_pos_iff.2 hz; omega),Addr.add_lit]; exact hcs j v hj) hvs one1
       rw [hf] at hcall
       refine hcall.mono ?_
       rintro e' w' ⟨rfl,rfl⟩
       have hge:=grownCap_ge w (zs.length+1) cap (ρ.t 3)
       have hle:=grownCap_le_maxLen w (zs.length+1) cap (ρ.t 3) (by unfold maxLen; omega)
       unfold maxLen at hle
       have A:=drewAl w (.cells ((zs.map vI++[vI n]).toArray++Builtin.zeroCells (Value.int .i64 0).cells (grownCap w (zs.length+1) cap (ρ.t 3) - (zs.length+1))) (ρ.t 3))
       obtain ⟨bl',g1,g2,g3⟩:=fresh _ _ _ (grownCap w (zs.length+1) cap (ρ.t 3)) A.os A.tape A.output A.size A.same A.new (by simp only [Array.size_append,zeroI]; simp; omega) ⟨hge,by omega⟩ (fun j hj=>by
        rw [Array.getElem?_append_left (by simp; omega),hget]
        by_cases hj2:j < zs.length
        ·rw [if_pos hj2]; simp [hj2,List.getElem?_append]
        ·have:j=zs.length:=by omega
         subst this
         simp)
       exact ⟨_,bl',rfl,g1,g2,g3⟩
     ·have hil:i < zs.length:=by omega
      have ha:=hacap (by omega)
      subst ha
      by_cases hrm:zs.length+1≤cap
      ·have hcall:=Go.Proofs.Any2.slices_Insert_int_shift Ly (bl id) 0 zs.length cap i (bl vid) vo 1 vcap (zs.map vI) [vI n] w hil (by omega) hrm hcl.2 hbl (by simp) rfl hcs
        (fun j hj=>by rw [cell_of hc0]; simp; omega) (fun j hj=>frozen_of hc0 (hk2 _ (by omega))) hvs one one1 ve e0 vcs.size c0.size (by simp [World.shape?,j1]) (by simp [World.shape?,hc0]) (by omega)
        (frozen_of j1 (j2 _ (by omega))) (frozen_of j1 (j2 _ (Nat.le_refl _)))
       rw [hf] at hcall
       refine hcall.mono ?_
       rintro e' w' ⟨rfl,rfl⟩
       have hc0':w.drew.heap[bl id]?=some (.cells c0 e0 (lo,hi)):=hc0
       have W1:=setCells_wr (bl id) ((zs.map vI).drop i) (0+(i+1)) w.drew hc0' (by simp; omega)
       have hs1:(putA c0 (0+(i+1)) ((zs.map vI).drop i)).size=c0.size:=putA_size _ _ _ (by simp; omega)
       have W2:=setCells_wr (bl id) [vI n] (0+i) _ W1.new (by rw [hs1]; simp; omega)
       obtain ⟨bl',g1,g2,g3⟩:=place _ _ (W2.os.trans W1.os) (W2.tape.trans W1.tape) (W2.output.trans W1.output) (W2.size.trans W1.size) (fun k hk=>(W2.same k hk).trans (W1.same k hk)) W2.new ((putA_size _ _ _ (by rw [hs1]; simp; omega)).trans hs1) hrm (fun j hj=>by
        rw [putA_get _ _ _ (by rw [hs1]; simp; omega),hget]
        by_cases h1:j=i
        ·subst h1; simp
        ·rw [if_neg (by simp; omega),putA_get _ _ _ (by simp; omega)]
         by_cases h2:j < i
         ·rw [if_neg (by simp; omega),if_pos h2,k5 j _ (List.getElem?_eq_getElem (by omega))]
          simp [show j < zs.length by omega]
         ·rw [if_pos (by simp; omega),if_neg h2,if_neg h1,List.getElem?_drop,show i+(j - (0+(i+1)))=j - 1 by omega]
          simp)
       exact ⟨_,bl',rfl,g1,g2,g3⟩
      ·have hcall:=Go.Proofs.Any2.slices_Insert_int_grow Ly (bl id) 0 zs.length cap i (bl vid) vo 1 vcap (zs.map vI) [vI n] w hil (by omega) hcl.1 (by omega) (by omega) (by simp) rfl hcs hvs one one1
       rw [hf] at hcall
       refine hcall.mono ?_
       rintro e' w' ⟨rfl,rfl⟩
       have hge:=grownCap_ge w (zs.length+1) cap (ρ.t 3)
       have hle:=grownCap_le_maxLen w (zs.length+1) cap (ρ.t 3) (by unfold maxLen; omega)
       unfold maxLen at hle
       obtain ⟨base,hbase⟩:∃ base,base=(((zs.map vI).take i).toArray++Builtin.zeroCells (Value.int .i64 0).cells (zs.length+1 - i)++Builtin.zeroCells (Value.int .i64 0).cells (grownCap w (zs.length+1) cap (ρ.t 3) - (zs.length+1))):=⟨_,rfl⟩
       have hbs:base.size=grownCap w (zs.length+1) cap (ρ.t 3):=by rw [hbase]; simp only [Array.size_append,zeroI]; simp; omega
       rw [←hbase]
       have A:=alloc_al w (.cells base (ρ.t 3))
       have hn0:(w.alloc (.cells base (ρ.t 3))).drew.heap[w.heap.size]?=some (.cells base (ρ.t 3) (0,0)):=A.new
       have W1:=setCells_wr w.heap.size [vI n] i _ hn0 (by rw [hbs]; simp; omega)
       have hs1:(putA base i [vI n]).size=base.size:=putA_size _ _ _ (by rw [hbs]; simp; omega)
       have W1n:(((w.alloc (.cells base (ρ.t 3))).drew.setCells w.heap.size i [vI n]).drew).heap[w.heap.size]?=some (.cells (putA base i [vI n]) (ρ.t 3) (0,0)):=W1.new
       have W2:=setCells_wr w.heap.size ((zs.map vI).drop i) (i+1) _ W1n (by rw [hs1,hbs]; simp; omega)
       obtain ⟨bl',g1,g2,g3⟩:=fresh _ _ _ (grownCap w (zs.length+1) cap (ρ.t 3)) (W2.os.trans (W1.os.trans A.os)) (W2.tape.trans (W1.tape.trans A.tape)) (W2.output.trans (W1.output.trans A.output)) (W2.size.trans (W1.size.trans A.size))
        (fun k hk=>(W2.same k (by omega)).trans ((W1.same k (by omega)).trans (A.same k hk))) W2.new ((putA_size _ _ _ (by rw [hs1,hbs]; simp; omega)).trans (hs1.trans hbs)) ⟨hge,by omega⟩ (fun j hj=>by
        rw [putA_get _ _ _ (by rw [hs1,hbs]; simp; omega),hget]
        by_cases h2:i < j
        ·rw [if_pos (by simp; omega),if_neg (by omega),if_neg (by omega),List.getElem?_drop,show i+(j - (i+1))=j - 1 by omega]
         simp
        ·rw [if_neg (by omega),putA_get _ _ _ (by rw [hbs]; simp; omega)]
         by_cases h1:j=i
         ·subst h1; simp
         ·rw [if_neg (by simp; omega),if_pos (by omega),hbase,Array.getElem?_append_left (by simp only [Array.size_append,zeroI]; simp; omega),Array.getElem?_append_left (by simp; omega)]
          simp [List.getElem?_take,show j < i by omega])
       exact ⟨_,bl',rfl,g1,g2,g3⟩
    ·cases hp
   ·cases hp
  ·cases hp
 all_goals first | (exact absurd ‹15=19› (by decide)) | (exact absurd ‹15=23› (by decide)) | (exact absurd ‹15=27› (by decide)) | cases hp
theorem putRow_wr (w:World) (b n:Nat) (d:List Int) {cs:Array Value} {e:TypeId} {f:Nat × Nat} (h:w.heap[b]?=some (.cells cs e f)) :
  Wr w (putRow (Value.int .i64) (Sort.ahead w n) b 0 d.toArray) b (.cells (putCells (Value.int .i64) 0 d.toArray cs) e f):=
 ⟨rfl,rfl,rfl,by simp [putRow,mapBlock,Sort.ahead],fun k hk=>by simp [putRow,mapBlock,Sort.ahead,Array.getElem?_modify,Ne.symm hk],by simp [putRow,mapBlock,Sort.ahead,Array.getElem?_modify,h,onCells]⟩
theorem putCells_get (d:List Int) (cs:Array Value) (h:d.length≤cs.size) (i:Nat) (z:Int) (hz:d[i]?=some z):(putCells (Value.int .i64) 0 d.toArray cs)[i]?=some (vI z):=by
 have hi:i < d.length:=(List.getElem?_eq_some_iff.1 hz).1
 simp [putCells,hi,show i < cs.size by omega]
 rw [List.getElem?_eq_getElem hi] at hz
 cases hz; rfl
theorem putCells_size (d:List Int) (cs:Array Value):(putCells (Value.int .i64) 0 d.toArray cs).size=cs.size:=by simp [putCells]
theorem rowI {w:World} {L:Nat→Prop} {st:St} {bl:Bl} {v:Value} {id ver mod:Nat} {zs:List Int} (H:HRel w L st bl) (h:Rep w (NN L st bl) st bl v (.rs id ver 1 0 zs.length false)) (hob:St.at st id=.cells false 1 ver mod false (zs.map dI)) (hne:zs≠[]) :
  ∃ cap cs e lo hi,v=.slice (some ⟨bl id,0,none⟩) zs.length cap∧id < st.length∧(zs.length≤cap∧cap≤9223372036854775807)∧w.heap[bl id]?=some (.cells cs e (lo,hi))∧cap≤cs.size∧(∀ o,o≤cs.size→¬ (lo≤o∧o < hi)) ∧
   TagOK false ver e (zs.length * 1) cs.size∧(∀ (i:Nat) (z:Int),zs[i]?=some z→cs[i]?=some (vI z))∧Holds (Value.int .i64) w (bl id) 0 zs.toArray:=by
 have hp:=List.length_pos_iff.2 hne
 cases h with
 | rs _ _ _ _ _ _ a cap hid hv hc hf ha=>
  obtain ⟨k1,c0,e0,f0,k2,k3⟩:=ha (by rw [hob]; rfl)
  have ha':=k1 (by omega)
  rw [Nat.zero_mul] at ha'
  subst ha'
  have hO:=H.obj id hid
  rw [hob] at hO
  obtain ⟨cs,e,lo,hi,j1,j2,j3,j4,j5⟩:=obI hO
  rw [k2] at j1
  simp only [Option.some.injEq,Obj.cells.injEq] at j1
  obtain ⟨rfl,rfl,rfl⟩:=j1
  refine ⟨cap,c0,e0,lo,hi,rfl,hid,hc,k2,by simpa using k3,j2 rfl,j4,j5,fun j hj=>?_⟩
  have hj':j < zs.length:=by simpa using hj
  refine ⟨?_,frozen_of k2 (j2 rfl _ (by omega))⟩
  rw [cell_of k2,Nat.zero_add,j5 j _ (List.getElem?_eq_getElem hj')]
  simp [hj']
theorem prim_sort {ρ:Go.Shelf.Ren} (Ly:Go.Proofs.Lays.n189 P ρ) {f:Nat} {ifn:IFunc} (hk:Known P f) (hf:ρ.f 189=f) (hc:ifn.code=.prim 19) (hr:ifn.res=[]):PrimF P f ifn:=by
 refine ⟨hk,_,hc,fun args st ds st1 r st' hp hfin=>?_⟩
 rw [hr] at hfin
 rw [primD,if_pos (by decide)] at hp
 unfold primI at hp
 split at hp
 case h_2=>
  simp only [Option.some.injEq,Prod.mk.injEq] at hp
  obtain ⟨rfl,rfl⟩:=hp
  simp only [finish,resL,Option.bind_some,Option.some.injEq,Prod.mk.injEq] at hfin
  obtain ⟨rfl,rfl⟩:=hfin
  intro w L bl vs H hL hsz hrep
  obtain ⟨v0,rfl⟩:∃ v0,vs=#[v0]:=by
   match vs,hsz with
   | ⟨[v0]⟩,_=>exact ⟨v0,rfl⟩
  have h0:=hrep 0 v0 _ rfl rfl
  cases h0
  have hcall:=Go.Proofs.Any.slices_Sort_int_none Ly none 0 w
  rw [hf] at hcall
  refine hcall.mono ?_
  rintro e' w' ⟨rfl,rfl⟩
  exact ⟨_,bl,rfl,H,.tup _ _ rfl (fun i v d hv hd=>by simp at hv),.refl _ _ _⟩
 case h_3=>
  rename_i id ver len q0
  clear q0
  split at hp
  ·rename_i ver' mod elems hob
   split at hp
   ·rename_i hcon
    obtain ⟨rfl,rfl,hmo⟩:=hcon
    obtain ⟨zs,hzs,hp2⟩:=Option.bind_eq_some_iff.1 hp
    clear hp
    obtain rfl:=ints_eq hzs
    simp only [Option.some.injEq,Prod.mk.injEq] at hp2
    obtain ⟨rfl,rfl⟩:=hp2
    simp only [finish,resL,Option.bind_some,Option.some.injEq,Prod.mk.injEq] at hfin
    obtain ⟨rfl,rfl⟩:=hfin
    intro w L bl vs H hL hsz hrep
    obtain ⟨v0,rfl⟩:∃ v0,vs=#[v0]:=by
     match vs,hsz with
     | ⟨[v0]⟩,_=>exact ⟨v0,rfl⟩
    have h0:=hrep 0 v0 _ rfl rfl
    rw [List.length_map] at h0 hmo
    have hml:zs.length < 134217728:=hmo
    have hsl:(zs.mergeSort fun x y=>decide (x≤y)).length=zs.length:=by simp
    by_cases hne:zs=[]
    ·subst hne
     obtain ⟨a,cap,rfl,hid⟩:∃ a cap,v0=.slice (some a) 0 cap∧id < st.length:=by
      cases h0 with
      | rs _ _ _ _ _ _ a cap hid hv hc hf ha=>exact ⟨a,cap,rfl,hid⟩
     have hcall:=Go.Proofs.Any.slices_Sort_int_none Ly (some a) cap w
     rw [hf] at hcall
     refine hcall.mono ?_
     rintro e' w' ⟨rfl,rfl⟩
     have hO:=H.obj id hid
     rw [hob] at hO
     obtain ⟨cs,e,lo,hi,j1,j2,j3,j4,j5⟩:=obI hO
     obtain ⟨U1,U2⟩:=updI (w':=w') (zs':=[]) H hL hid hob rfl rfl rfl (Nat.le_refl _) (fun _ _ _=>rfl) (.inl rfl) (.inr ⟨rfl,rfl,.refl _ _⟩) j1 (j2 rfl) (by simp) (by simpa using j4) (fun i z hz=>by simp at hz)
     exact ⟨_,_,rfl,by simpa using U1,.tup _ _ rfl (fun i v d hv hd=>by simp at hv),by simpa using U2⟩
    ·obtain ⟨cap,cs,e,lo,hi,rfl,hid,hcl,k1,k2,k3,k4,k5,k6⟩:=rowI H h0 hob hne
     have hcall:=Go.Proofs.Any.slices_Sort_int Ly (bl id) 0 cap zs w k6 (Array.getElem?_eq_some_iff.1 k1).1 (by omega)
     rw [hf] at hcall
     refine hcall.mono ?_
     rintro e' w' ⟨rfl,n,os,rfl⟩
     have W:=putRow_wr w (bl id) n (zs.mergeSort fun x y=>decide (x≤y)) k1
     have hlt:bl id < w.heap.size:=(Array.getElem?_eq_some_iff.1 k1).1
     have hps:=putCells_size (zs.mergeSort fun x y=>decide (x≤y)) cs
     have hsame:∀ k,k < w.heap.size→(Go.Sort.grow (putRow (Value.int .i64) (Sort.ahead w n) (bl id) 0 (zs.mergeSort fun x y=>decide (x≤y)).toArray) os).heap[k]?=(putRow (Value.int .i64) (Sort.ahead w n) (bl id) 0 (zs.mergeSort fun x y=>decide (x≤y)).toArray).heap[k]?:=fun k hk=>by
      simp only [Go.Sort.grow]
      rw [Array.getElem?_append_left (by rw [W.size]; exact hk)]
     have hnew:=(hsame _ hlt).trans W.new
     obtain ⟨U1,U2⟩:=updI (w':=Go.Sort.grow (putRow (Value.int .i64) (Sort.ahead w n) (bl id) 0 (zs.mergeSort fun x y=>decide (x≤y)).toArray) os) (zs':=zs.mergeSort fun x y=>decide (x≤y)) H hL hid hob W.os W.tape W.output (by simp [Go.Sort.grow,W.size])
      (fun k hk hne=>(hsame k hk).trans (W.same k hne)) (.inl rfl) (.inr ⟨rfl,rfl,fun c e2 f2 hc2=>by rw [k1] at hc2; cases hc2; exact ⟨_,_,hnew,hps⟩⟩) hnew (by rw [hps]; exact k3) (by rw [hps,hsl]; omega) (by rw [hps,hsl]; exact k4)
      (fun i z hz=>putCells_get _ _ (by rw [hsl]; omega) i z hz)
     exact ⟨_,_,rfl,U1,.tup _ _ rfl (fun i v d hv hd=>by simp at hv),U2⟩
   ·cases hp
  ·cases hp
 all_goals first | (exact absurd ‹19=15› (by decide)) | (exact absurd ‹19=23› (by decide)) | (exact absurd ‹19=27› (by decide)) | cases hp
theorem prim_compact {ρ:Go.Shelf.Ren} (Ly:Go.Proofs.Lays2.n20 P ρ) {f:Nat} {ifn:IFunc} (hk:Known P f) (hf:ρ.f 20=f) (hc:ifn.code=.prim 23) (hr:ifn.res=[.t 0]):PrimF P f ifn:=by
 refine ⟨hk,_,hc,fun args st ds st1 r st' hp hfin=>?_⟩
 rw [hr] at hfin
 rw [primD,if_pos (by decide)] at hp
 unfold primI at hp
 split at hp
 case h_4=>
  simp only [Option.some.injEq,Prod.mk.injEq] at hp
  obtain ⟨rfl,rfl⟩:=hp
  simp only [finish,resL,resD,get,List.getD_cons_zero,D.okv,if_true,Option.bind_some,Option.some.injEq,Prod.mk.injEq] at hfin
  obtain ⟨rfl,rfl⟩:=hfin
  intro w L bl vs H hL hsz hrep
  obtain ⟨v0,rfl⟩:∃ v0,vs=#[v0]:=by
   match vs,hsz with
   | ⟨[v0]⟩,_=>exact ⟨v0,rfl⟩
  have h0:=hrep 0 v0 _ rfl rfl
  cases h0
  have hcall:=Go.Proofs.Any.slices_Compact_int_empty Ly none 0 w
  rw [hf] at hcall
  refine hcall.mono ?_
  rintro e' w' ⟨rfl,rfl⟩
  exact ⟨_,bl,rfl,H,.nils,.refl _ _ _⟩
 case h_5=>
  rename_i id ver len q0
  clear q0
  split at hp
  ·rename_i ver' mod elems hob
   split at hp
   ·rename_i hcon
    obtain ⟨rfl,rfl,hmo⟩:=hcon
    obtain ⟨zs,hzs,hp2⟩:=Option.bind_eq_some_iff.1 hp
    clear hp
    obtain rfl:=ints_eq hzs
    simp only [Option.some.injEq,Prod.mk.injEq] at hp2
    obtain ⟨rfl,rfl⟩:=hp2
    simp only [finish,resL,resD,get,List.getD_cons_zero,D.okv,if_true,Option.bind_some,Option.some.injEq,Prod.mk.injEq] at hfin
    obtain ⟨rfl,rfl⟩:=hfin
    intro w L bl vs H hL hsz hrep
    obtain ⟨v0,rfl⟩:∃ v0,vs=#[v0]:=by
     match vs,hsz with
     | ⟨[v0]⟩,_=>exact ⟨v0,rfl⟩
    have h0:=hrep 0 v0 _ rfl rfl
    rw [List.length_map] at h0 hmo
    have hml:zs.length < 134217728:=hmo
    have hcle:=Lib.compact_length_le zs
    have hsl:(Lib.compact zs++List.replicate (zs.length - (Lib.compact zs).length) 0).length=zs.length:=by simp; omega
    by_cases hne:zs=[]
    ·subst hne
     obtain ⟨a,cap,rfl,hid,hv0,hc0,hf0,ha0⟩:∃ a cap,v0=.slice (some a) 0 cap∧id < st.length∧ver'≤(St.at st id).ver∧(0≤cap∧cap≤9223372036854775807)∧(false=true→cap=0) ∧
       ((St.at st id).ver=ver'→(cap≠0→a=⟨bl id,0 * 1,none⟩)∧∃ c e f,w.heap[bl id]?=some (.cells c e f)∧(0+cap) * 1≤c.size):=by
      cases h0 with
      | rs _ _ _ _ _ _ a cap hid hv hc hf ha=>exact ⟨a,cap,rfl,hid,hv,hc,hf,ha⟩
     have hcall:=Go.Proofs.Any.slices_Compact_int_empty Ly (some a) cap w
     rw [hf] at hcall
     refine hcall.mono ?_
     rintro e' w' ⟨rfl,rfl⟩
     have hO:=H.obj id hid
     rw [hob] at hO
     obtain ⟨cs,e,lo,hi,j1,j2,j3,j4,j5⟩:=obI hO
     obtain ⟨U1,U2⟩:=updI (w':=w') (zs':=[]) H hL hid hob rfl rfl rfl (Nat.le_refl _) (fun _ _ _=>rfl) (.inl rfl) (.inr ⟨rfl,rfl,.refl _ _⟩) j1 (j2 rfl) (by simp) (by simpa using j4) (fun i z hz=>by simp at hz)
     rw [upd_same] at U1 U2
     have hv1:(St.at (List.set st id (.cells false 1 ver' (mod+1) false (([]:List Int).map dI))) id).ver=ver':=by rw [at_set _ _ _ _ hid,if_pos rfl]; rfl
     exact ⟨_,bl,rfl,U1,.rs _ _ _ _ _ _ _ _ (by simpa using hid) (by show _≤(St.at (List.set st id (.cells false 1 ver' (mod+1) false (([]:List Int).map dI))) id).ver; rw [hv1]; exact Nat.le_refl _) hc0 hf0 fun _=>ha0 (by rw [hob]; rfl),U2⟩
    ·obtain ⟨cap,cs,e,lo,hi,rfl,hid,hcl,k1,k2,k3,k4,k5,k6⟩:=rowI H h0 hob hne
     have hcall:=Go.Proofs.Any.slices_Compact_int Ly (bl id) 0 cap zs w k6 (by omega) hcl.1
     rw [hf] at hcall
     generalize hzc:Lib.compact zs++List.replicate (zs.length - (Lib.compact zs).length) 0=zc at *
     generalize hcn:(Lib.compact zs).length=cn at *
     refine hcall.mono ?_
     rintro e' w' ⟨rfl,n,rfl⟩
     have W:=putRow_wr w (bl id) n zc k1
     have hlt:bl id < w.heap.size:=(Array.getElem?_eq_some_iff.1 k1).1
     have hps:=putCells_size zc cs
     obtain ⟨U1,U2⟩:=updI (w':=(putRow (Value.int .i64) (Sort.ahead w n) (bl id) 0 zc.toArray)) (zs':=zc) H hL hid hob W.os W.tape W.output (Nat.le_of_eq W.size.symm)
      (fun k _ hne=>W.same k hne) (.inl rfl) (.inr ⟨rfl,rfl,fun c e2 f2 hc2=>by rw [k1] at hc2; cases hc2; exact ⟨_,_,W.new,hps⟩⟩) W.new (by rw [hps]; exact k3) (by rw [hps,hsl]; omega) (by rw [hps,hsl]; exact k4)
      (fun i z hz=>putCells_get _ _ (by rw [hsl]; omega) i z hz)
     rw [upd_same] at U1 U2
     refine ⟨_,bl,rfl,U1,?_,U2⟩
     have hps':=hps
     refine .rs _ _ _ _ _ _ _ _ (by simpa using hid) (by rw [at_set _ _ _ _ hid,if_pos rfl]; exact Nat.le_refl _) ⟨by omega,hcl.2⟩ (by simp) fun _=>⟨fun _=>by simp,_,_,_,W.new,by rw [hps]; omega⟩
   ·cases hp
  ·cases hp
 all_goals first | (exact absurd ‹23=15› (by decide)) | (exact absurd ‹23=19› (by decide)) | (exact absurd ‹23=27› (by decide)) | cases hp
theorem rises_pair:∀ {zs:List Int},rises zs=true→zs.Pairwise (·≤·)
 | [],_=>.nil
 | [a],_=>.cons (fun b hb=>by simp at hb) .nil
 | a::b::l,h=>by
  simp only [rises,Bool.and_eq_true,decide_eq_true_eq] at h
  have ih:=rises_pair h.2
  refine .cons (fun c hc=>?_) ih
  rcases List.mem_cons.1 hc with rfl | hc
  ·exact h.1
  ·exact Int.le_trans h.1 (List.rel_of_pairwise_cons ih hc)
theorem prim_search {ρ:Go.Shelf.Ren} (Ly:Go.Proofs.Lays2.n25 P ρ) {f:Nat} {ifn:IFunc} (hk:Known P f) (hf:ρ.f 25=f) (hc:ifn.code=.prim 27) (hr:ifn.res=[.t 0,.t 1]):PrimF P f ifn:=by
 refine ⟨hk,_,hc,fun args st ds st1 r st' hp hfin=>?_⟩
 rw [hr] at hfin
 rw [primD,if_pos (by decide)] at hp
 unfold primI at hp
 split at hp
 case h_6=>
  rename_i s x q0
  clear q0
  obtain ⟨l,hl,hp2⟩:=Option.bind_eq_some_iff.1 hp
  obtain ⟨zs,hzs,hp3⟩:=Option.bind_eq_some_iff.1 hp2
  clear hp hp2
  obtain rfl:=ints_eq hzs
  split at hp3
  ·rename_i hcon
   simp only [Option.some.injEq,Prod.mk.injEq] at hp3
   obtain ⟨rfl,rfl⟩:=hp3
   simp only [finish,resL,resD,get,List.getD_cons_zero,List.getD_cons_succ,D.okv,if_true,Option.bind_some,Option.some.injEq,Prod.mk.injEq] at hfin
   obtain ⟨rfl,rfl⟩:=hfin
   intro w L bl vs H hL hsz hrep
   obtain ⟨v0,v1,rfl⟩:∃ v0 v1,vs=#[v0,v1]:=by
    match vs,hsz with
    | ⟨[v0,v1]⟩,_=>exact ⟨v0,v1,rfl⟩
   have h0:=hrep 0 v0 _ rfl rfl
   have h1:=hrep 1 v1 _ rfl rfl
   cases h1
   obtain ⟨p,cap,vl,rfl,e2,e3,e4,e5⟩:=slice_els H h0 hl
   have two:∀ (w:World) (N:Nat→Prop) (a b:Value) (c d:D),Rep w N st bl a c→Rep w N st bl b d→Rep w N st bl (.tuple #[a,b]) (.tup [c,d]):=fun w N a b c d h1 h2=>
    .tup _ _ rfl fun i v y hv hy=>by
     match i with
     | 0=>simp at hv hy; subst hv; subst hy; exact h1
     | 1=>simp at hv hy; subst hv; subst hy; exact h2
     | i+2=>simp at hy
   by_cases hne:zs=[]
   ·subst hne
    have hcall:=Go.Proofs.Any.slices_BinarySearch_int_empty Ly p cap x w
    rw [hf] at hcall
    refine hcall.mono ?_
    rintro e' w' ⟨rfl,rfl⟩
    exact ⟨_,bl,rfl,H,two _ _ _ _ _ _ (.int _ _) (.bool _),.refl _ _ _⟩
   ·have hpos:0 < zs.length:=List.length_pos_iff.2 hne
    have hvl:vl.length=zs.length:=by rw [e4.1]; simp
    obtain ⟨q,rfl,hsp,_⟩:=e5 0 vl[0] (by simp)
    have hqe:q=⟨q.block,q.off,none⟩:=by cases q; simp at hsp; simp [hsp]
    have hcell:∀ j,j < zs.length→w.cell? ⟨q.block,q.off+j,none⟩=some (.int .i64 (zs.getD j 0)):=by
     intro j hj
     have hg:=List.getElem?_eq_getElem (l:=vl) (i:=j) (by omega)
     obtain ⟨q',hq',_,hcells⟩:=e5 j _ hg
     simp only [Option.some.injEq] at hq'
     subst hq'
     obtain ⟨hrj,_⟩:=e4.2 j _ (dI zs[j]) hg (by simp [hj])
     generalize vl[j]=u at *
     cases hrj
     have:=hcells 0 (vI zs[j]) rfl
     simp only [Nat.mul_one,Nat.add_zero] at this
     rw [this,List.getD_eq_getElem?_getD,List.getElem?_eq_getElem hj]; rfl
    have hcall:=Go.Proofs.Any.slices_BinarySearch_int Ly q.block q.off zs.length cap zs x w (Nat.le_refl _) (by have:zs.length < 134217728:=hcon.2; omega) hcell (by rw [List.take_length]; exact rises_pair hcon.1)
    rw [hf,List.take_length,←hqe] at hcall
    rw [List.length_map]
    refine hcall.mono ?_
    rintro e' w' ⟨rfl,n,rfl⟩
    exact ⟨_,bl,rfl,H.grown rfl rfl rfl (Nat.le_refl _) (fun _ _=>rfl),two _ _ _ _ _ _ (.int _ _) (.bool _),Evo.grown st bl (fun i hi=>H.lt hi) rfl rfl rfl (Nat.le_refl _) (fun _ _=>rfl)⟩
  ·cases hp3
 all_goals first | (exact absurd ‹27=15› (by decide)) | (exact absurd ‹27=19› (by decide)) | (exact absurd ‹27=23› (by decide)) | cases hp
end Go.Nt
namespace Go.Proofs
open Go.Shelf
def Tryz.lays189_ren:Go.Shelf.Ren:=⟨fun | 189=>90 | 125=>121 | 257=>120 | 128=>164 | 129=>165 | 294=>156 | 295=>157 | 296=>158 | 297=>159 | 298=>160 | 299=>161 | 216=>128 | 300=>162 | 301=>163 | 328=>179 | 329=>180 | 330=>181 | 331=>182 | 332=>183 | 215=>172 | 343=>186 | n=>n,fun | 28=>39 | 3=>3 | 46=>137 | 0=>0 | 51=>168 | 53=>170 | 4=>4 | 183=>162 | 182=>161 | 131=>115 | 5=>5 | 9=>9 | 218=>184 | 222=>188 | 228=>192 | 229=>180 | n=>n,fun | n=>n⟩
theorem Tryz.lays189:Go.Proofs.Lays.n189 Tryz.prog Tryz.lays189_ren:={
 mixed:=by kernel_rfl
 f125:=Tryz.func121.trans (congrArg some (by kernel_rfl))
 f128:=Tryz.func164.trans (congrArg some (by kernel_rfl))
 f129:=Tryz.func165.trans (congrArg some (by kernel_rfl))
 f189:=Tryz.func90.trans (congrArg some (by kernel_rfl))
 f215:=Tryz.func172.trans (congrArg some (by kernel_rfl))
 f216:=Tryz.func128.trans (congrArg some (by kernel_rfl))
 f257:=Tryz.func120.trans (congrArg some (by kernel_rfl))
 f294:=Tryz.func156.trans (congrArg some (by kernel_rfl))
 f295:=Tryz.func157.trans (congrArg some (by kernel_rfl))
 f296:=Tryz.func158.trans (congrArg some (by kernel_rfl))
 f297:=Tryz.func159.trans (congrArg some (by kernel_rfl))
 f298:=Tryz.func160.trans (congrArg some (by kernel_rfl))
 f299:=Tryz.func161.trans (congrArg some (by kernel_rfl))
 f300:=Tryz.func162.trans (congrArg some (by kernel_rfl))
 f301:=Tryz.func163.trans (congrArg some (by kernel_rfl))
 f328:=Tryz.func179.trans (congrArg some (by kernel_rfl))
 f329:=Tryz.func180.trans (congrArg some (by kernel_rfl))
 f330:=Tryz.func181.trans (congrArg some (by kernel_rfl))
 f331:=Tryz.func182.trans (congrArg some (by kernel_rfl))
 f332:=Tryz.func183.trans (congrArg some (by kernel_rfl))
 f343:=Tryz.func186.trans (congrArg some (by kernel_rfl))
 t0:=Tryz.underlying0
 a0:=Tryz.isAgg0
 z0:=Tryz.sizeOf0
 v0:=Tryz.zeroValue0
 t3:=Tryz.underlying3
 a3:=Tryz.isAgg3
 z3:=Tryz.sizeOf3
 v3:=Tryz.zeroValue3
 t4:=Tryz.underlying4
 a4:=Tryz.isAgg4
 z4:=Tryz.sizeOf4
 v4:=Tryz.zeroValue4
 t5:=Tryz.underlying5
 a5:=Tryz.isAgg5
 z5:=Tryz.sizeOf5
 v5:=Tryz.zeroValue5
 t9:=Tryz.underlying9
 a9:=Tryz.isAgg9
 z9:=Tryz.sizeOf9
 v9:=Tryz.zeroValue9
 t28:=Tryz.underlying39
 a28:=Tryz.isAgg39
 z28:=Tryz.sizeOf39
 v28:=Tryz.zeroValue39
 t46:=Tryz.underlying137
 a46:=Tryz.isAgg137
 z46:=Tryz.sizeOf137
 v46:=Tryz.zeroValue137
 t51:=Tryz.underlying168
 a51:=Tryz.isAgg168
 z51:=Tryz.sizeOf168
 v51:=Tryz.zeroValue168
 t53:=Tryz.underlying170
 a53:=Tryz.isAgg170
 z53:=Tryz.sizeOf170
 v53:=Tryz.zeroValue170
 t131:=Tryz.underlying115
 a131:=Tryz.isAgg115
 z131:=Tryz.sizeOf115
 v131:=Tryz.zeroValue115
 t182:=Tryz.underlying161
 a182:=Tryz.isAgg161
 z182:=Tryz.sizeOf161
 v182:=Tryz.zeroValue161
 t183:=Tryz.underlying162
 a183:=Tryz.isAgg162
 z183:=Tryz.sizeOf162
 v183:=Tryz.zeroValue162
 t218:=Tryz.underlying184
 a218:=Tryz.isAgg184
 z218:=Tryz.sizeOf184
 v218:=Tryz.zeroValue184
 t222:=Tryz.underlying188
 a222:=Tryz.isAgg188
 z222:=Tryz.sizeOf188
 v222:=Tryz.zeroValue188
 t228:=Tryz.underlying192
 a228:=Tryz.isAgg192
 z228:=Tryz.sizeOf192
 v228:=Tryz.zeroValue192
 t229:=Tryz.underlying180
 a229:=Tryz.isAgg180
 z229:=Tryz.sizeOf180
 v229:=Tryz.zeroValue180 }
def Tryz.laysNm220_ren:Go.Shelf.Ren:=⟨fun | 20=>91 | n=>n,fun | 22=>39 | 3=>3 | 4=>4 | 0=>0 | n=>n,fun | n=>n⟩
theorem Tryz.laysNm220:Go.Proofs.Lays2.n20 Tryz.prog Tryz.laysNm220_ren:={
 mixed:=by kernel_rfl
 f20:=Tryz.func91.trans (congrArg some (by kernel_rfl))
 t0:=Tryz.underlying0
 a0:=Tryz.isAgg0
 z0:=Tryz.sizeOf0
 v0:=Tryz.zeroValue0
 t3:=Tryz.underlying3
 a3:=Tryz.isAgg3
 z3:=Tryz.sizeOf3
 v3:=Tryz.zeroValue3
 t4:=Tryz.underlying4
 a4:=Tryz.isAgg4
 z4:=Tryz.sizeOf4
 v4:=Tryz.zeroValue4
 t22:=Tryz.underlying39
 a22:=Tryz.isAgg39
 z22:=Tryz.sizeOf39
 v22:=Tryz.zeroValue39
 i3:=by kernel_rfl }
def Tryz.laysNm225_ren:Go.Shelf.Ren:=⟨fun | 25=>95 | 31=>128 | 32=>129 | 37=>172 | n=>n,fun | 22=>39 | 3=>3 | 4=>4 | 40=>137 | 0=>0 | n=>n,fun | n=>n⟩
theorem Tryz.laysNm225:Go.Proofs.Lays2.n25 Tryz.prog Tryz.laysNm225_ren:={
 mixed:=by kernel_rfl
 f25:=Tryz.func95.trans (congrArg some (by kernel_rfl))
 f31:=Tryz.func128.trans (congrArg some (by kernel_rfl))
 f32:=Tryz.func129.trans (congrArg some (by kernel_rfl))
 f37:=Tryz.func172.trans (congrArg some (by kernel_rfl))
 t0:=Tryz.underlying0
 a0:=Tryz.isAgg0
 z0:=Tryz.sizeOf0
 v0:=Tryz.zeroValue0
 t3:=Tryz.underlying3
 a3:=Tryz.isAgg3
 z3:=Tryz.sizeOf3
 v3:=Tryz.zeroValue3
 t4:=Tryz.underlying4
 a4:=Tryz.isAgg4
 z4:=Tryz.sizeOf4
 v4:=Tryz.zeroValue4
 t22:=Tryz.underlying39
 a22:=Tryz.isAgg39
 z22:=Tryz.sizeOf39
 v22:=Tryz.zeroValue39
 t40:=Tryz.underlying137
 a40:=Tryz.isAgg137
 z40:=Tryz.sizeOf137
 v40:=Tryz.zeroValue137 }
def Tryz.laysNm221_ren:Go.Shelf.Ren:=⟨fun | 21=>127 | 27=>170 | 28=>171 | 35=>184 | 39=>187 | n=>n,fun | 22=>39 | 3=>3 | 4=>4 | 0=>0 | n=>n,fun | n=>n⟩
theorem Tryz.laysNm221:Go.Proofs.Lays2.n21 Tryz.prog Tryz.laysNm221_ren:={
 mixed:=by kernel_rfl
 f21:=Tryz.func127.trans (congrArg some (by kernel_rfl))
 f27:=Tryz.func170.trans (congrArg some (by kernel_rfl))
 f28:=Tryz.func171.trans (congrArg some (by kernel_rfl))
 f35:=Tryz.func184.trans (congrArg some (by kernel_rfl))
 f39:=Tryz.func187.trans (congrArg some (by kernel_rfl))
 t0:=Tryz.underlying0
 a0:=Tryz.isAgg0
 z0:=Tryz.sizeOf0
 v0:=Tryz.zeroValue0
 t3:=Tryz.underlying3
 a3:=Tryz.isAgg3
 z3:=Tryz.sizeOf3
 v3:=Tryz.zeroValue3
 t4:=Tryz.underlying4
 a4:=Tryz.isAgg4
 z4:=Tryz.sizeOf4
 v4:=Tryz.zeroValue4
 t22:=Tryz.underlying39
 a22:=Tryz.isAgg39
 z22:=Tryz.sizeOf39
 v22:=Tryz.zeroValue39
 i3:=by kernel_rfl }
end Go.Proofs
namespace Go.Nt.Li
open Go Go.Nt
theorem p90:PrimF Proofs.Tryz.prog 90 F90:=prim_sort Proofs.Tryz.lays189 ⟨Proofs.Tryz.f90,_,Proofs.Tryz.func90,rfl,by decide +kernel⟩ rfl rfl rfl
theorem p91:PrimF Proofs.Tryz.prog 91 F91:=prim_compact Proofs.Tryz.laysNm220 ⟨Proofs.Tryz.f91,_,Proofs.Tryz.func91,rfl,by decide +kernel⟩ rfl rfl rfl
theorem p95:PrimF Proofs.Tryz.prog 95 F95:=prim_search Proofs.Tryz.laysNm225 ⟨Proofs.Tryz.f95,_,Proofs.Tryz.func95,rfl,by decide +kernel⟩ rfl rfl rfl
theorem p127:PrimF Proofs.Tryz.prog 127 F127:=prim_insert Proofs.Tryz.laysNm221 ⟨Proofs.Tryz.f127,_,Proofs.Tryz.func127,rfl,by decide +kernel⟩ rfl rfl rfl
end Go.Nt.Li
