/-
  EFFECTS, plainly: the functions that are reached from calls; what is written.
  No condition.
-/
import Derived.Test.YtnflammoeakgfaaGreatLiTm
import Derived.Test.YtnflammoeakgfaaGreatLiIns
set_option linter.unusedSimpArgs false
namespace Go.Nt.Li
open Go Go.Nt
def wr0 (t:Tm):List Int:=if (t.k=22∧t.l≠[])∧(rootT (t.l.headD default)).k=9 then [(rootT (t.l.headD default)).n] else []
def ca0 (t:Tm):List Int:=if t.k=16 then [t.n] else []
mutual
 def wrT:Tm→List Int
  | .mk k n s fl l a b=>wr0 (.mk k n s fl l a b)++wrTs l
 def wrTs:List Tm→List Int
  | []=>[]
  | x::r=>wrT x++wrTs r
end
mutual
 def caT:Tm→List Int
  | .mk k n s fl l a b=>ca0 (.mk k n s fl l a b)++caTs l
 def caTs:List Tm→List Int
  | []=>[]
  | x::r=>caT x++caTs r
end
theorem wrT_eq (t:Tm):wrT t=wr0 t++wrTs t.l:=by cases t; rw [wrT]; rfl
theorem caT_eq (t:Tm):caT t=ca0 t++caTs t.l:=by cases t; rw [caT]; rfl
def fnAt (m:Tm) (i:Nat):Option Tm:=(m.l[i]?).bind fun d=>if d.k=33∧d.l.length=3 then d.l[2]? else none
def blk (m:Tm) (f:Int):Option Tm:=if f < 0 then none else fnAt m f.toNat
theorem blk_nat (m:Tm) (i:Nat):blk m (i:Int)=fnAt m i:=by unfold blk; rw [if_neg (by omega)]; simp
theorem blk_lt {m:Tm} {f:Int} {b:Tm} (h:blk m f=some b):0≤f∧∃ hf:f.toNat < m.l.length,b∈m.l[f.toNat].l:=by
 unfold blk at h
 split at h
 ·cases h
 ·refine ⟨by omega,?_⟩
  unfold fnAt at h
  rw [Option.bind_eq_some_iff] at h
  obtain ⟨d,h1,h2⟩:=h
  obtain ⟨hf,rfl⟩:=List.getElem?_eq_some_iff.1 h1
  refine ⟨hf,?_⟩
  split at h2
  ·exact List.mem_of_getElem? h2
  ·cases h2
theorem blk_good {m:Tm} {f:Int} {b:Tm} (gm:good m) (h:blk m f=some b):good b:=by
 obtain ⟨_,hf,hb⟩:=blk_lt h
 exact ((good_iff _).1 (((good_iff _).1 gm).2.2.2.2.2.2 _ (List.getElem_mem hf))).2.2.2.2.2.2 _ hb
theorem blk_cnt {m:Tm} {f:Int} {b:Tm} (h:blk m f=some b):∃ hf:f.toNat < m.l.length,cntT b < cntT m.l[f.toNat]:=by
 obtain ⟨_,hf,hb⟩:=blk_lt h
 have:=cntTs_mem hb
 exact ⟨hf,by have e:=cntT_eq m.l[f.toNat]; omega⟩
inductive Rch (m:Tm) (c0:List Int):Int→Prop
 | base {f b}:f∈c0→blk m f=some b→Rch m c0 f
 | step {g b f d}:Rch m c0 g→blk m g=some b→f∈caT b→blk m f=some d→Rch m c0 f
theorem Rch.mono {m:Tm} {c c':List Int} (h:∀ x,x∈c→x∈c') {f:Int} (r:Rch m c f):Rch m c' f:=by
 induction r with
 | base h1 h2=>exact .base (h _ h1) h2
 | step _ h1 h2 h3 ih=>exact .step ih h1 h2 h3
theorem rch_closed {m:Tm} {c0:List Int} {S:Int→Prop} (h1:∀ f b,f∈c0→blk m f=some b→S f) (h2:∀ g b f d,S g→blk m g=some b→f∈caT b→blk m f=some d→S f) {f:Int} (r:Rch m c0 f):S f:=by
 induction r with
 | base a b=>exact h1 _ _ a b
 | step _ a b c ih=>exact h2 _ _ _ _ ih a b c
def WrP (m t:Tm) (x:Int):Prop:=x∈wrT t∨∃ f b,Rch m (caT t) f∧blk m f=some b∧x∈wrT b
def fnsR (m:Tm) (l:List Int):List Int:=((List.range m.l.length).filter fun i:Nat=>l.contains (i:Int) && (fnAt m i).isSome).map fun i:Nat=>(i:Int)
theorem mem_fnsR (m:Tm) (l:List Int) (f:Int):f∈fnsR m l↔f∈l∧∃ b,blk m f=some b:=by
 unfold fnsR
 simp only [List.mem_map,List.mem_filter,List.mem_range,Bool.and_eq_true,List.contains_iff_mem]
 constructor
 ·rintro ⟨i,⟨_,h1,h2⟩,rfl⟩
  exact ⟨h1,by rw [blk_nat]; exact Option.isSome_iff_exists.1 h2⟩
 ·rintro ⟨h1,b,h2⟩
  obtain ⟨h3,h4,_⟩:=blk_lt h2
  have e:((f.toNat:Nat):Int)=f:=by omega
  refine ⟨f.toNat,⟨h4,by rw [e]; exact h1,?_⟩,e⟩
  rw [←blk_nat,e,h2]; rfl
def callsF (m:Tm) (out:List Int):List Int:=out.flatMap fun f=>((blk m f).map caT).getD []
def rnd (m:Tm) (out:List Int):List Int:=fnsR m (out++callsF m out)
def rndN (m:Tm):Nat→List Int→List Int
 | 0,out=>out
 | k+1,out=>rndN m k (rnd m out)
theorem mem_callsF (m:Tm) (out:List Int) (x:Int):x∈callsF m out↔∃ f b,f∈out∧blk m f=some b∧x∈caT b:=by
 unfold callsF
 rw [List.mem_flatMap]
 constructor
 ·rintro ⟨f,h1,h2⟩
  cases hb:blk m f with
  | none=>rw [hb] at h2; simp at h2
  | some b=>rw [hb] at h2; exact ⟨f,b,h1,hb,by simpa using h2⟩
 ·rintro ⟨f,b,h1,h2,h3⟩
  exact ⟨f,h1,by rw [h2]; simpa using h3⟩
theorem filter_same {α:Type} {p q:α→Bool} (h:∀ x,p x=true→q x=true):∀ (l:List α),(l.filter p).length≤(l.filter q).length∧((l.filter q).length≤(l.filter p).length→l.filter p=l.filter q)
 | []=>⟨Nat.le_refl _,fun _=>rfl⟩
 | x::l=>by
  obtain ⟨h1,h2⟩:=filter_same h l
  cases hp:p x
  ·cases hq:q x
   ·simp [hp,hq]; exact ⟨h1,h2⟩
   ·simp [hp,hq]; exact ⟨by omega,fun h=>by omega⟩
  ·simp [hp,h x hp]; exact ⟨h1,h2⟩
theorem reach_ok (m:Tm) (c:List Int) (f:Int):f∈rndN m m.l.length (fnsR m c)↔Rch m c f:=by
 have snd:∀ k out,(∀ f,f∈out→Rch m c f)→∀ f,f∈rndN m k out→Rch m c f:=by
  intro k
  induction k with
  | zero=>exact fun out h f hf=>h f hf
  | succ k ih=>
   intro out h f hf
   refine ih (rnd m out) (fun g hg=>?_) f hf
   obtain ⟨h1,b,h2⟩:=(mem_fnsR m _ g).1 hg
   rcases List.mem_append.1 h1 with h1 | h1
   ·exact h g h1
   ·obtain ⟨e,d,h3,h4,h5⟩:=(mem_callsF m out g).1 h1
    exact .step (h e h3) h4 h5 h2
 let Ch (l:List Int):Prop:=∃ p:Nat→Bool,l=((List.range m.l.length).filter p).map fun i:Nat=>(i:Int)
 have ch:∀ l,Ch (fnsR m l):=fun l=>⟨_,rfl⟩
 have grow:∀ out,Ch out→(∀ f,f∈out→∃ b,blk m f=some b)→rnd m out=out∨out.length+1≤(rnd m out).length:=by
  rintro out ⟨p,rfl⟩ hb
  have hs:∀ x,x∈List.range m.l.length→p x=true→(fun i:Nat=>(((List.range m.l.length).filter p).map (fun i:Nat=>(i:Int))++callsF m (((List.range m.l.length).filter p).map fun i:Nat=>(i:Int))).contains (i:Int) && (fnAt m i).isSome) x=true:=by
   intro x hx hp
   have hm:(x:Int)∈((List.range m.l.length).filter p).map fun i:Nat=>(i:Int):=List.mem_map.2 ⟨x,List.mem_filter.2 ⟨hx,hp⟩,rfl⟩
   obtain ⟨b,h⟩:=hb x hm
   rw [blk_nat] at h
   simp only [Bool.and_eq_true,List.contains_iff_mem,List.mem_append]
   exact ⟨.inl hm,by rw [h]; rfl⟩
  have key:∀ (q:Nat→Bool),(∀ x,x∈List.range m.l.length→p x=true→q x=true)→((List.range m.l.length).filter q)=((List.range m.l.length).filter p)∨((List.range m.l.length).filter p).length+1≤((List.range m.l.length).filter q).length:=by
   intro q h
   have e:(List.range m.l.length).filter p=(List.range m.l.length).filter (fun x=>p x && q x):=List.filter_congr fun x hx=>by
    cases hp:p x
    ·rfl
    ·rw [h x hx hp]; rfl
   rw [e]
   obtain ⟨h1,h2⟩:=filter_same (p:=fun x=>p x && q x) (q:=q) (fun x hx=>by simp at hx; exact hx.2) (List.range m.l.length)
   by_cases hl:((List.range m.l.length).filter q).length≤((List.range m.l.length).filter (fun x=>p x && q x)).length
   ·exact .inl (h2 hl).symm
   ·exact .inr (by omega)
  rcases key _ hs with h | h
  ·exact .inl (by unfold rnd fnsR; rw [h])
  ·exact .inr (by unfold rnd fnsR; simpa using h)
 have fns:∀ l f,f∈fnsR m l→∃ b,blk m f=some b:=fun l f h=>((mem_fnsR m l f).1 h).2
 have len:∀ l,(fnsR m l).length≤m.l.length:=fun l=>by unfold fnsR; simp; exact Nat.le_trans (List.length_filter_le _ _) (by simp)
 have fix:∀ k out,Ch out→(∀ f,f∈out→∃ b,blk m f=some b)→m.l.length≤out.length+k→rnd m (rndN m k out)=rndN m k out:=by
  intro k
  induction k with
  | zero=>
   intro out hc hb hl
   rcases grow out hc hb with h | h
   ·exact h
   ·have:=len (out++callsF m out); unfold rnd at h; omega
  | succ k ih=>
   intro out hc hb hl
   rcases grow out hc hb with h | h
   ·have:∀ j,rndN m j out=out:=by
     intro j
     induction j with
     | zero=>rfl
     | succ j ij=>rw [rndN,h,ij]
    rw [this,h]
   ·rw [rndN]
    exact ih (rnd m out) (ch _) (fns _) (by omega)
 have F:=fix m.l.length (fnsR m c) (ch _) (fns _) (by omega)
 have keep:∀ k out,(∀ f,f∈out→∃ b,blk m f=some b)→∀ f,f∈out→f∈rndN m k out:=by
  intro k
  induction k with
  | zero=>exact fun _ _ _ h=>h
  | succ k ih=>
   intro out hb f hf
   refine ih (rnd m out) (fns _) f ?_
   exact (mem_fnsR m _ f).2 ⟨List.mem_append_left _ hf,hb f hf⟩
 refine ⟨snd _ _ (fun g hg=>?_) f,fun r=>?_⟩
 ·obtain ⟨h1,b,h2⟩:=(mem_fnsR m c g).1 hg
  exact .base h1 h2
 ·refine rch_closed (S:=fun f=>f∈rndN m m.l.length (fnsR m c)) (fun f b h1 h2=>?_) (fun g b f d h1 h2 h3 h4=>?_) r
  ·exact keep _ _ (fns _) f ((mem_fnsR m c f).2 ⟨h1,b,h2⟩)
  ·rw [←F]
   exact (mem_fnsR m _ f).2 ⟨List.mem_append_right _ ((mem_callsF m _ f).2 ⟨g,b,h1,h2,h3⟩),d,h4⟩
def q0 (t:Tm):Bool:=decide (t.k=5∨t.k=6∨t.k=7∨t.k=8∨t.k=9∨t.k=11∨t.k=13∨t.k=14∨t.k=15∨t.k=10) && !decide (t.k=10∧(t.n=12∨t.n=13)∧∀ x,t.l[1]?=some x→x.k≠5∨x.n=0)
mutual
 def qtT:Tm→Bool
  | .mk k n s fl l a b=>q0 (.mk k n s fl l a b) && qtTs l
 def qtTs:List Tm→Bool
  | []=>true
  | x::r=>qtT x && qtTs r
end
theorem qtT_eq (t:Tm):qtT t=(q0 t && qtTs t.l):=by cases t; rw [qtT]; rfl
mutual
 def subT:Tm→List Tm
  | .mk k n s fl l a b=>.mk k n s fl l a b::subTs l
 def subTs:List Tm→List Tm
  | []=>[]
  | x::r=>subT x++subTs r
end
theorem subT_eq (t:Tm):subT t=t::subTs t.l:=by cases t; rw [subT]; rfl
theorem subTs_app:∀ (a b:List Tm),subTs (a++b)=subTs a++subTs b
 | [],b=>by rw [subTs]; rfl
 | x::a,b=>by rw [List.cons_append,subTs,subTs,subTs_app a b,List.append_assoc]
theorem qtT_sub (t:Tm):qtT t=true↔∀ x,x∈subT t→q0 x=true:=by
 induction t using Tm.ind with
 | h t ih=>
  rw [qtT_eq,subT_eq,Bool.and_eq_true]
  have parts:∀ l:List Tm,(∀ x,x∈l→x∈t.l)→(qtTs l=true↔∀ x,x∈subTs l→q0 x=true):=by
   intro l
   induction l with
   | nil=>intro _; simp [qtTs,subTs]
   | cons x r ir=>
    intro hx
    rw [qtTs,subTs,Bool.and_eq_true,ih x (hx x (by simp)),ir fun y hy=>hx y (by simp [hy])]
    simp only [List.mem_append]
    exact ⟨fun h y hy=>hy.elim (h.1 y) (h.2 y),fun h=>⟨fun y hy=>h y (.inl hy),fun y hy=>h y (.inr hy)⟩⟩
  rw [parts t.l fun _ h=>h]
  simp
def glT (t:Tm):List Int:=((subT t).filter fun x=>decide (x.k=9)).map fun x=>x.n
def glTs (l:List Tm):List Int:=((subTs l).filter fun x=>decide (x.k=9)).map fun x=>x.n
theorem glT_eq (t:Tm):glT t=(if t.k=9 then [t.n] else [])++glTs t.l:=by
 unfold glT glTs; rw [subT_eq]
 by_cases h:t.k=9 <;> simp [h]
theorem glTs_cons (x:Tm) (l:List Tm):glTs (x::l)=glT x++glTs l:=by unfold glT glTs; rw [subTs]; simp
theorem sub_cnt (t:Tm):(subT t).length=cntT t:=by
 induction t using Tm.ind with
 | h t ih=>
  have parts:∀ l:List Tm,(∀ x,x∈l→x∈t.l)→(subTs l).length=cntTs l:=by
   intro l
   induction l with
   | nil=>intro _; rfl
   | cons x r ir=>intro hx; rw [subTs,cntTs,List.length_append,ih x (hx x (by simp)),ir fun y hy=>hx y (by simp [hy])]
  rw [subT_eq,cntT_eq,List.length_cons,parts t.l fun _ h=>h]
def spare (all:List Int):Nat→List Tm→Nat
 | _,[]=>0
 | i,x::r=>(if all.contains (i:Int) then 0 else 2 * cntT x)+spare all (i+1) r
theorem spare_top (all:List Int):∀ (l:List Tm) (i:Nat),spare all i l≤2 * cntTs l
 | [],_=>by simp [spare]
 | x::r,i=>by
  have:=spare_top all r (i+1)
  rw [spare,cntTs]
  split <;> omega
theorem spare_le {a b:List Int} (h:∀ x,x∈a→x∈b):∀ (l:List Tm) (i:Nat),spare b i l≤spare a i l
 | [],_=>Nat.le_refl _
 | x::r,i=>by
  have:=spare_le h r (i+1)
  rw [spare,spare]
  by_cases ha:(i:Int)∈a
  ·rw [if_pos (by simpa using h _ ha),if_pos (by simpa using ha)]; omega
  ·rw [if_neg (show ¬ a.contains (i:Int)=true by simpa using ha)]
   split <;> omega
theorem spare_new {a b:List Int} (h:∀ x,x∈a→x∈b):∀ (l:List Tm) (i j:Nat) (hj:j < l.length),((i+j:Nat):Int)∈b→((i+j:Nat):Int)∉a→spare b i l+2 * cntT l[j]≤spare a i l
 | x::r,i,0,_,hb,ha=>by
  have:=spare_le h r (i+1)
  rw [spare,spare]
  rw [if_pos (show b.contains (i:Int)=true by simpa using hb),if_neg (show ¬ a.contains (i:Int)=true by simpa using ha)]
  simp only [List.getElem_cons_zero]
  omega
 | x::r,i,j+1,hj,hb,ha=>by
  have e:i+(j+1)=i+1+j:=by omega
  rw [e] at hb ha
  have:=spare_new h r (i+1) j (by simpa using hj) hb ha
  rw [spare,spare]
  simp only [List.getElem_cons_succ]
  by_cases hx:(i:Int)∈a
  ·rw [if_pos (show b.contains (i:Int)=true by simpa using h _ hx),if_pos (show a.contains (i:Int)=true by simpa using hx)]; omega
  ·rw [if_neg (show ¬ a.contains (i:Int)=true by simpa using hx)]
   split <;> omega
end Go.Nt.Li
