/-
  HEAPS, POINT BY POINT; objects behind a heap.
  No condition.
-/
import Derived.Test.YtnflammoeakgfaaGreatNtSim
namespace Go.Nt
theorem at_get {st:St} {i:Nat} (h:i < st.length):St.at st i=st[i]:=by simp [St.at,h]
theorem settledN_of {n:Nat}:∀ {st st':St},st.length≤st'.length→(∀ i,i < st.length→St.at st' i=St.at st i∨(St.at st' i).pureO=true∨(St.at st' i).old n=true)→settledN n st st'=true
 | [],_,_,_=>rfl
 | _::_,[],h,_=>by simp at h
 | o::st,o'::st',hl,h=>by
  simp only [settledN,Bool.and_eq_true,Bool.or_eq_true,beq_iff_eq]
  refine ⟨?_,settledN_of (by simpa using hl) fun i hi=>h (i+1) (by simpa using hi)⟩
  rcases h 0 (by simp) with q | q | q
  ·left; left; have q':o'=o:=q
   rw [q']
  ·exact .inl (.inr q)
  ·exact .inr q
theorem settled_old {st st':St} (hl:st.length≤st'.length) (h:∀ i,i < st.length→St.at st' i=St.at st i∨(St.at st' i).pureO=true∨(St.at st' i).old st.length=true):settled st st'=true:=settledN_of hl h
theorem settled_of {st st':St} (hl:st.length≤st'.length) (h:∀ i,i < st.length→St.at st' i=St.at st i∨(St.at st' i).pureO=true):settled st st'=true:=
 settledN_of hl fun i hi=>(h i hi).elim .inl fun q=>.inr (.inl q)
theorem take_of {st st':St} (hl:st.length≤st'.length) (h:∀ i,i < st.length→St.at st' i=St.at st i):st'.take st.length=st:=by
 refine List.ext_getElem (by rw [List.length_take]; omega) fun i h1 h2=>?_
 have:=h i h2
 rw [at_get h2,at_get (by omega)] at this
 rw [List.getElem_take]; exact this
theorem settled_set {st:St} {i:Nat} {o:Ob} (ho:o.pureO=true):settled st (List.set st i o)=true:=by
 refine settled_of (by simp) fun j hj=>?_
 by_cases hi:i < st.length
 ·rw [at_set _ _ _ _ hi]
  by_cases e:j=i
  ·rw [if_pos e]; exact .inr ho
  ·rw [if_neg e]; exact .inl rfl
 ·rw [List.set_eq_of_length_le (by omega)]; exact .inl rfl
theorem at_app (st l:St) (k:Nat):St.at (st++l) (st.length+k)=St.at l k:=by
 simp only [St.at,List.getD_eq_getElem?_getD]
 rw [List.getElem?_append_right (by omega),Nat.add_sub_cancel_left]
theorem at_app0 (st l:St):St.at (st++l) st.length=St.at l 0:=at_app st l 0
theorem at_lt (st l:St) {i:Nat} (h:i < st.length):St.at (st++l) i=St.at st i:=by simp [St.at,List.getElem?_append_left h]
theorem set_app (st l:St) (k:Nat) (o:Ob):List.set (st++l) (st.length+k) o=st++List.set l k o:=by
 rw [List.set_append_right _ _ (by omega)]; simp
theorem set_app0 (st l:St) (o:Ob):List.set (st++l) st.length o=st++List.set l 0 o:=set_app st l 0 o
theorem set_lt (st l:St) {i:Nat} (h:i < st.length) (o:Ob):List.set (st++l) i o=List.set st i o++l:=List.set_append_left _ _ h
theorem callD_free {T:Nat→Option IFunc} {go:GoF} {f:Nat} {fn:IFunc} (hT:T f=some fn) (hm:fn.mode=.pure) {args args':List D} {st st':St} {q:D} (h1:pureArgs st args=some (args',st')) (h2:pureArgs st' args'=some (args',st'))
  (h:callD T go f args' st'=some (q,st')):callD T go f args st=some (q,st'):=by
 simp only [callD,hT,hm,h1,h2,Option.bind_some] at h ⊢
 exact h
@[simp] theorem rewrap_nils (d:D):rewrap .nils [d]=some d:=(rfl)
@[simp] theorem rewrap_rs (i v z o l:Nat) (f:Bool) (d:D):rewrap (.rs i v z o l f) [d]=some d:=(rfl)
@[simp] theorem rewrap_sl (z:Nat) (f:Bool) (ds:List D) (d:D):rewrap (.sl z f ds) [d]=some d:=(rfl)
@[simp] theorem rewrap_int (k:IntKind) (n:Int) (d:D):rewrap (.int k n) [d]=some d:=(rfl)
@[simp] theorem rewrap_bool (b:Bool) (d:D):rewrap (.bool b) [d]=some d:=(rfl)
@[simp] theorem rewrap_str (s:List UInt8) (d:D):rewrap (.str s) [d]=some d:=(rfl)
def Ends (st:St) (q:D) (st3:St) (res:Option (D × St)):Prop:=∃ r st1 st2,res=some (r,st1)∧fz st1 r=some (q,st2)∧settled st st2=true∧st2.take st.length=st3
theorem Ends.mk {st st3 st1 st2:St} {q r:D} (h1:fz st1 r=some (q,st2)) (h2:settled st st2=true∧st2.take st.length=st3):Ends st q st3 (some (r,st1)):=⟨r,st1,st2,rfl,h1,h2.1,h2.2⟩
theorem callD_cutE {T:Nat→Option IFunc} {f:Nat} {fn:IFunc} (hT:T f=some fn) (hm:fn.mode=.cut) {args:List D} {st st3:St} {q:D} (hargs:args.all D.okv=true)
  (hp:q.pureT=true) (h:Ends st q st3 (ev T f args st)):callD T (ev T) f args st=some (q,st3):=by
 obtain ⟨r,st1,st2,h1,h2,h3,h4⟩:=h
 exact callD_cut hT hm hargs h1 h2 hp h3 h4
end Go.Nt
namespace Go.Nt
variable {T:Nat→Option IFunc} {go:GoF} {lp':Ic→Cfg→Option (Ex × Cfg)}
theorem kC_b (t:Bool) (a b:Ic) (c:Cfg):kC T go lp' a b c (.bool t)=if t=true then rn T go lp' a c else rn T go lp' b c:=by cases t <;> rfl
theorem kG_b (w t:Bool) (io:Io) (os:List Gi) (s:List D) (b:List (Nat × List D)) (st:St):kG T go w io os s b st (.bool t)=if t=w then runOps T go (g0 io::os) ⟨⟨s,b⟩,st⟩ else runOps T go os ⟨⟨putO s io.dst .undef,b⟩,st⟩:=(rfl)
theorem kseq_ite {p:Prop} [Decidable p] (k:Cfg→Option (Ex × Cfg)) (x y:Option (Ex × Cfg)):kseq k (if p then x else y)=if p then kseq k x else kseq k y:=by split <;> rfl
theorem kblock_ite {p:Prop} [Decidable p] (id:Nat) (x y:Option (Ex × Cfg)):kblock id (if p then x else y)=if p then kblock id x else kblock id y:=by split <;> rfl
theorem kfin_ite {p:Prop} [Decidable p] (r:List Rv) (x y:Option (Ex × Cfg)):kfin r (if p then x else y)=if p then kfin r x else kfin r y:=by split <;> rfl
theorem kL_ite {p:Prop} [Decidable p] (a:Ic) (x y:Option (Ex × Cfg)):kL T a (if p then x else y)=if p then kL T a x else kL T a y:=by split <;> rfl
theorem kE_ite {p:Prop} [Decidable p] (d:Option Nat) (s:List D) (b:List (Nat × List D)) (st:St) (os:List Gi) (x y:Option Eff) :
  kE T go d s b st os (if p then x else y)=if p then kE T go d s b st os x else kE T go d s b st os y:=by split <;> rfl
theorem map_ite {α β:Type} {p:Prop} [Decidable p] (f:α→β) (x y:Option α):Option.map f (if p then x else y)=if p then Option.map f x else Option.map f y:=by split <;> rfl
theorem obind_ite {α β:Type} {p:Prop} [Decidable p] (f:α→Option β) (x y:Option α):Option.bind (if p then x else y) f=if p then Option.bind x f else Option.bind y f:=by split <;> rfl
theorem Stops_ite {p:Prop} [Decidable p] (x y:Option (Ex × Cfg)) (Q:Ex→List D→List (Nat × List D)→St→Prop):Stops (if p then x else y) Q=if p then Stops x Q else Stops y Q:=by split <;> rfl
def Ret (x:Option (D × St)) (Q:D→St→Prop):Prop:=∃ r st,x=some (r,st)∧Q r st
@[simp] theorem Ret_some (r:D) (st:St) (Q:D→St→Prop):Ret (some (r,st)) Q↔Q r st:=by
 constructor
 ·rintro ⟨r',st',h,q⟩; cases h; exact q
 ·exact fun h=>⟨r,st,rfl,h⟩
theorem Ret_ite {p:Prop} [Decidable p] (x y:Option (D × St)) (Q:D→St→Prop):Ret (if p then x else y) Q=if p then Ret x Q else Ret y Q:=by split <;> rfl
theorem callD_rawE {f:Nat} {fn:IFunc} (hT:T f=some fn) (hm:fn.mode=.raw) {args:List D} {st:St} (hargs:args.all D.okv=true):callD T (ev T) f args st=ev T f args st:=by
 simp only [callD,hT,hm,hargs,if_true]
theorem callD_freE {f:Nat} {fn:IFunc} (hT:T f=some fn) (hm:fn.mode=.fre) {args:List D} {st:St} {r q:D} {st1 st2:St} (hargs:args.all D.okv=true)
  (h:ev T f args st=some (r,st1)) (hr:fz st1 r=some (q,st2)) (hp:q.pureT=true):callD T (ev T) f args st=some (q,st2):=by
 simp only [callD,hT,hm,hargs,if_true,h,Option.bind_some,hr,hp]
theorem callD_pureR {f:Nat} {fn:IFunc} (hT:T f=some fn) (hm:fn.mode=.pure) {args:List D} {st:St} {q:D} (hargs:pureArgs st args=some (args,st)) (hp:q.pureT=true)
  (h:Ret (ev T f args []) fun r st1=>∃ st2,fz st1 r=some (q,st2)):callD T (ev T) f args st=some (q,st):=by
 obtain ⟨r,st1,h1,st2,h2⟩:=h
 exact callD_pure hT hm hargs h1 h2 hp
theorem callD_pureQ {f:Nat} {fn:IFunc} (hT:T f=some fn) (hm:fn.mode=.pure) {args:List D} {st:St} {q:D} (hargs:pureArgs st args=some (args,st)) (hp:q.pureT=true)
  (hf:∀ st,fz st q=some (q,st)) (h:Ret (ev T f args []) fun r _=>r=q):callD T (ev T) f args st=some (q,st):=by
 obtain ⟨r,st1,h1,rfl⟩:=h
 exact callD_pure hT hm hargs h1 (hf st1) hp
theorem lp_at (L body:Ic) (h:L=body) (c:Cfg):lp T L c=kL T L (rn T (ev T) (lp T) body c):=by subst h; exact lp_eq L c
theorem putO_frame (s:List D) (d:Option Nat) (x:D) (t:Nat) (h:d≠some t):get (putO s d x) t=get s t:=by
 cases d with
 | none=>rfl
 | some d=>
  simp only [putO,get_put]
  rw [if_neg]
  intro e; subst e; exact h rfl
theorem step_frame {c c':Cfg} {o:Gi} (h:step T go c o=some c'):(∀ t,o.io.dst≠some t→get c'.1.s t=get c.1.s t)∧∀ x,o.io.wbox≠some x→getB c'.1.b x=getB c.1.b x:=by
 unfold step at h
 split at h
 ·cases h
 split at h
 ·obtain ⟨e,he,rfl⟩:=Option.map_eq_some_iff.1 h
  have hw:=(act_writes he).1
  refine ⟨fun t ht=>putO_frame _ _ _ _ ht,fun x hx=>?_⟩
  simp only [apply]
  split
  ·rename_i y hy
   rw [getB_putB,if_neg]
   intro q
   exact hx (by rw [hw y hy,q])
  ·rfl
 ·simp only [Option.some.injEq] at h
  subst h
  exact ⟨fun t ht=>putO_frame _ _ _ _ ht,fun x _=>rfl⟩
theorem runOps_frame:∀ {l:List Gi} {c c':Cfg},runOps T go l c=some c'→(∀ t,t∉l.filterMap (fun g=>g.io.dst)→get c'.1.s t=get c.1.s t)∧∀ x,x∉l.filterMap (fun g=>g.io.wbox)→getB c'.1.b x=getB c.1.b x
 | [],c,c',h=>by simp only [runOps,Option.some.injEq] at h; subst h; exact ⟨fun _ _=>rfl,fun _ _=>rfl⟩
 | o::l,c,c',h=>by
  simp only [runOps,Option.bind_eq_some_iff] at h
  obtain ⟨c1,h1,h2⟩:=h
  obtain ⟨a1,a2⟩:=step_frame h1
  obtain ⟨b1,b2⟩:=runOps_frame h2
  refine ⟨fun t ht=>?_,fun x hx=>?_⟩
  ·rw [b1 t fun q=>ht (by rw [List.mem_filterMap] at q ⊢; obtain ⟨g,k1,k2⟩:=q; exact ⟨g,List.mem_cons_of_mem _ k1,k2⟩)]
   exact a1 t fun q=>ht (List.mem_filterMap.2 ⟨o,by simp,q⟩)
  ·rw [b2 x fun q=>hx (by rw [List.mem_filterMap] at q ⊢; obtain ⟨g,k1,k2⟩:=q; exact ⟨g,List.mem_cons_of_mem _ k1,k2⟩)]
   exact a2 x fun q=>hx (List.mem_filterMap.2 ⟨o,by simp,q⟩)
def Fram (L:Ic) (c c':Cfg):Prop:=(∀ t,t∉L.wr→get c'.1.s t=get c.1.s t)∧∀ x,x∉L.wrB→getB c'.1.b x=getB c.1.b x
theorem Fram.refl (L:Ic) (c:Cfg):Fram L c c:=⟨fun _ _=>rfl,fun _ _=>rfl⟩
theorem run_frame {fuel:Nat}:∀ {a:Ic} {c c':Cfg} {e:Ex},a.plain=true→run T go fuel a c=some (e,c')→Fram a c c'
 | .skip,c,c',e,_,h=>by simp only [run,Option.some.injEq,Prod.mk.injEq] at h; obtain ⟨rfl,rfl⟩:=h; exact .refl _ _
 | .exit id,c,c',e,_,h=>by simp only [run,Option.some.injEq,Prod.mk.injEq] at h; obtain ⟨rfl,rfl⟩:=h; exact .refl _ _
 | .ret,c,c',e,_,h=>by simp only [run,Option.some.injEq,Prod.mk.injEq] at h; obtain ⟨rfl,rfl⟩:=h; exact .refl _ _
 | .prim k,c,c',e,hp,h=>by cases hp
 | .amb y x a b,c,c',e,hp,h=>by
  have F:=run_far hp h
  refine ⟨F.1,fun z hz=>?_⟩
  simp only [run,Option.bind_eq_some_iff] at h
  obtain ⟨⟨e1,c1⟩,_,⟨e2,c2⟩,_,h⟩:=h
  unfold ambJ at h
  split at h
  ·rw [Option.map_eq_some_iff] at h
   obtain ⟨st,_,h⟩:=h
   simp only [Prod.mk.injEq] at h
   obtain ⟨_,rfl⟩:=h
   rfl
  ·cases h
 | .ops l,c,c',e,_,h=>by
  simp only [run,Option.bind_eq_some_iff,Option.some.injEq,Prod.mk.injEq] at h
  obtain ⟨c1,h1,rfl,rfl⟩:=h
  exact runOps_frame h1
 | .seq a b,c,c',e,hp,h=>by
  simp only [Ic.plain,Bool.and_eq_true] at hp
  simp only [run,Option.bind_eq_some_iff] at h
  obtain ⟨⟨e1,c1⟩,h1,h2⟩:=h
  obtain ⟨a1,a2⟩:=run_frame hp.1 h1
  cases e1 with
  | normal=>
   obtain ⟨b1,b2⟩:=run_frame hp.2 h2
   refine ⟨fun t ht=>?_,fun t ht=>?_⟩
   ·simp only [Ic.wr,List.mem_append,not_or] at ht
    rw [b1 t ht.2,a1 t ht.1]
   ·simp only [Ic.wrB,List.mem_append,not_or] at ht
    rw [b2 t ht.2,a2 t ht.1]
  | ret=>
   simp only [Option.some.injEq,Prod.mk.injEq] at h2
   obtain ⟨_,rfl⟩:=h2
   refine ⟨fun t ht=>?_,fun t ht=>?_⟩
   ·simp only [Ic.wr,List.mem_append,not_or] at ht
    exact a1 t ht.1
   ·simp only [Ic.wrB,List.mem_append,not_or] at ht
    exact a2 t ht.1
  | exit id=>
   simp only [Option.some.injEq,Prod.mk.injEq] at h2
   obtain ⟨_,rfl⟩:=h2
   refine ⟨fun t ht=>?_,fun t ht=>?_⟩
   ·simp only [Ic.wr,List.mem_append,not_or] at ht
    exact a1 t ht.1
   ·simp only [Ic.wrB,List.mem_append,not_or] at ht
    exact a2 t ht.1
 | .cond x a b,c,c',e,hp,h=>by
  simp only [Ic.plain,Bool.and_eq_true] at hp
  simp only [run] at h
  split at h
  ·rename_i t _
   cases t with
   | true=>
    obtain ⟨a1,a2⟩:=run_frame hp.1 h
    refine ⟨fun t ht=>?_,fun t ht=>?_⟩
    ·simp only [Ic.wr,List.mem_append,not_or] at ht; exact a1 t ht.1
    ·simp only [Ic.wrB,List.mem_append,not_or] at ht; exact a2 t ht.1
   | false=>
    obtain ⟨a1,a2⟩:=run_frame hp.2 h
    refine ⟨fun t ht=>?_,fun t ht=>?_⟩
    ·simp only [Ic.wr,List.mem_append,not_or] at ht; exact a1 t ht.2
    ·simp only [Ic.wrB,List.mem_append,not_or] at ht; exact a2 t ht.2
  ·cases h
 | .block id a,c,c',e,hp,h=>by
  simp only [run,Option.bind_eq_some_iff] at h
  obtain ⟨⟨e1,c1⟩,h1,h2⟩:=h
  obtain ⟨a1,a2⟩:=run_frame (show a.plain=true from hp) h1
  cases e1 <;> (simp only [Option.some.injEq,Prod.mk.injEq] at h2; obtain ⟨_,rfl⟩:=h2; exact ⟨a1,a2⟩)
 | .loop a,c,c',e,hp,h=>by
  simp only [run] at h
  have key:∀ n c,iter (run T go fuel a) n c=some (e,c')→Fram a c c':=by
   intro n
   induction n with
   | zero=>intro c h; cases h
   | succ n ih=>
    intro c h
    simp only [iter,Option.bind_eq_some_iff] at h
    obtain ⟨⟨e1,c1⟩,h1,h2⟩:=h
    obtain ⟨a1,a2⟩:=run_frame (show a.plain=true from hp) h1
    cases e1 with
    | normal=>
     obtain ⟨b1,b2⟩:=ih c1 h2
     exact ⟨fun t ht=>by rw [b1 t ht,a1 t ht],fun t ht=>by rw [b2 t ht,a2 t ht]⟩
    | ret=>simp only [Option.some.injEq,Prod.mk.injEq] at h2; obtain ⟨_,rfl⟩:=h2; exact ⟨a1,a2⟩
    | exit id=>simp only [Option.some.injEq,Prod.mk.injEq] at h2; obtain ⟨_,rfl⟩:=h2; exact ⟨a1,a2⟩
  exact key _ _ h
theorem lp_frame {a:Ic} (hp:a.plain=true) {c c':Cfg} {e:Ex} (h:lp T a c=some (e,c')):Fram a c c':=by
 obtain ⟨k,hk⟩:=(lim_iff (lp_mono a c) _).1 h
 exact run_frame (a:=.loop a) (T:=T) (go:=evT T k) (fuel:=k) hp hk
theorem Stops.fr {L:Ic} (hp:L.plain=true) {W:List Nat} (hW:L.wr=W) {s0:List D} {b0:List (Nat × List D)} {st0:St} {Q:Ex→List D→List (Nat × List D)→St→Prop} (h:Stops (lp T L ⟨⟨s0,b0⟩,st0⟩) Q)
  (F:Option (Ex × Cfg)→Prop) (k:∀ e s b st,Q e s b st→(∀ t,W.contains t=false→get s t=get s0 t)→F (some (e,⟨⟨s,b⟩,st⟩))):F (lp T L ⟨⟨s0,b0⟩,st0⟩):=by
 obtain ⟨e,s,b,st,hr,q⟩:=h
 obtain ⟨f1,_⟩:=lp_frame hp hr
 rw [hr]
 refine k e s b st q fun t ht=>f1 t ?_
 rw [hW]
 intro hm
 rw [List.contains_iff_mem.2 hm] at ht
 cases ht
theorem Stops.frB {L:Ic} (hp:L.plain=true) {W WB:List Nat} (hW:L.wr=W) (hB:L.wrB=WB) {s0:List D} {b0:List (Nat × List D)} {st0:St} {Q:Ex→List D→List (Nat × List D)→St→Prop} (h:Stops (lp T L ⟨⟨s0,b0⟩,st0⟩) Q)
  (F:Option (Ex × Cfg)→Prop) (k:∀ e s b st,Q e s b st→(∀ t,W.contains t=false→get s t=get s0 t)→(∀ t,WB.contains t=false→getB b t=getB b0 t)→F (some (e,⟨⟨s,b⟩,st⟩))):F (lp T L ⟨⟨s0,b0⟩,st0⟩):=by
 obtain ⟨e,s,b,st,hr,q⟩:=h
 obtain ⟨f1,f2⟩:=lp_frame hp hr
 rw [hr]
 refine k e s b st q (fun t ht=>f1 t ?_) fun t ht=>f2 t ?_
 ·rw [hW]
  intro hm
  rw [List.contains_iff_mem.2 hm] at ht
  cases ht
 ·rw [hB]
  intro hm
  rw [List.contains_iff_mem.2 hm] at ht
  cases ht
end Go.Nt
namespace Go.Nt
open Go
abbrev zT:List D:=[(.int .i64 0),(.int .i64 0),(.str []),.nils,(.int .i64 0),(.int .i64 0)]
abbrev kI (k:Int):Opd:=.c (.int .i64 k)
abbrev fA (d x o:Nat):Gi:=g0 (.fldA d (.t x) o none)
abbrev mV (d x:Nat):Gi:=g0 (.mv d (.t x))
abbrev mK (d:Nat) (k:Int):Gi:=g0 (.mv d (kI k))
abbrev lA (d x b:Nat):Gi:=g0 (.load d (.t x) none (some b) false)
abbrev lF (d x b:Nat):Gi:=g0 (.load d (.t x) (some 6) (some b) false)
abbrev lO (d x:Nat):Gi:=g0 (.load d (.t x) none none false)
abbrev lP (d x:Nat):Gi:=g0 (.load d (.t x) (some 6) none false)
abbrev eX (d x i:Nat):Gi:=g0 (.ext d (.t x) i)
abbrev bF (d x:Nat):Gi:=g0 (.boxL d 6 (some (.t x)) [])
abbrev bZ (d:Nat):Gi:=g0 (.boxL d 6 none zT)
abbrev sT (p x n b:Nat):Gi:=g0 (.store (.t p) (.t x) n (some b))
abbrev iX (d x i:Nat):Gi:=g0 (.idxA d (.t x) (.t i) 6 (some 6) none)
abbrev lN (d x:Nat):Gi:=g0 (.len d .slice (.t x) false)
abbrev nC (d x:Nat):Gi:=g0 (.nilc (some d) (.t x))
abbrev bT (d:Nat) (op:BinOp) (x y:Nat):Gi:=g0 (.bin d op (.t x) (.t y))
abbrev bK (d:Nat) (op:BinOp) (x:Nat) (k:Int):Gi:=g0 (.bin d op (.t x) (kI k))
abbrev pO (d c b:Nat):Gi:=g0 (.pick d (.t c) (.c (.bool true)) (.t b))
abbrev pA (d c a:Nat):Gi:=g0 (.pick d (.t c) (.t a) (.c (.bool false)))
abbrev cA (d f:Nat) (xs:List Opd):Gi:=g0 (.call (some d) f xs)
inductive FTree where
 | e
 | n (l:FTree) (k:Nat) (F:IFunc) (r:FTree)
def lookT (f:Nat):FTree→Option IFunc
 | .e=>none
 | .n l k F r=>bif Nat.ble (f+1) k then lookT f l else bif Nat.beq f k then some F else lookT f r
def allF (P:Nat→IFunc→Prop):FTree→Prop
 | .e=>True
 | .n l k F r=>allF P l∧(P k F∧allF P r)
theorem all_look {P:Nat→IFunc→Prop} {f:Nat} {ifn:IFunc}:∀ (t:FTree),allF P t→lookT f t=some ifn→P f ifn
 | .e,_,h=>by cases h
 | .n l k F r,h,q=>by
  rw [lookT] at q
  cases h1:Nat.ble (f+1) k with
  | true=>rw [h1] at q; exact all_look l h.1 q
  | false=>
   rw [h1] at q
   cases h2:Nat.beq f k with
   | true=>rw [h2] at q; rw [Nat.eq_of_beq_eq_true h2]; cases q; exact h.2.1
   | false=>rw [h2] at q; exact all_look r h.2.2 q
end Go.Nt
namespace Go.Nt.Li
open Go Go.Nt
def F3:IFunc:=⟨.pure,.seq (.ops [bF 3 0,bF 4 1,g0 (.mv 6 (.c (.bool false)))])
 (.seq (.seq (.ops [lF 11 3 3,cA 12 4 [(.t 11)],mV 13 12,g1 13 false (.load 14 (.t 4) (some 6) (some 4) false),g1 13 false (.call (some 15) 4 [(.t 14)]),pO 16 13 15,mV 17 16,g1 17 false (.load 18 (.t 4) (some 6) (some 4) false),g1 17 false (.call (some 19) 5 [(.t 18)]),pO 20 17 19,mV 21 20,g1 21 false (.load 22 (.t 3) (some 6) (some 3) false),g1 21 false (.call (some 23) 6 [(.t 22)]),g1 21 false (.un 24 .not (.t 23)),pO 25 21 24])
 (.cond (.t 25) (.seq (.ops [cA 26 7 [],mV 6 26])
 (.ret))
 (.skip)))
 (.seq (.ops [lF 28 3 3,lF 29 4 4,mV 30 2,cA 31 8 [(.t 28),(.t 29),(.t 30)],mV 27 31,eX 32 27 0,eX 33 27 1,bZ 7,sT 7 32 6 7,mV 8 33])
 (.seq (.ops [lF 35 3 3,lF 36 4 4,mV 37 2,cA 38 9 [(.t 35),(.t 36),(.t 37)],mV 34 38,eX 39 34 0,eX 40 34 1,bZ 9,sT 9 39 6 9,mV 10 40])
 (.seq (.ops [mV 41 8,mV 42 10,g0 (.eqn 43 false .bool (.t 41) (.t 42)),mV 44 43,g1 44 true (.load 45 (.t 7) (some 6) (some 7) false),g1 44 true (.load 46 (.t 9) (some 6) (some 9) false),g1 44 true (.call (some 47) 10 [(.t 45),(.t 46)]),pA 48 44 47,mV 49 48,g1 49 true (.call (some 50) 7 []),pA 51 49 50,mV 6 51])
 (.ret))))),
 [.t 6]⟩
def F4:IFunc:=⟨.pure,.seq (.ops [bF 1 0,g0 (.mv 2 (.c (.bool false)))])
 (.seq (.ops [lF 3 1 1,cA 4 11 [(.t 3),(kI 400),(kI 70)],bK 5 .lss 4 0,mV 6 5,g1 6 false (.load 7 (.t 1) (some 6) (some 1) false),g1 6 false (.call (some 8) 12 [(.t 7)]),pO 9 6 8,mV 2 9])
 (.ret)),
 [.t 2]⟩
def L5_0:Ic:=.seq (.seq (.ops [mV 12 3,fA 13 1 3,lA 14 13 1,lN 15 14,bT 16 .lss 12 15])
 (.cond (.t 16) (.skip)
 (.exit 0)))
 (.seq (.block 1 (.seq (.ops [fA 19 1 3,lA 20 19 1,mV 21 3,iX 22 20 21,lP 23 22,cA 24 5 [(.t 23)]])
 (.cond (.t 24) (.seq (.ops [g0 (.mv 2 (.c (.bool true)))])
 (.ret))
 (.skip))))
 (.ops [mV 17 3,bK 18 .add 17 1,mV 3 18]))
def F5:IFunc:=⟨.pure,.seq (.ops [bF 1 0,g0 (.mv 2 (.c (.bool false)))])
 (.seq (.seq (.ops [fA 4 1 0,lA 5 4 1,bK 6 .eql 5 7,mV 7 6,g1 7 true (.fldA 8 (.t 1) 1 none),g1 7 true (.load 9 (.t 8) none (some 1) false),g1 7 true (.bin 10 .gtr (.t 9) (kI 1099511627776)),pA 11 7 10])
 (.cond (.t 11) (.seq (.ops [g0 (.mv 2 (.c (.bool true)))])
 (.ret))
 (.skip)))
 (.seq (.seq (.ops [mK 3 0])
 (.block 0 (.loop L5_0)))
 (.seq (.ops [g0 (.mv 2 (.c (.bool false)))])
 (.ret)))),
 [.t 2]⟩
def F6:IFunc:=⟨.pure,.seq (.ops [bF 1 0,g0 (.mv 2 (.c (.bool false)))])
 (.seq (.ops [lF 7 1 1,cA 8 13 [(.t 7)],mV 6 8,eX 9 6 0,eX 10 6 1,eX 11 6 2,bZ 3,sT 3 9 6 3,mV 4 10,mV 5 11])
 (.seq (.ops [mV 12 5,bK 13 .eql 12 0,mV 14 13,g1 14 true (.load 15 (.t 3) (some 6) (some 3) false),g1 14 true (.load 16 (.t 1) (some 6) (some 1) false),g1 14 true (.call (some 17) 14 [(.t 15),(.t 16)]),pA 18 14 17,mV 2 18])
 (.ret))),
 [.t 2]⟩
def F7:IFunc:=⟨.pure,.seq (.ops [g0 (.mv 0 (.c (.bool false)))])
 (.seq (.ops [cA 2 17 [(kI 1)],g0 (.bsl 3 6 true [(.t 2)]),cA 4 16 [(kI 20),(.t 3)],g0 (.bsl 5 6 true [(.t 4)]),cA 6 15 [(.t 5)],bZ 1,sT 1 6 6 1])
 (.seq (.ops [g0 (.build 7 zT [(0,1,(kI 36))]),g0 (.bsl 8 1 false [(kI 0)]),lF 9 1 1,cA 10 15 [(.c .nils)],cA 11 18 [(.t 7),(.c .nils),(kI 45),(.t 8),(.t 9),(.t 10)],mV 0 11])
 (.ret))),
 [.t 0]⟩
def F8:IFunc:=⟨.pure,.seq (.ops [bF 3 0,bF 4 1,bZ 6,g0 (.mv 7 (.c (.bool false)))])
 (.seq (.ops [lF 13 4 4,mV 14 2,cA 15 19 [(.t 13),(.t 14)],mV 12 15,eX 16 12 0,eX 17 12 1,g0 (.boxL 8 13 none [.nils,(.int .i64 0),(.int .i64 0),(.str []),.nils,(.int .i64 0),(.int .i64 0),(.int .i64 0),(.int .i64 0),(.str []),.nils,(.int .i64 0),(.int .i64 0)]),sT 8 16 13 8,mV 9 17])
 (.seq (.seq (.ops [mV 18 9,g0 (.un 19 .not (.t 18))])
 (.cond (.t 19) (.seq (.ops [g0 (.build 20 zT []),sT 6 20 6 6,g0 (.mv 7 (.c (.bool false)))])
 (.ret))
 (.skip)))
 (.seq (.seq (.ops [g0 (.load 22 (.t 8) (some 13) (some 8) false),lF 23 3 3,cA 24 20 [(.t 22),(.t 23)],mV 21 24,eX 25 21 0,eX 26 21 1,bZ 10,sT 10 25 6 10,mV 11 26])
 (.seq (.ops [mV 27 11])
 (.cond (.t 27) (.seq (.ops [lF 28 10 10,sT 6 28 6 6,g0 (.mv 7 (.c (.bool true)))])
 (.ret))
 (.skip))))
 (.seq (.ops [g0 (.load 29 (.t 8) (some 13) (some 8) false),lF 30 3 3,cA 31 21 [(.t 29),(.t 30)],eX 32 31 0,eX 33 31 1,sT 6 32 6 6,mV 7 33])
 (.ret))))),
 [.cell 6 (some 6) (some 6),.t 7]⟩
def F9:IFunc:=⟨.pure,.seq (.ops [bF 3 0,bF 4 1,bZ 6,g0 (.mv 7 (.c (.bool false)))])
 (.seq (.ops [lF 11 3 3,g0 (.bsl 12 6 true []),mV 13 2,g0 (.bsl 14 1 false [(.t 13)]),lF 15 4 4,cA 16 22 [(.t 11),(.t 12),(kI 46),(.t 14),(.t 15)],mV 10 16,eX 17 10 0,eX 18 10 1,bZ 8,sT 8 17 6 8,mV 9 18])
 (.seq (.seq (.ops [mV 19 9])
 (.cond (.t 19) (.seq (.ops [lF 20 8 8,sT 6 20 6 6,g0 (.mv 7 (.c (.bool true)))])
 (.ret))
 (.skip)))
 (.seq (.ops [lF 21 3 3,g0 (.bsl 22 6 true []),mV 23 2,g0 (.bsl 24 1 false [(.t 23)]),lF 25 4 4,cA 26 22 [(.t 21),(.t 22),(kI 47),(.t 24),(.t 25)],eX 27 26 0,eX 28 26 1,sT 6 27 6 6,mV 7 28])
 (.ret)))),
 [.cell 6 (some 6) (some 6),.t 7]⟩
def L10_0:Ic:=.seq (.seq (.ops [mV 34 5,fA 35 2 3,lA 36 35 2,lN 37 36,bT 38 .lss 34 37])
 (.cond (.t 38) (.skip)
 (.exit 0)))
 (.seq (.block 1 (.seq (.ops [fA 41 2 3,lA 42 41 2,mV 43 5,iX 44 42 43,lP 45 44,fA 46 3 3,lA 47 46 3,mV 48 5,iX 49 47 48,lP 50 49,cA 51 10 [(.t 45),(.t 50)],g0 (.un 52 .not (.t 51))])
 (.cond (.t 52) (.seq (.ops [g0 (.mv 4 (.c (.bool false)))])
 (.ret))
 (.skip))))
 (.ops [mV 39 5,bK 40 .add 39 1,mV 5 40]))
def F10:IFunc:=⟨.pure,.seq (.ops [bF 2 0,bF 3 1,g0 (.mv 4 (.c (.bool false)))])
 (.seq (.seq (.ops [fA 6 2 0,lA 7 6 2,fA 8 3 0,lA 9 8 3,bT 10 .neq 7 9,mV 11 10,g1 11 false (.fldA 12 (.t 2) 1 none),g1 11 false (.load 13 (.t 12) none (some 2) false),g1 11 false (.fldA 14 (.t 3) 1 none),g1 11 false (.load 15 (.t 14) none (some 3) false),g1 11 false (.bin 16 .neq (.t 13) (.t 15)),pO 17 11 16,mV 18 17,g1 18 false (.fldA 19 (.t 2) 2 none),g1 18 false (.load 20 (.t 19) none (some 2) false),g1 18 false (.fldA 21 (.t 3) 2 none),g1 18 false (.load 22 (.t 21) none (some 3) false),g1 18 false (.bin 23 .neq (.t 20) (.t 22)),pO 24 18 23,mV 25 24,g1 25 false (.fldA 26 (.t 2) 3 none),g1 25 false (.load 27 (.t 26) none (some 2) false),g1 25 false (.len 28 .slice (.t 27) false),g1 25 false (.fldA 29 (.t 3) 3 none),g1 25 false (.load 30 (.t 29) none (some 3) false),g1 25 false (.len 31 .slice (.t 30) false),g1 25 false (.bin 32 .neq (.t 28) (.t 31)),pO 33 25 32])
 (.cond (.t 33) (.seq (.ops [g0 (.mv 4 (.c (.bool false)))])
 (.ret))
 (.skip)))
 (.seq (.seq (.ops [mK 5 0])
 (.block 0 (.loop L10_0)))
 (.seq (.ops [g0 (.mv 4 (.c (.bool true)))])
 (.ret)))),
 [.t 4]⟩
def L11_0:Ic:=.seq (.seq (.ops [mV 12 7,fA 13 3 3,lA 14 13 3,lN 15 14,bT 16 .lss 12 15,mV 17 16,g1 17 true (.mv 18 (.t 1)),g1 17 true (.bin 19 .geq (.t 18) (kI 0)),pA 20 17 19])
 (.cond (.t 20) (.skip)
 (.exit 0)))
 (.seq (.block 1 (.ops [fA 23 3 3,lA 24 23 3,mV 25 7,iX 26 24 25,lP 27 26,mV 28 1,mV 29 2,bK 30 .sub 29 1,cA 31 11 [(.t 27),(.t 28),(.t 30)],mV 1 31]))
 (.ops [mV 21 7,bK 22 .add 21 1,mV 7 22]))
def F11:IFunc:=⟨.pure,.seq (.ops [bF 3 0,mK 6 0])
 (.seq (.seq (.ops [mV 8 2,bK 9 .leq 8 0])
 (.cond (.t 9) (.seq (.ops [g0 (.mv 6 (.c (.int .i64 (-1))))])
 (.ret))
 (.skip)))
 (.seq (.ops [mV 10 1,bK 11 .sub 10 1,mV 1 11])
 (.seq (.seq (.ops [mK 7 0])
 (.block 0 (.loop L11_0)))
 (.seq (.ops [mV 32 1,mV 6 32])
 (.ret))))),
 [.t 6]⟩
def L12_0:Ic:=.seq (.seq (.ops [mV 8 3,fA 9 1 3,lA 10 9 1,lN 11 10,bT 12 .lss 8 11])
 (.cond (.t 12) (.skip)
 (.exit 0)))
 (.seq (.block 1 (.seq (.ops [fA 15 1 3,lA 16 15 1,mV 17 3,iX 18 16 17,lP 19 18,cA 20 12 [(.t 19)]])
 (.cond (.t 20) (.seq (.ops [g0 (.mv 2 (.c (.bool true)))])
 (.ret))
 (.skip))))
 (.ops [mV 13 3,bK 14 .add 13 1,mV 3 14]))
def F12:IFunc:=⟨.pure,.seq (.ops [bF 1 0,g0 (.mv 2 (.c (.bool false)))])
 (.seq (.seq (.ops [fA 4 1 2,lA 5 4 1,g0 (.len 6 .str (.t 5) false),bK 7 .gtr 6 40])
 (.cond (.t 7) (.seq (.ops [g0 (.mv 2 (.c (.bool true)))])
 (.ret))
 (.skip)))
 (.seq (.seq (.ops [mK 3 0])
 (.block 0 (.loop L12_0)))
 (.seq (.ops [g0 (.mv 2 (.c (.bool false)))])
 (.ret)))),
 [.t 2]⟩
def L13_0:Ic:=.seq (.seq (.ops [mV 20 6,fA 21 1 3,lA 22 21 1,lN 23 22,bT 24 .lss 20 23])
 (.cond (.t 24) (.skip)
 (.exit 0)))
 (.seq (.block 1 (.seq (.ops [lF 27 1 1,mV 28 6,cA 29 23 [(.t 27),(.t 28)],g0 (.boxL 7 8 none [(.int .i64 0),(.int .i64 0),(.str []),.nils,(.int .i64 0),(.int .i64 0),(.int .i64 0),(.int .i64 0)]),sT 7 29 8 7])
 (.seq (.seq (.ops [fA 30 7 7,lA 31 30 7,bK 32 .neq 31 0])
 (.cond (.t 32) (.seq (.ops [g0 (.build 33 zT []),fA 34 7 6,lA 35 34 7,fA 36 7 7,lA 37 36 7,sT 2 33 6 2,mV 3 35,mV 4 37])
 (.ret))
 (.skip)))
 (.ops [fA 38 5 3,lA 39 38 5,g0 (.fldA 40 (.t 7) 0 (some 6)),lF 41 40 7,g0 (.bsl 42 6 true [(.t 41)]),g0 (.app 43 (.t 39) (.t 42) 6),fA 44 5 3,sT 44 43 1 5]))))
 (.ops [mV 25 6,bK 26 .add 25 1,mV 6 26]))
def F13:IFunc:=⟨.pure,.seq (.ops [bF 1 0,bZ 2,mK 3 0,mK 4 0])
 (.seq (.seq (.ops [fA 8 1 0,lA 9 8 1,bK 10 .neq 9 36])
 (.cond (.t 10) (.seq (.ops [g0 (.build 11 zT []),fA 12 1 4,lA 13 12 1,sT 2 11 6 2,mV 3 13,mK 4 12])
 (.ret))
 (.skip)))
 (.seq (.ops [fA 14 1 0,lA 15 14 1,fA 16 1 1,lA 17 16 1,g0 (.bsl 18 6 true []),g0 (.build 19 zT [(0,1,(.t 15)),(1,1,(.t 17)),(3,1,(.t 18))]),bZ 5,sT 5 19 6 5])
 (.seq (.seq (.ops [mK 6 0])
 (.block 0 (.loop L13_0)))
 (.seq (.ops [lF 45 5 5,sT 2 45 6 2,mK 3 0,mK 4 0])
 (.ret))))),
 [.cell 2 (some 6) (some 2),.t 3,.t 4]⟩
def L14_0:Ic:=.seq (.seq (.ops [mV 48 5,fA 49 2 3,lA 50 49 2,lN 51 50,bT 52 .lss 48 51])
 (.cond (.t 52) (.skip)
 (.exit 0)))
 (.seq (.block 1 (.seq (.ops [fA 55 2 3,lA 56 55 2,mV 57 5,iX 58 56 57,lP 59 58,fA 60 3 3,lA 61 60 3,mV 62 5,iX 63 61 62,lP 64 63,cA 65 14 [(.t 59),(.t 64)],g0 (.un 66 .not (.t 65))])
 (.cond (.t 66) (.seq (.ops [g0 (.mv 4 (.c (.bool false)))])
 (.ret))
 (.skip))))
 (.ops [mV 53 5,bK 54 .add 53 1,mV 5 54]))
def F14:IFunc:=⟨.pure,.seq (.ops [bF 2 0,bF 3 1,g0 (.mv 4 (.c (.bool false)))])
 (.seq (.seq (.ops [fA 6 2 0,lA 7 6 2,fA 8 3 0,lA 9 8 3,bT 10 .neq 7 9,mV 11 10,g1 11 false (.fldA 12 (.t 2) 1 none),g1 11 false (.load 13 (.t 12) none (some 2) false),g1 11 false (.fldA 14 (.t 3) 1 none),g1 11 false (.load 15 (.t 14) none (some 3) false),g1 11 false (.bin 16 .neq (.t 13) (.t 15)),pO 17 11 16,mV 18 17,g1 18 false (.fldA 19 (.t 2) 2 none),g1 18 false (.load 20 (.t 19) none (some 2) false),g1 18 false (.fldA 21 (.t 3) 2 none),g1 18 false (.load 22 (.t 21) none (some 3) false),g1 18 false (.bin 23 .neq (.t 20) (.t 22)),pO 24 18 23,mV 25 24,g1 25 false (.fldA 26 (.t 2) 4 none),g1 25 false (.load 27 (.t 26) none (some 2) false),g1 25 false (.fldA 28 (.t 3) 4 none),g1 25 false (.load 29 (.t 28) none (some 3) false),g1 25 false (.bin 30 .neq (.t 27) (.t 29)),pO 31 25 30,mV 32 31,g1 32 false (.fldA 33 (.t 2) 5 none),g1 32 false (.load 34 (.t 33) none (some 2) false),g1 32 false (.fldA 35 (.t 3) 5 none),g1 32 false (.load 36 (.t 35) none (some 3) false),g1 32 false (.bin 37 .neq (.t 34) (.t 36)),pO 38 32 37,mV 39 38,g1 39 false (.fldA 40 (.t 2) 3 none),g1 39 false (.load 41 (.t 40) none (some 2) false),g1 39 false (.len 42 .slice (.t 41) false),g1 39 false (.fldA 43 (.t 3) 3 none),g1 39 false (.load 44 (.t 43) none (some 3) false),g1 39 false (.len 45 .slice (.t 44) false),g1 39 false (.bin 46 .neq (.t 42) (.t 45)),pO 47 39 46])
 (.cond (.t 47) (.seq (.ops [g0 (.mv 4 (.c (.bool false)))])
 (.ret))
 (.skip)))
 (.seq (.seq (.ops [mK 5 0])
 (.block 0 (.loop L14_0)))
 (.seq (.ops [g0 (.mv 4 (.c (.bool true)))])
 (.ret)))),
 [.t 4]⟩
def F15:IFunc:=⟨.pure,.seq (.ops [bZ 2])
 (.seq (.ops [mV 3 0,cA 4 16 [(kI 29),(.t 3)],sT 2 4 6 2])
 (.ret)),
 [.cell 2 (some 6) (some 2)]⟩
def F16:IFunc:=⟨.pure,.seq (.ops [bZ 4])
 (.seq (.ops [mV 5 0,mV 6 1,g0 (.build 7 zT [(0,1,(.t 5)),(3,1,(.t 6))]),sT 4 7 6 4])
 (.ret)),
 [.cell 4 (some 6) (some 4)]⟩
def F17:IFunc:=⟨.pure,.seq (.ops [bZ 2])
 (.seq (.ops [mV 3 0,g0 (.build 4 zT [(0,1,(kI 5)),(1,1,(.t 3))]),sT 2 4 6 2])
 (.ret)),
 [.cell 2 (some 6) (some 2)]⟩
def F18:IFunc:=⟨.pure,.seq (.ops [bF 6 0,bF 10 4,bF 11 5,g0 (.mv 12 (.c (.bool false)))])
 (.seq (.seq (.ops [mV 16 3,lN 17 16,bK 18 .neq 17 1])
 (.cond (.t 18) (.seq (.ops [g0 (.mv 12 (.c (.bool false)))])
 (.ret))
 (.skip)))
 (.seq (.ops [lF 20 10 10,mV 21 3,g0 (.idxA 22 (.t 21) (kI 0) 1 none none),lO 23 22,cA 24 19 [(.t 20),(.t 23)],mV 19 24,eX 25 19 0,eX 26 19 1,g0 (.boxL 13 13 none [.nils,(.int .i64 0),(.int .i64 0),(.str []),.nils,(.int .i64 0),(.int .i64 0),(.int .i64 0),(.int .i64 0),(.str []),.nils,(.int .i64 0),(.int .i64 0)]),sT 13 25 13 13,mV 14 26])
 (.seq (.seq (.ops [mV 27 14,g0 (.un 28 .not (.t 27))])
 (.cond (.t 28) (.seq (.ops [g0 (.mv 12 (.c (.bool false)))])
 (.ret))
 (.skip)))
 (.seq (.ops [bZ 15])
 (.seq (.seq (.ops [mV 29 2])
 (.block 0 (.seq (.ops [bK 31 .eql 29 45,mV 30 31])
 (.cond (.t 30) (.ops [g0 (.load 33 (.t 13) (some 13) (some 13) false),cA 34 24 [(.t 33)],mV 32 34,eX 35 32 0,eX 36 32 1,sT 15 35 6 15,mV 14 36])
 (.seq (.ops [bK 38 .eql 29 46,mV 37 38])
 (.cond (.t 37) (.ops [g0 (.load 40 (.t 13) (some 13) (some 13) false),lF 41 6 6,cA 42 20 [(.t 40),(.t 41)],mV 39 42,eX 43 39 0,eX 44 39 1,sT 15 43 6 15,mV 14 44])
 (.seq (.ops [bK 46 .eql 29 47,mV 45 46])
 (.cond (.t 45) (.ops [g0 (.load 48 (.t 13) (some 13) (some 13) false),lF 49 6 6,cA 50 21 [(.t 48),(.t 49)],mV 47 50,eX 51 47 0,eX 52 47 1,sT 15 51 6 15,mV 14 52])
 (.seq (.ops [bK 54 .eql 29 48,mV 53 54])
 (.cond (.t 53) (.ops [g0 (.load 56 (.t 13) (some 13) (some 13) false),lF 57 6 6,mV 58 1,cA 59 25 [(.t 56),(.t 57),(.t 58)],mV 55 59,eX 60 55 0,eX 61 55 1,sT 15 60 6 15,mV 14 61])
 (.seq (.ops [g0 (.mv 12 (.c (.bool false)))])
 (.ret))))))))))))
 (.seq (.ops [mV 62 14,mV 63 62,g1 63 true (.load 64 (.t 11) (some 6) (some 11) false),g1 63 true (.load 65 (.t 15) (some 6) (some 15) false),g1 63 true (.call (some 66) 26 [(.t 64),(.t 65)]),pA 67 63 66,mV 12 67])
 (.ret))))))),
 [.t 12]⟩
def F19:IFunc:=⟨.pure,.seq (.ops [bF 2 0,g0 (.boxL 4 13 none [.nils,(.int .i64 0),(.int .i64 0),(.str []),.nils,(.int .i64 0),(.int .i64 0),(.int .i64 0),(.int .i64 0),(.str []),.nils,(.int .i64 0),(.int .i64 0)]),g0 (.mv 5 (.c (.bool false)))])
 (.seq (.seq (.ops [fA 6 2 0,lA 7 6 2,bK 8 .neq 7 29,mV 9 8,g1 9 false (.fldA 10 (.t 2) 1 none),g1 9 false (.load 11 (.t 10) none (some 2) false),g1 9 false (.bin 12 .neq (.t 11) (kI 0)),pO 13 9 12,mV 14 13,g1 14 false (.fldA 15 (.t 2) 2 none),g1 14 false (.load 16 (.t 15) none (some 2) false),g1 14 false (.bin 17 .neq (.t 16) (.c (.str []))),pO 18 14 17,mV 19 18,g1 19 false (.mv 20 (.t 1)),g1 19 false (.bin 21 .lss (.t 20) (kI 0)),pO 22 19 21,mV 23 22,g1 23 false (.mv 24 (.t 1)),g1 23 false (.fldA 25 (.t 2) 3 none),g1 23 false (.load 26 (.t 25) none (some 2) false),g1 23 false (.len 27 .slice (.t 26) false),g1 23 false (.bin 28 .geq (.t 24) (.t 27)),pO 29 23 28])
 (.cond (.t 29) (.seq (.ops [g0 (.build 30 [.nils,(.int .i64 0),(.int .i64 0),(.str []),.nils,(.int .i64 0),(.int .i64 0),(.int .i64 0),(.int .i64 0),(.str []),.nils,(.int .i64 0),(.int .i64 0)] []),sT 4 30 13 4,g0 (.mv 5 (.c (.bool false)))])
 (.ret))
 (.skip)))
 (.seq (.ops [fA 31 2 3,lA 32 31 2,mV 33 1,g0 (.slc 34 (some 6) (.t 32) none (some (.t 33)) none),fA 35 2 3,lA 36 35 2,mV 37 1,iX 38 36 37,lP 39 38,fA 40 2 3,lA 41 40 2,mV 42 1,bK 43 .add 42 1,g0 (.slc 44 (some 6) (.t 41) (some (.t 43)) none none),g0 (.build 45 zT [(0,1,(kI 29)),(3,1,(.t 44))]),g0 (.build 46 [.nils,(.int .i64 0),(.int .i64 0),(.str []),.nils,(.int .i64 0),(.int .i64 0),(.int .i64 0),(.int .i64 0),(.str []),.nils,(.int .i64 0),(.int .i64 0)] [(0,1,(.t 34)),(1,6,(.t 39)),(7,6,(.t 45))]),sT 4 46 13 4,g0 (.mv 5 (.c (.bool true)))])
 (.ret))),
 [.cell 4 (some 13) (some 4),.t 5]⟩
def F20:IFunc:=⟨.pure,.seq (.ops [g0 (.boxL 2 13 (some (.t 0)) []),bF 3 1,bZ 4,g0 (.mv 5 (.c (.bool false)))])
 (.seq (.ops [g0 (.load 9 (.t 2) (some 13) (some 2) false),cA 10 27 [(.t 9)],mV 8 10,eX 11 8 0,eX 12 8 1,bZ 6,sT 6 11 6 6,mV 7 12])
 (.seq (.seq (.ops [mV 13 7,g0 (.un 14 .not (.t 13)),mV 15 14,g1 15 false (.load 16 (.t 6) (some 6) (some 6) false),g1 15 false (.call (some 17) 28 [(.t 16)]),g1 15 false (.un 18 .not (.t 17)),pO 19 15 18,mV 20 19,g1 20 false (.fldA 21 (.t 2) 7 (some 6)),g1 20 false (.load 22 (.t 21) (some 6) (some 2) false),g1 20 false (.call (some 23) 29 [(.t 22),(kI 0)]),pO 24 20 23,mV 25 24,g1 25 false (.load 26 (.t 6) (some 6) (some 6) false),g1 25 false (.load 27 (.t 2) (some 13) (some 2) false),g1 25 false (.mkfn 28 31 [(.t 27)] []),g1 25 false (.call (some 29) 30 [(.t 26),(.t 28)]),g1 25 false (.un 30 .not (.t 29)),pO 31 25 30,mV 32 31,g1 32 false (.load 33 (.t 3) (some 6) (some 3) false),g1 32 false (.fldA 34 (.t 2) 7 (some 6)),g1 32 false (.load 35 (.t 34) (some 6) (some 2) false),g1 32 false (.load 36 (.t 6) (some 6) (some 6) false),g1 32 false (.call (some 37) 32 [(.t 33),(.t 35),(.t 36)]),pO 38 32 37])
 (.cond (.t 38) (.seq (.ops [g0 (.build 39 zT []),sT 4 39 6 4,g0 (.mv 5 (.c (.bool false)))])
 (.ret))
 (.skip)))
 (.seq (.ops [g0 (.load 40 (.t 2) (some 13) (some 2) false),g0 (.fldA 41 (.t 2) 7 (some 6)),lF 42 41 2,lF 43 6 6,cA 44 35 [(.t 43)],cA 45 34 [(.t 42),(.t 44),(kI 0)],cA 46 33 [(.t 40),(.t 45)],eX 47 46 0,eX 48 46 1,sT 4 47 6 4,mV 5 48])
 (.ret)))),
 [.cell 4 (some 6) (some 4),.t 5]⟩
def F21:IFunc:=⟨.pure,.seq (.ops [g0 (.boxL 2 13 (some (.t 0)) []),bF 3 1,bZ 4,g0 (.mv 5 (.c (.bool false)))])
 (.seq (.ops [g0 (.load 15 (.t 2) (some 13) (some 2) false),cA 16 27 [(.t 15)],mV 14 16,eX 17 14 0,eX 18 14 1,bZ 6,sT 6 17 6 6,mV 7 18])
 (.seq (.seq (.ops [mV 19 7,g0 (.un 20 .not (.t 19)),mV 21 20,g1 21 false (.load 22 (.t 6) (some 6) (some 6) false),g1 21 false (.call (some 23) 28 [(.t 22)]),g1 21 false (.un 24 .not (.t 23)),pO 25 21 24,mV 26 25,g1 26 false (.fldA 27 (.t 2) 7 (some 6)),g1 26 false (.fldA 28 (.t 27) 3 none),g1 26 false (.load 29 (.t 28) none (some 2) false),g1 26 false (.len 30 .slice (.t 29) false),g1 26 false (.bin 31 .eql (.t 30) (kI 0)),pO 32 26 31])
 (.cond (.t 32) (.seq (.ops [g0 (.build 33 zT []),sT 4 33 6 4,g0 (.mv 5 (.c (.bool false)))])
 (.ret))
 (.skip)))
 (.seq (.ops [g0 (.fldA 34 (.t 2) 7 (some 6)),fA 35 34 3,lA 36 35 2,g0 (.idxA 37 (.t 36) (kI 0) 6 (some 6) none),lP 38 37,cA 39 36 [(.t 38)],mV 8 39])
 (.seq (.seq (.ops [mV 40 8,bK 41 .lss 40 0])
 (.cond (.t 41) (.seq (.ops [g0 (.build 42 zT []),sT 4 42 6 4,g0 (.mv 5 (.c (.bool false)))])
 (.ret))
 (.skip)))
 (.seq (.ops [g0 (.fldA 43 (.t 2) 7 (some 6)),fA 44 43 3,lA 45 44 2,g0 (.idxA 46 (.t 45) (kI 0) 6 (some 6) none),fA 47 46 3,lO 48 47,mV 49 8,iX 50 48 49,lP 51 50,bZ 9,sT 9 51 6 9])
 (.seq (.ops [g0 (.fldA 53 (.t 2) 7 (some 6)),lF 54 53 2,mV 55 8,g0 (.bsl 56 1 false [(kI 0),(.t 55)]),g0 (.build 57 zT [(0,1,(kI 5))]),cA 58 37 [(.t 54),(.t 56),(.t 57)],mV 52 58,eX 59 52 0,eX 60 52 1,bZ 10,sT 10 59 6 10,mV 11 60])
 (.seq (.seq (.ops [lF 61 3 3,lF 62 9 9,lF 63 6 6,cA 64 32 [(.t 61),(.t 62),(.t 63)],mV 65 64,g1 65 false (.load 66 (.t 10) (some 6) (some 10) false),g1 65 false (.call (some 67) 38 [(.t 66),(kI 0)]),pO 68 65 67])
 (.cond (.t 68) (.seq (.ops [g0 (.build 69 zT []),sT 4 69 6 4,g0 (.mv 5 (.c (.bool false)))])
 (.ret))
 (.skip)))
 (.seq (.ops [g0 (.fldA 71 (.t 2) 7 (some 6)),lF 72 71 2,mV 73 8,g0 (.bsl 74 1 false [(kI 0),(.t 73)]),lF 75 9 9,lF 76 6 6,cA 77 35 [(.t 76)],cA 78 34 [(.t 75),(.t 77),(kI 0)],cA 79 37 [(.t 72),(.t 74),(.t 78)],mV 70 79,eX 80 70 0,eX 81 70 1,bZ 12,sT 12 80 6 12,mV 13 81])
 (.seq (.ops [g0 (.load 82 (.t 2) (some 13) (some 2) false),lF 83 12 12,cA 84 33 [(.t 82),(.t 83)],eX 85 84 0,eX 86 84 1,sT 4 85 6 4,mV 5 86])
 (.ret)))))))))),
 [.cell 4 (some 6) (some 4),.t 5]⟩
def F22:IFunc:=⟨.pure,.seq (.ops [bF 5 0,bF 9 4,bZ 10,g0 (.mv 11 (.c (.bool false)))])
 (.seq (.seq (.ops [mV 15 3,lN 16 15,bK 17 .neq 16 1,mV 18 17,g1 18 false (.mv 19 (.t 3)),g1 18 false (.idxA 20 (.t 19) (kI 0) 1 none none),g1 18 false (.load 21 (.t 20) none none false),g1 18 false (.bin 22 .lss (.t 21) (kI 0)),pO 23 18 22,mV 24 23,g1 24 false (.mv 25 (.t 3)),g1 24 false (.idxA 26 (.t 25) (kI 0) 1 none none),g1 24 false (.load 27 (.t 26) none none false),g1 24 false (.fldA 28 (.t 9) 3 none),g1 24 false (.load 29 (.t 28) none (some 9) false),g1 24 false (.len 30 .slice (.t 29) false),g1 24 false (.bin 31 .geq (.t 27) (.t 30)),pO 32 24 31,mV 33 32,g1 33 false (.fldA 34 (.t 9) 0 none),g1 33 false (.load 35 (.t 34) none (some 9) false),g1 33 false (.bin 36 .neq (.t 35) (kI 29)),pO 37 33 36,mV 38 37,g1 38 false (.fldA 39 (.t 9) 1 none),g1 38 false (.load 40 (.t 39) none (some 9) false),g1 38 false (.bin 41 .neq (.t 40) (kI 0)),pO 42 38 41,mV 43 42,g1 43 false (.fldA 44 (.t 9) 2 none),g1 43 false (.load 45 (.t 44) none (some 9) false),g1 43 false (.bin 46 .neq (.t 45) (.c (.str []))),pO 47 43 46])
 (.cond (.t 47) (.seq (.ops [g0 (.build 48 zT []),sT 10 48 6 10,g0 (.mv 11 (.c (.bool false)))])
 (.ret))
 (.skip)))
 (.seq (.ops [mV 49 3,g0 (.idxA 50 (.t 49) (kI 0) 1 none none),lO 51 50,mV 12 51])
 (.seq (.ops [fA 52 9 3,lA 53 52 9,mV 54 12,iX 55 53 54,lP 56 55,bZ 13,sT 13 56 6 13])
 (.seq (.ops [fA 57 13 0,lA 58 57 13,bK 59 .eql 58 20,mV 60 59,g1 60 true (.fldA 61 (.t 13) 3 none),g1 60 true (.load 62 (.t 61) none (some 13) false),g1 60 true (.len 63 .slice (.t 62) false),g1 60 true (.bin 64 .eql (.t 63) (kI 1)),pA 65 60 64,mV 14 65])
 (.seq (.seq (.ops [mV 66 2,bK 67 .eql 66 45,mV 68 67,g1 68 true (.fldA 69 (.t 13) 0 none),g1 68 true (.load 70 (.t 69) none (some 13) false),g1 68 true (.bin 71 .eql (.t 70) (kI 21)),g1 68 true (.mv 72 (.t 71)),g1 72 false (.mv 73 (.t 14)),g1 72 false (.mv 74 (.t 73)),g1 74 true (.fldA 75 (.t 13) 3 none),g1 74 true (.load 76 (.t 75) none (some 13) false),g1 74 true (.idxA 77 (.t 76) (kI 0) 6 (some 6) none),g1 74 true (.load 78 (.t 77) (some 6) none false),g1 74 true (.call (some 79) 39 [(.t 78)]),g1 72 false (.pick 80 (.t 74) (.t 79) (.c (.bool false))),g1 68 true (.pick 81 (.t 72) (.c (.bool true)) (.t 80)),pA 82 68 81])
 (.cond (.t 82) (.seq (.ops [lF 83 9 9,mV 84 12,lF 85 9 9,mV 86 12,cA 87 41 [(.t 85),(.t 86)],cA 88 40 [(.t 83),(.t 84),(.t 87)],eX 89 88 0,eX 90 88 1,sT 10 89 6 10,mV 11 90])
 (.ret))
 (.skip)))
 (.seq (.seq (.ops [mV 91 2,bK 92 .eql 91 46,mV 93 92,g1 93 true (.mv 94 (.t 14)),pA 95 93 94])
 (.cond (.t 95) (.seq (.ops [lF 96 5 5,lF 97 9 9,mV 98 12,cA 99 42 [(.t 96),(.t 97),(.t 98)],eX 100 99 0,eX 101 99 1,sT 10 100 6 10,mV 11 101])
 (.ret))
 (.skip)))
 (.seq (.seq (.ops [mV 102 2,bK 103 .eql 102 47,mV 104 103,g1 104 true (.mv 105 (.t 14)),pA 106 104 105])
 (.cond (.t 106) (.seq (.ops [lF 107 5 5,lF 108 9 9,mV 109 12,cA 110 43 [(.t 107),(.t 108),(.t 109)],eX 111 110 0,eX 112 110 1,sT 10 111 6 10,mV 11 112])
 (.ret))
 (.skip)))
 (.seq (.seq (.ops [mV 113 2,bK 114 .eql 113 48,mV 115 114,g1 115 true (.mv 116 (.t 14)),pA 117 115 116])
 (.cond (.t 117) (.seq (.ops [lF 118 5 5,mV 119 1,lF 120 9 9,mV 121 12,cA 122 44 [(.t 118),(.t 119),(.t 120),(.t 121)],eX 123 122 0,eX 124 122 1,sT 10 123 6 10,mV 11 124])
 (.ret))
 (.skip)))
 (.seq (.ops [g0 (.build 125 zT []),sT 10 125 6 10,g0 (.mv 11 (.c (.bool false)))])
 (.ret)))))))))),
 [.cell 10 (some 6) (some 10),.t 11]⟩
def F23:IFunc:=⟨.pure,.seq (.ops [bF 2 0,g0 (.boxL 4 8 none [(.int .i64 0),(.int .i64 0),(.str []),.nils,(.int .i64 0),(.int .i64 0),(.int .i64 0),(.int .i64 0)])])
 (.seq (.ops [fA 6 2 3,lA 7 6 2,mV 8 1,iX 9 7 8,lP 10 9,bZ 5,sT 5 10 6 5])
 (.seq (.seq (.ops [fA 11 5 0,lA 12 11 5,bK 13 .eql 12 33])
 (.cond (.t 13) (.seq (.ops [lF 14 2 2,lF 15 5 5,cA 16 45 [(.t 14),(.t 15)],sT 4 16 8 4])
 (.ret))
 (.skip)))
 (.seq (.seq (.ops [fA 17 5 0,lA 18 17 5,bK 19 .eql 18 30])
 (.cond (.t 19) (.seq (.seq (.ops [lF 20 5 5,cA 21 46 [(.t 20)],g0 (.un 22 .not (.t 21))])
 (.cond (.t 22) (.seq (.ops [lF 23 5 5,cA 24 47 [(.t 23),(kI 12)],sT 4 24 8 4])
 (.ret))
 (.skip)))
 (.seq (.ops [lF 25 2 2,mV 26 1,g0 (.build 27 zT [(0,1,(kI 4)),(1,1,(.t 26))]),cA 28 48 [(.t 25),(.t 27)],bK 29 .eql 28 0])
 (.cond (.t 29) (.seq (.ops [lF 30 5 5,cA 31 47 [(.t 30),(kI 11)],sT 4 31 8 4])
 (.ret))
 (.skip))))
 (.seq (.ops [fA 32 5 0,lA 33 32 5,bK 34 .eql 33 32,mV 35 34,g1 35 true (.fldA 36 (.t 5) 3 none),g1 35 true (.load 37 (.t 36) none (some 5) false),g1 35 true (.len 38 .slice (.t 37) false),g1 35 true (.bin 39 .eql (.t 38) (kI 1)),pA 40 35 39])
 (.cond (.t 40) (.seq (.ops [lF 41 2 2,fA 42 5 3,lA 43 42 5,g0 (.idxA 44 (.t 43) (kI 0) 6 (some 6) none),lP 45 44,cA 46 48 [(.t 41),(.t 45)],bK 47 .eql 46 0])
 (.cond (.t 47) (.seq (.ops [fA 48 5 3,lA 49 48 5,g0 (.idxA 50 (.t 49) (kI 0) 6 (some 6) none),lP 51 50,cA 52 47 [(.t 51),(kI 11)],sT 4 52 8 4])
 (.ret))
 (.skip)))
 (.seq (.ops [fA 53 5 0,lA 54 53 5,bK 55 .neq 54 31,mV 56 55,g1 56 false (.fldA 57 (.t 5) 3 none),g1 56 false (.load 58 (.t 57) none (some 5) false),g1 56 false (.len 59 .slice (.t 58) false),g1 56 false (.bin 60 .neq (.t 59) (kI 1)),pO 61 56 60,mV 62 61,g1 62 false (.fldA 63 (.t 5) 3 none),g1 62 false (.load 64 (.t 63) none (some 5) false),g1 62 false (.idxA 65 (.t 64) (kI 0) 6 (some 6) none),g1 62 false (.fldA 66 (.t 65) 3 none),g1 62 false (.load 67 (.t 66) none none false),g1 62 false (.len 68 .slice (.t 67) false),g1 62 false (.bin 69 .gtr (.t 68) (kI 0)),pO 70 62 69,mV 71 70,g1 71 false (.fldA 72 (.t 5) 3 none),g1 71 false (.load 73 (.t 72) none (some 5) false),g1 71 false (.idxA 74 (.t 73) (kI 0) 6 (some 6) none),g1 71 false (.load 75 (.t 74) (some 6) none false),g1 71 false (.call (some 76) 49 [(.t 75)]),g1 71 false (.fld 77 (.t 76) 0 none),g1 71 false (.bin 78 .eql (.t 77) (kI 0)),pO 79 71 78,mV 80 79,g1 80 false (.fldA 81 (.t 5) 3 none),g1 80 false (.load 82 (.t 81) none (some 5) false),g1 80 false (.idxA 83 (.t 82) (kI 0) 6 (some 6) none),g1 80 false (.fldA 84 (.t 83) 0 none),g1 80 false (.load 85 (.t 84) none none false),g1 80 false (.bin 86 .eql (.t 85) (kI 6)),g1 80 false (.mv 87 (.t 86)),g1 87 true (.fldA 88 (.t 5) 3 none),g1 87 true (.load 89 (.t 88) none (some 5) false),g1 87 true (.idxA 90 (.t 89) (kI 0) 6 (some 6) none),g1 87 true (.fldA 91 (.t 90) 1 none),g1 87 true (.load 92 (.t 91) none none false),g1 87 true (.bin 93 .neq (.t 92) (kI 0)),g1 80 false (.pick 94 (.t 87) (.t 93) (.c (.bool false))),g1 80 false (.mv 95 (.t 94)),g1 95 true (.fldA 96 (.t 5) 3 none),g1 95 true (.load 97 (.t 96) none (some 5) false),g1 95 true (.idxA 98 (.t 97) (kI 0) 6 (some 6) none),g1 95 true (.fldA 99 (.t 98) 1 none),g1 95 true (.load 100 (.t 99) none none false),g1 95 true (.bin 101 .neq (.t 100) (kI 1)),g1 80 false (.pick 102 (.t 95) (.t 101) (.c (.bool false))),pO 103 80 102])
 (.cond (.t 103) (.seq (.ops [lF 104 5 5,cA 105 47 [(.t 104),(kI 12)],sT 4 105 8 4])
 (.ret))
 (.skip)))))))
 (.seq (.ops [lF 106 5 5,cA 107 50 [(.t 106)],g0 (.build 108 [(.int .i64 0),(.int .i64 0),(.str []),.nils,(.int .i64 0),(.int .i64 0),(.int .i64 0),(.int .i64 0)] [(0,6,(.t 107))]),sT 4 108 8 4])
 (.ret))))),
 [.cell 4 (some 8) (some 4)]⟩
def F24:IFunc:=⟨.pure,.seq (.ops [g0 (.boxL 1 13 (some (.t 0)) []),bZ 2,g0 (.mv 3 (.c (.bool false)))])
 (.seq (.ops [g0 (.load 7 (.t 1) (some 13) (some 1) false),cA 8 27 [(.t 7)],mV 6 8,eX 9 6 0,eX 10 6 1,bZ 4,sT 4 9 6 4,mV 5 10])
 (.seq (.seq (.ops [g0 (.fldA 11 (.t 1) 1 (some 6)),fA 12 11 0,lA 13 12 1,bK 14 .neq 13 21,mV 15 14,g1 15 true (.mv 16 (.t 5)),g1 15 true (.un 17 .not (.t 16)),g1 15 true (.mv 18 (.t 17)),g1 18 false (.load 19 (.t 4) (some 6) (some 4) false),g1 18 false (.call (some 20) 28 [(.t 19)]),g1 18 false (.un 21 .not (.t 20)),g1 15 true (.pick 22 (.t 18) (.c (.bool true)) (.t 21)),pA 23 15 22])
 (.cond (.t 23) (.seq (.ops [g0 (.build 24 zT []),sT 2 24 6 2,g0 (.mv 3 (.c (.bool false)))])
 (.ret))
 (.skip)))
 (.seq (.ops [g0 (.load 25 (.t 1) (some 13) (some 1) false),g0 (.fldA 26 (.t 1) 7 (some 6)),lF 27 26 1,cA 28 33 [(.t 25),(.t 27)],eX 29 28 0,eX 30 28 1,sT 2 29 6 2,mV 3 30])
 (.ret)))),
 [.cell 2 (some 6) (some 2),.t 3]⟩
def F26:IFunc:=⟨.pure,.seq (.ops [bF 2 0,bF 3 1,g0 (.mv 4 (.c (.bool false)))])
 (.seq (.ops [fA 5 2 0,lA 6 5 2,fA 7 3 0,lA 8 7 3,bT 9 .eql 6 8,mV 10 9,g1 10 true (.fldA 11 (.t 2) 1 none),g1 10 true (.load 12 (.t 11) none (some 2) false),g1 10 true (.fldA 13 (.t 3) 1 none),g1 10 true (.load 14 (.t 13) none (some 3) false),g1 10 true (.bin 15 .eql (.t 12) (.t 14)),pA 16 10 15,mV 17 16,g1 17 true (.fldA 18 (.t 2) 2 none),g1 17 true (.load 19 (.t 18) none (some 2) false),g1 17 true (.fldA 20 (.t 3) 2 none),g1 17 true (.load 21 (.t 20) none (some 3) false),g1 17 true (.bin 22 .eql (.t 19) (.t 21)),pA 23 17 22,mV 24 23,g1 24 true (.fldA 25 (.t 2) 3 none),g1 24 true (.load 26 (.t 25) none (some 2) false),g1 24 true (.fldA 27 (.t 3) 3 none),g1 24 true (.load 28 (.t 27) none (some 3) false),g1 24 true (.call (some 29) 54 [(.t 26),(.t 28),(.f 26)]),pA 30 24 29,mV 4 30])
 (.ret)),
 [.t 4]⟩
def F27:IFunc:=⟨.pure,.seq (.ops [g0 (.boxL 1 13 (some (.t 0)) []),bZ 2,g0 (.mv 3 (.c (.bool false)))])
 (.seq (.seq (.ops [g0 (.fldA 4 (.t 1) 1 (some 6)),fA 5 4 0,lA 6 5 1,bK 7 .neq 6 20,mV 8 7,g1 8 false (.fldA 9 (.t 1) 1 (some 6)),g1 8 false (.fldA 10 (.t 9) 3 none),g1 8 false (.load 11 (.t 10) none (some 1) false),g1 8 false (.len 12 .slice (.t 11) false),g1 8 false (.bin 13 .neq (.t 12) (kI 1)),pO 14 8 13])
 (.cond (.t 14) (.seq (.ops [g0 (.build 15 zT []),sT 2 15 6 2,g0 (.mv 3 (.c (.bool false)))])
 (.ret))
 (.skip)))
 (.seq (.ops [g0 (.fldA 16 (.t 1) 1 (some 6)),fA 17 16 3,lA 18 17 1,g0 (.idxA 19 (.t 18) (kI 0) 6 (some 6) none),lP 20 19,sT 2 20 6 2,g0 (.mv 3 (.c (.bool true)))])
 (.ret))),
 [.cell 2 (some 6) (some 2),.t 3]⟩
def L28_0:Ic:=.seq (.ops [bT 10 .lss 9 8])
 (.seq (.cond (.t 10) (.skip)
 (.exit 0))
 (.seq (.block 1 (.seq (.ops [iX 11 7 9,lP 12 11,bZ 5,sT 5 12 6 5])
 (.seq (.ops [fA 13 5 0,lA 14 13 5])
 (.block 2 (.seq (.seq (.ops [bK 16 .eql 14 5,mV 15 16])
 (.cond (.t 15) (.skip)
 (.seq (.ops [bK 17 .eql 14 6,mV 15 17])
 (.cond (.t 15) (.skip)
 (.seq (.ops [bK 18 .eql 14 7,mV 15 18])
 (.cond (.t 15) (.skip)
 (.seq (.ops [bK 19 .eql 14 8,mV 15 19])
 (.cond (.t 15) (.skip)
 (.seq (.ops [bK 20 .eql 14 9,mV 15 20])
 (.cond (.t 15) (.skip)
 (.seq (.ops [bK 21 .eql 14 11,mV 15 21])
 (.cond (.t 15) (.skip)
 (.seq (.ops [bK 22 .eql 14 13,mV 15 22])
 (.cond (.t 15) (.skip)
 (.seq (.ops [bK 23 .eql 14 14,mV 15 23])
 (.cond (.t 15) (.skip)
 (.ops [bK 24 .eql 14 15,mV 15 24])))))))))))))))))
 (.cond (.t 15) (.skip)
 (.seq (.ops [bK 26 .eql 14 10,mV 25 26])
 (.cond (.t 25) (.seq (.ops [fA 27 5 1,lA 28 27 5,bK 29 .eql 28 12,mV 30 29,g1 30 false (.fldA 31 (.t 5) 1 none),g1 30 false (.load 32 (.t 31) none (some 5) false),g1 30 false (.bin 33 .eql (.t 32) (kI 13)),pO 34 30 33])
 (.cond (.t 34) (.seq (.ops [fA 35 5 3,lA 36 35 5,lN 37 36,bK 38 .lss 37 2,mV 39 38,g1 39 false (.fldA 40 (.t 5) 3 none),g1 39 false (.load 41 (.t 40) none (some 5) false),g1 39 false (.idxA 42 (.t 41) (kI 1) 6 (some 6) none),g1 39 false (.fldA 43 (.t 42) 0 none),g1 39 false (.load 44 (.t 43) none none false),g1 39 false (.bin 45 .neq (.t 44) (kI 5)),pO 46 39 45,mV 47 46,g1 47 false (.fldA 48 (.t 5) 3 none),g1 47 false (.load 49 (.t 48) none (some 5) false),g1 47 false (.idxA 50 (.t 49) (kI 1) 6 (some 6) none),g1 47 false (.fldA 51 (.t 50) 1 none),g1 47 false (.load 52 (.t 51) none none false),g1 47 false (.bin 53 .eql (.t 52) (kI 0)),pO 54 47 53])
 (.cond (.t 54) (.seq (.ops [g0 (.mv 3 (.c (.bool false)))])
 (.exit 0))
 (.skip)))
 (.skip)))
 (.seq (.ops [g0 (.mv 3 (.c (.bool false)))])
 (.exit 0))))))))))
 (.ops [bK 55 .add 9 1,mV 9 55])))
def F28:IFunc:=⟨.pure,.seq (.ops [bF 1 0,g0 (.mv 2 (.c (.bool false)))])
 (.seq (.ops [g0 (.mv 3 (.c (.bool true)))])
 (.seq (.skip)
 (.seq (.seq (.ops [lF 6 1 1,cA 7 55 [(.t 6)],lN 8 7,mK 9 0])
 (.block 0 (.loop L28_0)))
 (.seq (.ops [mV 56 3,mV 2 56])
 (.ret))))),
 [.t 2]⟩
def L29_0:Ic:=.seq (.ops [bT 40 .lss 39 38])
 (.seq (.cond (.t 40) (.skip)
 (.exit 0))
 (.seq (.block 1 (.seq (.ops [mV 41 39,iX 42 37 39,lP 43 42,bZ 7,mV 6 41,sT 7 43 6 7])
 (.seq (.ops [mV 44 1,bK 45 .geq 44 0,mV 46 45,g1 46 true (.load 47 (.t 7) (some 6) (some 7) false),g1 46 true (.mv 48 (.t 1)),g1 46 true (.load 49 (.t 2) (some 6) (some 2) false),g1 46 true (.mv 50 (.t 6)),g1 46 true (.call (some 51) 57 [(.t 49),(.t 50)]),g1 46 true (.bin 52 .add (.t 48) (.t 51)),g1 46 true (.call (some 53) 29 [(.t 47),(.t 52)]),pA 54 46 53])
 (.cond (.t 54) (.seq (.ops [g0 (.mv 4 (.c (.bool true)))])
 (.ret))
 (.skip)))))
 (.ops [bK 55 .add 39 1,mV 39 55])))
def F29:IFunc:=⟨.pure,.seq (.ops [bF 2 0,g0 (.mv 4 (.c (.bool false)))])
 (.seq (.seq (.ops [fA 8 2 0,lA 9 8 2,bK 10 .eql 9 7])
 (.cond (.t 10) (.seq (.ops [g0 (.mv 4 (.c (.bool false)))])
 (.ret))
 (.skip)))
 (.seq (.seq (.ops [fA 11 2 0,lA 12 11 2,bK 13 .eql 12 22,mV 14 13,g1 14 true (.fldA 15 (.t 2) 3 none),g1 14 true (.load 16 (.t 15) none (some 2) false),g1 14 true (.len 17 .slice (.t 16) false),g1 14 true (.bin 18 .gtr (.t 17) (kI 0)),pA 19 14 18])
 (.cond (.t 19) (.seq (.ops [fA 20 2 3,lA 21 20 2,g0 (.idxA 22 (.t 21) (kI 0) 6 (some 6) none),lP 23 22,cA 24 56 [(.t 23)],bZ 5,sT 5 24 6 5])
 (.seq (.ops [fA 25 5 0,lA 26 25 5,bK 27 .eql 26 7,mV 28 27,g1 28 true (.fldA 29 (.t 5) 1 none),g1 28 true (.load 30 (.t 29) none (some 5) false),g1 28 true (.mv 31 (.t 1)),g1 28 true (.bin 32 .eql (.t 30) (.t 31)),pA 33 28 32])
 (.cond (.t 33) (.seq (.ops [mV 34 1,bK 35 .geq 34 0,mV 4 35])
 (.ret))
 (.skip))))
 (.skip)))
 (.seq (.seq (.ops [fA 36 2 3,lA 37 36 2,lN 38 37,mK 39 0])
 (.block 0 (.loop L29_0)))
 (.seq (.ops [g0 (.mv 4 (.c (.bool false)))])
 (.ret))))),
 [.t 4]⟩
def L30_0:Ic:=.seq (.ops [bT 23 .lss 22 21])
 (.seq (.cond (.t 23) (.skip)
 (.exit 0))
 (.seq (.block 1 (.seq (.ops [iX 24 20 22,lP 25 24,bZ 6,sT 6 25 6 6])
 (.seq (.ops [lF 26 6 6,mV 27 1,cA 28 30 [(.t 26),(.t 27)],g0 (.un 29 .not (.t 28))])
 (.cond (.t 29) (.seq (.ops [g0 (.mv 4 (.c (.bool false)))])
 (.ret))
 (.skip)))))
 (.ops [bK 30 .add 22 1,mV 22 30])))
def F30:IFunc:=⟨.pure,.seq (.ops [bF 2 0,g0 (.mv 4 (.c (.bool false)))])
 (.seq (.seq (.ops [fA 7 2 0,lA 8 7 2,bK 9 .eql 8 7])
 (.cond (.t 9) (.seq (.ops [fA 10 2 1,lA 11 10 2,bK 12 .lss 11 0,mV 13 12,g1 13 false (.mv 14 (.t 1)),g1 13 false (.fldA 15 (.t 2) 1 none),g1 13 false (.load 16 (.t 15) none (some 2) false),g1 13 false (.callV (some 17) (.t 14) [(.t 16)]),pO 18 13 17,mV 4 18])
 (.ret))
 (.skip)))
 (.seq (.seq (.ops [fA 19 2 3,lA 20 19 2,lN 21 20,mK 22 0])
 (.block 0 (.loop L30_0)))
 (.seq (.ops [g0 (.mv 4 (.c (.bool true)))])
 (.ret)))),
 [.t 4]⟩
def F31:IFunc:=⟨.pure,.seq (.ops [g0 (.boxL 2 13 (some (.t 0)) []),g0 (.mv 4 (.c (.bool false)))])
 (.seq (.ops [g0 (.fldA 5 (.t 2) 7 (some 6)),lF 6 5 2,mV 7 1,bK 8 .add 7 1,cA 9 29 [(.t 6),(.t 8)],g0 (.un 10 .not (.t 9)),mV 4 10])
 (.ret)),
 [.t 4]⟩
def F32:IFunc:=⟨.pure,.seq (.ops [bF 3 0,bF 4 1,bF 5 2,g0 (.mv 6 (.c (.bool false)))])
 (.seq (.ops [lF 7 5 5,cA 8 59 [(.t 7)],lF 9 3 3,lF 10 4 4,cA 11 60 [(.t 9),(.t 10)],g0 (.fld 12 (.t 11) 1 none),cA 13 58 [(.t 8),(.t 12)],mV 6 13])
 (.ret)),
 [.t 6]⟩
def F33:IFunc:=⟨.pure,.seq (.ops [g0 (.boxL 2 13 (some (.t 0)) []),bF 3 1,bZ 4,g0 (.mv 5 (.c (.bool false)))])
 (.seq (.ops [lF 9 3 3,cA 10 61 [(.t 9),(.c (.int .i64 (-1))),(kI 0)],mV 8 10,eX 11 8 0,eX 12 8 1,bZ 6,sT 6 11 6 6,mV 7 12])
 (.seq (.seq (.ops [mV 13 7,g0 (.un 14 .not (.t 13))])
 (.cond (.t 14) (.seq (.ops [g0 (.build 15 zT []),sT 4 15 6 4,g0 (.mv 5 (.c (.bool false)))])
 (.ret))
 (.skip)))
 (.seq (.ops [fA 16 2 0,lA 17 16 2,fA 18 6 3,lA 19 18 6,g0 (.bsl 20 1 false [(.t 17),(.t 19)]),cA 21 53 [(.t 20)],g0 (.build 22 zT [(0,1,(kI 29)),(3,1,(.t 21))]),sT 4 22 6 4,g0 (.mv 5 (.c (.bool true)))])
 (.ret)))),
 [.cell 4 (some 6) (some 4),.t 5]⟩
def F34:IFunc:=⟨.pure,.seq (.ops [bF 3 0,bF 4 1,bZ 6])
 (.seq (.ops [lF 7 3 3,lF 8 4 4,mV 9 2,g0 (.build 10 [(.int .i64 0),(.int .i64 0),(.str []),.nils,(.int .i64 0),(.int .i64 0),(.int .i64 0)] [(0,6,(.t 8)),(6,1,(.t 9))]),g0 (.mkfn 11 63 [(.t 10)] []),cA 12 62 [(.t 7),(kI 0),(.t 11)],sT 6 12 6 6])
 (.ret)),
 [.cell 6 (some 6) (some 6)]⟩
def F35:IFunc:=⟨.pure,.seq (.ops [bF 1 0,bZ 2])
 (.seq (.ops [lF 6 1 1,cA 7 61 [(.t 6),(kI 1),(kI 0)],mV 5 7,eX 8 5 0,eX 9 5 1,bZ 3,sT 3 8 6 3,mV 4 9])
 (.seq (.ops [lF 10 3 3,sT 2 10 6 2])
 (.ret))),
 [.cell 2 (some 6) (some 2)]⟩
def F36:IFunc:=⟨.pure,.seq (.ops [bF 1 0,mK 2 0])
 (.seq (.ops [g0 (.mv 3 (.c (.int .i64 (-1))))])
 (.seq (.seq (.ops [fA 4 1 0,lA 5 4 1])
 (.block 0 (.seq (.seq (.ops [bK 7 .eql 5 20,mV 6 7])
 (.cond (.t 6) (.skip)
 (.seq (.ops [bK 8 .eql 5 26,mV 6 8])
 (.cond (.t 6) (.skip)
 (.seq (.ops [bK 9 .eql 5 27,mV 6 9])
 (.cond (.t 6) (.skip)
 (.seq (.ops [bK 10 .eql 5 28,mV 6 10])
 (.cond (.t 6) (.skip)
 (.ops [bK 11 .eql 5 23,mV 6 11])))))))))
 (.cond (.t 6) (.ops [mK 3 0])
 (.seq (.ops [bK 13 .eql 5 22,mV 12 13])
 (.cond (.t 12) (.ops [mK 3 1])
 (.skip)))))))
 (.seq (.seq (.ops [mV 14 3,fA 15 1 3,lA 16 15 1,lN 17 16,bT 18 .geq 14 17])
 (.cond (.t 18) (.seq (.ops [g0 (.mv 2 (.c (.int .i64 (-1))))])
 (.ret))
 (.skip)))
 (.seq (.ops [mV 19 3,mV 2 19])
 (.ret))))),
 [.t 2]⟩
def F37:IFunc:=⟨.pure,.seq (.ops [bF 3 0,bF 5 2,bZ 6,g0 (.mv 7 (.c (.bool false)))])
 (.seq (.seq (.ops [mV 11 1,lN 12 11,bK 13 .eql 12 0])
 (.cond (.t 13) (.seq (.ops [lF 14 5 5,sT 6 14 6 6,g0 (.mv 7 (.c (.bool true)))])
 (.ret))
 (.skip)))
 (.seq (.ops [mV 15 1,g0 (.idxA 16 (.t 15) (kI 0) 1 none none),lO 17 16,mV 8 17])
 (.seq (.seq (.ops [mV 18 8,bK 19 .lss 18 0,mV 20 19,g1 20 false (.mv 21 (.t 8)),g1 20 false (.fldA 22 (.t 3) 3 none),g1 20 false (.load 23 (.t 22) none (some 3) false),g1 20 false (.len 24 .slice (.t 23) false),g1 20 false (.bin 25 .geq (.t 21) (.t 24)),pO 26 20 25])
 (.cond (.t 26) (.seq (.ops [g0 (.build 27 zT []),sT 6 27 6 6,g0 (.mv 7 (.c (.bool false)))])
 (.ret))
 (.skip)))
 (.seq (.ops [fA 29 3 3,lA 30 29 3,mV 31 8,iX 32 30 31,lP 33 32,mV 34 1,g0 (.slc 35 (some 1) (.t 34) (some (kI 1)) none none),lF 36 5 5,cA 37 37 [(.t 33),(.t 35),(.t 36)],mV 28 37,eX 38 28 0,eX 39 28 1,bZ 9,sT 9 38 6 9,mV 10 39])
 (.seq (.seq (.ops [mV 40 10,g0 (.un 41 .not (.t 40))])
 (.cond (.t 41) (.seq (.ops [g0 (.build 42 zT []),sT 6 42 6 6,g0 (.mv 7 (.c (.bool false)))])
 (.ret))
 (.skip)))
 (.seq (.ops [fA 43 3 3,lA 44 43 3,cA 45 51 [(.t 44)],fA 46 3 3,sT 46 45 1 3])
 (.seq (.ops [fA 47 3 3,lA 48 47 3,mV 49 8,lF 50 9 9,iX 51 48 49,g0 (.store (.t 51) (.t 50) 6 none)])
 (.seq (.ops [lF 52 3 3,sT 6 52 6 6,g0 (.mv 7 (.c (.bool true)))])
 (.ret))))))))),
 [.cell 6 (some 6) (some 6),.t 7]⟩
def F38:IFunc:=⟨.pure,.seq (.ops [bF 2 0,g0 (.mv 4 (.c (.bool false)))])
 (.seq (.ops [mV 6 1,g0 (.build 7 [(.int .i64 0),(.bool false)] [(0,1,(.t 6))]),g0 (.boxH 5 (some 2) (.c (.agg [(.int .i64 0),(.bool false)]))),g0 (.store (.t 5) (.t 7) 2 none)])
 (.seq (.ops [lF 8 2 2,g0 (.mkfn 9 64 [(.t 5)] []),cA 10 62 [(.t 8),(kI 0),(.t 9)]])
 (.seq (.ops [fA 11 5 1,lO 12 11,mV 4 12])
 (.ret)))),
 [.t 4]⟩
def L39_0:Ic:=.seq (.seq (.ops [mV 79 4,fA 80 1 3,lA 81 80 1,lN 82 81,bT 83 .lss 79 82])
 (.cond (.t 83) (.skip)
 (.exit 0)))
 (.seq (.block 1 (.seq (.ops [fA 86 1 3,lA 87 86 1,mV 88 4,iX 89 87 88,lP 90 89,cA 91 39 [(.t 90)],g0 (.un 92 .not (.t 91))])
 (.cond (.t 92) (.seq (.ops [g0 (.mv 2 (.c (.bool false)))])
 (.ret))
 (.skip))))
 (.ops [mV 84 4,bK 85 .add 84 1,mV 4 85]))
def F39:IFunc:=⟨.pure,.seq (.ops [bF 1 0,g0 (.mv 2 (.c (.bool false)))])
 (.seq (.ops [fA 5 1 0,lA 6 5 1,mV 3 6])
 (.seq (.seq (.ops [mV 7 3,bK 8 .neq 7 5,mV 9 8,g1 9 true (.mv 10 (.t 3)),g1 9 true (.bin 11 .neq (.t 10) (kI 6)),pA 12 9 11,mV 13 12,g1 13 true (.mv 14 (.t 3)),g1 13 true (.bin 15 .neq (.t 14) (kI 7)),pA 16 13 15,mV 17 16,g1 17 true (.mv 18 (.t 3)),g1 17 true (.bin 19 .neq (.t 18) (kI 8)),pA 20 17 19,mV 21 20,g1 21 true (.mv 22 (.t 3)),g1 21 true (.bin 23 .neq (.t 22) (kI 9)),pA 24 21 23,mV 25 24,g1 25 true (.mv 26 (.t 3)),g1 25 true (.bin 27 .neq (.t 26) (kI 11)),pA 28 25 27,mV 29 28,g1 29 true (.mv 30 (.t 3)),g1 29 true (.bin 31 .neq (.t 30) (kI 13)),pA 32 29 31,mV 33 32,g1 33 true (.mv 34 (.t 3)),g1 33 true (.bin 35 .neq (.t 34) (kI 14)),pA 36 33 35,mV 37 36,g1 37 true (.mv 38 (.t 3)),g1 37 true (.bin 39 .neq (.t 38) (kI 15)),pA 40 37 39,mV 41 40,g1 41 true (.mv 42 (.t 3)),g1 41 true (.bin 43 .neq (.t 42) (kI 10)),pA 44 41 43])
 (.cond (.t 44) (.seq (.ops [g0 (.mv 2 (.c (.bool false)))])
 (.ret))
 (.skip)))
 (.seq (.seq (.ops [mV 45 3,bK 46 .eql 45 10,mV 47 46,g1 47 true (.fldA 48 (.t 1) 1 none),g1 47 true (.load 49 (.t 48) none (some 1) false),g1 47 true (.bin 50 .eql (.t 49) (kI 12)),g1 47 true (.mv 51 (.t 50)),g1 51 false (.fldA 52 (.t 1) 1 none),g1 51 false (.load 53 (.t 52) none (some 1) false),g1 51 false (.bin 54 .eql (.t 53) (kI 13)),g1 47 true (.pick 55 (.t 51) (.c (.bool true)) (.t 54)),pA 56 47 55,mV 57 56,g1 57 true (.fldA 58 (.t 1) 3 none),g1 57 true (.load 59 (.t 58) none (some 1) false),g1 57 true (.len 60 .slice (.t 59) false),g1 57 true (.bin 61 .lss (.t 60) (kI 2)),g1 57 true (.mv 62 (.t 61)),g1 62 false (.fldA 63 (.t 1) 3 none),g1 62 false (.load 64 (.t 63) none (some 1) false),g1 62 false (.idxA 65 (.t 64) (kI 1) 6 (some 6) none),g1 62 false (.fldA 66 (.t 65) 0 none),g1 62 false (.load 67 (.t 66) none none false),g1 62 false (.bin 68 .neq (.t 67) (kI 5)),g1 57 true (.pick 69 (.t 62) (.c (.bool true)) (.t 68)),g1 57 true (.mv 70 (.t 69)),g1 70 false (.fldA 71 (.t 1) 3 none),g1 70 false (.load 72 (.t 71) none (some 1) false),g1 70 false (.idxA 73 (.t 72) (kI 1) 6 (some 6) none),g1 70 false (.fldA 74 (.t 73) 1 none),g1 70 false (.load 75 (.t 74) none none false),g1 70 false (.bin 76 .eql (.t 75) (kI 0)),g1 57 true (.pick 77 (.t 70) (.c (.bool true)) (.t 76)),pA 78 57 77])
 (.cond (.t 78) (.seq (.ops [g0 (.mv 2 (.c (.bool false)))])
 (.ret))
 (.skip)))
 (.seq (.seq (.ops [mK 4 0])
 (.block 0 (.loop L39_0)))
 (.seq (.ops [g0 (.mv 2 (.c (.bool true)))])
 (.ret)))))),
 [.t 2]⟩
def F40:IFunc:=⟨.pure,.seq (.ops [bF 3 0,bF 5 2,bZ 6,g0 (.mv 7 (.c (.bool false)))])
 (.seq (.seq (.ops [lF 9 5 5,cA 10 65 [(.t 9),(kI 0)]])
 (.cond (.t 10) (.seq (.ops [g0 (.build 11 zT []),sT 6 11 6 6,g0 (.mv 7 (.c (.bool false)))])
 (.ret))
 (.skip)))
 (.seq (.ops [g0 (.bsl 12 6 true []),fA 13 3 3,lA 14 13 3,mV 15 1,g0 (.slc 16 (some 6) (.t 14) none (some (.t 15)) none),g0 (.app 17 (.t 12) (.t 16) 6),mV 8 17])
 (.seq (.ops [mV 18 8,lF 19 5 5,cA 20 66 [(.t 19),(.c (.int .i64 (-1))),(kI 0),(kI 0)],g0 (.fld 21 (.t 20) 3 none),g0 (.app 22 (.t 18) (.t 21) 6),cA 23 15 [(.t 22)],sT 6 23 6 6,g0 (.mv 7 (.c (.bool true)))])
 (.ret)))),
 [.cell 6 (some 6) (some 6),.t 7]⟩
def F41:IFunc:=⟨.pure,.seq (.ops [bF 2 0,bZ 4])
 (.seq (.ops [g0 (.bsl 5 6 true []),fA 6 2 3,lA 7 6 2,mV 8 1,bK 9 .add 8 1,g0 (.slc 10 (some 6) (.t 7) (some (.t 9)) none none),g0 (.app 11 (.t 5) (.t 10) 6),cA 12 15 [(.t 11)],sT 4 12 6 4])
 (.ret)),
 [.cell 4 (some 6) (some 4)]⟩
def L42_0:Ic:=.seq (.seq (.ops [mV 39 11,mV 40 10,lN 41 40,bT 42 .lss 39 41])
 (.cond (.t 42) (.skip)
 (.exit 0)))
 (.seq (.block 1 (.seq (.ops [mV 45 10,mV 46 11,g0 (.idxA 47 (.t 45) (.t 46) 1 none none),lO 48 47,bK 49 .geq 48 0,mV 50 49,g1 50 true (.load 51 (.t 9) (some 6) (some 9) false),g1 50 true (.mv 52 (.t 10)),g1 50 true (.mv 53 (.t 11)),g1 50 true (.idxA 54 (.t 52) (.t 53) 1 none none),g1 50 true (.load 55 (.t 54) none none false),g1 50 true (.bin 56 .add (.t 55) (kI 1)),g1 50 true (.call (some 57) 67 [(.t 51),(.t 56)]),pA 58 50 57])
 (.cond (.t 58) (.seq (.ops [g0 (.build 59 zT []),sT 6 59 6 6,g0 (.mv 7 (.c (.bool false)))])
 (.ret))
 (.skip))))
 (.ops [mV 43 11,bK 44 .add 43 1,mV 11 44]))
def F42:IFunc:=⟨.pure,.seq (.ops [bF 3 0,bF 4 1,bZ 6,g0 (.mv 7 (.c (.bool false)))])
 (.seq (.ops [fA 12 4 3,lA 13 12 4,mV 14 2,iX 15 13 14,fA 16 15 3,lO 17 16,g0 (.idxA 18 (.t 17) (kI 0) 6 (some 6) none),lP 19 18,bZ 8,sT 8 19 6 8])
 (.seq (.ops [lF 20 4 4,mV 21 2,cA 22 41 [(.t 20),(.t 21)],bZ 9,sT 9 22 6 9])
 (.seq (.seq (.ops [lF 23 8 8,cA 24 39 [(.t 23)],g0 (.un 25 .not (.t 24)),mV 26 25,g1 26 false (.load 27 (.t 9) (some 6) (some 9) false),g1 26 false (.call (some 28) 67 [(.t 27),(kI 0)]),pO 29 26 28,mV 30 29,g1 30 false (.load 31 (.t 3) (some 6) (some 3) false),g1 30 false (.load 32 (.t 9) (some 6) (some 9) false),g1 30 false (.load 33 (.t 8) (some 6) (some 8) false),g1 30 false (.call (some 34) 68 [(.t 31),(.t 32),(.t 33)]),pO 35 30 34])
 (.cond (.t 35) (.seq (.ops [g0 (.build 36 zT []),sT 6 36 6 6,g0 (.mv 7 (.c (.bool false)))])
 (.ret))
 (.skip)))
 (.seq (.ops [lF 37 8 8,cA 38 69 [(.t 37)],mV 10 38])
 (.seq (.seq (.ops [mK 11 0])
 (.block 0 (.loop L42_0)))
 (.seq (.ops [lF 60 4 4,mV 61 2,lF 62 9 9,lF 63 8 8,cA 64 66 [(.t 63),(kI 1),(kI 0),(kI 0)],cA 65 70 [(.t 62),(.t 64),(kI 0)],cA 66 40 [(.t 60),(.t 61),(.t 65)],eX 67 66 0,eX 68 66 1,sT 6 67 6 6,mV 7 68])
 (.ret))))))),
 [.cell 6 (some 6) (some 6),.t 7]⟩
def F43:IFunc:=⟨.pure,.seq (.ops [bF 3 0,bF 4 1,bZ 6,g0 (.mv 7 (.c (.bool false)))])
 (.seq (.ops [fA 12 4 3,lA 13 12 4,mV 14 2,iX 15 13 14,fA 16 15 3,lO 17 16,g0 (.idxA 18 (.t 17) (kI 0) 6 (some 6) none),lP 19 18,bZ 8,sT 8 19 6 8])
 (.seq (.ops [lF 20 4 4,mV 21 2,cA 22 41 [(.t 20),(.t 21)],bZ 9,sT 9 22 6 9])
 (.seq (.seq (.ops [lF 23 8 8,cA 24 39 [(.t 23)],g0 (.un 25 .not (.t 24)),mV 26 25,g1 26 false (.fldA 27 (.t 9) 3 none),g1 26 false (.load 28 (.t 27) none (some 9) false),g1 26 false (.len 29 .slice (.t 28) false),g1 26 false (.bin 30 .eql (.t 29) (kI 0)),pO 31 26 30,mV 32 31,g1 32 false (.fldA 33 (.t 9) 3 none),g1 32 false (.load 34 (.t 33) none (some 9) false),g1 32 false (.idxA 35 (.t 34) (kI 0) 6 (some 6) none),g1 32 false (.load 36 (.t 35) (some 6) none false),g1 32 false (.call (some 37) 71 [(.t 36)]),g1 32 false (.bin 38 .lss (.t 37) (kI 0)),pO 39 32 38])
 (.cond (.t 39) (.seq (.ops [g0 (.build 40 zT []),sT 6 40 6 6,g0 (.mv 7 (.c (.bool false)))])
 (.ret))
 (.skip)))
 (.seq (.ops [fA 41 9 3,lA 42 41 9,g0 (.idxA 43 (.t 42) (kI 0) 6 (some 6) none),lP 44 43,cA 45 71 [(.t 44)],g0 (.bsl 46 1 false [(kI 0),(.t 45)]),mV 10 46])
 (.seq (.ops [lF 47 9 9,mV 48 10,cA 49 72 [(.t 47),(.t 48)],bZ 11,sT 11 49 6 11])
 (.seq (.seq (.ops [lF 50 3 3,lF 51 11 11,lF 52 8 8,cA 53 68 [(.t 50),(.t 51),(.t 52)],mV 54 53,g1 54 false (.load 55 (.t 9) (some 6) (some 9) false),g1 54 false (.mv 56 (.t 10)),g1 54 false (.build 57 zT [(0,1,(kI 5))]),g1 54 false (.call (some 58) 73 [(.t 55),(.t 56),(.t 57)]),g1 54 false (.call (some 59) 65 [(.t 58),(kI 0)]),pO 60 54 59])
 (.cond (.t 60) (.seq (.ops [g0 (.build 61 zT []),sT 6 61 6 6,g0 (.mv 7 (.c (.bool false)))])
 (.ret))
 (.skip)))
 (.seq (.ops [lF 62 4 4,mV 63 2,lF 64 9 9,mV 65 10,lF 66 11 11,lF 67 8 8,cA 68 66 [(.t 67),(kI 1),(kI 0),(kI 0)],cA 69 70 [(.t 66),(.t 68),(kI 0)],cA 70 73 [(.t 64),(.t 65),(.t 69)],cA 71 40 [(.t 62),(.t 63),(.t 70)],eX 72 71 0,eX 73 71 1,sT 6 72 6 6,mV 7 73])
 (.ret)))))))),
 [.cell 6 (some 6) (some 6),.t 7]⟩
def L45_1:Ic:=.seq (.seq (.ops [mV 77 7,mV 78 5,lN 79 78,bT 80 .lss 77 79])
 (.cond (.t 80) (.skip)
 (.exit 2)))
 (.seq (.block 3 (.seq (.ops [fA 83 3 1,lA 84 83 3,bK 85 .eql 84 1,mV 86 85,g1 86 true (.load 87 (.t 2) (some 6) (some 2) false),g1 86 true (.mv 88 (.t 5)),g1 86 true (.mv 89 (.t 7)),g1 86 true (.idxA 90 (.t 88) (.t 89) 6 (some 6) none),g1 86 true (.load 91 (.t 90) (some 6) none false),g1 86 true (.call (some 92) 79 [(.t 87),(.t 91)]),g1 86 true (.un 93 .not (.t 92)),pA 94 86 93])
 (.cond (.t 94) (.seq (.ops [mV 95 5,mV 96 7,iX 97 95 96,lP 98 97,cA 99 47 [(.t 98),(kI 12)],sT 4 99 8 4])
 (.ret))
 (.skip))))
 (.ops [mV 81 7,bK 82 .add 81 1,mV 7 82]))
def L45_0:Ic:=.seq (.seq (.ops [mV 59 6,mV 60 5,lN 61 60,bT 62 .lss 59 61])
 (.cond (.t 62) (.skip)
 (.exit 0)))
 (.seq (.block 1 (.seq (.ops [lF 65 2 2,mV 66 5,mV 67 6,iX 68 66 67,lP 69 68,cA 70 48 [(.t 65),(.t 69)],bK 71 .eql 70 0])
 (.cond (.t 71) (.seq (.ops [mV 72 5,mV 73 6,iX 74 72 73,lP 75 74,cA 76 47 [(.t 75),(kI 11)],sT 4 76 8 4])
 (.ret))
 (.skip))))
 (.ops [mV 63 6,bK 64 .add 63 1,mV 6 64]))
def F45:IFunc:=⟨.pure,.seq (.ops [bF 2 0,bF 3 1,g0 (.boxL 4 8 none [(.int .i64 0),(.int .i64 0),(.str []),.nils,(.int .i64 0),(.int .i64 0),(.int .i64 0),(.int .i64 0)])])
 (.seq (.seq (.ops [fA 10 3 1,lA 11 10 3,bK 12 .neq 11 0,mV 13 12,g1 13 true (.fldA 14 (.t 3) 1 none),g1 13 true (.load 15 (.t 14) none (some 3) false),g1 13 true (.bin 16 .neq (.t 15) (kI 1)),pA 17 13 16,mV 18 17,g1 18 false (.fldA 19 (.t 3) 3 none),g1 18 false (.load 20 (.t 19) none (some 3) false),g1 18 false (.len 21 .slice (.t 20) false),g1 18 false (.bin 22 .neq (.t 21) (kI 3)),pO 23 18 22,mV 24 23,g1 24 false (.fldA 25 (.t 3) 3 none),g1 24 false (.load 26 (.t 25) none (some 3) false),g1 24 false (.idxA 27 (.t 26) (kI 0) 6 (some 6) none),g1 24 false (.fldA 28 (.t 27) 0 none),g1 24 false (.load 29 (.t 28) none none false),g1 24 false (.bin 30 .neq (.t 29) (kI 35)),pO 31 24 30,mV 32 31,g1 32 false (.fldA 33 (.t 3) 3 none),g1 32 false (.load 34 (.t 33) none (some 3) false),g1 32 false (.idxA 35 (.t 34) (kI 0) 6 (some 6) none),g1 32 false (.fldA 36 (.t 35) 3 none),g1 32 false (.load 37 (.t 36) none none false),g1 32 false (.call (some 38) 77 [(.t 37)]),g1 32 false (.un 39 .not (.t 38)),pO 40 32 39,mV 41 40,g1 41 false (.fldA 42 (.t 3) 3 none),g1 41 false (.load 43 (.t 42) none (some 3) false),g1 41 false (.idxA 44 (.t 43) (kI 2) 6 (some 6) none),g1 41 false (.fldA 45 (.t 44) 0 none),g1 41 false (.load 46 (.t 45) none none false),g1 41 false (.bin 47 .neq (.t 46) (kI 29)),pO 48 41 47])
 (.cond (.t 48) (.seq (.ops [lF 49 3 3,cA 50 47 [(.t 49),(kI 12)],sT 4 50 8 4])
 (.ret))
 (.skip)))
 (.seq (.ops [lF 51 3 3,cA 52 78 [(.t 51)],fA 53 3 3,lA 54 53 3,g0 (.idxA 55 (.t 54) (kI 1) 6 (some 6) none),g0 (.load 56 (.t 55) (some 6) none true),g0 (.bsl 57 6 true [(.t 56)]),g0 (.app 58 (.t 52) (.t 57) 6),mV 5 58])
 (.seq (.seq (.ops [mK 6 0])
 (.block 0 (.loop L45_0)))
 (.seq (.seq (.ops [mK 7 0])
 (.block 2 (.loop L45_1)))
 (.seq (.ops [lF 100 2 2,lF 101 3 3,cA 102 78 [(.t 101)],fA 103 3 3,lA 104 103 3,g0 (.idxA 105 (.t 104) (kI 1) 6 (some 6) none),g0 (.load 106 (.t 105) (some 6) none true),fA 107 3 3,lA 108 107 3,g0 (.idxA 109 (.t 108) (kI 2) 6 (some 6) none),g0 (.load 110 (.t 109) (some 6) none true),cA 111 80 [(.t 100),(.t 102),(.t 106),(.t 110)],g0 (.boxL 8 8 none [(.int .i64 0),(.int .i64 0),(.str []),.nils,(.int .i64 0),(.int .i64 0),(.int .i64 0),(.int .i64 0)]),sT 8 111 8 8])
 (.seq (.seq (.ops [fA 112 8 7,lA 113 112 8,bK 114 .neq 113 0])
 (.cond (.t 114) (.seq (.ops [g0 (.load 115 (.t 8) (some 8) (some 8) false),sT 4 115 8 4])
 (.ret))
 (.skip)))
 (.seq (.ops [lF 116 3 3,cA 117 50 [(.t 116)],bZ 9,sT 9 117 6 9])
 (.seq (.ops [fA 118 9 3,lA 119 118 9,g0 (.fldA 120 (.t 8) 0 (some 6)),lF 121 120 8,g0 (.idxA 122 (.t 119) (kI 2) 6 (some 6) none),g0 (.store (.t 122) (.t 121) 6 none)])
 (.seq (.ops [lF 123 9 9,g0 (.build 124 [(.int .i64 0),(.int .i64 0),(.str []),.nils,(.int .i64 0),(.int .i64 0),(.int .i64 0),(.int .i64 0)] [(0,6,(.t 123))]),sT 4 124 8 4])
 (.ret)))))))))),
 [.cell 4 (some 8) (some 4)]⟩
def L46_0:Ic:=.seq (.seq (.ops [mV 13 3,fA 14 1 3,lA 15 14 1,lN 16 15,bT 17 .lss 13 16])
 (.cond (.t 17) (.skip)
 (.exit 0)))
 (.seq (.block 1 (.seq (.ops [fA 20 1 3,lA 21 20 1,mV 22 3,iX 23 21 22,fA 24 23 0,lO 25 24,bK 26 .neq 25 34,mV 27 26,g1 27 false (.fldA 28 (.t 1) 3 none),g1 27 false (.load 29 (.t 28) none (some 1) false),g1 27 false (.mv 30 (.t 3)),g1 27 false (.idxA 31 (.t 29) (.t 30) 6 (some 6) none),g1 27 false (.fldA 32 (.t 31) 3 none),g1 27 false (.load 33 (.t 32) none none false),g1 27 false (.len 34 .slice (.t 33) false),g1 27 false (.bin 35 .neq (.t 34) (kI 1)),pO 36 27 35])
 (.cond (.t 36) (.seq (.ops [g0 (.mv 2 (.c (.bool false)))])
 (.ret))
 (.skip))))
 (.ops [mV 18 3,bK 19 .add 18 1,mV 3 19]))
def F46:IFunc:=⟨.pure,.seq (.ops [bF 1 0,g0 (.mv 2 (.c (.bool false)))])
 (.seq (.seq (.ops [fA 4 1 0,lA 5 4 1,bK 6 .neq 5 30,mV 7 6,g1 7 false (.fldA 8 (.t 1) 3 none),g1 7 false (.load 9 (.t 8) none (some 1) false),g1 7 false (.len 10 .slice (.t 9) false),g1 7 false (.bin 11 .eql (.t 10) (kI 0)),pO 12 7 11])
 (.cond (.t 12) (.seq (.ops [g0 (.mv 2 (.c (.bool false)))])
 (.ret))
 (.skip)))
 (.seq (.seq (.ops [mK 3 0])
 (.block 0 (.loop L46_0)))
 (.seq (.ops [g0 (.mv 2 (.c (.bool true)))])
 (.ret)))),
 [.t 2]⟩
def F47:IFunc:=⟨.pure,.seq (.ops [bF 2 0,g0 (.boxL 4 8 none [(.int .i64 0),(.int .i64 0),(.str []),.nils,(.int .i64 0),(.int .i64 0),(.int .i64 0),(.int .i64 0)])])
 (.seq (.ops [fA 5 2 4,lA 6 5 2,mV 7 1,g0 (.build 8 [(.int .i64 0),(.int .i64 0),(.str []),.nils,(.int .i64 0),(.int .i64 0),(.int .i64 0),(.int .i64 0)] [(6,1,(.t 6)),(7,1,(.t 7))]),sT 4 8 8 4])
 (.ret)),
 [.cell 4 (some 8) (some 4)]⟩
def F48:IFunc:=⟨.pure,.seq (.ops [bF 2 0,bF 3 1,mK 4 0])
 (.seq (.ops [lF 5 2 2,lF 6 3 3,g0 (.bsl 7 1 false []),cA 8 81 [(.t 5),(.t 6),(.t 7)],mV 4 8])
 (.ret)),
 [.t 4]⟩
def F49:IFunc:=⟨.pure,.seq (.ops [bF 1 0,bZ 2])
 (.seq (.seq (.ops [fA 3 1 0,lA 4 3 1,bK 5 .eql 4 5])
 (.cond (.t 5) (.seq (.ops [cA 6 82 [],sT 2 6 6 2])
 (.ret))
 (.skip)))
 (.seq (.seq (.ops [fA 7 1 0,lA 8 7 1,bK 9 .eql 8 6])
 (.cond (.t 9) (.seq (.ops [cA 10 83 [],sT 2 10 6 2])
 (.ret))
 (.skip)))
 (.seq (.ops [g0 (.build 11 zT []),sT 2 11 6 2])
 (.ret)))),
 [.cell 2 (some 6) (some 2)]⟩
def L50_0:Ic:=.seq (.seq (.ops [mV 10 4,fA 11 1 3,lA 12 11 1,lN 13 12,bT 14 .lss 10 13])
 (.cond (.t 14) (.skip)
 (.exit 0)))
 (.seq (.block 1 (.ops [fA 17 3 3,lA 18 17 3,fA 19 1 3,lA 20 19 1,mV 21 4,iX 22 20 21,lP 23 22,cA 24 50 [(.t 23)],g0 (.bslF 25 6 true [(.t 24)]),g0 (.app 26 (.t 18) (.t 25) 6),fA 27 3 3,sT 27 26 1 3]))
 (.ops [mV 15 4,bK 16 .add 15 1,mV 4 16]))
def F50:IFunc:=⟨.raw,.seq (.ops [bF 1 0,bZ 2])
 (.seq (.ops [fA 5 1 0,lA 6 5 1,fA 7 1 1,lA 8 7 1,g0 (.build 9 zT [(0,1,(.t 6)),(1,1,(.t 8))]),bZ 3,sT 3 9 6 3])
 (.seq (.seq (.ops [mK 4 0])
 (.block 0 (.loop L50_0)))
 (.seq (.ops [lF 28 3 3,sT 2 28 6 2])
 (.ret)))),
 [.cell 2 (some 6) (some 2)]⟩
def F51:IFunc:=⟨.raw,.seq (.ops [g0 (.mv 2 (.c .nils))])
 (.seq (.seq (.ops [mV 3 0,g0 (.eqn 4 false .slice (.t 3) (.c .nils))])
 (.cond (.t 4) (.seq (.ops [g0 (.mv 2 (.c .nils))])
 (.ret))
 (.skip)))
 (.seq (.ops [g0 (.bsl 5 6 true []),mV 6 0,g0 (.app 7 (.t 5) (.t 6) 6),mV 2 7])
 (.ret))),
 [.t 2]⟩
def L53_1:Ic:=.seq (.ops [bT 28 .lss 27 26])
 (.seq (.cond (.t 28) (.skip)
 (.exit 2))
 (.seq (.block 3 (.seq (.ops [g0 (.idxA 29 (.t 25) (.t 27) 1 none none),lO 30 29,mV 8 30])
 (.ops [mV 31 6,mV 32 8,g0 (.app 33 (.t 31) (.t 32) 6),mV 6 33])))
 (.ops [bK 34 .add 27 1,mV 27 34])))
def L53_0:Ic:=.seq (.ops [bT 12 .lss 11 10])
 (.seq (.cond (.t 12) (.skip)
 (.exit 0))
 (.seq (.block 1 (.seq (.ops [g0 (.idxA 13 (.t 9) (.t 11) 1 none none),lO 14 13,mV 5 14])
 (.seq (.ops [mV 15 3,mV 16 5,lN 17 16,bT 18 .add 15 17,mV 3 18])
 (.seq (.ops [mV 19 3,bK 20 .lss 19 0])
 (.cond (.t 20) (.ops [g0 (.mkif 21 9 (.c (.str [108,101,110,32,111,117,116,32,111,102,32,114,97,110,103,101]))),g0 (.no none)])
 (.skip))))))
 (.ops [bK 22 .add 11 1,mV 11 22])))
def F53:IFunc:=⟨.pure,.seq (.ops [g0 (.mv 2 (.c .nils))])
 (.seq (.ops [mK 3 0])
 (.seq (.seq (.ops [mV 9 0,lN 10 9,mK 11 0])
 (.block 0 (.loop L53_0)))
 (.seq (.ops [mV 23 3,cA 24 85 [(.c .nils),(.t 23)],mV 6 24])
 (.seq (.seq (.ops [mV 25 0,lN 26 25,mK 27 0])
 (.block 2 (.loop L53_1)))
 (.seq (.ops [mV 35 6,mV 2 35])
 (.ret)))))),
 [.t 2]⟩
def L54_0:Ic:=.seq (.ops [bT 18 .lss 17 16])
 (.seq (.cond (.t 18) (.skip)
 (.exit 0))
 (.seq (.block 1 (.seq (.ops [mV 19 17,iX 20 15 17,lP 21 20,bZ 8,mV 7 19,sT 8 21 6 8])
 (.seq (.ops [mV 22 1,mV 23 7,iX 24 22 23,lP 25 24,bZ 9,sT 9 25 6 9])
 (.seq (.ops [mV 26 2,lF 27 8 8,lF 28 9 9,g0 (.callV (some 29) (.t 26) [(.t 27),(.t 28)]),g0 (.un 30 .not (.t 29))])
 (.cond (.t 30) (.seq (.ops [g0 (.mv 6 (.c (.bool false)))])
 (.ret))
 (.skip))))))
 (.ops [bK 31 .add 17 1,mV 17 31])))
def F54:IFunc:=⟨.pure,.seq (.ops [g0 (.mv 6 (.c (.bool false)))])
 (.seq (.seq (.ops [mV 10 0,lN 11 10,mV 12 1,lN 13 12,bT 14 .neq 11 13])
 (.cond (.t 14) (.seq (.ops [g0 (.mv 6 (.c (.bool false)))])
 (.ret))
 (.skip)))
 (.seq (.seq (.ops [mV 15 0,lN 16 15,mK 17 0])
 (.block 0 (.loop L54_0)))
 (.seq (.ops [g0 (.mv 6 (.c (.bool true)))])
 (.ret)))),
 [.t 6]⟩
def L55_0:Ic:=.seq (.seq (.ops [mV 7 4,mV 8 3,lN 9 8,bT 10 .lss 7 9])
 (.cond (.t 10) (.skip)
 (.exit 0)))
 (.seq (.block 1 (.ops [mV 13 3,mV 14 3,mV 15 4,iX 16 14 15,fA 17 16 3,lO 18 17,g0 (.app 19 (.t 13) (.t 18) 6),mV 3 19]))
 (.ops [mV 11 4,bK 12 .add 11 1,mV 4 12]))
def F55:IFunc:=⟨.pure,.seq (.ops [bF 1 0,g0 (.mv 2 (.c .nils))])
 (.seq (.ops [lF 5 1 1,g0 (.bsl 6 6 true [(.t 5)]),mV 3 6])
 (.seq (.seq (.ops [mK 4 0])
 (.block 0 (.loop L55_0)))
 (.seq (.ops [mV 20 3,mV 2 20])
 (.ret)))),
 [.t 2]⟩
def L56_0:Ic:=.seq (.seq (.ops [fA 3 1 0,lA 4 3 1,bK 5 .eql 4 12,mV 6 5,g1 6 false (.fldA 7 (.t 1) 0 none),g1 6 false (.load 8 (.t 7) none (some 1) false),g1 6 false (.bin 9 .eql (.t 8) (kI 13)),pO 10 6 9,mV 11 10,g1 11 true (.fldA 12 (.t 1) 3 none),g1 11 true (.load 13 (.t 12) none (some 1) false),g1 11 true (.len 14 .slice (.t 13) false),g1 11 true (.bin 15 .gtr (.t 14) (kI 0)),pA 16 11 15])
 (.cond (.t 16) (.skip)
 (.exit 0)))
 (.block 1 (.ops [fA 17 1 3,lA 18 17 1,g0 (.idxA 19 (.t 18) (kI 0) 6 (some 6) none),lP 20 19,sT 1 20 6 1]))
def F56:IFunc:=⟨.pure,.seq (.ops [bF 1 0,bZ 2])
 (.seq (.block 0 (.loop L56_0))
 (.seq (.ops [lF 21 1 1,sT 2 21 6 2])
 (.ret))),
 [.cell 2 (some 6) (some 2)]⟩
def L57_0:Ic:=.seq (.ops [bT 27 .lss 26 25])
 (.seq (.cond (.t 27) (.skip)
 (.exit 1))
 (.seq (.block 2 (.seq (.ops [iX 28 24 26,lP 29 28,bZ 7,sT 7 29 6 7])
 (.seq (.ops [lF 30 7 7,cA 31 86 [(.t 30)]])
 (.cond (.t 31) (.ops [mV 32 5,bK 33 .add 32 1,mV 5 33])
 (.skip)))))
 (.ops [bK 34 .add 26 1,mV 26 34])))
def F57:IFunc:=⟨.pure,.seq (.ops [bF 2 0,mK 4 0])
 (.seq (.seq (.ops [mV 8 1,bK 9 .lss 8 0,mV 10 9,g1 10 false (.mv 11 (.t 1)),g1 10 false (.fldA 12 (.t 2) 3 none),g1 10 false (.load 13 (.t 12) none (some 2) false),g1 10 false (.len 14 .slice (.t 13) false),g1 10 false (.bin 15 .geq (.t 11) (.t 14)),pO 16 10 15])
 (.cond (.t 16) (.seq (.ops [mK 4 0])
 (.ret))
 (.skip)))
 (.seq (.seq (.ops [fA 17 2 0,lA 18 17 2])
 (.block 0 (.seq (.ops [bK 20 .eql 18 29,mV 19 20])
 (.cond (.t 19) (.seq (.ops [mK 5 0])
 (.seq (.seq (.ops [fA 21 2 3,lA 22 21 2,mV 23 1,g0 (.slc 24 (some 6) (.t 22) none (some (.t 23)) none),lN 25 24,mK 26 0])
 (.block 1 (.loop L57_0)))
 (.seq (.ops [mV 35 5,mV 4 35])
 (.ret))))
 (.seq (.ops [bK 37 .eql 18 25,mV 36 37])
 (.cond (.t 36) (.seq (.ops [mV 38 1,bK 39 .eql 38 2])
 (.cond (.t 39) (.seq (.ops [mK 4 1])
 (.ret))
 (.skip)))
 (.seq (.ops [bK 41 .eql 18 33,mV 40 41])
 (.cond (.t 40) (.seq (.ops [mV 42 1,bK 43 .eql 42 2])
 (.cond (.t 43) (.seq (.ops [fA 44 2 3,lA 45 44 2,g0 (.idxA 46 (.t 45) (kI 0) 6 (some 6) none),fA 47 46 3,lO 48 47,lN 49 48,mV 4 49])
 (.ret))
 (.skip)))
 (.skip)))))))))
 (.seq (.ops [mK 4 0])
 (.ret)))),
 [.t 4]⟩
def F58:IFunc:=⟨.pure,.seq (.ops [g0 (.boxI 3 none (.t 1)),g0 (.mv 4 (.c (.bool false)))])
 (.seq (.ops [mV 5 0,g0 (.mkfn 6 88 [] [(.t 3)]),cA 7 87 [(.t 5),(.t 6)],mV 4 7])
 (.ret)),
 [.t 4]⟩
def L59_0:Ic:=.seq (.ops [bT 10 .lss 9 8])
 (.seq (.cond (.t 10) (.skip)
 (.exit 0))
 (.seq (.block 1 (.seq (.ops [iX 11 7 9,lP 12 11,bZ 5,sT 5 12 6 5])
 (.seq (.ops [fA 13 5 0,lA 14 13 5,bK 15 .eql 14 9])
 (.cond (.t 15) (.ops [mV 16 3,fA 17 5 1,lA 18 17 5,g0 (.bsl 19 1 false [(.t 18)]),g0 (.app 20 (.t 16) (.t 19) 1),mV 3 20])
 (.skip)))))
 (.ops [bK 21 .add 9 1,mV 9 21])))
def F59:IFunc:=⟨.pure,.seq (.ops [bF 1 0,g0 (.mv 2 (.c .nils))])
 (.seq (.ops [g0 (.mv 3 (.c .nils))])
 (.seq (.seq (.ops [lF 6 1 1,cA 7 55 [(.t 6)],lN 8 7,mK 9 0])
 (.block 0 (.loop L59_0)))
 (.seq (.ops [mV 22 3,cA 23 90 [(.t 22)]])
 (.seq (.ops [mV 24 3,cA 25 91 [(.t 24)],mV 2 25])
 (.ret))))),
 [.t 2]⟩
def L60_2:Ic:=.seq (.ops [bT 62 .lss 61 60])
 (.seq (.cond (.t 62) (.skip)
 (.exit 4))
 (.seq (.block 5 (.seq (.ops [g0 (.idxA 63 (.t 59) (.t 61) 1 none none),lO 64 63,mV 14 64])
 (.ops [fA 65 8 1,lA 66 65 8,mV 67 14,cA 68 94 [(.t 66),(.t 67)],fA 69 8 1,sT 69 68 1 8])))
 (.ops [bK 70 .add 61 1,mV 61 70])))
def L60_1:Ic:=.seq (.ops [bT 47 .lss 46 45])
 (.seq (.cond (.t 47) (.skip)
 (.exit 2))
 (.seq (.block 3 (.seq (.ops [g0 (.idxA 48 (.t 44) (.t 46) 1 none none),lO 49 48,mV 12 49])
 (.ops [fA 50 8 0,lA 51 50 8,mV 52 12,cA 53 94 [(.t 51),(.t 52)],fA 54 8 0,sT 54 53 1 8])))
 (.ops [bK 55 .add 46 1,mV 46 55])))
def L60_0:Ic:=.seq (.ops [bT 38 .lss 37 36])
 (.seq (.cond (.t 38) (.skip)
 (.exit 0))
 (.seq (.block 1 (.seq (.ops [g0 (.idxA 39 (.t 35) (.t 37) 1 none none),lO 40 39,mV 10 40])
 (.seq (.seq (.ops [mV 41 7,mV 42 10,g0 (.look 43 .int (.t 41) (.t 42) (.agg [.nils,.nils,.nils,(.int .i64 0)]) false),g0 (.fld 44 (.t 43) 0 none),lN 45 44,mK 46 0])
 (.block 2 (.loop L60_1)))
 (.seq (.seq (.ops [mV 56 7,mV 57 10,g0 (.look 58 .int (.t 56) (.t 57) (.agg [.nils,.nils,.nils,(.int .i64 0)]) false),g0 (.fld 59 (.t 58) 1 none),lN 60 59,mK 61 0])
 (.block 4 (.loop L60_2)))
 (.seq (.ops [fA 71 8 2,lA 72 71 8,mV 73 7,mV 74 10,g0 (.look 75 .int (.t 73) (.t 74) (.agg [.nils,.nils,.nils,(.int .i64 0)]) false),g0 (.fld 76 (.t 75) 3 none),bT 77 .or 72 76,fA 78 8 2,sT 78 77 1 8])
 (.seq (.ops [lF 80 2 2,mV 81 7,mV 82 10,g0 (.look 83 .int (.t 81) (.t 82) (.agg [.nils,.nils,.nils,(.int .i64 0)]) false),g0 (.fld 84 (.t 83) 2 none),cA 85 93 [(.t 80),(.t 84)],mV 79 85,eX 86 79 0,eX 87 79 1,mV 15 86,mV 16 87])
 (.seq (.ops [mV 89 15,mV 90 10,cA 91 95 [(.t 89),(.t 90)],mV 88 91,eX 92 88 0,eX 93 88 1,mV 17 92,mV 18 93])
 (.seq (.ops [mV 94 18])
 (.cond (.t 94) (.ops [fA 95 8 2,lA 96 95 8,bK 97 .or 96 2,fA 98 8 2,sT 98 97 1 8])
 (.skip))))))))))
 (.ops [bK 99 .add 37 1,mV 37 99])))
def F60:IFunc:=⟨.pure,.seq (.ops [bF 2 0,bF 3 1,g0 (.boxL 4 3 none [.nils,.nils,(.int .i64 0)])])
 (.seq (.ops [lF 19 3 3,cA 20 92 [(.t 19)],g0 (.boxL 5 4 none [.nils,.nils,.nils,(.int .i64 0)]),sT 5 20 4 5])
 (.seq (.ops [lF 22 2 2,fA 23 5 2,lA 24 23 5,cA 25 93 [(.t 22),(.t 24)],mV 21 25,eX 26 21 0,eX 27 21 1,mV 6 26,mV 7 27])
 (.seq (.ops [fA 28 5 0,lA 29 28 5,fA 30 5 1,lA 31 30 5,fA 32 5 3,lA 33 32 5,g0 (.build 34 [.nils,.nils,(.int .i64 0)] [(0,1,(.t 29)),(1,1,(.t 31)),(2,1,(.t 33))]),g0 (.boxL 8 3 none [.nils,.nils,(.int .i64 0)]),sT 8 34 3 8])
 (.seq (.seq (.ops [mV 35 6,lN 36 35,mK 37 0])
 (.block 0 (.loop L60_0)))
 (.seq (.ops [g0 (.load 100 (.t 8) (some 3) (some 8) false),sT 4 100 3 4])
 (.ret)))))),
 [.cell 4 (some 3) (some 4)]⟩
def F61:IFunc:=⟨.pure,.seq (.ops [bF 3 0,bZ 6,g0 (.mv 7 (.c (.bool false)))])
 (.seq (.seq (.ops [mV 10 2,bK 11 .lss 10 0,mV 12 11,g1 12 false (.mv 13 (.t 2)),g1 12 false (.bin 14 .gtr (.t 13) (kI 8192)),pO 15 12 14,mV 16 15,g1 16 false (.mv 17 (.t 1)),g1 16 false (.bin 18 .gtr (.t 17) (kI 8192)),pO 19 16 18,mV 20 19,g1 20 false (.mv 21 (.t 1)),g1 20 false (.bin 22 .lss (.t 21) (.c (.int .i64 (-8192)))),pO 23 20 22])
 (.cond (.t 23) (.seq (.ops [g0 (.build 24 zT []),sT 6 24 6 6,g0 (.mv 7 (.c (.bool false)))])
 (.ret))
 (.skip)))
 (.seq (.ops [mV 25 1,mV 26 2,g0 (.build 27 [(.int .i64 0),(.int .i64 0),(.bool false)] [(0,1,(.t 25)),(1,1,(.t 26))]),g0 (.boxH 8 (some 3) (.c (.agg [(.int .i64 0),(.int .i64 0),(.bool false)]))),g0 (.store (.t 8) (.t 27) 3 none)])
 (.seq (.ops [lF 28 3 3,g0 (.mkfn 29 96 [(.t 8)] []),cA 30 62 [(.t 28),(kI 0),(.t 29)],bZ 9,sT 9 30 6 9])
 (.seq (.seq (.ops [fA 31 8 2,lO 32 31])
 (.cond (.t 32) (.seq (.ops [g0 (.build 33 zT []),sT 6 33 6 6,g0 (.mv 7 (.c (.bool false)))])
 (.ret))
 (.skip)))
 (.seq (.ops [lF 34 9 9,sT 6 34 6 6,g0 (.mv 7 (.c (.bool true)))])
 (.ret)))))),
 [.cell 6 (some 6) (some 6),.t 7]⟩
theorem L5_0_w:L5_0.wr=[12,13,14,15,16,19,20,21,22,23,24,2,17,18,3]:=by kernel_rfl
theorem L5_0_p:L5_0.plain=true:=by kernel_rfl
theorem L10_0_w:L10_0.wr=[34,35,36,37,38,41,42,43,44,45,46,47,48,49,50,51,52,4,39,40,5]:=by kernel_rfl
theorem L10_0_p:L10_0.plain=true:=by kernel_rfl
theorem L11_0_w:L11_0.wr=[12,13,14,15,16,17,18,19,20,23,24,25,26,27,28,29,30,31,1,21,22,7]:=by kernel_rfl
theorem L11_0_p:L11_0.plain=true:=by kernel_rfl
theorem L12_0_w:L12_0.wr=[8,9,10,11,12,15,16,17,18,19,20,2,13,14,3]:=by kernel_rfl
theorem L12_0_p:L12_0.plain=true:=by kernel_rfl
theorem L13_0_w:L13_0.wr=[20,21,22,23,24,27,28,29,7,30,31,32,33,34,35,36,37,3,4,38,39,40,41,42,43,44,25,26,6]:=by kernel_rfl
theorem L13_0_p:L13_0.plain=true:=by kernel_rfl
theorem L14_0_w:L14_0.wr=[48,49,50,51,52,55,56,57,58,59,60,61,62,63,64,65,66,4,53,54,5]:=by kernel_rfl
theorem L14_0_p:L14_0.plain=true:=by kernel_rfl
theorem L28_0_w:L28_0.wr=[10,11,12,5,13,14,16,15,17,15,18,15,19,15,20,15,21,15,22,15,23,15,24,15,26,25,27,28,29,30,31,32,33,34,35,36,37,38,39,40,41,42,43,44,45,46,47,48,49,50,51,52,53,54,3,3,55,9]:=by kernel_rfl
theorem L28_0_p:L28_0.plain=true:=by kernel_rfl
theorem L29_0_w:L29_0.wr=[40,41,42,43,7,6,44,45,46,47,48,49,50,51,52,53,54,4,55,39]:=by kernel_rfl
theorem L29_0_p:L29_0.plain=true:=by kernel_rfl
theorem L30_0_w:L30_0.wr=[23,24,25,6,26,27,28,29,4,30,22]:=by kernel_rfl
theorem L30_0_p:L30_0.plain=true:=by kernel_rfl
theorem L39_0_w:L39_0.wr=[79,80,81,82,83,86,87,88,89,90,91,92,2,84,85,4]:=by kernel_rfl
theorem L39_0_p:L39_0.plain=true:=by kernel_rfl
theorem L42_0_w:L42_0.wr=[39,40,41,42,45,46,47,48,49,50,51,52,53,54,55,56,57,58,59,7,43,44,11]:=by kernel_rfl
theorem L42_0_p:L42_0.plain=true:=by kernel_rfl
theorem L45_1_w:L45_1.wr=[77,78,79,80,83,84,85,86,87,88,89,90,91,92,93,94,95,96,97,98,99,81,82,7]:=by kernel_rfl
theorem L45_1_p:L45_1.plain=true:=by kernel_rfl
theorem L45_0_w:L45_0.wr=[59,60,61,62,65,66,67,68,69,70,71,72,73,74,75,76,63,64,6]:=by kernel_rfl
theorem L45_0_p:L45_0.plain=true:=by kernel_rfl
theorem L46_0_w:L46_0.wr=[13,14,15,16,17,20,21,22,23,24,25,26,27,28,29,30,31,32,33,34,35,36,2,18,19,3]:=by kernel_rfl
theorem L46_0_p:L46_0.plain=true:=by kernel_rfl
theorem L50_0_w:L50_0.wr=[10,11,12,13,14,17,18,19,20,21,22,23,24,25,26,27,15,16,4]:=by kernel_rfl
theorem L50_0_p:L50_0.plain=true:=by kernel_rfl
theorem L53_1_w:L53_1.wr=[28,29,30,8,31,32,33,6,34,27]:=by kernel_rfl
theorem L53_1_p:L53_1.plain=true:=by kernel_rfl
theorem L53_0_w:L53_0.wr=[12,13,14,5,15,16,17,18,3,19,20,21,22,11]:=by kernel_rfl
theorem L53_0_p:L53_0.plain=true:=by kernel_rfl
theorem L54_0_w:L54_0.wr=[18,19,20,21,8,7,22,23,24,25,9,26,27,28,29,30,6,31,17]:=by kernel_rfl
theorem L54_0_p:L54_0.plain=true:=by kernel_rfl
theorem L55_0_w:L55_0.wr=[7,8,9,10,13,14,15,16,17,18,19,3,11,12,4]:=by kernel_rfl
theorem L55_0_p:L55_0.plain=true:=by kernel_rfl
theorem L56_0_w:L56_0.wr=[3,4,5,6,7,8,9,10,11,12,13,14,15,16,17,18,19,20]:=by kernel_rfl
theorem L56_0_p:L56_0.plain=true:=by kernel_rfl
theorem L57_0_w:L57_0.wr=[27,28,29,7,30,31,32,33,5,34,26]:=by kernel_rfl
theorem L57_0_p:L57_0.plain=true:=by kernel_rfl
theorem L59_0_w:L59_0.wr=[10,11,12,5,13,14,15,16,17,18,19,20,3,21,9]:=by kernel_rfl
theorem L59_0_p:L59_0.plain=true:=by kernel_rfl
theorem L60_2_w:L60_2.wr=[62,63,64,14,65,66,67,68,69,70,61]:=by kernel_rfl
theorem L60_2_p:L60_2.plain=true:=by kernel_rfl
theorem L60_1_w:L60_1.wr=[47,48,49,12,50,51,52,53,54,55,46]:=by kernel_rfl
theorem L60_1_p:L60_1.plain=true:=by kernel_rfl
theorem L60_0_w:L60_0.wr=[38,39,40,10,41,42,43,44,45,46,47,48,49,12,50,51,52,53,54,55,46,56,57,58,59,60,61,62,63,64,14,65,66,67,68,69,70,61,71,72,73,74,75,76,77,78,80,81,82,83,84,85,79,86,87,15,16,89,90,91,88,92,93,17,18,94,95,96,97,98,99,37]:=by kernel_rfl
theorem L60_0_p:L60_0.plain=true:=by kernel_rfl
end Go.Nt.Li
namespace Go.Nt.Li
open Go Go.Nt
def L62_0:Ic:=.seq (.ops [bT 31 .lss 30 29])
 (.seq (.cond (.t 31) (.skip)
 (.exit 0))
 (.seq (.block 1 (.seq (.ops [mV 32 30,iX 33 28 30,lP 34 33,bZ 10,mV 9 32,sT 10 34 6 10])
 (.seq (.seq (.ops [fA 35 3 0,lA 36 35 3,bK 37 .neq 36 29])
 (.cond (.t 37) (.ops [lF 38 3 3,mV 39 9,cA 40 57 [(.t 38),(.t 39)],mV 8 40])
 (.skip)))
 (.seq (.ops [mV 41 7,mV 42 9,lF 43 10 10,mV 44 1,mV 45 8,bT 46 .add 44 45,mV 47 2,cA 48 62 [(.t 43),(.t 46),(.t 47)],iX 49 41 42,g0 (.store (.t 49) (.t 48) 6 none)])
 (.seq (.ops [fA 50 3 0,lA 51 50 3,bK 52 .eql 51 29,mV 53 52,g1 53 true (.load 54 (.t 10) (some 6) (some 10) false),g1 53 true (.call (some 55) 86 [(.t 54)]),pA 56 53 55])
 (.cond (.t 56) (.ops [mV 57 8,bK 58 .add 57 1,mV 8 58])
 (.skip)))))))
 (.ops [bK 59 .add 30 1,mV 30 59])))
def F62:IFunc:=⟨.fre,.seq (.ops [bF 3 0,bZ 6])
 (.seq (.seq (.ops [fA 11 3 0,lA 12 11 3,bK 13 .eql 12 7])
 (.cond (.t 13) (.seq (.ops [mV 14 2,lF 15 3 3,mV 16 1,g0 (.callV (some 17) (.t 14) [(.t 15),(.t 16)]),sT 6 17 6 6])
 (.ret))
 (.skip)))
 (.seq (.seq (.ops [fA 18 3 3,lA 19 18 3,lN 20 19,bK 21 .eql 20 0])
 (.cond (.t 21) (.seq (.ops [lF 22 3 3,sT 6 22 6 6])
 (.ret))
 (.skip)))
 (.seq (.ops [fA 23 3 3,lA 24 23 3,lN 25 24,g0 (.mksl 26 6 (.agg zT) (.t 25) (.t 25)),mV 7 26])
 (.seq (.ops [mK 8 0])
 (.seq (.seq (.ops [fA 27 3 3,lA 28 27 3,lN 29 28,mK 30 0])
 (.block 0 (.loop L62_0)))
 (.seq (.ops [mV 60 7,fA 61 3 3,sT 61 60 1 3])
 (.seq (.ops [lF 62 3 3,sT 6 62 6 6])
 (.ret)))))))),
 [.cell 6 (some 6) (some 6)]⟩
def F63:IFunc:=⟨.pure,.seq (.ops [g0 (.boxL 3 7 (some (.t 0)) []),bF 4 1,bZ 6])
 (.seq (.seq (.ops [fA 8 4 1,lA 9 8 4,mV 10 2,bT 11 .lss 9 10,mV 12 11,g1 12 false (.fldA 13 (.t 4) 1 none),g1 12 false (.load 14 (.t 13) none (some 4) false),g1 12 false (.mv 15 (.t 2)),g1 12 false (.bin 16 .sub (.t 14) (.t 15)),g1 12 false (.fldA 17 (.t 3) 6 none),g1 12 false (.load 18 (.t 17) none (some 3) false),g1 12 false (.bin 19 .neq (.t 16) (.t 18)),pO 20 12 19])
 (.cond (.t 20) (.seq (.ops [lF 21 4 4,sT 6 21 6 6])
 (.ret))
 (.skip)))
 (.seq (.ops [mV 22 2,g0 (.build 23 [(.int .i64 0),(.int .i64 0),(.bool false)] [(0,1,(.t 22))]),g0 (.boxH 7 (some 3) (.c (.agg [(.int .i64 0),(.int .i64 0),(.bool false)]))),g0 (.store (.t 7) (.t 23) 3 none)])
 (.seq (.ops [g0 (.fldA 24 (.t 3) 0 (some 6)),lF 25 24 3,g0 (.mkfn 26 96 [(.t 7)] []),cA 27 62 [(.t 25),(kI 0),(.t 26)],sT 6 27 6 6])
 (.ret)))),
 [.cell 6 (some 6) (some 6)]⟩
def F64:IFunc:=⟨.raw,.seq (.ops [bF 4 1,bZ 6])
 (.seq (.seq (.ops [fA 7 4 1,lA 8 7 4,mV 9 2,bT 10 .geq 8 9,mV 11 10,g1 11 true (.fldA 12 (.t 4) 1 none),g1 11 true (.load 13 (.t 12) none (some 4) false),g1 11 true (.mv 14 (.t 2)),g1 11 true (.bin 15 .sub (.t 13) (.t 14)),g1 11 true (.mv 16 (.t 0)),g1 11 true (.nilc (some 17) (.t 16)),g1 11 true (.fldA 18 (.t 17) 0 none),g1 11 true (.load 19 (.t 18) none none false),g1 11 true (.bin 20 .eql (.t 15) (.t 19)),pA 21 11 20])
 (.cond (.t 21) (.ops [mV 22 0,nC 23 22,fA 24 23 1,g0 (.store (.t 24) (.c (.bool true)) 1 none)])
 (.skip)))
 (.seq (.ops [lF 25 4 4,sT 6 25 6 6])
 (.ret))),
 [.cell 6 (some 6) (some 6)]⟩
def F65:IFunc:=⟨.pure,.seq (.ops [bF 2 0,g0 (.mv 4 (.c (.bool false)))])
 (.seq (.ops [mV 5 1,bK 6 .geq 5 0,mV 7 6,g1 7 true (.load 8 (.t 2) (some 6) (some 2) false),g1 7 true (.mv 9 (.t 1)),g1 7 true (.call (some 10) 97 [(.t 8),(.t 9),(kI 0)]),pA 11 7 10,mV 4 11])
 (.ret)),
 [.t 4]⟩
def L66_0:Ic:=.seq (.seq (.ops [mV 26 10,fA 27 4 3,lA 28 27 4,lN 29 28,bT 30 .lss 26 29])
 (.cond (.t 30) (.skip)
 (.exit 0)))
 (.seq (.block 1 (.ops [mV 33 9,fA 34 4 3,lA 35 34 4,mV 36 10,iX 37 35 36,g0 (.load 38 (.t 37) (some 6) none true),mV 39 1,mV 40 2,mV 41 3,lF 42 4 4,mV 43 10,cA 44 99 [(.t 42),(.t 43)],bT 45 .add 41 44,cA 46 66 [(.t 38),(.t 39),(.t 40),(.t 45)],g0 (.bsl 47 6 true [(.t 46)]),g0 (.app 48 (.t 33) (.t 47) 6),mV 9 48]))
 (.ops [mV 31 10,bK 32 .add 31 1,mV 10 32]))
def F66:IFunc:=⟨.pure,.seq (.ops [bF 4 0,bZ 8])
 (.seq (.seq (.ops [fA 11 4 0,lA 12 11 4,bK 13 .eql 12 7])
 (.cond (.t 13) (.seq (.seq (.ops [lF 14 4 4,mV 15 3,cA 16 98 [(.t 14),(.t 15)],mV 17 2,bT 18 .geq 16 17])
 (.cond (.t 18) (.ops [fA 19 4 1,lA 20 19 4,mV 21 1,bT 22 .add 20 21,fA 23 4 1,sT 23 22 1 4])
 (.skip)))
 (.seq (.ops [lF 24 4 4,sT 8 24 6 8])
 (.ret)))
 (.skip)))
 (.seq (.ops [g0 (.bsl 25 6 true []),mV 9 25])
 (.seq (.seq (.ops [mK 10 0])
 (.block 0 (.loop L66_0)))
 (.seq (.ops [fA 49 4 0,lA 50 49 4,fA 51 4 1,lA 52 51 4,fA 53 4 2,lA 54 53 4,mV 55 9,fA 56 4 4,lA 57 56 4,fA 58 4 5,lA 59 58 4,g0 (.build 60 zT [(0,1,(.t 50)),(1,1,(.t 52)),(2,1,(.t 54)),(3,1,(.t 55)),(4,1,(.t 57)),(5,1,(.t 59))]),sT 8 60 6 8])
 (.ret))))),
 [.cell 8 (some 6) (some 8)]⟩
def F67:IFunc:=⟨.pure,.seq (.ops [bF 2 0,g0 (.mv 4 (.c (.bool false)))])
 (.seq (.ops [mV 5 1,bK 6 .geq 5 0,mV 7 6,g1 7 true (.load 8 (.t 2) (some 6) (some 2) false),g1 7 true (.mv 9 (.t 1)),g1 7 true (.call (some 10) 100 [(.t 8),(.t 9),(kI 0)]),pA 11 7 10,mV 4 11])
 (.ret)),
 [.t 4]⟩
def F68:IFunc:=⟨.pure,.seq (.ops [bF 3 0,bF 4 1,bF 5 2,g0 (.mv 6 (.c (.bool false)))])
 (.seq (.ops [lF 7 5 5,cA 8 102 [(.t 7)],lF 9 3 3,lF 10 4 4,cA 11 103 [(.t 9),(.t 10)],g0 (.fld 12 (.t 11) 1 none),cA 13 101 [(.t 8),(.t 12)],mV 6 13])
 (.ret)),
 [.t 6]⟩
def L69_0:Ic:=.seq (.seq (.ops [mV 14 4,fA 15 1 3,lA 16 15 1,lN 17 16,bT 18 .lss 14 17])
 (.cond (.t 18) (.skip)
 (.exit 0)))
 (.seq (.block 1 (.ops [mV 21 3,fA 22 1 3,lA 23 22 1,mV 24 4,iX 25 23 24,lP 26 25,cA 27 69 [(.t 26)],g0 (.app 28 (.t 21) (.t 27) 1),mV 3 28]))
 (.ops [mV 19 4,bK 20 .add 19 1,mV 4 20]))
def F69:IFunc:=⟨.pure,.seq (.ops [bF 1 0,g0 (.mv 2 (.c .nils))])
 (.seq (.ops [g0 (.bsl 5 1 false []),mV 3 5])
 (.seq (.seq (.ops [fA 6 1 0,lA 7 6 1,bK 8 .eql 7 7])
 (.cond (.t 8) (.seq (.ops [mV 9 3,fA 10 1 1,lA 11 10 1,g0 (.bsl 12 1 false [(.t 11)]),g0 (.app 13 (.t 9) (.t 12) 1),mV 2 13])
 (.ret))
 (.skip)))
 (.seq (.seq (.ops [mK 4 0])
 (.block 0 (.loop L69_0)))
 (.seq (.ops [mV 29 3,mV 2 29])
 (.ret))))),
 [.t 2]⟩
def F70:IFunc:=⟨.pure,.seq (.ops [bF 3 0,bF 4 1,bZ 6])
 (.seq (.ops [lF 7 3 3,lF 8 4 4,mV 9 2,cA 10 104 [(.t 7),(.t 8),(.t 9),(kI 0)],sT 6 10 6 6])
 (.ret)),
 [.cell 6 (some 6) (some 6)]⟩
def F71:IFunc:=⟨.pure,.seq (.ops [bF 1 0,mK 2 0])
 (.seq (.seq (.ops [fA 3 1 0,lA 4 3 1,bK 5 .eql 4 22,mV 6 5,g1 6 true (.fldA 7 (.t 1) 3 none),g1 6 true (.load 8 (.t 7) none (some 1) false),g1 6 true (.len 9 .slice (.t 8) false),g1 6 true (.bin 10 .gtr (.t 9) (kI 1)),pA 11 6 10])
 (.cond (.t 11) (.seq (.ops [mK 2 1])
 (.ret))
 (.skip)))
 (.seq (.seq (.ops [fA 12 1 0,lA 13 12 1,bK 14 .eql 13 20,mV 15 14,g1 15 false (.fldA 16 (.t 1) 0 none),g1 15 false (.load 17 (.t 16) none (some 1) false),g1 15 false (.bin 18 .eql (.t 17) (kI 26)),pO 19 15 18,mV 20 19,g1 20 false (.fldA 21 (.t 1) 0 none),g1 20 false (.load 22 (.t 21) none (some 1) false),g1 20 false (.bin 23 .eql (.t 22) (kI 27)),pO 24 20 23,mV 25 24,g1 25 false (.fldA 26 (.t 1) 0 none),g1 25 false (.load 27 (.t 26) none (some 1) false),g1 25 false (.bin 28 .eql (.t 27) (kI 28)),pO 29 25 28,mV 30 29,g1 30 false (.fldA 31 (.t 1) 0 none),g1 30 false (.load 32 (.t 31) none (some 1) false),g1 30 false (.bin 33 .eql (.t 32) (kI 23)),pO 34 30 33,mV 35 34,g1 35 true (.fldA 36 (.t 1) 3 none),g1 35 true (.load 37 (.t 36) none (some 1) false),g1 35 true (.len 38 .slice (.t 37) false),g1 35 true (.bin 39 .gtr (.t 38) (kI 0)),pA 40 35 39])
 (.cond (.t 40) (.seq (.ops [mK 2 0])
 (.ret))
 (.skip)))
 (.seq (.ops [g0 (.mv 2 (.c (.int .i64 (-1))))])
 (.ret)))),
 [.t 2]⟩
def F72:IFunc:=⟨.pure,.seq (.ops [bF 2 0,bZ 4])
 (.seq (.seq (.ops [mV 5 1,lN 6 5,bK 7 .eql 6 0])
 (.cond (.t 7) (.seq (.ops [lF 8 2 2,sT 4 8 6 4])
 (.ret))
 (.skip)))
 (.seq (.ops [fA 9 2 3,lA 10 9 2,mV 11 1,g0 (.idxA 12 (.t 11) (kI 0) 1 none none),lO 13 12,iX 14 10 13,lP 15 14,mV 16 1,g0 (.slc 17 (some 1) (.t 16) (some (kI 1)) none none),cA 18 72 [(.t 15),(.t 17)],sT 4 18 6 4])
 (.ret))),
 [.cell 4 (some 6) (some 4)]⟩
def L73_0:Ic:=.seq (.seq (.ops [mV 14 8,fA 15 3 3,lA 16 15 3,lN 17 16,bT 18 .lss 14 17])
 (.cond (.t 18) (.skip)
 (.exit 0)))
 (.seq (.block 1 (.seq (.ops [mV 21 8,mV 22 1,g0 (.idxA 23 (.t 22) (kI 0) 1 none none),lO 24 23,bT 25 .eql 21 24])
 (.cond (.t 25) (.ops [mV 26 7,fA 27 3 3,lA 28 27 3,mV 29 8,iX 30 28 29,lP 31 30,mV 32 1,g0 (.slc 33 (some 1) (.t 32) (some (kI 1)) none none),lF 34 5 5,cA 35 73 [(.t 31),(.t 33),(.t 34)],g0 (.bsl 36 6 true [(.t 35)]),g0 (.app 37 (.t 26) (.t 36) 6),mV 7 37])
 (.ops [mV 38 7,fA 39 3 3,lA 40 39 3,mV 41 8,iX 42 40 41,lP 43 42,g0 (.bsl 44 6 true [(.t 43)]),g0 (.app 45 (.t 38) (.t 44) 6),mV 7 45]))))
 (.ops [mV 19 8,bK 20 .add 19 1,mV 8 20]))
def F73:IFunc:=⟨.pure,.seq (.ops [bF 3 0,bF 5 2,bZ 6])
 (.seq (.seq (.ops [mV 9 1,lN 10 9,bK 11 .eql 10 0])
 (.cond (.t 11) (.seq (.ops [lF 12 5 5,sT 6 12 6 6])
 (.ret))
 (.skip)))
 (.seq (.ops [g0 (.bsl 13 6 true []),mV 7 13])
 (.seq (.seq (.ops [mK 8 0])
 (.block 0 (.loop L73_0)))
 (.seq (.ops [fA 46 3 0,lA 47 46 3,fA 48 3 1,lA 49 48 3,fA 50 3 2,lA 51 50 3,mV 52 7,fA 53 3 4,lA 54 53 3,fA 55 3 5,lA 56 55 3,g0 (.build 57 zT [(0,1,(.t 47)),(1,1,(.t 49)),(2,1,(.t 51)),(3,1,(.t 52)),(4,1,(.t 54)),(5,1,(.t 56))]),sT 6 57 6 6])
 (.ret))))),
 [.cell 6 (some 6) (some 6)]⟩
def L75_0:Ic:=.seq (.seq (.ops [mV 47 9,fA 48 5 3,lA 49 48 5,lN 50 49,bT 51 .lss 47 50])
 (.cond (.t 51) (.skip)
 (.exit 0)))
 (.seq (.block 1 (.seq (.ops [lF 54 3 3,mV 55 1,fA 56 5 3,lA 57 56 5,mV 58 9,iX 59 57 58,lP 60 59,cA 61 75 [(.t 54),(.t 55),(.t 60)],g0 (.boxL 10 14 none [(.int .i64 0),(.int .i64 0),(.str []),.nils,(.int .i64 0),(.int .i64 0),(.int .i64 0),(.int .i64 0),(.str []),.nils,(.int .i64 0),(.int .i64 0),(.int .i64 0),(.int .i64 0)]),sT 10 61 14 10])
 (.seq (.seq (.ops [fA 62 10 13,lA 63 62 10,bK 64 .neq 63 0])
 (.cond (.t 64) (.seq (.ops [g0 (.load 65 (.t 10) (some 14) (some 10) false),sT 6 65 14 6])
 (.ret))
 (.skip)))
 (.seq (.ops [mV 66 7,g0 (.fldA 67 (.t 10) 0 (some 6)),lF 68 67 10,g0 (.bsl 69 6 true [(.t 68)]),g0 (.app 70 (.t 66) (.t 69) 6),mV 7 70])
 (.ops [mV 71 8,g0 (.fldA 72 (.t 10) 6 (some 6)),lF 73 72 10,g0 (.bsl 74 6 true [(.t 73)]),g0 (.app 75 (.t 71) (.t 74) 6),mV 8 75])))))
 (.ops [mV 52 9,bK 53 .add 52 1,mV 9 53]))
def F75:IFunc:=⟨.pure,.seq (.ops [bF 3 0,bF 5 2,g0 (.boxL 6 14 none [(.int .i64 0),(.int .i64 0),(.str []),.nils,(.int .i64 0),(.int .i64 0),(.int .i64 0),(.int .i64 0),(.str []),.nils,(.int .i64 0),(.int .i64 0),(.int .i64 0),(.int .i64 0)])])
 (.seq (.seq (.ops [lF 14 5 5,cA 15 106 [(.t 14)],g0 (.un 16 .not (.t 15))])
 (.cond (.t 16) (.seq (.ops [lF 17 5 5,cA 18 107 [(.t 17),(kI 12)],sT 6 18 14 6])
 (.ret))
 (.skip)))
 (.seq (.seq (.ops [lF 19 3 3,mV 20 1,lF 21 5 5,cA 22 108 [(.t 19),(.t 20),(.t 21)],g0 (.un 23 .not (.t 22))])
 (.cond (.t 23) (.seq (.ops [lF 24 5 5,cA 25 107 [(.t 24),(kI 8)],sT 6 25 14 6])
 (.ret))
 (.skip)))
 (.seq (.seq (.ops [fA 26 5 3,lA 27 26 5,lN 28 27,bK 29 .eql 28 0,mV 30 29,g1 30 true (.fldA 31 (.t 5) 0 none),g1 30 true (.load 32 (.t 31) none (some 5) false),g1 30 true (.bin 33 .neq (.t 32) (kI 16)),pA 34 30 33])
 (.cond (.t 34) (.seq (.ops [lF 35 3 3,mV 36 1,lF 37 5 5,cA 38 109 [(.t 35),(.t 36),(.t 37)],fA 39 5 0,lA 40 39 5,fA 41 5 1,lA 42 41 5,g0 (.build 43 zT [(0,1,(.t 40)),(1,1,(.t 42))]),g0 (.build 44 [(.int .i64 0),(.int .i64 0),(.str []),.nils,(.int .i64 0),(.int .i64 0),(.int .i64 0),(.int .i64 0),(.str []),.nils,(.int .i64 0),(.int .i64 0),(.int .i64 0),(.int .i64 0)] [(0,6,(.t 38)),(6,6,(.t 43))]),sT 6 44 14 6])
 (.ret))
 (.skip)))
 (.seq (.ops [g0 (.bsl 45 6 true []),mV 7 45])
 (.seq (.ops [g0 (.bsl 46 6 true []),mV 8 46])
 (.seq (.seq (.ops [mK 9 0])
 (.block 0 (.loop L75_0)))
 (.seq (.ops [lF 77 3 3,lF 78 5 5,mV 79 7,cA 80 110 [(.t 77),(.t 78),(.t 79)],mV 76 80,eX 81 76 0,eX 82 76 1,eX 83 76 2,bZ 11,sT 11 81 6 11,mV 12 82,mV 13 83])
 (.seq (.seq (.ops [mV 84 13,bK 85 .neq 84 0])
 (.cond (.t 85) (.seq (.ops [lF 86 5 5,mV 87 13,cA 88 107 [(.t 86),(.t 87)],sT 6 88 14 6])
 (.ret))
 (.skip)))
 (.seq (.ops [lF 89 11 11,fA 90 5 0,lA 91 90 5,mV 92 12,mV 93 8,g0 (.build 94 zT [(0,1,(.t 91)),(1,1,(.t 92)),(3,1,(.t 93))]),g0 (.build 95 [(.int .i64 0),(.int .i64 0),(.str []),.nils,(.int .i64 0),(.int .i64 0),(.int .i64 0),(.int .i64 0),(.str []),.nils,(.int .i64 0),(.int .i64 0),(.int .i64 0),(.int .i64 0)] [(0,6,(.t 89)),(6,6,(.t 94))]),sT 6 95 14 6])
 (.ret)))))))))),
 [.cell 6 (some 14) (some 6)]⟩
def L77_0:Ic:=.seq (.seq (.ops [mV 4 3,mV 5 0,lN 6 5,bT 7 .lss 4 6])
 (.cond (.t 7) (.skip)
 (.exit 0)))
 (.seq (.block 1 (.seq (.ops [mV 10 0,mV 11 3,iX 12 10 11,fA 13 12 0,lO 14 13,bK 15 .neq 14 34,mV 16 15,g1 16 false (.mv 17 (.t 0)),g1 16 false (.mv 18 (.t 3)),g1 16 false (.idxA 19 (.t 17) (.t 18) 6 (some 6) none),g1 16 false (.fldA 20 (.t 19) 3 none),g1 16 false (.load 21 (.t 20) none none false),g1 16 false (.len 22 .slice (.t 21) false),g1 16 false (.bin 23 .neq (.t 22) (kI 1)),pO 24 16 23])
 (.cond (.t 24) (.seq (.ops [g0 (.mv 2 (.c (.bool false)))])
 (.ret))
 (.skip))))
 (.ops [mV 8 3,bK 9 .add 8 1,mV 3 9]))
def F77:IFunc:=⟨.pure,.seq (.ops [g0 (.mv 2 (.c (.bool false)))])
 (.seq (.seq (.ops [mK 3 0])
 (.block 0 (.loop L77_0)))
 (.seq (.ops [g0 (.mv 2 (.c (.bool true)))])
 (.ret))),
 [.t 2]⟩
def L78_0:Ic:=.seq (.seq (.ops [mV 6 4,fA 7 1 3,lA 8 7 1,g0 (.idxA 9 (.t 8) (kI 0) 6 (some 6) none),fA 10 9 3,lO 11 10,lN 12 11,bT 13 .lss 6 12])
 (.cond (.t 13) (.skip)
 (.exit 0)))
 (.seq (.block 1 (.ops [mV 16 3,fA 17 1 3,lA 18 17 1,g0 (.idxA 19 (.t 18) (kI 0) 6 (some 6) none),fA 20 19 3,lO 21 20,mV 22 4,iX 23 21 22,fA 24 23 3,lO 25 24,g0 (.idxA 26 (.t 25) (kI 0) 6 (some 6) none),lP 27 26,g0 (.bsl 28 6 true [(.t 27)]),g0 (.app 29 (.t 16) (.t 28) 6),mV 3 29]))
 (.ops [mV 14 4,bK 15 .add 14 1,mV 4 15]))
def F78:IFunc:=⟨.raw,.seq (.ops [bF 1 0,g0 (.mv 2 (.c .nils))])
 (.seq (.ops [g0 (.bsl 5 6 true []),mV 3 5])
 (.seq (.seq (.ops [mK 4 0])
 (.block 0 (.loop L78_0)))
 (.seq (.ops [mV 30 3,mV 2 30])
 (.ret)))),
 [.t 2]⟩
def F79:IFunc:=⟨.pure,.seq (.ops [bF 2 0,bF 3 1,g0 (.mv 4 (.c (.bool false)))])
 (.seq (.ops [lF 5 2 2,lF 6 3 3,cA 7 48 [(.t 5),(.t 6)],bK 8 .gtr 7 0,mV 9 8,g1 9 true (.load 10 (.t 3) (some 6) (some 3) false),g1 9 true (.call (some 11) 111 [(.t 10)]),pA 12 9 11,mV 4 12])
 (.ret)),
 [.t 4]⟩
def L80_0:Ic:=.seq (.seq (.ops [mV 18 10,fA 19 7 3,lA 20 19 7,lN 21 20,bT 22 .lss 18 21])
 (.cond (.t 22) (.skip)
 (.exit 0)))
 (.seq (.block 1 (.seq (.ops [lF 25 4 4,mV 26 1,lF 27 6 6,fA 28 7 3,lA 29 28 7,mV 30 10,iX 31 29 30,lP 32 31,cA 33 112 [(.t 25),(.t 26),(.t 27),(.t 32)],g0 (.boxL 11 8 none [(.int .i64 0),(.int .i64 0),(.str []),.nils,(.int .i64 0),(.int .i64 0),(.int .i64 0),(.int .i64 0)]),sT 11 33 8 11])
 (.seq (.seq (.ops [fA 34 11 7,lA 35 34 11,bK 36 .neq 35 0])
 (.cond (.t 36) (.seq (.ops [g0 (.load 37 (.t 11) (some 8) (some 11) false),sT 8 37 8 8])
 (.ret))
 (.skip)))
 (.seq (.ops [fA 38 9 3,lA 39 38 9,g0 (.fldA 40 (.t 11) 0 (some 6)),lF 41 40 11,g0 (.bsl 42 6 true [(.t 41)]),g0 (.app 43 (.t 39) (.t 42) 6),fA 44 9 3,sT 44 43 1 9])
 (.ops [lF 45 4 4,mV 46 1,fA 47 7 3,lA 48 47 7,mV 49 10,iX 50 48 49,lP 51 50,cA 52 105 [(.t 45),(.t 46),(.t 51)],mV 1 52])))))
 (.ops [mV 23 10,bK 24 .add 23 1,mV 10 24]))
def F80:IFunc:=⟨.pure,.seq (.ops [bF 4 0,bF 6 2,bF 7 3,g0 (.boxL 8 8 none [(.int .i64 0),(.int .i64 0),(.str []),.nils,(.int .i64 0),(.int .i64 0),(.int .i64 0),(.int .i64 0)])])
 (.seq (.ops [fA 12 7 0,lA 13 12 7,fA 14 7 1,lA 15 14 7,g0 (.bsl 16 6 true []),g0 (.build 17 zT [(0,1,(.t 13)),(1,1,(.t 15)),(3,1,(.t 16))]),bZ 9,sT 9 17 6 9])
 (.seq (.seq (.ops [mK 10 0])
 (.block 0 (.loop L80_0)))
 (.seq (.ops [lF 53 9 9,g0 (.build 54 [(.int .i64 0),(.int .i64 0),(.str []),.nils,(.int .i64 0),(.int .i64 0),(.int .i64 0),(.int .i64 0)] [(0,6,(.t 53))]),sT 8 54 8 8])
 (.ret)))),
 [.cell 8 (some 8) (some 8)]⟩
def L81_1:Ic:=.seq (.seq (.ops [mV 104 12,fA 105 10 3,lA 106 105 10,lN 107 106,bT 108 .lss 104 107])
 (.cond (.t 108) (.skip)
 (.exit 2)))
 (.seq (.block 3 (.seq (.ops [lF 111 3 3,fA 112 10 3,lA 113 112 10,mV 114 12,iX 115 113 114,fA 116 115 3,g0 (.load 117 (.t 116) none none true),g0 (.idxA 118 (.t 117) (kI 0) 6 (some 6) none),g0 (.load 119 (.t 118) (some 6) none true),g0 (.bsl 120 1 false []),mV 121 2,g0 (.app 122 (.t 120) (.t 121) 1),mV 123 8,g0 (.bsl 124 1 false [(.t 123)]),g0 (.app 125 (.t 122) (.t 124) 1),cA 126 81 [(.t 111),(.t 119),(.t 125)],mV 13 126])
 (.seq (.ops [mV 127 11,mV 128 13,bT 129 .add 127 128,mV 11 129])
 (.seq (.ops [mV 130 13,bK 131 .eql 130 0,mV 132 131,g1 132 false (.mv 133 (.t 11)),g1 132 false (.bin 134 .gtr (.t 133) (kI 64)),pO 135 132 134])
 (.cond (.t 135) (.seq (.ops [mK 6 0])
 (.ret))
 (.skip))))))
 (.ops [mV 109 12,bK 110 .add 109 1,mV 12 110]))
def L81_0:Ic:=.seq (.seq (.ops [mV 84 9,mV 85 2,lN 86 85,bT 87 .lss 84 86])
 (.cond (.t 87) (.skip)
 (.exit 0)))
 (.seq (.block 1 (.seq (.ops [mV 90 2,mV 91 9,g0 (.idxA 92 (.t 90) (.t 91) 1 none none),lO 93 92,mV 94 8,bT 95 .eql 93 94])
 (.cond (.t 95) (.seq (.ops [mK 6 0])
 (.ret))
 (.skip))))
 (.ops [mV 88 9,bK 89 .add 88 1,mV 9 89]))
def F81:IFunc:=⟨.pure,.seq (.ops [bF 3 0,bF 4 1,mK 6 0])
 (.seq (.seq (.ops [fA 14 4 0,lA 15 14 4,bK 16 .eql 15 1,mV 17 16,g1 17 false (.fldA 18 (.t 4) 0 none),g1 17 false (.load 19 (.t 18) none (some 4) false),g1 17 false (.bin 20 .eql (.t 19) (kI 2)),pO 21 17 20,mV 22 21,g1 22 true (.fldA 23 (.t 4) 3 none),g1 22 true (.load 24 (.t 23) none (some 4) false),g1 22 true (.len 25 .slice (.t 24) false),g1 22 true (.bin 26 .eql (.t 25) (kI 0)),pA 27 22 26])
 (.cond (.t 27) (.seq (.ops [mK 6 1])
 (.ret))
 (.skip)))
 (.seq (.seq (.ops [fA 28 4 0,lA 29 28 4,bK 30 .eql 29 3,mV 31 30,g1 31 true (.fldA 32 (.t 4) 3 none),g1 31 true (.load 33 (.t 32) none (some 4) false),g1 31 true (.len 34 .slice (.t 33) false),g1 31 true (.bin 35 .eql (.t 34) (kI 1)),pA 36 31 35,mV 37 36,g1 37 true (.fldA 38 (.t 4) 1 none),g1 37 true (.load 39 (.t 38) none (some 4) false),g1 37 true (.bin 40 .geq (.t 39) (kI 1)),pA 41 37 40,mV 42 41,g1 42 true (.fldA 43 (.t 4) 1 none),g1 42 true (.load 44 (.t 43) none (some 4) false),g1 42 true (.bin 45 .leq (.t 44) (kI 16)),pA 46 42 45])
 (.cond (.t 46) (.seq (.ops [lF 47 3 3,fA 48 4 3,lA 49 48 4,g0 (.idxA 50 (.t 49) (kI 0) 6 (some 6) none),lP 51 50,mV 52 2,cA 53 81 [(.t 47),(.t 51),(.t 52)],fA 54 4 1,lA 55 54 4,bT 56 .mul 53 55,mV 7 56])
 (.seq (.seq (.ops [mV 57 7,bK 58 .gtr 57 64])
 (.cond (.t 58) (.seq (.ops [mK 6 0])
 (.ret))
 (.skip)))
 (.seq (.ops [mV 59 7,mV 6 59])
 (.ret))))
 (.skip)))
 (.seq (.seq (.ops [fA 60 4 0,lA 61 60 4,bK 62 .neq 61 4,mV 63 62,g1 63 false (.fldA 64 (.t 4) 3 none),g1 63 false (.load 65 (.t 64) none (some 4) false),g1 63 false (.len 66 .slice (.t 65) false),g1 63 false (.bin 67 .neq (.t 66) (kI 0)),pO 68 63 67,mV 69 68,g1 69 false (.fldA 70 (.t 4) 1 none),g1 69 false (.load 71 (.t 70) none (some 4) false),g1 69 false (.bin 72 .lss (.t 71) (kI 0)),pO 73 69 72,mV 74 73,g1 74 false (.fldA 75 (.t 4) 1 none),g1 74 false (.load 76 (.t 75) none (some 4) false),g1 74 false (.fldA 77 (.t 3) 3 none),g1 74 false (.load 78 (.t 77) none (some 3) false),g1 74 false (.len 79 .slice (.t 78) false),g1 74 false (.bin 80 .geq (.t 76) (.t 79)),pO 81 74 80])
 (.cond (.t 81) (.seq (.ops [mK 6 0])
 (.ret))
 (.skip)))
 (.seq (.ops [fA 82 4 1,lA 83 82 4,mV 8 83])
 (.seq (.seq (.ops [mK 9 0])
 (.block 0 (.loop L81_0)))
 (.seq (.ops [fA 96 3 3,lA 97 96 3,mV 98 8,iX 99 97 98,lP 100 99,bZ 10,sT 10 100 6 10])
 (.seq (.seq (.ops [lF 101 10 10,cA 102 46 [(.t 101)],g0 (.un 103 .not (.t 102))])
 (.cond (.t 103) (.seq (.ops [mK 6 0])
 (.ret))
 (.skip)))
 (.seq (.ops [mK 11 0])
 (.seq (.seq (.ops [mK 12 0])
 (.block 2 (.loop L81_1)))
 (.seq (.ops [mV 136 11,mV 6 136])
 (.ret))))))))))),
 [.t 6]⟩
def F82:IFunc:=⟨.pure,.seq (.ops [bZ 0])
 (.seq (.ops [g0 (.build 1 zT [(0,1,(kI 1))]),sT 0 1 6 0])
 (.ret)),
 [.cell 0 (some 6) (some 0)]⟩
def F83:IFunc:=⟨.pure,.seq (.ops [bZ 0])
 (.seq (.ops [g0 (.build 1 zT [(0,1,(kI 2))]),sT 0 1 6 0])
 (.ret)),
 [.cell 0 (some 6) (some 0)]⟩
def F85:IFunc:=⟨.raw,.seq (.ops [g0 (.mv 4 (.c .nils))])
 (.seq (.seq (.ops [mV 5 1,bK 6 .lss 5 0])
 (.cond (.t 6) (.ops [g0 (.mkif 7 9 (.c (.str [99,97,110,110,111,116,32,98,101,32,110,101,103,97,116,105,118,101]))),g0 (.no none)])
 (.skip)))
 (.seq (.seq (.ops [mV 8 1,mV 9 0,g0 (.capn 10 (.t 9)),mV 11 0,lN 12 11,bT 13 .sub 10 12,bT 14 .sub 8 13,mV 1 14])
 (.seq (.ops [mV 15 1,bK 16 .gtr 15 0])
 (.cond (.t 16) (.ops [mV 17 0,mV 18 0,g0 (.capn 19 (.t 18)),g0 (.slc 20 (some 6) (.t 17) none (some (.t 19)) none),mV 21 1,g0 (.appz 22 (.t 20) (.t 21) 6 (.agg zT)),mV 23 0,lN 24 23,g0 (.slc 25 (some 6) (.t 22) none (some (.t 24)) none),mV 0 25])
 (.skip))))
 (.seq (.ops [mV 26 0,mV 4 26])
 (.ret)))),
 [.t 4]⟩
def F86:IFunc:=⟨.pure,.seq (.ops [bF 1 0,g0 (.mv 2 (.c (.bool false)))])
 (.seq (.ops [fA 3 1 0,lA 4 3 1,bK 5 .eql 4 20,mV 6 5,g1 6 false (.fldA 7 (.t 1) 0 none),g1 6 false (.load 8 (.t 7) none (some 1) false),g1 6 false (.bin 9 .eql (.t 8) (kI 21)),pO 10 6 9,mV 2 10])
 (.ret)),
 [.t 2]⟩
def F87:IFunc:=⟨.pure,.seq (.ops [g0 (.mv 4 (.c (.bool false)))])
 (.seq (.ops [mV 5 0,mV 6 1,cA 7 118 [(.t 5),(.t 6)],bK 8 .geq 7 0,mV 4 8])
 (.ret)),
 [.t 4]⟩
def F88:IFunc:=⟨.pure,.seq (.ops [g0 (.mv 3 (.c (.bool false)))])
 (.seq (.ops [lO 4 1,mV 5 0,cA 6 89 [(.t 4),(.t 5)],mV 3 6])
 (.ret)),
 [.t 3]⟩
def F89:IFunc:=⟨.pure,.seq (.ops [g0 (.mv 4 (.c (.bool false)))])
 (.seq (.ops [mV 5 0,mV 6 1,cA 7 119 [(.t 5),(.t 6)],bK 8 .geq 7 0,mV 4 8])
 (.ret)),
 [.t 4]⟩
def F90:IFunc:=⟨.raw,.prim 19,
 []⟩
def F91:IFunc:=⟨.raw,.prim 23,
 [.t 0]⟩
def F92:IFunc:=⟨.raw,.seq (.ops [bF 1 0,g0 (.boxL 2 4 none [.nils,.nils,.nils,(.int .i64 0)])])
 (.seq (.ops [g0 (.boxH 3 (some 4) (.c (.agg [.nils,.nils,.nils,(.int .i64 0)])))])
 (.seq (.ops [lF 4 1 1,cA 5 122 [(.t 3),(.t 4)]])
 (.seq (.ops [g0 (.load 6 (.t 3) (some 4) none false),sT 2 6 4 2])
 (.ret)))),
 [.cell 2 (some 4) (some 2)]⟩
def L93_2:Ic:=.seq (.ops [bT 66 .lss 65 64])
 (.seq (.cond (.t 66) (.skip)
 (.exit 4))
 (.seq (.block 5 (.seq (.ops [g0 (.idxA 67 (.t 63) (.t 65) 1 none none),lO 68 67,mV 18 68])
 (.ops [g0 (.mkif 69 141 (.t 6)),mV 70 18,g0 (.mkif 71 3 (.t 70)),cA 72 123 [(.t 69),(.t 71)]])))
 (.ops [bK 73 .add 65 1,mV 65 73])))
def L93_1:Ic:=.seq (.seq (.ops [lO 31 6,cA 32 124 [(.t 31)],bK 33 .gtr 32 0])
 (.cond (.t 33) (.skip)
 (.exit 2)))
 (.block 3 (.seq (.ops [g0 (.mkif 34 141 (.t 6)),cA 35 125 [(.t 34)],g0 (.tas 36 3 (.t 35)),mV 11 36])
 (.seq (.ops [lF 38 2 2,mV 39 11,cA 40 126 [(.t 38),(.t 39)],mV 37 40,eX 41 37 0,eX 42 37 1,bZ 12,sT 12 41 6 12,mV 13 42])
 (.seq (.seq (.ops [mV 44 8,mV 45 11,cA 46 95 [(.t 44),(.t 45)],mV 43 46,eX 47 43 0,eX 48 43 1,mV 14 47,mV 15 48])
 (.seq (.ops [mV 49 15,mV 50 49,g1 50 false (.mv 51 (.t 13)),g1 50 false (.un 52 .not (.t 51)),pO 53 50 52])
 (.cond (.t 53) (.exit 3)
 (.skip))))
 (.seq (.ops [mV 54 8,mV 55 11,cA 56 94 [(.t 54),(.t 55)],mV 8 56])
 (.seq (.ops [lF 57 12 12,cA 58 92 [(.t 57)],g0 (.boxL 16 4 none [.nils,.nils,.nils,(.int .i64 0)]),sT 16 58 4 16])
 (.seq (.ops [mV 59 7,mV 60 11,g0 (.load 61 (.t 16) (some 4) (some 16) false),g0 (.mupd .int (.t 59) (.t 60) (.t 61))])
 (.seq (.ops [fA 62 16 2,lA 63 62 16,lN 64 63,mK 65 0])
 (.block 4 (.loop L93_2))))))))))
def L93_0:Ic:=.seq (.ops [bT 23 .lss 22 21])
 (.seq (.cond (.t 23) (.skip)
 (.exit 0))
 (.seq (.block 1 (.seq (.ops [g0 (.idxA 24 (.t 20) (.t 22) 1 none none),lO 25 24,mV 10 25])
 (.ops [g0 (.mkif 26 141 (.t 6)),mV 27 10,g0 (.mkif 28 3 (.t 27)),cA 29 123 [(.t 26),(.t 28)]])))
 (.ops [bK 30 .add 22 1,mV 22 30])))
def F93:IFunc:=⟨.raw,.seq (.ops [bF 2 0,g0 (.mv 4 (.c .nils)),g0 (.mv 5 (.c .nilm))])
 (.seq (.ops [g0 (.boxH 6 none (.c .nils))])
 (.seq (.ops [g0 (.mkmap 19),mV 7 19])
 (.seq (.ops [g0 (.mv 8 (.c .nils))])
 (.seq (.seq (.ops [mV 20 1,lN 21 20,mK 22 0])
 (.block 0 (.loop L93_0)))
 (.seq (.block 2 (.loop L93_1))
 (.seq (.ops [mV 74 8,mV 75 7,mV 4 74,mV 5 75])
 (.ret))))))),
 [.t 4,.t 5]⟩
def F94:IFunc:=⟨.raw,.seq (.ops [g0 (.mv 4 (.c .nils))])
 (.seq (.ops [mV 8 0,mV 9 1,cA 10 95 [(.t 8),(.t 9)],mV 7 10,eX 11 7 0,eX 12 7 1,mV 5 11,mV 6 12])
 (.seq (.seq (.ops [mV 13 6])
 (.cond (.t 13) (.seq (.ops [mV 14 0,mV 4 14])
 (.ret))
 (.skip)))
 (.seq (.ops [mV 15 0,mV 16 5,mV 17 1,g0 (.bslH 18 1 false [(.t 17)]),cA 19 127 [(.t 15),(.t 16),(.t 18)],mV 4 19])
 (.ret)))),
 [.t 4]⟩
def F95:IFunc:=⟨.raw,.prim 27,
 [.t 0,.t 1]⟩
def F96:IFunc:=⟨.raw,.seq (.ops [bF 4 1,bZ 6])
 (.seq (.ops [mV 8 2,mV 7 8])
 (.seq (.seq (.ops [fA 9 4 1,lA 10 9 4,mV 11 7,bT 12 .lss 10 11,mV 13 12,g1 13 false (.fldA 14 (.t 4) 1 none),g1 13 false (.load 15 (.t 14) none (some 4) false),g1 13 false (.mv 16 (.t 7)),g1 13 false (.bin 17 .sub (.t 15) (.t 16)),g1 13 false (.mv 18 (.t 0)),g1 13 false (.nilc (some 19) (.t 18)),g1 13 false (.fldA 20 (.t 19) 1 none),g1 13 false (.load 21 (.t 20) none none false),g1 13 false (.bin 22 .lss (.t 17) (.t 21)),pO 23 13 22])
 (.cond (.t 23) (.seq (.ops [lF 24 4 4,sT 6 24 6 6])
 (.ret))
 (.skip)))
 (.seq (.seq (.ops [mV 25 0,nC 26 25,fA 27 26 0,lO 28 27,bK 29 .lss 28 0,mV 30 29,g1 30 true (.fldA 31 (.t 4) 1 none),g1 30 true (.load 32 (.t 31) none (some 4) false),g1 30 true (.mv 33 (.t 7)),g1 30 true (.bin 34 .sub (.t 32) (.t 33)),g1 30 true (.mv 35 (.t 0)),g1 30 true (.nilc (some 36) (.t 35)),g1 30 true (.fldA 37 (.t 36) 1 none),g1 30 true (.load 38 (.t 37) none none false),g1 30 true (.mv 39 (.t 0)),g1 30 true (.nilc (some 40) (.t 39)),g1 30 true (.fldA 41 (.t 40) 0 none),g1 30 true (.load 42 (.t 41) none none false),g1 30 true (.bin 43 .sub (.t 38) (.t 42)),g1 30 true (.bin 44 .lss (.t 34) (.t 43)),pA 45 30 44])
 (.cond (.t 45) (.ops [mV 46 0,nC 47 46,fA 48 47 2,g0 (.store (.t 48) (.c (.bool true)) 1 none)])
 (.skip)))
 (.seq (.ops [fA 49 4 1,lA 50 49 4,mV 51 0,nC 52 51,fA 53 52 0,lO 54 53,bT 55 .add 50 54,fA 56 4 1,sT 56 55 1 4])
 (.seq (.ops [lF 57 4 4,sT 6 57 6 6])
 (.ret)))))),
 [.cell 6 (some 6) (some 6)]⟩
def L97_0:Ic:=.seq (.seq (.ops [mV 16 7,fA 17 3 3,lA 18 17 3,lN 19 18,bT 20 .lss 16 19])
 (.cond (.t 20) (.skip)
 (.exit 0)))
 (.seq (.block 1 (.seq (.ops [fA 23 3 3,lA 24 23 3,mV 25 7,iX 26 24 25,g0 (.load 27 (.t 26) (some 6) none true),mV 28 1,mV 29 2,lF 30 3 3,mV 31 7,cA 32 99 [(.t 30),(.t 31)],bT 33 .add 29 32,cA 34 97 [(.t 27),(.t 28),(.t 33)]])
 (.cond (.t 34) (.seq (.ops [g0 (.mv 6 (.c (.bool true)))])
 (.ret))
 (.skip))))
 (.ops [mV 21 7,bK 22 .add 21 1,mV 7 22]))
def F97:IFunc:=⟨.pure,.seq (.ops [bF 3 0,g0 (.mv 6 (.c (.bool false)))])
 (.seq (.seq (.ops [fA 8 3 0,lA 9 8 3,bK 10 .eql 9 7])
 (.cond (.t 10) (.seq (.ops [lF 11 3 3,mV 12 2,cA 13 98 [(.t 11),(.t 12)],mV 14 1,bT 15 .eql 13 14,mV 6 15])
 (.ret))
 (.skip)))
 (.seq (.seq (.ops [mK 7 0])
 (.block 0 (.loop L97_0)))
 (.seq (.ops [g0 (.mv 6 (.c (.bool false)))])
 (.ret)))),
 [.t 6]⟩
def F98:IFunc:=⟨.pure,.seq (.ops [bF 2 0,mK 4 0])
 (.seq (.seq (.ops [fA 5 2 1,lA 6 5 2,mV 7 1,bT 8 .lss 6 7])
 (.cond (.t 8) (.seq (.ops [g0 (.mv 4 (.c (.int .i64 (-1))))])
 (.ret))
 (.skip)))
 (.seq (.ops [fA 9 2 1,lA 10 9 2,mV 11 1,bT 12 .sub 10 11,mV 4 12])
 (.ret))),
 [.t 4]⟩
def L99_0:Ic:=.seq (.seq (.ops [mV 19 6,mV 20 1,bT 21 .lss 19 20])
 (.cond (.t 21) (.skip)
 (.exit 0)))
 (.seq (.block 1 (.seq (.ops [fA 24 2 3,lA 25 24 2,mV 26 6,iX 27 25 26,fA 28 27 0,lO 29 28,bK 30 .eql 29 20,mV 31 30,g1 31 false (.fldA 32 (.t 2) 3 none),g1 31 false (.load 33 (.t 32) none (some 2) false),g1 31 false (.mv 34 (.t 6)),g1 31 false (.idxA 35 (.t 33) (.t 34) 6 (some 6) none),g1 31 false (.fldA 36 (.t 35) 0 none),g1 31 false (.load 37 (.t 36) none none false),g1 31 false (.bin 38 .eql (.t 37) (kI 21)),pO 39 31 38])
 (.cond (.t 39) (.ops [mV 40 5,bK 41 .add 40 1,mV 5 41])
 (.skip))))
 (.ops [mV 22 6,bK 23 .add 22 1,mV 6 23]))
def F99:IFunc:=⟨.pure,.seq (.ops [bF 2 0,mK 4 0])
 (.seq (.seq (.ops [mV 7 1,bK 8 .lss 7 0,mV 9 8,g1 9 false (.mv 10 (.t 1)),g1 9 false (.fldA 11 (.t 2) 3 none),g1 9 false (.load 12 (.t 11) none (some 2) false),g1 9 false (.len 13 .slice (.t 12) false),g1 9 false (.bin 14 .geq (.t 10) (.t 13)),pO 15 9 14])
 (.cond (.t 15) (.seq (.ops [mK 4 0])
 (.ret))
 (.skip)))
 (.seq (.seq (.ops [fA 16 2 0,lA 17 16 2,bK 18 .eql 17 29])
 (.cond (.t 18) (.seq (.ops [mK 5 0])
 (.seq (.seq (.ops [mK 6 0])
 (.block 0 (.loop L99_0)))
 (.seq (.ops [mV 42 5,mV 4 42])
 (.ret))))
 (.skip)))
 (.seq (.seq (.ops [fA 43 2 0,lA 44 43 2,bK 45 .eql 44 25,mV 46 45,g1 46 true (.mv 47 (.t 1)),g1 46 true (.bin 48 .eql (.t 47) (kI 2)),pA 49 46 48])
 (.cond (.t 49) (.seq (.ops [mK 4 1])
 (.ret))
 (.skip)))
 (.seq (.seq (.ops [fA 50 2 0,lA 51 50 2,bK 52 .eql 51 33,mV 53 52,g1 53 true (.mv 54 (.t 1)),g1 53 true (.bin 55 .eql (.t 54) (kI 2)),pA 56 53 55])
 (.cond (.t 56) (.seq (.ops [fA 57 2 3,lA 58 57 2,g0 (.idxA 59 (.t 58) (kI 0) 6 (some 6) none),fA 60 59 3,lO 61 60,lN 62 61,mV 4 62])
 (.ret))
 (.skip)))
 (.seq (.ops [mK 4 0])
 (.ret)))))),
 [.t 4]⟩
def L100_0:Ic:=.seq (.seq (.ops [mV 36 8,fA 37 3 3,lA 38 37 3,lN 39 38,bT 40 .lss 36 39])
 (.cond (.t 40) (.skip)
 (.exit 0)))
 (.seq (.block 1 (.seq (.ops [fA 43 3 3,lA 44 43 3,mV 45 8,iX 46 44 45,g0 (.load 47 (.t 46) (some 6) none true),mV 48 1,mV 49 2,lF 50 3 3,mV 51 8,cA 52 99 [(.t 50),(.t 51)],bT 53 .add 49 52,cA 54 100 [(.t 47),(.t 48),(.t 53)]])
 (.cond (.t 54) (.seq (.ops [g0 (.mv 6 (.c (.bool true)))])
 (.ret))
 (.skip))))
 (.ops [mV 41 8,bK 42 .add 41 1,mV 8 42]))
def F100:IFunc:=⟨.pure,.seq (.ops [bF 3 0,g0 (.mv 6 (.c (.bool false)))])
 (.seq (.seq (.ops [fA 9 3 0,lA 10 9 3,bK 11 .eql 10 7])
 (.cond (.t 11) (.seq (.ops [g0 (.mv 6 (.c (.bool false)))])
 (.ret))
 (.skip)))
 (.seq (.seq (.ops [fA 12 3 0,lA 13 12 3,bK 14 .eql 13 22,mV 15 14,g1 15 true (.fldA 16 (.t 3) 3 none),g1 15 true (.load 17 (.t 16) none (some 3) false),g1 15 true (.len 18 .slice (.t 17) false),g1 15 true (.bin 19 .gtr (.t 18) (kI 0)),pA 20 15 19])
 (.cond (.t 20) (.seq (.ops [fA 21 3 3,lA 22 21 3,g0 (.idxA 23 (.t 22) (kI 0) 6 (some 6) none),lP 24 23,cA 25 130 [(.t 24)],bZ 7,sT 7 25 6 7])
 (.seq (.ops [fA 26 7 0,lA 27 26 7,bK 28 .eql 27 7,mV 29 28,g1 29 true (.load 30 (.t 7) (some 6) (some 7) false),g1 29 true (.mv 31 (.t 2)),g1 29 true (.call (some 32) 98 [(.t 30),(.t 31)]),g1 29 true (.mv 33 (.t 1)),g1 29 true (.bin 34 .eql (.t 32) (.t 33)),pA 35 29 34])
 (.cond (.t 35) (.seq (.ops [g0 (.mv 6 (.c (.bool true)))])
 (.ret))
 (.skip))))
 (.skip)))
 (.seq (.seq (.ops [mK 8 0])
 (.block 0 (.loop L100_0)))
 (.seq (.ops [g0 (.mv 6 (.c (.bool false)))])
 (.ret))))),
 [.t 6]⟩
def L101_0:Ic:=.seq (.seq (.ops [mV 6 5,mV 7 0,lN 8 7,bT 9 .lss 6 8])
 (.cond (.t 9) (.skip)
 (.exit 0)))
 (.seq (.block 1 (.seq (.ops [mV 12 1,mV 13 0,mV 14 5,g0 (.idxA 15 (.t 13) (.t 14) 1 none none),lO 16 15,cA 17 131 [(.t 12),(.t 16)]])
 (.cond (.t 17) (.seq (.ops [g0 (.mv 4 (.c (.bool true)))])
 (.ret))
 (.skip))))
 (.ops [mV 10 5,bK 11 .add 10 1,mV 5 11]))
def F101:IFunc:=⟨.pure,.seq (.ops [g0 (.mv 4 (.c (.bool false)))])
 (.seq (.seq (.ops [mK 5 0])
 (.block 0 (.loop L101_0)))
 (.seq (.ops [g0 (.mv 4 (.c (.bool false)))])
 (.ret))),
 [.t 4]⟩
def L102_0:Ic:=.seq (.seq (.ops [mV 14 4,fA 15 1 3,lA 16 15 1,lN 17 16,bT 18 .lss 14 17])
 (.cond (.t 18) (.skip)
 (.exit 0)))
 (.seq (.block 1 (.ops [mV 21 3,fA 22 1 3,lA 23 22 1,mV 24 4,iX 25 23 24,lP 26 25,cA 27 102 [(.t 26)],g0 (.app 28 (.t 21) (.t 27) 1),mV 3 28]))
 (.ops [mV 19 4,bK 20 .add 19 1,mV 4 20]))
def F102:IFunc:=⟨.pure,.seq (.ops [bF 1 0,g0 (.mv 2 (.c .nils))])
 (.seq (.ops [g0 (.bsl 5 1 false []),mV 3 5])
 (.seq (.seq (.ops [fA 6 1 0,lA 7 6 1,bK 8 .eql 7 9])
 (.cond (.t 8) (.ops [mV 9 3,fA 10 1 1,lA 11 10 1,g0 (.bsl 12 1 false [(.t 11)]),g0 (.app 13 (.t 9) (.t 12) 1),mV 3 13])
 (.skip)))
 (.seq (.seq (.ops [mK 4 0])
 (.block 0 (.loop L102_0)))
 (.seq (.ops [mV 29 3,mV 2 29])
 (.ret))))),
 [.t 2]⟩
def L103_2:Ic:=.seq (.seq (.ops [mV 71 13,mV 72 5,lN 73 72,bT 74 .lss 71 73])
 (.cond (.t 74) (.skip)
 (.exit 4)))
 (.seq (.block 5 (.seq (.ops [mV 77 6,fA 78 2 3,lA 79 78 2,mV 80 5,mV 81 13,g0 (.idxA 82 (.t 80) (.t 81) 1 none none),lO 83 82,iX 84 79 83,fA 85 84 3,lO 86 85,g0 (.idxA 87 (.t 86) (kI 2) 6 (some 6) none),lP 88 87,cA 89 134 [(.t 88),(.c (.bool false))],g0 (.app 90 (.t 77) (.t 89) 1),mV 6 90])
 (.ops [mV 91 7,fA 92 2 3,lA 93 92 2,mV 94 5,mV 95 13,g0 (.idxA 96 (.t 94) (.t 95) 1 none none),lO 97 96,iX 98 93 97,fA 99 98 3,lO 100 99,g0 (.idxA 101 (.t 100) (kI 2) 6 (some 6) none),lP 102 101,cA 103 135 [(.t 102)],g0 (.app 104 (.t 91) (.t 103) 1),mV 7 104])))
 (.ops [mV 75 13,bK 76 .add 75 1,mV 13 76]))
def L103_1:Ic:=.seq (.seq (.ops [mV 29 11,mV 30 5,lN 31 30,bT 32 .lss 29 31])
 (.cond (.t 32) (.skip)
 (.exit 2)))
 (.seq (.block 3 (.seq (.ops [fA 35 2 3,lA 36 35 2,mV 37 5,mV 38 11,g0 (.idxA 39 (.t 37) (.t 38) 1 none none),lO 40 39,iX 41 36 40,fA 42 41 3,lO 43 42,g0 (.idxA 44 (.t 43) (kI 2) 6 (some 6) none),lP 45 44,bZ 12,sT 12 45 6 12])
 (.ops [mV 46 10,mV 47 46,g1 47 false (.load 48 (.t 12) (some 6) (some 12) false),g1 47 false (.mv 49 (.t 9)),g1 47 false (.call (some 50) 136 [(.t 48),(.t 49)]),pO 51 47 50,mV 52 51,g1 52 false (.mv 53 (.t 9)),g1 52 false (.bin 54 .eql (.t 53) (kI 2)),g1 52 false (.mv 55 (.t 54)),g1 55 true (.load 56 (.t 2) (some 6) (some 2) false),g1 55 true (.load 57 (.t 12) (some 6) (some 12) false),g1 55 true (.callQ (some 58) 133 [(.t 57)]),g1 55 true (.callQ (some 59) 132 [(.t 56),(.t 58)]),g1 55 true (.mv 60 (.t 5)),g1 55 true (.mv 61 (.t 11)),g1 55 true (.idxA 62 (.t 60) (.t 61) 1 none none),g1 55 true (.load 63 (.t 62) none none false),g1 55 true (.call (some 64) 131 [(.t 59),(.t 63)]),g1 52 false (.pick 65 (.t 55) (.t 64) (.c (.bool false))),pO 66 52 65,mV 10 66])))
 (.ops [mV 33 11,bK 34 .add 33 1,mV 11 34]))
def L103_0:Ic:=.seq (.seq (.ops [mV 22 9,bK 23 .leq 22 8])
 (.cond (.t 23) (.skip)
 (.exit 0)))
 (.seq (.block 1 (.seq (.ops [lF 26 3 3,mV 27 9,cA 28 136 [(.t 26),(.t 27)],mV 10 28])
 (.seq (.seq (.ops [mK 11 0])
 (.block 2 (.loop L103_1)))
 (.seq (.ops [mV 67 10])
 (.cond (.t 67) (.ops [mV 68 8,mV 69 9,bT 70 .add 68 69,mV 8 70])
 (.skip))))))
 (.ops [mV 24 9,bK 25 .mul 24 2,mV 9 25]))
def F103:IFunc:=⟨.pure,.seq (.ops [bF 2 0,bF 3 1,g0 (.boxL 4 3 none [.nils,.nils,(.int .i64 0)])])
 (.seq (.ops [lF 14 2 2,lF 15 3 3,cA 16 133 [(.t 15)],cA 17 132 [(.t 14),(.t 16)],mV 5 17])
 (.seq (.ops [lF 18 3 3,cA 19 134 [(.t 18),(.c (.bool false))],mV 6 19])
 (.seq (.ops [lF 20 3 3,cA 21 135 [(.t 20)],mV 7 21])
 (.seq (.ops [mK 8 0])
 (.seq (.seq (.ops [mK 9 1])
 (.block 0 (.loop L103_0)))
 (.seq (.seq (.ops [mK 13 0])
 (.block 4 (.loop L103_2)))
 (.seq (.ops [mV 105 6,cA 106 137 [(.t 105)],mV 107 7,cA 108 137 [(.t 107)],mV 109 8,g0 (.build 110 [.nils,.nils,(.int .i64 0)] [(0,1,(.t 106)),(1,1,(.t 108)),(2,1,(.t 109))]),sT 4 110 3 4])
 (.ret)))))))),
 [.cell 4 (some 3) (some 4)]⟩
def L104_0:Ic:=.seq (.seq (.ops [mV 28 10,fA 29 4 3,lA 30 29 4,lN 31 30,bT 32 .lss 28 31])
 (.cond (.t 32) (.skip)
 (.exit 0)))
 (.seq (.block 1 (.ops [mV 35 9,fA 36 4 3,lA 37 36 4,mV 38 10,iX 39 37 38,g0 (.load 40 (.t 39) (some 6) none true),lF 41 5 5,mV 42 2,mV 43 3,lF 44 4 4,mV 45 10,cA 46 99 [(.t 44),(.t 45)],bT 47 .add 43 46,cA 48 104 [(.t 40),(.t 41),(.t 42),(.t 47)],g0 (.bsl 49 6 true [(.t 48)]),g0 (.app 50 (.t 35) (.t 49) 6),mV 9 50]))
 (.ops [mV 33 10,bK 34 .add 33 1,mV 10 34]))
def F104:IFunc:=⟨.pure,.seq (.ops [bF 4 0,bF 5 1,bZ 8])
 (.seq (.seq (.ops [fA 11 4 0,lA 12 11 4,bK 13 .eql 12 7])
 (.cond (.t 13) (.seq (.seq (.ops [mV 14 2,bK 15 .geq 14 0,mV 16 15,g1 16 true (.load 17 (.t 4) (some 6) (some 4) false),g1 16 true (.mv 18 (.t 3)),g1 16 true (.call (some 19) 98 [(.t 17),(.t 18)]),g1 16 true (.mv 20 (.t 2)),g1 16 true (.bin 21 .eql (.t 19) (.t 20)),pA 22 16 21])
 (.cond (.t 22) (.seq (.ops [lF 23 5 5,mV 24 3,cA 25 66 [(.t 23),(.t 24),(kI 0),(kI 0)],sT 8 25 6 8])
 (.ret))
 (.skip)))
 (.seq (.ops [lF 26 4 4,sT 8 26 6 8])
 (.ret)))
 (.skip)))
 (.seq (.ops [g0 (.bsl 27 6 true []),mV 9 27])
 (.seq (.seq (.ops [mK 10 0])
 (.block 0 (.loop L104_0)))
 (.seq (.ops [fA 51 4 0,lA 52 51 4,fA 53 4 1,lA 54 53 4,fA 55 4 2,lA 56 55 4,mV 57 9,fA 58 4 4,lA 59 58 4,fA 60 4 5,lA 61 60 4,g0 (.build 62 zT [(0,1,(.t 52)),(1,1,(.t 54)),(2,1,(.t 56)),(3,1,(.t 57)),(4,1,(.t 59)),(5,1,(.t 61))]),sT 8 62 6 8])
 (.ret))))),
 [.cell 8 (some 6) (some 8)]⟩
def F105:IFunc:=⟨.pure,.seq (.ops [bF 3 0,bF 5 2,g0 (.mv 6 (.c .nils))])
 (.seq (.seq (.ops [fA 7 5 0,lA 8 7 5,bK 9 .eql 8 20,mV 10 9,g1 10 true (.fldA 11 (.t 5) 3 none),g1 10 true (.load 12 (.t 11) none (some 5) false),g1 10 true (.len 13 .slice (.t 12) false),g1 10 true (.bin 14 .eql (.t 13) (kI 1)),pA 15 10 14])
 (.cond (.t 15) (.seq (.ops [g0 (.bsl 16 6 true []),mV 17 1,g0 (.app 18 (.t 16) (.t 17) 6),lF 19 3 3,mV 20 1,fA 21 5 3,lA 22 21 5,g0 (.idxA 23 (.t 22) (kI 0) 6 (some 6) none),g0 (.load 24 (.t 23) (some 6) none true),cA 25 75 [(.t 19),(.t 20),(.t 24)],g0 (.fld 26 (.t 25) 0 (some 6)),g0 (.bsl 27 6 true [(.t 26)]),g0 (.app 28 (.t 18) (.t 27) 6),mV 6 28])
 (.ret))
 (.skip)))
 (.seq (.seq (.ops [fA 29 5 0,lA 30 29 5,bK 31 .eql 30 21,mV 32 31,g1 32 true (.fldA 33 (.t 5) 3 none),g1 32 true (.load 34 (.t 33) none (some 5) false),g1 32 true (.len 35 .slice (.t 34) false),g1 32 true (.bin 36 .eql (.t 35) (kI 1)),pA 37 32 36])
 (.cond (.t 37) (.seq (.ops [g0 (.bsl 38 6 true []),mV 39 1,g0 (.app 40 (.t 38) (.t 39) 6),fA 41 5 3,lA 42 41 5,g0 (.idxA 43 (.t 42) (kI 0) 6 (some 6) none),g0 (.load 44 (.t 43) (some 6) none true),g0 (.bsl 45 6 true [(.t 44)]),g0 (.app 46 (.t 40) (.t 45) 6),mV 6 46])
 (.ret))
 (.skip)))
 (.seq (.ops [mV 47 1,mV 6 47])
 (.ret)))),
 [.t 6]⟩
def F106:IFunc:=⟨.pure,.seq (.ops [bF 1 0,g0 (.mv 2 (.c (.bool false)))])
 (.seq (.ops [fA 4 1 3,lA 5 4 1,lN 6 5,mV 3 6])
 (.seq (.seq (.ops [fA 7 1 0,lA 8 7 1,bK 9 .eql 8 5,mV 10 9,g1 10 false (.fldA 11 (.t 1) 0 none),g1 10 false (.load 12 (.t 11) none (some 1) false),g1 10 false (.bin 13 .eql (.t 12) (kI 7)),pO 14 10 13,mV 15 14,g1 15 false (.fldA 16 (.t 1) 0 none),g1 15 false (.load 17 (.t 16) none (some 1) false),g1 15 false (.bin 18 .eql (.t 17) (kI 8)),pO 19 15 18,mV 20 19,g1 20 false (.fldA 21 (.t 1) 0 none),g1 20 false (.load 22 (.t 21) none (some 1) false),g1 20 false (.bin 23 .eql (.t 22) (kI 9)),pO 24 20 23,mV 25 24,g1 25 false (.fldA 26 (.t 1) 0 none),g1 25 false (.load 27 (.t 26) none (some 1) false),g1 25 false (.bin 28 .eql (.t 27) (kI 18)),pO 29 25 28])
 (.cond (.t 29) (.seq (.ops [mV 30 3,bK 31 .eql 30 0,mV 2 31])
 (.ret))
 (.skip)))
 (.seq (.seq (.ops [fA 32 1 0,lA 33 32 1,bK 34 .eql 33 6])
 (.cond (.t 34) (.seq (.ops [mV 35 3,bK 36 .eql 35 0,mV 37 36,g1 37 true (.fldA 38 (.t 1) 1 none),g1 37 true (.load 39 (.t 38) none (some 1) false),g1 37 true (.bin 40 .eql (.t 39) (kI 0)),g1 37 true (.mv 41 (.t 40)),g1 41 false (.fldA 42 (.t 1) 1 none),g1 41 false (.load 43 (.t 42) none (some 1) false),g1 41 false (.bin 44 .eql (.t 43) (kI 1)),g1 37 true (.pick 45 (.t 41) (.c (.bool true)) (.t 44)),pA 46 37 45,mV 2 46])
 (.ret))
 (.skip)))
 (.seq (.seq (.ops [fA 47 1 0,lA 48 47 1,bK 49 .eql 48 11])
 (.cond (.t 49) (.seq (.ops [mV 50 3,bK 51 .eql 50 1,mV 52 51,g1 52 true (.fldA 53 (.t 1) 1 none),g1 52 true (.load 54 (.t 53) none (some 1) false),g1 52 true (.bin 55 .eql (.t 54) (kI 1)),g1 52 true (.mv 56 (.t 55)),g1 56 false (.fldA 57 (.t 1) 1 none),g1 56 false (.load 58 (.t 57) none (some 1) false),g1 56 false (.bin 59 .eql (.t 58) (kI 2)),g1 52 true (.pick 60 (.t 56) (.c (.bool true)) (.t 59)),pA 61 52 60,mV 2 61])
 (.ret))
 (.skip)))
 (.seq (.seq (.ops [fA 62 1 0,lA 63 62 1,bK 64 .eql 63 10])
 (.cond (.t 64) (.seq (.ops [mV 65 3,bK 66 .eql 65 2,mV 67 66,g1 67 true (.fldA 68 (.t 1) 1 none),g1 67 true (.load 69 (.t 68) none (some 1) false),g1 67 true (.bin 70 .geq (.t 69) (kI 1)),pA 71 67 70,mV 72 71,g1 72 true (.fldA 73 (.t 1) 1 none),g1 72 true (.load 74 (.t 73) none (some 1) false),g1 72 true (.bin 75 .leq (.t 74) (kI 13)),pA 76 72 75,mV 2 76])
 (.ret))
 (.skip)))
 (.seq (.seq (.ops [fA 77 1 0,lA 78 77 1,bK 79 .eql 78 13])
 (.cond (.t 79) (.seq (.ops [mV 80 3,bK 81 .eql 80 1,mV 2 81])
 (.ret))
 (.skip)))
 (.seq (.seq (.ops [fA 82 1 0,lA 83 82 1,bK 84 .eql 83 12])
 (.cond (.t 84) (.seq (.ops [mV 85 3,bK 86 .eql 85 2,mV 2 86])
 (.ret))
 (.skip)))
 (.seq (.seq (.ops [fA 87 1 0,lA 88 87 1,bK 89 .eql 88 14,mV 90 89,g1 90 false (.fldA 91 (.t 1) 0 none),g1 90 false (.load 92 (.t 91) none (some 1) false),g1 90 false (.bin 93 .eql (.t 92) (kI 15)),pO 94 90 93])
 (.cond (.t 94) (.seq (.ops [mV 95 3,bK 96 .geq 95 1,mV 2 96])
 (.ret))
 (.skip)))
 (.seq (.ops [fA 97 1 0,lA 98 97 1,bK 99 .eql 98 16,mV 100 99,g1 100 false (.fldA 101 (.t 1) 0 none),g1 100 false (.load 102 (.t 101) none (some 1) false),g1 100 false (.bin 103 .eql (.t 102) (kI 17)),pO 104 100 103,mV 2 104])
 (.ret)))))))))),
 [.t 2]⟩
def F107:IFunc:=⟨.pure,.seq (.ops [bF 2 0,g0 (.boxL 4 14 none [(.int .i64 0),(.int .i64 0),(.str []),.nils,(.int .i64 0),(.int .i64 0),(.int .i64 0),(.int .i64 0),(.str []),.nils,(.int .i64 0),(.int .i64 0),(.int .i64 0),(.int .i64 0)])])
 (.seq (.ops [fA 5 2 4,lA 6 5 2,mV 7 1,g0 (.build 8 [(.int .i64 0),(.int .i64 0),(.str []),.nils,(.int .i64 0),(.int .i64 0),(.int .i64 0),(.int .i64 0),(.str []),.nils,(.int .i64 0),(.int .i64 0),(.int .i64 0),(.int .i64 0)] [(12,1,(.t 6)),(13,1,(.t 7))]),sT 4 8 14 4])
 (.ret)),
 [.cell 4 (some 14) (some 4)]⟩
def F108:IFunc:=⟨.pure,.seq (.ops [bF 3 0,bF 5 2,g0 (.mv 6 (.c (.bool false)))])
 (.seq (.seq (.ops [fA 7 5 0,lA 8 7 5,bK 9 .eql 8 7])
 (.cond (.t 9) (.seq (.ops [fA 10 5 1,lA 11 10 5,bK 12 .geq 11 0,mV 13 12,g1 13 true (.fldA 14 (.t 5) 1 none),g1 13 true (.load 15 (.t 14) none (some 5) false),g1 13 true (.mv 16 (.t 1)),g1 13 true (.len 17 .slice (.t 16) false),g1 13 true (.bin 18 .lss (.t 15) (.t 17)),pA 19 13 18,mV 6 19])
 (.ret))
 (.skip)))
 (.seq (.seq (.ops [fA 20 5 0,lA 21 20 5,bK 22 .eql 21 8])
 (.cond (.t 22) (.seq (.ops [lF 23 3 3,fA 24 5 1,lA 25 24 5,cA 26 138 [(.t 23),(.t 25),(kI 31)],mV 6 26])
 (.ret))
 (.skip)))
 (.seq (.seq (.ops [fA 27 5 0,lA 28 27 5,bK 29 .eql 28 9])
 (.cond (.t 29) (.seq (.ops [lF 30 3 3,fA 31 5 1,lA 32 31 5,cA 33 138 [(.t 30),(.t 32),(kI 32)],mV 6 33])
 (.ret))
 (.skip)))
 (.seq (.seq (.ops [fA 34 5 0,lA 35 34 5,bK 36 .eql 35 15])
 (.cond (.t 36) (.seq (.ops [lF 37 3 3,fA 38 5 1,lA 39 38 5,cA 40 138 [(.t 37),(.t 39),(kI 30)],mV 6 40])
 (.ret))
 (.skip)))
 (.seq (.seq (.ops [fA 41 5 0,lA 42 41 5,bK 43 .eql 42 16])
 (.cond (.t 43) (.seq (.ops [lF 44 3 3,fA 45 5 1,lA 46 45 5,cA 47 138 [(.t 44),(.t 46),(kI 33)],mV 6 47])
 (.ret))
 (.skip)))
 (.seq (.ops [fA 48 5 0,lA 49 48 5,bK 50 .neq 49 17,mV 6 50])
 (.ret))))))),
 [.t 6]⟩
def F109:IFunc:=⟨.pure,.seq (.ops [bF 3 0,bF 5 2,bZ 6])
 (.seq (.seq (.ops [fA 7 5 0,lA 8 7 5,bK 9 .eql 8 7])
 (.cond (.t 9) (.seq (.ops [mV 10 1,mV 11 1,lN 12 11,bK 13 .sub 12 1,fA 14 5 1,lA 15 14 5,bT 16 .sub 13 15,iX 17 10 16,lP 18 17,cA 19 139 [(.t 18)],sT 6 19 6 6])
 (.ret))
 (.skip)))
 (.seq (.seq (.ops [fA 20 5 0,lA 21 20 5,bK 22 .eql 21 8])
 (.cond (.t 22) (.seq (.ops [fA 23 3 3,lA 24 23 3,fA 25 5 1,lA 26 25 5,iX 27 24 26,fA 28 27 3,lO 29 28,g0 (.idxA 30 (.t 29) (kI 0) 6 (some 6) none),lP 31 30,cA 32 49 [(.t 31)],sT 6 32 6 6])
 (.ret))
 (.skip)))
 (.seq (.seq (.ops [fA 33 5 0,lA 34 33 5,bK 35 .eql 34 9])
 (.cond (.t 35) (.seq (.ops [fA 36 3 3,lA 37 36 3,fA 38 5 1,lA 39 38 5,iX 40 37 39,fA 41 40 3,lO 42 41,g0 (.idxA 43 (.t 42) (kI 0) 6 (some 6) none),lP 44 43,cA 45 139 [(.t 44)],sT 6 45 6 6])
 (.ret))
 (.skip)))
 (.seq (.seq (.ops [fA 46 5 0,lA 47 46 5,bK 48 .eql 47 18])
 (.cond (.t 48) (.seq (.ops [cA 49 82 [],sT 6 49 6 6])
 (.ret))
 (.skip)))
 (.seq (.ops [lF 50 5 5,cA 51 49 [(.t 50)],sT 6 51 6 6])
 (.ret)))))),
 [.cell 6 (some 6) (some 6)]⟩
def L110_0:Ic:=.seq (.seq (.ops [mV 192 12,mV 193 2,lN 194 193,bT 195 .lss 192 194])
 (.cond (.t 195) (.skip)
 (.exit 0)))
 (.seq (.block 1 (.seq (.ops [mV 198 2,mV 199 12,iX 200 198 199,lP 201 200,mV 202 2,g0 (.idxA 203 (.t 202) (kI 0) 6 (some 6) none),lP 204 203,cA 205 10 [(.t 201),(.t 204)],g0 (.un 206 .not (.t 205))])
 (.cond (.t 206) (.seq (.ops [g0 (.build 207 zT []),sT 6 207 6 6,mK 7 0,mK 8 10])
 (.ret))
 (.skip))))
 (.ops [mV 196 12,bK 197 .add 196 1,mV 12 197]))
def F110:IFunc:=⟨.pure,.seq (.ops [bF 3 0,bF 4 1,bZ 6,mK 7 0,mK 8 0])
 (.seq (.seq (.ops [fA 14 4 0,lA 15 14 4,bK 16 .eql 15 10,mV 17 16,g1 17 true (.fldA 18 (.t 4) 1 none),g1 17 true (.load 19 (.t 18) none (some 4) false),g1 17 true (.mv 20 (.t 2)),g1 17 true (.idxA 21 (.t 20) (kI 0) 6 (some 6) none),g1 17 true (.load 22 (.t 21) (some 6) none false),g1 17 true (.mv 23 (.t 2)),g1 17 true (.idxA 24 (.t 23) (kI 1) 6 (some 6) none),g1 17 true (.load 25 (.t 24) (some 6) none false),g1 17 true (.call (some 26) 140 [(.t 19),(.t 22),(.t 25)]),g1 17 true (.fld 27 (.t 26) 0 none),g1 17 true (.bin 28 .neq (.t 27) (kI 0)),pA 29 17 28])
 (.cond (.t 29) (.seq (.ops [fA 30 4 1,lA 31 30 4,mV 32 2,g0 (.idxA 33 (.t 32) (kI 0) 6 (some 6) none),lP 34 33,mV 35 2,g0 (.idxA 36 (.t 35) (kI 1) 6 (some 6) none),lP 37 36,cA 38 140 [(.t 31),(.t 34),(.t 37)],fA 39 4 1,lA 40 39 4,sT 6 38 6 6,mV 7 40,mK 8 0])
 (.ret))
 (.skip)))
 (.seq (.seq (.ops [fA 41 4 0,lA 42 41 4,bK 43 .eql 42 11,mV 44 43,g1 44 true (.fldA 45 (.t 4) 1 none),g1 44 true (.load 46 (.t 45) none (some 4) false),g1 44 true (.bin 47 .eql (.t 46) (kI 1)),g1 44 true (.mv 48 (.t 47)),g1 48 true (.mv 49 (.t 2)),g1 48 true (.idxA 50 (.t 49) (kI 0) 6 (some 6) none),g1 48 true (.load 51 (.t 50) (some 6) none false),g1 48 true (.call (some 52) 141 [(.t 51),(kI 1)]),g1 44 true (.pick 53 (.t 48) (.t 52) (.c (.bool false))),g1 44 true (.mv 54 (.t 53)),g1 54 false (.fldA 55 (.t 4) 1 none),g1 54 false (.load 56 (.t 55) none (some 4) false),g1 54 false (.bin 57 .eql (.t 56) (kI 2)),g1 54 false (.mv 58 (.t 57)),g1 58 true (.mv 59 (.t 2)),g1 58 true (.idxA 60 (.t 59) (kI 0) 6 (some 6) none),g1 58 true (.load 61 (.t 60) (some 6) none false),g1 58 true (.call (some 62) 141 [(.t 61),(kI 2)]),g1 54 false (.pick 63 (.t 58) (.t 62) (.c (.bool false))),g1 44 true (.pick 64 (.t 54) (.c (.bool true)) (.t 63)),pA 65 44 64])
 (.cond (.t 65) (.seq (.ops [mV 66 2,g0 (.idxA 67 (.t 66) (kI 0) 6 (some 6) none),lP 68 67,fA 69 4 1,lA 70 69 4,sT 6 68 6 6,mV 7 70,mK 8 0])
 (.ret))
 (.skip)))
 (.seq (.seq (.ops [fA 71 4 0,lA 72 71 4,bK 73 .eql 72 12,mV 74 73,g1 74 true (.mv 75 (.t 2)),g1 74 true (.idxA 76 (.t 75) (kI 0) 6 (some 6) none),g1 74 true (.fldA 77 (.t 76) 0 none),g1 74 true (.load 78 (.t 77) none none false),g1 74 true (.bin 79 .eql (.t 78) (kI 3)),pA 80 74 79,mV 81 80,g1 81 true (.mv 82 (.t 2)),g1 81 true (.idxA 83 (.t 82) (kI 0) 6 (some 6) none),g1 81 true (.fldA 84 (.t 83) 3 none),g1 81 true (.load 85 (.t 84) none none false),g1 81 true (.len 86 .slice (.t 85) false),g1 81 true (.bin 87 .eql (.t 86) (kI 1)),pA 88 81 87,mV 89 88,g1 89 true (.mv 90 (.t 2)),g1 89 true (.idxA 91 (.t 90) (kI 1) 6 (some 6) none),g1 89 true (.load 92 (.t 91) (some 6) none false),g1 89 true (.call (some 93) 141 [(.t 92),(kI 1)]),pA 94 89 93])
 (.cond (.t 94) (.seq (.ops [mV 95 2,g0 (.idxA 96 (.t 95) (kI 0) 6 (some 6) none),fA 97 96 3,lO 98 97,g0 (.idxA 99 (.t 98) (kI 0) 6 (some 6) none),lP 100 99,fA 101 4 1,lA 102 101 4,sT 6 100 6 6,mV 7 102,mK 8 0])
 (.ret))
 (.skip)))
 (.seq (.seq (.ops [fA 103 4 0,lA 104 103 4,bK 105 .eql 104 13,mV 106 105,g1 106 true (.mv 107 (.t 2)),g1 106 true (.idxA 108 (.t 107) (kI 0) 6 (some 6) none),g1 106 true (.fldA 109 (.t 108) 0 none),g1 106 true (.load 110 (.t 109) none none false),g1 106 true (.bin 111 .eql (.t 110) (kI 4)),pA 112 106 111,mV 113 112,g1 113 true (.mv 114 (.t 2)),g1 113 true (.idxA 115 (.t 114) (kI 0) 6 (some 6) none),g1 113 true (.fldA 116 (.t 115) 3 none),g1 113 true (.load 117 (.t 116) none none false),g1 113 true (.len 118 .slice (.t 117) false),g1 113 true (.bin 119 .eql (.t 118) (kI 0)),pA 120 113 119])
 (.cond (.t 120) (.seq (.ops [lF 121 3 3,lF 122 4 4,mV 123 2,g0 (.idxA 124 (.t 123) (kI 0) 6 (some 6) none),fA 125 124 1,lO 126 125,cA 127 142 [(.t 121),(.t 122),(.t 126)],mV 9 127])
 (.seq (.seq (.ops [mV 128 9,bK 129 .lss 128 0])
 (.cond (.t 129) (.seq (.ops [g0 (.build 130 zT []),sT 6 130 6 6,mK 7 0,mK 8 8])
 (.ret))
 (.skip)))
 (.seq (.ops [lF 132 3 3,mV 133 9,cA 134 143 [(.t 132),(.t 133)],mV 131 134,eX 135 131 0,eX 136 131 1,bZ 10,sT 10 135 6 10,mV 11 136])
 (.seq (.ops [lF 137 10 10,cA 138 139 [(.t 137)],mV 139 9,sT 6 138 6 6,mV 7 139,mK 8 0])
 (.ret)))))
 (.skip)))
 (.seq (.seq (.ops [fA 140 4 0,lA 141 140 4,bK 142 .eql 141 15,mV 143 142,g1 143 true (.mv 144 (.t 2)),g1 143 true (.fldA 145 (.t 3) 3 none),g1 143 true (.load 146 (.t 145) none (some 3) false),g1 143 true (.fldA 147 (.t 4) 1 none),g1 143 true (.load 148 (.t 147) none (some 4) false),g1 143 true (.idxA 149 (.t 146) (.t 148) 6 (some 6) none),g1 143 true (.fldA 150 (.t 149) 3 none),g1 143 true (.load 151 (.t 150) none none false),g1 143 true (.call (some 152) 144 [(.t 144),(.t 151)]),pA 153 143 152])
 (.cond (.t 153) (.seq (.ops [fA 154 4 1,lA 155 154 4,g0 (.build 156 zT [(0,1,(kI 4)),(1,1,(.t 155))]),fA 157 4 1,lA 158 157 4,sT 6 156 6 6,mV 7 158,mK 8 0])
 (.ret))
 (.skip)))
 (.seq (.seq (.ops [fA 159 4 0,lA 160 159 4,bK 161 .eql 160 16,mV 162 161,g1 162 true (.mv 163 (.t 2)),g1 162 true (.fldA 164 (.t 3) 3 none),g1 162 true (.load 165 (.t 164) none (some 3) false),g1 162 true (.fldA 166 (.t 4) 1 none),g1 162 true (.load 167 (.t 166) none (some 4) false),g1 162 true (.idxA 168 (.t 165) (.t 167) 6 (some 6) none),g1 162 true (.fldA 169 (.t 168) 3 none),g1 162 true (.load 170 (.t 169) none none false),g1 162 true (.idxA 171 (.t 170) (kI 0) 6 (some 6) none),g1 162 true (.fldA 172 (.t 171) 3 none),g1 162 true (.load 173 (.t 172) none none false),g1 162 true (.call (some 174) 144 [(.t 163),(.t 173)]),pA 175 162 174])
 (.cond (.t 175) (.seq (.ops [fA 176 3 3,lA 177 176 3,fA 178 4 1,lA 179 178 4,iX 180 177 179,fA 181 180 3,lO 182 181,g0 (.idxA 183 (.t 182) (kI 1) 6 (some 6) none),lP 184 183,cA 185 139 [(.t 184)],fA 186 4 1,lA 187 186 4,sT 6 185 6 6,mV 7 187,mK 8 0])
 (.ret))
 (.skip)))
 (.seq (.seq (.ops [fA 188 4 0,lA 189 188 4,bK 190 .neq 189 14])
 (.cond (.t 190) (.seq (.ops [g0 (.build 191 zT []),sT 6 191 6 6,mK 7 0,mK 8 10])
 (.ret))
 (.skip)))
 (.seq (.seq (.ops [mK 12 0])
 (.block 0 (.loop L110_0)))
 (.seq (.ops [mV 208 2,lN 209 208,mV 210 2,g0 (.idxA 211 (.t 210) (kI 0) 6 (some 6) none),lP 212 211,g0 (.bsl 213 6 true [(.t 212)]),g0 (.build 214 zT [(0,1,(kI 3)),(1,1,(.t 209)),(3,1,(.t 213))]),bZ 13,sT 13 214 6 13])
 (.seq (.seq (.ops [lF 215 3 3,lF 216 13 13,cA 217 48 [(.t 215),(.t 216)],bK 218 .eql 217 0])
 (.cond (.t 218) (.seq (.ops [g0 (.build 219 zT []),sT 6 219 6 6,mK 7 0,mK 8 11])
 (.ret))
 (.skip)))
 (.seq (.ops [lF 220 13 13,fA 221 4 1,lA 222 221 4,sT 6 220 6 6,mV 7 222,mK 8 0])
 (.ret)))))))))))),
 [.cell 6 (some 6) (some 6),.t 7,.t 8]⟩
def L111_0:Ic:=.seq (.seq (.ops [mV 7 3,fA 8 1 3,lA 9 8 1,lN 10 9,bT 11 .lss 7 10])
 (.cond (.t 11) (.skip)
 (.exit 0)))
 (.seq (.block 1 (.seq (.ops [fA 14 1 3,lA 15 14 1,mV 16 3,iX 17 15 16,lP 18 17,cA 19 111 [(.t 18)],g0 (.un 20 .not (.t 19))])
 (.cond (.t 20) (.seq (.ops [g0 (.mv 2 (.c (.bool false)))])
 (.ret))
 (.skip))))
 (.ops [mV 12 3,bK 13 .add 12 1,mV 3 13]))
def F111:IFunc:=⟨.pure,.seq (.ops [bF 1 0,g0 (.mv 2 (.c (.bool false)))])
 (.seq (.seq (.ops [fA 4 1 0,lA 5 4 1,bK 6 .eql 5 4])
 (.cond (.t 6) (.seq (.ops [g0 (.mv 2 (.c (.bool false)))])
 (.ret))
 (.skip)))
 (.seq (.seq (.ops [mK 3 0])
 (.block 0 (.loop L111_0)))
 (.seq (.ops [g0 (.mv 2 (.c (.bool true)))])
 (.ret)))),
 [.t 2]⟩
def L112_0:Ic:=.seq (.seq (.ops [mV 32 10,fA 33 7 3,lA 34 33 7,lN 35 34,bT 36 .lss 32 35])
 (.cond (.t 36) (.skip)
 (.exit 0)))
 (.seq (.block 1 (.seq (.ops [lF 39 4 4,mV 40 1,lF 41 6 6,lF 42 7 7,mV 43 10,cA 44 146 [(.t 39),(.t 40),(.t 41),(.t 42),(.t 43)],g0 (.boxL 11 8 none [(.int .i64 0),(.int .i64 0),(.str []),.nils,(.int .i64 0),(.int .i64 0),(.int .i64 0),(.int .i64 0)]),sT 11 44 8 11])
 (.seq (.seq (.ops [fA 45 11 7,lA 46 45 11,bK 47 .neq 46 0])
 (.cond (.t 47) (.seq (.ops [g0 (.load 48 (.t 11) (some 8) (some 11) false),sT 8 48 8 8])
 (.ret))
 (.skip)))
 (.ops [fA 49 9 3,lA 50 49 9,g0 (.fldA 51 (.t 11) 0 (some 6)),lF 52 51 11,g0 (.bsl 53 6 true [(.t 52)]),g0 (.app 54 (.t 50) (.t 53) 6),fA 55 9 3,sT 55 54 1 9]))))
 (.ops [mV 37 10,bK 38 .add 37 1,mV 10 38]))
def F112:IFunc:=⟨.pure,.seq (.ops [bF 4 0,bF 6 2,bF 7 3,g0 (.boxL 8 8 none [(.int .i64 0),(.int .i64 0),(.str []),.nils,(.int .i64 0),(.int .i64 0),(.int .i64 0),(.int .i64 0)])])
 (.seq (.seq (.ops [lF 13 7 7,cA 14 145 [(.t 13)],g0 (.un 15 .not (.t 14))])
 (.cond (.t 15) (.seq (.ops [lF 16 7 7,cA 17 47 [(.t 16),(kI 12)],sT 8 17 8 8])
 (.ret))
 (.skip)))
 (.seq (.seq (.ops [fA 18 7 0,lA 19 18 7,bK 20 .eql 19 29])
 (.cond (.t 20) (.seq (.ops [lF 21 4 4,mV 22 1,lF 23 6 6,lF 24 7 7,cA 25 80 [(.t 21),(.t 22),(.t 23),(.t 24)],sT 8 25 8 8])
 (.ret))
 (.skip)))
 (.seq (.ops [fA 26 7 0,lA 27 26 7,fA 28 7 1,lA 29 28 7,g0 (.bsl 30 6 true []),g0 (.build 31 zT [(0,1,(.t 27)),(1,1,(.t 29)),(3,1,(.t 30))]),bZ 9,sT 9 31 6 9])
 (.seq (.seq (.ops [mK 10 0])
 (.block 0 (.loop L112_0)))
 (.seq (.seq (.ops [fA 56 7 0,lA 57 56 7,bK 58 .eql 57 22])
 (.cond (.t 58) (.seq (.ops [fA 59 7 3,lA 60 59 7,g0 (.idxA 61 (.t 60) (kI 0) 6 (some 6) none),lP 62 61,cA 63 130 [(.t 62)],bZ 12,sT 12 63 6 12])
 (.seq (.seq (.ops [fA 64 12 0,lA 65 64 12,bK 66 .neq 65 7,mV 67 66,g1 67 true (.fldA 68 (.t 12) 0 none),g1 67 true (.load 69 (.t 68) none (some 12) false),g1 67 true (.bin 70 .neq (.t 69) (kI 9)),pA 71 67 70])
 (.cond (.t 71) (.seq (.ops [fA 72 7 3,lA 73 72 7,g0 (.idxA 74 (.t 73) (kI 0) 6 (some 6) none),lP 75 74,cA 76 47 [(.t 75),(kI 12)],sT 8 76 8 8])
 (.ret))
 (.skip)))
 (.seq (.ops [lF 77 4 4,mV 78 1,fA 79 7 3,lA 80 79 7,g0 (.idxA 81 (.t 80) (kI 0) 6 (some 6) none),lP 82 81,g0 (.callQ (some 83) 75 [(.t 77),(.t 78),(.t 82)]),g0 (.fld 84 (.t 83) 0 (some 6)),lF 85 4 4,mV 86 1,fA 87 7 3,lA 88 87 7,g0 (.idxA 89 (.t 88) (kI 1) 6 (some 6) none),lP 90 89,cA 91 75 [(.t 85),(.t 86),(.t 90)],g0 (.fld 92 (.t 91) 0 (some 6)),cA 93 10 [(.t 84),(.t 92)],g0 (.un 94 .not (.t 93))])
 (.cond (.t 94) (.seq (.ops [lF 95 7 7,cA 96 47 [(.t 95),(kI 10)],sT 8 96 8 8])
 (.ret))
 (.skip)))))
 (.skip)))
 (.seq (.ops [lF 97 9 9,g0 (.build 98 [(.int .i64 0),(.int .i64 0),(.str []),.nils,(.int .i64 0),(.int .i64 0),(.int .i64 0),(.int .i64 0)] [(0,6,(.t 97))]),sT 8 98 8 8])
 (.ret))))))),
 [.cell 8 (some 8) (some 8)]⟩
def L118_0:Ic:=.seq (.ops [bT 9 .lss 8 7])
 (.seq (.cond (.t 9) (.skip)
 (.exit 0))
 (.seq (.block 1 (.seq (.ops [mV 10 8,mV 5 10])
 (.seq (.ops [mV 11 1,mV 12 0,mV 13 5,g0 (.idxA 14 (.t 12) (.t 13) 1 none none),lO 15 14,g0 (.callV (some 16) (.t 11) [(.t 15)])])
 (.cond (.t 16) (.seq (.ops [mV 17 5,mV 4 17])
 (.ret))
 (.skip)))))
 (.ops [bK 18 .add 8 1,mV 8 18])))
def F118:IFunc:=⟨.pure,.seq (.ops [mK 4 0])
 (.seq (.seq (.ops [mV 6 0,lN 7 6,mK 8 0])
 (.block 0 (.loop L118_0)))
 (.seq (.ops [g0 (.mv 4 (.c (.int .i64 (-1))))])
 (.ret))),
 [.t 4]⟩
def L119_0:Ic:=.seq (.ops [bT 9 .lss 8 7])
 (.seq (.cond (.t 9) (.skip)
 (.exit 0))
 (.seq (.block 1 (.seq (.ops [mV 10 8,mV 5 10])
 (.seq (.ops [mV 11 1,mV 12 0,mV 13 5,g0 (.idxA 14 (.t 12) (.t 13) 1 none none),lO 15 14,bT 16 .eql 11 15])
 (.cond (.t 16) (.seq (.ops [mV 17 5,mV 4 17])
 (.ret))
 (.skip)))))
 (.ops [bK 18 .add 8 1,mV 8 18])))
def F119:IFunc:=⟨.pure,.seq (.ops [mK 4 0])
 (.seq (.seq (.ops [mV 6 0,lN 7 6,mK 8 0])
 (.block 0 (.loop L119_0)))
 (.seq (.ops [g0 (.mv 4 (.c (.int .i64 (-1))))])
 (.ret))),
 [.t 4]⟩
def L122_1:Ic:=.seq (.ops [bT 106 .lss 105 104])
 (.seq (.cond (.t 106) (.skip)
 (.exit 3))
 (.seq (.block 4 (.seq (.ops [iX 107 103 105,lP 108 107,bZ 8,sT 8 108 6 8])
 (.ops [mV 109 0,lF 110 8 8,cA 111 122 [(.t 109),(.t 110)]])))
 (.ops [bK 112 .add 105 1,mV 105 112])))
def L122_0:Ic:=.seq (.ops [bT 95 .lss 94 93])
 (.seq (.cond (.t 95) (.skip)
 (.exit 1))
 (.seq (.block 2 (.seq (.ops [iX 96 92 94,lP 97 96,bZ 6,sT 6 97 6 6])
 (.ops [mV 98 0,lF 99 6 6,cA 100 122 [(.t 98),(.t 99)]])))
 (.ops [bK 101 .add 94 1,mV 94 101])))
def F122:IFunc:=⟨.raw,.seq (.ops [bF 3 1])
 (.seq (.ops [mV 9 0,nC 10 9,fA 11 10 3,lO 12 11,lF 13 3 3,g0 (.callQ (some 14) 166 [(.t 13)]),bT 15 .or 12 14,nC 16 9,fA 17 16 3,g0 (.store (.t 17) (.t 15) 1 none)])
 (.seq (.seq (.ops [fA 18 3 0,lA 19 18 3])
 (.block 0 (.seq (.ops [bK 21 .eql 19 9,mV 20 21])
 (.cond (.t 20) (.ops [mV 22 0,mV 23 0,nC 24 23,fA 25 24 0,lO 26 25,fA 27 3 1,lA 28 27 3,cA 29 94 [(.t 26),(.t 28)],nC 30 22,fA 31 30 0,g0 (.store (.t 31) (.t 29) 1 none)])
 (.seq (.ops [bK 33 .eql 19 16,mV 32 33])
 (.cond (.t 32) (.ops [mV 34 0,mV 35 0,nC 36 35,fA 37 36 2,lO 38 37,fA 39 3 1,lA 40 39 3,cA 41 94 [(.t 38),(.t 40)],nC 42 34,fA 43 42 2,g0 (.store (.t 43) (.t 41) 1 none)])
 (.seq (.ops [bK 45 .eql 19 22,mV 44 45])
 (.cond (.t 44) (.seq (.seq (.ops [fA 46 3 3,lA 47 46 3,lN 48 47,bK 49 .eql 48 0])
 (.cond (.t 49) (.ret)
 (.skip)))
 (.seq (.seq (.ops [fA 50 3 3,lA 51 50 3,g0 (.idxA 52 (.t 51) (kI 0) 6 (some 6) none),lP 53 52,cA 54 56 [(.t 53)],bZ 4,sT 4 54 6 4])
 (.seq (.ops [fA 55 4 0,lA 56 55 4,bK 57 .eql 56 9])
 (.cond (.t 57) (.seq (.ops [mV 58 0,mV 59 0,nC 60 59,fA 61 60 1,lO 62 61,fA 63 4 1,lA 64 63 4,cA 65 94 [(.t 62),(.t 64)],nC 66 58,fA 67 66 1,g0 (.store (.t 67) (.t 65) 1 none)])
 (.seq (.ops [fA 68 3 3,lA 69 68 3,g0 (.idxA 70 (.t 69) (kI 0) 6 (some 6) none),fA 71 70 0,lO 72 71,bK 73 .neq 72 9])
 (.cond (.t 73) (.ops [mV 74 0,mV 75 0,nC 76 75,fA 77 76 0,lO 78 77,fA 79 4 1,lA 80 79 4,cA 81 94 [(.t 78),(.t 80)],nC 82 74,fA 83 82 0,g0 (.store (.t 83) (.t 81) 1 none)])
 (.skip))))
 (.skip))))
 (.seq (.ops [mV 84 0,fA 85 3 3,lA 86 85 3,g0 (.idxA 87 (.t 86) (kI 0) 6 (some 6) none),lP 88 87,cA 89 167 [(.t 84),(.t 88)]])
 (.seq (.seq (.ops [fA 90 3 3,lA 91 90 3,g0 (.slc 92 (some 6) (.t 91) (some (kI 1)) none none),lN 93 92,mK 94 0])
 (.block 1 (.loop L122_0)))
 (.ret)))))
 (.skip)))))))))
 (.seq (.ops [fA 102 3 3,lA 103 102 3,lN 104 103,mK 105 0])
 (.block 3 (.loop L122_1))))),
 []⟩
def F123:IFunc:=⟨.raw,.seq (.ops [mV 4 0,mV 5 1,g0 (.inv (some 6) 141 209 false (.t 4) [(.t 5)])])
 (.ops [mV 7 0,mV 8 0,g0 (.inv (some 9) 141 124 true (.t 8) []),bK 10 .sub 9 1,cA 11 168 [(.t 7),(.t 10)]]),
 []⟩
def F124:IFunc:=⟨.raw,.seq (.ops [mK 2 0])
 (.seq (.ops [mV 3 0,lN 4 3,mV 2 4])
 (.ret)),
 [.t 2]⟩
def F125:IFunc:=⟨.raw,.seq (.ops [g0 (.mv 2 (.c .nili))])
 (.seq (.ops [mV 4 0,g0 (.inv (some 5) 141 124 true (.t 4) []),bK 6 .sub 5 1,mV 3 6])
 (.seq (.ops [mV 7 0,mV 8 3,g0 (.inv (some 9) 141 207 true (.t 7) [(kI 0),(.t 8)])])
 (.seq (.ops [mV 10 0,mV 11 3,cA 12 169 [(.t 10),(kI 0),(.t 11)]])
 (.seq (.ops [mV 13 0,g0 (.inv (some 14) 141 208 false (.t 13) []),mV 2 14])
 (.ret))))),
 [.t 2]⟩
def F126:IFunc:=⟨.pure,.seq (.ops [bF 2 0,bZ 4,g0 (.mv 5 (.c (.bool false)))])
 (.seq (.seq (.ops [mV 6 1,bK 7 .lss 6 0,mV 8 7,g1 8 false (.mv 9 (.t 1)),g1 8 false (.fldA 10 (.t 2) 3 none),g1 8 false (.load 11 (.t 10) none (some 2) false),g1 8 false (.len 12 .slice (.t 11) false),g1 8 false (.bin 13 .geq (.t 9) (.t 12)),pO 14 8 13,mV 15 14,g1 15 false (.fldA 16 (.t 2) 3 none),g1 15 false (.load 17 (.t 16) none (some 2) false),g1 15 false (.mv 18 (.t 1)),g1 15 false (.idxA 19 (.t 17) (.t 18) 6 (some 6) none),g1 15 false (.fldA 20 (.t 19) 0 none),g1 15 false (.load 21 (.t 20) none none false),g1 15 false (.bin 22 .neq (.t 21) (kI 33)),pO 23 15 22,mV 24 23,g1 24 false (.fldA 25 (.t 2) 3 none),g1 24 false (.load 26 (.t 25) none (some 2) false),g1 24 false (.mv 27 (.t 1)),g1 24 false (.idxA 28 (.t 26) (.t 27) 6 (some 6) none),g1 24 false (.fldA 29 (.t 28) 3 none),g1 24 false (.load 30 (.t 29) none none false),g1 24 false (.len 31 .slice (.t 30) false),g1 24 false (.bin 32 .neq (.t 31) (kI 3)),pO 33 24 32])
 (.cond (.t 33) (.seq (.ops [g0 (.build 34 zT []),sT 4 34 6 4,g0 (.mv 5 (.c (.bool false)))])
 (.ret))
 (.skip)))
 (.seq (.ops [fA 35 2 3,lA 36 35 2,mV 37 1,iX 38 36 37,fA 39 38 3,lO 40 39,g0 (.idxA 41 (.t 40) (kI 2) 6 (some 6) none),lP 42 41,sT 4 42 6 4,g0 (.mv 5 (.c (.bool true)))])
 (.ret))),
 [.cell 4 (some 6) (some 4),.t 5]⟩
def F127:IFunc:=⟨.raw,.prim 15,
 [.t 0]⟩
def F130:IFunc:=⟨.pure,.seq (.ops [bF 1 0,bZ 2])
 (.seq (.seq (.ops [fA 3 1 0,lA 4 3 1,bK 5 .eql 4 12,mV 6 5,g1 6 false (.fldA 7 (.t 1) 0 none),g1 6 false (.load 8 (.t 7) none (some 1) false),g1 6 false (.bin 9 .eql (.t 8) (kI 13)),pO 10 6 9,mV 11 10,g1 11 true (.fldA 12 (.t 1) 3 none),g1 11 true (.load 13 (.t 12) none (some 1) false),g1 11 true (.len 14 .slice (.t 13) false),g1 11 true (.bin 15 .gtr (.t 14) (kI 0)),pA 16 11 15])
 (.cond (.t 16) (.seq (.ops [fA 17 1 3,lA 18 17 1,g0 (.idxA 19 (.t 18) (kI 0) 6 (some 6) none),lP 20 19,cA 21 130 [(.t 20)],sT 2 21 6 2])
 (.ret))
 (.skip)))
 (.seq (.ops [lF 22 1 1,sT 2 22 6 2])
 (.ret))),
 [.cell 2 (some 6) (some 2)]⟩
def L131_0:Ic:=.seq (.seq (.ops [mV 6 5,mV 7 0,lN 8 7,bT 9 .lss 6 8])
 (.cond (.t 9) (.skip)
 (.exit 0)))
 (.seq (.block 1 (.seq (.ops [mV 12 0,mV 13 5,g0 (.idxA 14 (.t 12) (.t 13) 1 none none),lO 15 14,mV 16 1,bT 17 .eql 15 16])
 (.cond (.t 17) (.seq (.ops [g0 (.mv 4 (.c (.bool true)))])
 (.ret))
 (.skip))))
 (.ops [mV 10 5,bK 11 .add 10 1,mV 5 11]))
def F131:IFunc:=⟨.pop,.seq (.ops [g0 (.mv 4 (.c (.bool false)))])
 (.seq (.seq (.ops [mK 5 0])
 (.block 0 (.loop L131_0)))
 (.seq (.ops [g0 (.mv 4 (.c (.bool false)))])
 (.ret))),
 [.t 4]⟩
def L132_1:Ic:=.seq (.seq (.ops [mV 22 8,mV 23 5,lN 24 23,bT 25 .lss 22 24])
 (.cond (.t 25) (.skip)
 (.exit 2)))
 (.seq (.block 3 (.ops [mV 28 7,fA 29 2 3,lA 30 29 2,mV 31 5,mV 32 8,g0 (.idxA 33 (.t 31) (.t 32) 1 none none),lO 34 33,iX 35 30 34,fA 36 35 3,lO 37 36,g0 (.idxA 38 (.t 37) (kI 2) 6 (some 6) none),lP 39 38,cA 40 133 [(.t 39)],g0 (.app 41 (.t 28) (.t 40) 1),mV 7 41]))
 (.ops [mV 26 8,bK 27 .add 26 1,mV 8 27]))
def L132_0:Ic:=.seq (.seq (.ops [mV 12 6,fA 13 2 3,lA 14 13 2,lN 15 14,bT 16 .lss 12 15])
 (.cond (.t 16) (.skip)
 (.exit 0)))
 (.seq (.block 1 (.seq (.ops [g0 (.bsl 19 1 false []),mV 20 5,g0 (.app 21 (.t 19) (.t 20) 1),mV 7 21])
 (.seq (.seq (.ops [mK 8 0])
 (.block 2 (.loop L132_1)))
 (.ops [lF 42 2 2,mV 43 7,cA 44 173 [(.t 42),(.t 43)],mV 5 44]))))
 (.ops [mV 17 6,bK 18 .add 17 1,mV 6 18]))
def F132:IFunc:=⟨.pure,.seq (.ops [bF 2 0,g0 (.mv 4 (.c .nils))])
 (.seq (.ops [lF 9 2 2,mV 10 1,cA 11 173 [(.t 9),(.t 10)],mV 5 11])
 (.seq (.seq (.ops [mK 6 0])
 (.block 0 (.loop L132_0)))
 (.seq (.ops [mV 45 5,mV 4 45])
 (.ret)))),
 [.t 4]⟩
theorem L62_0_w:L62_0.wr=[31,32,33,34,10,9,35,36,37,38,39,40,8,41,42,43,44,45,46,47,48,49,50,51,52,53,54,55,56,57,58,8,59,30]:=by kernel_rfl
theorem L62_0_p:L62_0.plain=true:=by kernel_rfl
theorem L66_0_w:L66_0.wr=[26,27,28,29,30,33,34,35,36,37,38,39,40,41,42,43,44,45,46,47,48,9,31,32,10]:=by kernel_rfl
theorem L66_0_p:L66_0.plain=true:=by kernel_rfl
theorem L69_0_w:L69_0.wr=[14,15,16,17,18,21,22,23,24,25,26,27,28,3,19,20,4]:=by kernel_rfl
theorem L69_0_p:L69_0.plain=true:=by kernel_rfl
theorem L73_0_w:L73_0.wr=[14,15,16,17,18,21,22,23,24,25,26,27,28,29,30,31,32,33,34,35,36,37,7,38,39,40,41,42,43,44,45,7,19,20,8]:=by kernel_rfl
theorem L73_0_p:L73_0.plain=true:=by kernel_rfl
theorem L75_0_w:L75_0.wr=[47,48,49,50,51,54,55,56,57,58,59,60,61,10,62,63,64,65,66,67,68,69,70,7,71,72,73,74,75,8,52,53,9]:=by kernel_rfl
theorem L75_0_p:L75_0.plain=true:=by kernel_rfl
theorem L77_0_w:L77_0.wr=[4,5,6,7,10,11,12,13,14,15,16,17,18,19,20,21,22,23,24,2,8,9,3]:=by kernel_rfl
theorem L77_0_p:L77_0.plain=true:=by kernel_rfl
theorem L78_0_w:L78_0.wr=[6,7,8,9,10,11,12,13,16,17,18,19,20,21,22,23,24,25,26,27,28,29,3,14,15,4]:=by kernel_rfl
theorem L78_0_p:L78_0.plain=true:=by kernel_rfl
theorem L80_0_w:L80_0.wr=[18,19,20,21,22,25,26,27,28,29,30,31,32,33,11,34,35,36,37,38,39,40,41,42,43,44,45,46,47,48,49,50,51,52,1,23,24,10]:=by kernel_rfl
theorem L80_0_p:L80_0.plain=true:=by kernel_rfl
theorem L81_1_w:L81_1.wr=[104,105,106,107,108,111,112,113,114,115,116,117,118,119,120,121,122,123,124,125,126,13,127,128,129,11,130,131,132,133,134,135,6,109,110,12]:=by kernel_rfl
theorem L81_1_p:L81_1.plain=true:=by kernel_rfl
theorem L81_0_w:L81_0.wr=[84,85,86,87,90,91,92,93,94,95,6,88,89,9]:=by kernel_rfl
theorem L81_0_p:L81_0.plain=true:=by kernel_rfl
theorem L93_2_w:L93_2.wr=[66,67,68,18,69,70,71,72,73,65]:=by kernel_rfl
theorem L93_2_p:L93_2.plain=true:=by kernel_rfl
theorem L93_1_w:L93_1.wr=[31,32,33,34,35,36,11,38,39,40,37,41,42,12,13,44,45,46,43,47,48,14,15,49,50,51,52,53,54,55,56,8,57,58,16,59,60,61,62,63,64,65,66,67,68,18,69,70,71,72,73,65]:=by kernel_rfl
theorem L93_1_p:L93_1.plain=true:=by kernel_rfl
theorem L93_0_w:L93_0.wr=[23,24,25,10,26,27,28,29,30,22]:=by kernel_rfl
theorem L93_0_p:L93_0.plain=true:=by kernel_rfl
theorem L97_0_w:L97_0.wr=[16,17,18,19,20,23,24,25,26,27,28,29,30,31,32,33,34,6,21,22,7]:=by kernel_rfl
theorem L97_0_p:L97_0.plain=true:=by kernel_rfl
theorem L99_0_w:L99_0.wr=[19,20,21,24,25,26,27,28,29,30,31,32,33,34,35,36,37,38,39,40,41,5,22,23,6]:=by kernel_rfl
theorem L99_0_p:L99_0.plain=true:=by kernel_rfl
theorem L100_0_w:L100_0.wr=[36,37,38,39,40,43,44,45,46,47,48,49,50,51,52,53,54,6,41,42,8]:=by kernel_rfl
theorem L100_0_p:L100_0.plain=true:=by kernel_rfl
theorem L101_0_w:L101_0.wr=[6,7,8,9,12,13,14,15,16,17,4,10,11,5]:=by kernel_rfl
theorem L101_0_p:L101_0.plain=true:=by kernel_rfl
theorem L102_0_w:L102_0.wr=[14,15,16,17,18,21,22,23,24,25,26,27,28,3,19,20,4]:=by kernel_rfl
theorem L102_0_p:L102_0.plain=true:=by kernel_rfl
theorem L103_2_w:L103_2.wr=[71,72,73,74,77,78,79,80,81,82,83,84,85,86,87,88,89,90,6,91,92,93,94,95,96,97,98,99,100,101,102,103,104,7,75,76,13]:=by kernel_rfl
theorem L103_2_p:L103_2.plain=true:=by kernel_rfl
theorem L103_1_w:L103_1.wr=[29,30,31,32,35,36,37,38,39,40,41,42,43,44,45,12,46,47,48,49,50,51,52,53,54,55,56,57,58,59,60,61,62,63,64,65,66,10,33,34,11]:=by kernel_rfl
theorem L103_1_p:L103_1.plain=true:=by kernel_rfl
theorem L103_0_w:L103_0.wr=[22,23,26,27,28,10,11,29,30,31,32,35,36,37,38,39,40,41,42,43,44,45,12,46,47,48,49,50,51,52,53,54,55,56,57,58,59,60,61,62,63,64,65,66,10,33,34,11,67,68,69,70,8,24,25,9]:=by kernel_rfl
theorem L103_0_p:L103_0.plain=true:=by kernel_rfl
theorem L104_0_w:L104_0.wr=[28,29,30,31,32,35,36,37,38,39,40,41,42,43,44,45,46,47,48,49,50,9,33,34,10]:=by kernel_rfl
theorem L104_0_p:L104_0.plain=true:=by kernel_rfl
theorem L110_0_w:L110_0.wr=[192,193,194,195,198,199,200,201,202,203,204,205,206,207,7,8,196,197,12]:=by kernel_rfl
theorem L110_0_p:L110_0.plain=true:=by kernel_rfl
theorem L111_0_w:L111_0.wr=[7,8,9,10,11,14,15,16,17,18,19,20,2,12,13,3]:=by kernel_rfl
theorem L111_0_p:L111_0.plain=true:=by kernel_rfl
theorem L112_0_w:L112_0.wr=[32,33,34,35,36,39,40,41,42,43,44,11,45,46,47,48,49,50,51,52,53,54,55,37,38,10]:=by kernel_rfl
theorem L112_0_p:L112_0.plain=true:=by kernel_rfl
theorem L118_0_w:L118_0.wr=[9,10,5,11,12,13,14,15,16,17,4,18,8]:=by kernel_rfl
theorem L118_0_p:L118_0.plain=true:=by kernel_rfl
theorem L119_0_w:L119_0.wr=[9,10,5,11,12,13,14,15,16,17,4,18,8]:=by kernel_rfl
theorem L119_0_p:L119_0.plain=true:=by kernel_rfl
theorem L122_1_w:L122_1.wr=[106,107,108,8,109,110,111,112,105]:=by kernel_rfl
theorem L122_1_p:L122_1.plain=true:=by kernel_rfl
theorem L122_0_w:L122_0.wr=[95,96,97,6,98,99,100,101,94]:=by kernel_rfl
theorem L122_0_p:L122_0.plain=true:=by kernel_rfl
theorem L131_0_w:L131_0.wr=[6,7,8,9,12,13,14,15,16,17,4,10,11,5]:=by kernel_rfl
theorem L131_0_p:L131_0.plain=true:=by kernel_rfl
theorem L132_1_w:L132_1.wr=[22,23,24,25,28,29,30,31,32,33,34,35,36,37,38,39,40,41,7,26,27,8]:=by kernel_rfl
theorem L132_1_p:L132_1.plain=true:=by kernel_rfl
theorem L132_0_w:L132_0.wr=[12,13,14,15,16,19,20,21,7,8,22,23,24,25,28,29,30,31,32,33,34,35,36,37,38,39,40,41,7,26,27,8,42,43,44,5,17,18,6]:=by kernel_rfl
theorem L132_0_p:L132_0.plain=true:=by kernel_rfl
end Go.Nt.Li
