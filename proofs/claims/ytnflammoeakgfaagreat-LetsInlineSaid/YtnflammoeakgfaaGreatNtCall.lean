/-
  BUILT VALUES AND SLICES' LITERALS.
  No condition: lemmas.
-/
import Derived.Test.YtnflammoeakgfaaGreatNtOps6
import Derived.Great.BuildSlice
import Derived.Laws.MakeOwn
import Derived.MapKept
import Derived.Laws.BytesArg
namespace Go.Nt
variable {P:Program} {X:Cx} {c:Cfg} {bl:Bl} {lb:Nat→Nat} {a:Act} {w:World}
theorem fill_rel {N:Nat→Prop} {st:St} {place:Nat→Option (Nat × Nat)}:∀ (parts:List (Nat × Value)) (ps:List (Nat × Nat × D)) (cells:Array Value) (cs r:List D),cells.size=cs.length →
  (∀ (j:Nat) (x:D),cs[j]?=some x→CRep w N st bl cells j x)→parts.length=ps.length →
  (∀ (i:Nat) (p:Nat × Value) (q:Nat × Nat × D),parts[i]?=some p→ps[i]?=some q→place p.1=some (q.1,q.2.1)∧Rep w N st bl p.2 q.2.2∧q.2.2.okv=true)→fillD cs ps=some r →
  ∃ cells',Instr.fill place cells parts=some cells'∧cells'.size=r.length∧∀ (j:Nat) (x:D),r[j]?=some x→CRep w N st bl cells' j x
 | [],[],cells,cs,r,hs,hc,_,_,hf=>by
  simp [fillD] at hf; subst hf
  exact ⟨cells,rfl,hs,hc⟩
 | [],_::_,_,_,_,_,_,hl,_,_=>by simp at hl
 | _::_,[],_,_,_,_,_,hl,_,_=>by simp at hl
 |(i,v)::parts,(off,n,d)::ps,cells,cs,r,hs,hc,hl,hp,hf=>by
  obtain ⟨p1,p2,p3⟩:=hp 0 _ _ rfl rfl
  simp only at p1 p2 p3
  simp only [fillD] at hf
  split at hf
  ·rename_i hn
   cases hsp:splice cs off d.cells with
   | none=>simp [hsp] at hf
   | some cs'=>
    simp only [hsp,Option.bind_some] at hf
    obtain ⟨hle,hlen,hget⟩:=splice_get hsp
    have hvs:v.cells.size=n:=by rw [p2.cells_size,hn]
    obtain ⟨f1,f2⟩:=Great.foldl_set off v.cells.toList 0 cells
    have hfold:v.cells.zipIdx.foldl (fun cs (x:Value × Nat)=>cs.setIfInBounds (off+x.2) x.1) cells=(v.cells.toList.zipIdx 0).foldl (fun cs (x:Value × Nat)=>cs.setIfInBounds (off+x.2) x.1) cells:=by
     rw [←Array.foldl_toList]; simp
    obtain ⟨cells',g1,g2,g3⟩:=fill_rel parts ps _ cs' r (by rw [f1,hs,hlen]) (fun j x hx=>by
     unfold CRep
     rw [f2 j]
     rw [hget j] at hx
     have hvl:v.cells.toList.length=d.cells.length:=by rw [hn]; simpa using hvs
     have hrc:=rep_crep p2 p3
     simp only [Nat.add_zero] at *
     split at hx
     ·rw [if_pos (by omega),Array.getElem?_toList]
      exact hrc _ x hx
     ·rw [if_neg (by omega)]
      exact hc j x hx) (by simpa using hl) (fun k p q hk hq=>hp (k+1) p q (by simpa using hk) (by simpa using hq)) hf
    refine ⟨cells',?_,g2,g3⟩
    simp only [Instr.fill,p1]
    rw [if_neg (by simp; omega),hfold]
    exact g1
  ·simp at hf
def placesOK (P:Program) (t:TypeId):List (Nat × Operand)→List (Nat × Nat × Opd)→Bool
 | [],[]=>true
 |(i,x)::r,(off,n,y)::s=>opdOK x y && (placesOK P t r s && match P.underlying t with
  | some (.struct fs)=>(match fs[i]? with | some f=>f.offset == off && sizeOK P f.type n | none=>false)
  | some (.array _ e)=>sizeOK P e n && off == i * n
  | _=>false)
 | _,_=>false
def builtOK (P:Program) (t:TypeId):Bool:=
 match P.underlying t with
 | some (.struct fs)=>fs.toList.all fun f=>(P.info? f.type).isSome
 | some (.array _ e)=>(P.info? e).isSome
 | _=>false
theorem mapM_some {α β:Type} {f:α→Option β}:∀ {l:List α},(∀ x∈l,(f x).isSome=true)→∃ r,l.mapM f=some r∧∀ (i:Nat) (x:α),l[i]?=some x→∃ y,f x=some y∧r[i]?=some y
 | [],_=>⟨[],rfl,fun i x h=>by simp at h⟩
 | x::l,h=>by
  obtain ⟨y,hy⟩:=Option.isSome_iff_exists.1 (h x (by simp))
  obtain ⟨r,hr,k⟩:=mapM_some (l:=l) fun z hz=>h z (by simp [hz])
  refine ⟨y::r,by simp [List.mapM_cons,hy,hr],fun i z hz=>?_⟩
  cases i with
  | zero=>simp at hz; subst hz; exact ⟨y,hy,rfl⟩
  | succ i=>exact k i z (by simpa using hz)
theorem sim_build (C:CR X c bl lb a w) {o:Oper} {t:TypeId} {parts:Array (Nat × Operand)} {zero cs:List D} {ps:List (Nat × Nat × Opd)} (ho:o.op=.build t parts) (hb:builtOK P t=true) (hp:placesOK P t parts.toList ps=true)
  (hz:zerosOK P t zero=true) (hok:ps.all (fun p=>(p.2.2.ev c.1.s).okv)=true) (hd:fillD zero (ps.map fun p=>(p.1,p.2.1,p.2.2.ev c.1.s))=some cs):GivesV P X c bl lb a w o (.agg cs):=by
 unfold zerosOK at hz
 cases hi:P.info? t with
 | none=>simp [hi] at hz
 | some it=>
  cases hzz:it.zero with
  | none=>simp [hi,hzz] at hz
  | some z=>
   simp only [hi,hzz,Option.bind_some,cellsOK,Bool.and_eq_true,beq_iff_eq] at hz
   have hzc:∀ (j:Nat) (x:D),zero[j]?=some x→CRep w (NX X c bl lb) c.2 bl z.cells j x:=fun j x hx=>by
    have hj:j < z.cells.size:=by rw [hz.1]; exact (List.getElem?_eq_some_iff.1 hx).1
    have hv:z.cells[j]?=some z.cells[j]:=by simp [hj]
    have:=constC_rep (w:=w) (N:=NX X c bl lb) (st:=c.2) (bl:=bl) (zip_all hz.2 j z.cells[j] x (by simp) hx)
    exact ⟨this.2.1,_,hv,this.1⟩
   have key:∀ (place:Nat→Option (Nat × Nat)),(∀ (i:Nat) (x:Operand) (q:Nat × Nat × Opd) ,placesOK P t [(i,x)] [q]=true→place i=some (q.1,q.2.1)) →
     ∃ cells',Instr.fill place z.cells (parts.map fun (i,x)=>(i,a.eval x)).toList=some cells'∧cells'.size=cs.length∧∀ (j:Nat) (x:D),cs[j]?=some x→CRep w (NX X c bl lb) c.2 bl cells' j x:=by
    intro place hplace
    have hlen:∀ (l:List (Nat × Operand)) (s:List (Nat × Nat × Opd)),placesOK P t l s=true→l.length=s.length∧∀ (i:Nat) (p:Nat × Operand) (q:Nat × Nat × Opd),l[i]?=some p→s[i]?=some q→placesOK P t [p] [q]=true∧opdOK p.2 q.2.2=true:=by
     intro l
     induction l with
     | nil=>intro s hs; cases s with
      | nil=>exact ⟨rfl,fun i p q h=>by simp at h⟩
      | cons q s=>simp [placesOK] at hs
     | cons p l ih=>intro s hs; cases s with
      | nil=>simp [placesOK] at hs
      | cons q s=>
       obtain ⟨pi,px⟩:=p
       obtain ⟨qo,qn,qx⟩:=q
       simp only [placesOK,Bool.and_eq_true] at hs
       obtain ⟨ih1,ih2⟩:=ih s hs.2.1
       refine ⟨by simp [ih1],fun i p q hp hq=>?_⟩
       cases i with
       | zero=>
        simp at hp hq; subst hp; subst hq
        refine ⟨?_,hs.1⟩
        simp only [placesOK,Bool.and_eq_true]
        exact ⟨hs.1,trivial,hs.2.2⟩
       | succ i=>exact ih2 i p q (by simpa using hp) (by simpa using hq)
    obtain ⟨hl,hq⟩:=hlen _ _ hp
    refine fill_rel (parts.map fun (i,x)=>(i,a.eval x)).toList (ps.map fun p=>(p.1,p.2.1,p.2.2.ev c.1.s)) z.cells zero cs hz.1 hzc (by simpa using hl) (fun i p q h1 h2=>?_) hd
    simp only [Array.toList_map,List.getElem?_map,Option.map_eq_some_iff] at h1 h2
    obtain ⟨p0,e1,rfl⟩:=h1
    obtain ⟨q0,e2,rfl⟩:=h2
    obtain ⟨k1,k2⟩:=hq i p0 q0 e1 e2
    have hov:=all_get hok e2
    exact ⟨hplace _ p0.2 q0 k1,(opd_rep C k2).okv hov,hov⟩
   have fin:∀ cells',P.built t (parts.map fun (i,x)=>(i,a.eval x)).toList=some cells'→cells'.size=cs.length→(∀ (j:Nat) (x:D),cs[j]?=some x→CRep w (NX X c bl lb) c.2 bl cells' j x)→GivesV P X c bl lb a w o (.agg cs):=by
    intro cells' hbu hs hc
    refine gv (v:=.agg cells') (.agg cells' cs hs (fun i d hd=>(hc i d hd).1) (fun i v d hv hd=>?_)) (by simp [execOp,ho,run_build w t _ cells' hbu])
    obtain ⟨_,u,hu,hr⟩:=hc i d hd
    rw [hv] at hu; simp at hu; subst hu; exact hr
   unfold builtOK at hb
   split at hb
   ·rename_i fs hu
    obtain ⟨places,hpl,hget⟩:=mapM_some (f:=fun f:Field=>(P.info? f.type).map fun i=>(f.offset,i.size)) (l:=fs.toList) (fun f hf=>by
     have:=List.all_eq_true.1 hb f hf
     simpa using this)
    obtain ⟨cells',h1,h2,h3⟩:=key (places.toArray[·]?) (fun i x q hq=>by
     obtain ⟨qo,qn,qx⟩:=q
     simp only [placesOK,hu,Bool.and_eq_true] at hq
     have hq2:=hq.2.2
     split at hq2
     ·rename_i f hf
      simp only [Bool.and_eq_true,beq_iff_eq] at hq2
      obtain ⟨y,hy1,hy2⟩:=hget i f (by simpa using hf)
      have hs:=hq2.2
      unfold sizeOK at hs
      cases hinf:P.info? f.type with
      | none=>simp [hinf] at hs
      | some fi=>
       simp [hinf] at hs hy1
       subst hs
       simp only [List.getElem?_toArray,hy2]
       rw [←hy1,hq2.1]
     ·simp at hq2)
    exact fin cells' (by simp only [Program.built,hi,hu,hzz,hpl]; exact h1) h2 h3
   ·rename_i k e hu
    cases hie:P.info? e with
    | none=>simp [hie] at hb
    | some ie=>
     obtain ⟨cells',h1,h2,h3⟩:=key (fun i=>some (i * ie.size,ie.size)) (fun i x q hq=>by
      obtain ⟨qo,qn,qx⟩:=q
      simp only [placesOK,hu,Bool.and_eq_true,sizeOK,hie,beq_iff_eq] at hq
      rw [hq.2.2.2,hq.2.2.1])
     exact fin cells' (by simp only [Program.built,hi,hu,hzz,hie]; exact h1) h2 h3
   ·simp at hb
def bslOK:List (Nat × Operand)→Nat→List Opd→Bool
 | [],_,[]=>true
 |(i,x)::r,k,y::ys=>i == k && (opdOK x y && bslOK r (k+1) ys)
 | _,_,_=>false
theorem bsl_parts (a:Act):∀ (l:List (Nat × Operand)) (k:Nat) (ys:List Opd),bslOK l k ys=true→(l.map fun p=>(p.1,a.eval p.2))=(((l.map (·.2)).map a.eval).zipIdx k).map (fun x=>(x.2,x.1))∧opdsOK (l.map (·.2)) ys=true
 | [],k,[],_=>⟨rfl,rfl⟩
 | [],_,_::_,h=>by simp [bslOK] at h
 | _::_,_,[],h=>by simp [bslOK] at h
 |(i,x)::l,k,y::ys,h=>by
  simp only [bslOK,Bool.and_eq_true,beq_iff_eq] at h
  obtain ⟨rfl,h1,h2⟩:=h
  obtain ⟨k1,k2⟩:=bsl_parts a l (i+1) ys h2
  exact ⟨by simp only [List.map_cons,List.zipIdx_cons,k1],by simp [opdsOK,h1,k2]⟩
def sliceT (P:Program) (t:TypeId) (sz:Nat):Bool:=
 match P.underlying t with
 | some (.slice e)=>sizeOK P e sz && (match (P.info? e).bind (·.zero) with | some z=>z.cells.size == sz | none=>false) && decide (0 < sz∧sz≤4096) && (match P.info? e with | some i=>decide (i.bytes≤65536) | none=>false)
 | _=>false
theorem bsl_run {t:TypeId} {sz len:Nat} {parts:Array (Nat × Operand)} {ys:List Opd} (ht:sliceT P t sz=true) (hp:bslOK parts.toList 0 ys=true) (hlen:len=ys.length) (hsm:len≤4096)
  (hv:∀ u∈(parts.toList.map (·.2)).map a.eval,u.cells.size=sz) :
  ∃ e cells,(Instr.buildSlice t len (parts.map fun (i,x)=>(i,a.eval x))).run P w=.ok (.slice (some ⟨w.heap.size,0,none⟩) len len) (w.alloc (.cells cells e))∧cells.size=len * sz ∧
   ∀ (i j:Nat) (u:Value),((parts.toList.map (·.2)).map a.eval)[i]?=some u→j < sz→cells[i * sz+j]?=u.cells[j]?:=by
 unfold sliceT at ht
 split at ht
 ·rename_i e hu
  simp only [Bool.and_eq_true,decide_eq_true_eq] at ht
  obtain ⟨⟨⟨hs,hz⟩,hpos,hle⟩,_⟩:=ht
  unfold sizeOK at hs
  cases hi:P.info? e with
  | none=>simp [hi] at hs
  | some ie=>
   simp [hi] at hs
   cases hzz:ie.zero with
   | none=>simp [hi,hzz] at hz
   | some z=>
    subst hs
    obtain ⟨hpe,hops⟩:=bsl_parts a parts.toList 0 ys hp
    have hl:((parts.toList.map (·.2)).map a.eval).length=len:=by
     have:(parts.toList.map (·.2)).length=ys.length:=by
      have:∀ (l:List Operand) (ys:List Opd),opdsOK l ys=true→l.length=ys.length:=by
       intro l
       induction l with
       | nil=>intro ys h; cases ys <;> simp_all [opdsOK]
       | cons x l ih=>intro ys h; cases ys with
        | nil=>simp [opdsOK] at h
        | cons y ys=>simp only [opdsOK,Bool.and_eq_true] at h; simp [ih ys h.2]
      exact this _ _ hops
     simp only [List.length_map] at this ⊢
     omega
    have hmul:len * ie.size≤4096 * 4096:=Nat.mul_le_mul hsm hle
    by_cases hzero:len * ie.size=0
    ·have hl0:len=0:=by
      rcases Nat.mul_eq_zero.1 hzero with h | h
      ·exact h
      ·omega
     subst hl0
     have hnil:parts.toList=[]:=by
      apply List.eq_nil_of_length_eq_zero
      simpa using hl
     refine ⟨e,#[],?_,by simp,fun i j u h=>by simp [hnil] at h⟩
     have hp':parts=#[]:=by cases parts; simp_all
     simp [Instr.buildSlice,run_underlying hu,sizeOf,typeInfo,hi,hp',newRow,Instr.fill]
     have h0:Array.range 0=#[]:=by apply Array.eq_empty_of_size_eq_zero; simp
     rw [h0]; simp
    ·have hfill:(parts.map fun (i,x)=>(i,a.eval x)).toList=(((parts.toList.map (·.2)).map a.eval).zipIdx 0).map (fun x=>(x.2,x.1)):=by
      rw [Array.toList_map]; exact hpe
     obtain ⟨r,hr1,hr2,hr3⟩:=Great.fill_dense hpos ((parts.toList.map (·.2)).map a.eval) 0 ((Array.range (len * ie.size)).map (z.cells[· % z.cells.size]!)) hv (by rw [hl]; simp)
     refine ⟨e,r,run_buildSlice w t e len _ r ie z hu hi hzz (by omega) hzero (by rw [hfill]; exact hr1),by rw [hr2]; simp,fun i j u hiu hj=>?_⟩
     have hilt:i < len:=by rw [←hl]; exact (List.getElem?_eq_some_iff.1 hiu).1
     have h1:i * ie.size+j < len * ie.size:=by
      have:=Nat.mul_le_mul_right ie.size hilt
      rw [Nat.succ_mul] at this
      omega
     rw [hr3,if_pos (by rw [hl,Nat.zero_add]; omega)]
     have h2:(i * ie.size+j) / ie.size=i:=by rw [Nat.mul_comm,Nat.mul_add_div hpos,Nat.div_eq_of_lt hj]; omega
     have h3:(i * ie.size+j) % ie.size=j:=by rw [Nat.mul_comm,Nat.mul_add_mod,Nat.mod_eq_of_lt hj]
     rw [h2,h3,Nat.sub_zero,hiu]; rfl
 ·simp at ht
theorem opds_len:∀ {xs:List Operand} {ys:List Opd},opdsOK xs ys=true→xs.length=ys.length
 | [],[],_=>rfl
 | [],_::_,h=>by simp [opdsOK] at h
 | _::_,[],h=>by simp [opdsOK] at h
 | x::xs,y::ys,h=>by simp only [opdsOK,Bool.and_eq_true] at h; simp [opds_len h.2]
theorem sim_bsl (C:CR X c bl lb a w) {o:Oper} {t:TypeId} {len sz d:Nat} {agg:Bool} {parts:Array (Nat × Operand)} {ys:List Opd} (ho:o.op=.buildSlice t len parts) (hdst:o.dst=some d) (hdn:d < X.n) (ht:sliceT P t sz=true)
  (hp:bslOK parts.toList 0 ys=true) (hlen:len=ys.length) (hsm:len≤4096) (hall:((ys.map (Opd.ev c.1.s)).all fun v=>v.fits (if agg then some sz else none) && (v.cells.length == sz && v.pure))=true)
  {K:Act→World→Prop} {Q:Exit→Act→World→Prop} (hK:∀ a' w',RelC X (apply c (some d) (.sl sz true (ys.map (Opd.ev c.1.s)),none,none)) a' w'→K a' w'):o.wp P a w K Q:=by
 obtain ⟨_,hops⟩:=bsl_parts a parts.toList 0 ys hp
 obtain ⟨hl,hrep⟩:=opds_rep C hops
 have hel:∀ (i:Nat) (v:Value) (y:D),((parts.toList.map (·.2)).map a.eval)[i]?=some v→(ys.map (Opd.ev c.1.s))[i]?=some y→RR X c bl lb w v y∧y.pure=true∧y.okv=true∧y.cells.length=sz:=by
  intro i v y hv hy
  have h1:=all_get hall hy
  simp only [Bool.and_eq_true,beq_iff_eq] at h1
  have hs:=hrep i v y hv hy
  obtain ⟨_,_,h2⟩:=fits_all hs h1.1
  exact ⟨hs.okv h2,h1.2.2,h2,h1.2.1⟩
 have hvs:∀ u∈(parts.toList.map (·.2)).map a.eval,u.cells.size=sz:=by
  intro u hu
  obtain ⟨i,hi⟩:=List.getElem?_of_mem hu
  have hi':i < (ys.map (Opd.ev c.1.s)).length:=by
   have:=(List.getElem?_eq_some_iff.1 hi).1
   simp only [List.length_map] at this ⊢ hl; omega
  obtain ⟨h1,_,_,h2⟩:=hel i u _ hi (List.getElem?_eq_getElem hi')
  rw [h1.cells_size,h2]
 obtain ⟨e,cells,hrun,hsz,hget⟩:=bsl_run (w:=w) ht hp hlen hsm hvs
 have A:=alloc_al w (.cells cells e)
 have hAs:=A.size
 have C':=C.grown A.os A.tape A.output (by omega) A.same
 have E:=(Evo.grown c.2 bl (fun _ hi=>C.heap.lt hi) A.os A.tape A.output (by omega) A.same).ext (L:=X.LL c.1.b lb)
 refine wp_val (v:=.slice (some ⟨w.heap.size,0,none⟩) len len) (w':=w.alloc (.cells cells e)) (by simp only [execOp,ho,Sem.run_bind,hrun,Result.andThen_ok,Sem.run_pure]) (hK _ _ ?_)
 rw [hdst]
 refine ⟨_,_,C'.put (fun d' e'=>by cases e'; exact hdn) fun _=>Rep.slot _ _ ?_⟩
 have hlen':len=(ys.map (Opd.ev c.1.s)).length:=by simp [hlen]
 rw [hlen']
 refine .sl sz true _ ⟨w.heap.size,0,none⟩ _ (fun i=>((parts.toList.map (·.2)).map a.eval).getD i undef) (Nat.le_refl _) (fun _=>rfl) (fun _=>rfl) (fun i y hy=>?_) (fun i y hy=>?_) (fun i y hy=>?_)
 all_goals
  have hi':i < ((parts.toList.map (·.2)).map a.eval).length:=by
   have:=(List.getElem?_eq_some_iff.1 hy).1
   simp only [List.length_map] at this ⊢ hl; omega
  have hv:=List.getElem?_eq_getElem hi'
  obtain ⟨h1,h2,h3,h4⟩:=hel i _ y hv hy
 ·exact ⟨h2,h4⟩
 ·refine ⟨fun g=>?_,(by show w.heap.size < _; omega),fun j u hu=>?_⟩
  ·rcases g with g | ⟨id,hid,_,g⟩
   ·have h6:w.heap.size < w.heap.size:=C.bound _ g
    omega
   ·have h5:=C.heap.lt hid
    have h6:bl id=w.heap.size:=g
    omega
  ·rw [cell_of_row _ _ _ _ _ _ A.new]
   have hgd:((parts.toList.map (·.2)).map a.eval).getD i undef=((parts.toList.map (·.2)).map a.eval)[i]:=by rw [List.getD_eq_getElem?_getD,hv]; rfl
   rw [hgd] at hu
   have hj:j < sz:=by
    rw [←h4,←h1.cells_size]; exact (Array.getElem?_eq_some_iff.1 hu).1
   simp only [Nat.zero_add]
   rw [hget i j _ hv hj]; exact hu
 ·have hgd:((parts.toList.map (·.2)).map a.eval).getD i undef=((parts.toList.map (·.2)).map a.eval)[i]:=by rw [List.getD_eq_getElem?_getD,hv]; rfl
  simp only [hgd]
  exact h1.ext E (by omega)
end Go.Nt
namespace Go.Nt
variable {P:Program} {X:Cx} {c:Cfg} {bl:Bl} {lb:Nat→Nat} {a:Act} {w:World}
theorem pure_okv {d:D} (h:d.pure=true):d.okv=true:=by
 cases d <;> first | rfl | (simp [D.pure,D.pure1,D.pure0] at h; done)
def Els (w:World) (N:Nat→Prop) (st:St) (bl:Bl) (sz:Nat) (vl:List Value) (l:List D):Prop:=
 vl.length=l.length∧∀ (i:Nat) (u:Value) (y:D),vl[i]?=some u→l[i]?=some y→Rep w N st bl u y∧y.pure=true∧y.cells.length=sz
theorem Els.sizes {N:Nat→Prop} {st:St} {sz:Nat} {vl:List Value} {l:List D} (h:Els w N st bl sz vl l):∀ v∈vl,v.cells.size=sz:=by
 intro v hv
 obtain ⟨i,hi⟩:=List.getElem?_of_mem hv
 have hl:i < l.length:=by rw [←h.1]; exact (List.getElem?_eq_some_iff.1 hi).1
 obtain ⟨h1,_,h3⟩:=h.2 i v _ hi (List.getElem?_eq_getElem hl)
 rw [h1.cells_size,h3]
theorem Els.one {N:Nat→Prop} {st:St} {sz:Nat} {vl:List Value} {l:List D} (h:Els w N st bl sz vl l):∀ u∈vl.flatMap (fun v=>v.cells.toList),u.oneCell'=true:=by
 intro u hu
 obtain ⟨v,hv,hu⟩:=List.mem_flatMap.1 hu
 obtain ⟨i,hi⟩:=List.getElem?_of_mem hv
 have hl:i < l.length:=by rw [←h.1]; exact (List.getElem?_eq_some_iff.1 hi).1
 obtain ⟨h1,h2,_⟩:=h.2 i v _ hi (List.getElem?_eq_getElem hl)
 exact rep_one h1 (pure_okv h2) u hu
theorem Els.ext {N N':Nat→Prop} {st st':St} {bl':Bl} {w':World} {sz:Nat} {vl:List Value} {l:List D} (E:Ext w N st bl w' N' st' bl') (hs:w.heap.size≤w'.heap.size) (h:Els w N st bl sz vl l):Els w' N' st' bl' sz vl l:=
 ⟨h.1,fun i u y hu hy=>⟨(h.2 i u y hu hy).1.ext E hs,(h.2 i u y hu hy).2⟩⟩
theorem Els.append {N:Nat→Prop} {st:St} {sz:Nat} {vl vl':List Value} {l l':List D} (h:Els w N st bl sz vl l) (k:Els w N st bl sz vl' l'):Els w N st bl sz (vl++vl') (l++l'):=by
 refine ⟨by simp [h.1,k.1],fun i u y hu hy=>?_⟩
 by_cases hi:i < vl.length
 ·rw [List.getElem?_append_left hi] at hu
  rw [List.getElem?_append_left (by rw [←h.1]; exact hi)] at hy
  exact h.2 i u y hu hy
 ·rw [List.getElem?_append_right (by omega)] at hu
  rw [List.getElem?_append_right (by rw [←h.1]; omega),←h.1] at hy
  exact k.2 _ u y hu hy
theorem flat_len {sz:Nat} {vl:List Value} (h:∀ v∈vl,v.cells.size=sz):(vl.flatMap fun v=>v.cells.toList).length=vl.length * sz:=by
 induction vl with
 | nil=>simp
 | cons v vl ih=>
  simp only [List.flatMap_cons,List.length_append,Array.length_toList,List.length_cons]
  rw [ih (fun u hu=>h u (by simp [hu])),h v (by simp),Nat.succ_mul]; omega
theorem els_ob {N:Nat→Prop} {st:St} {sz:Nat} {vl:List Value} {l:List D} (hs:0 < sz) (h:Els w N st bl sz vl l) (cells:Array Value) (hc:∀ k,k < vl.length * sz→cells[k]?=(vl.flatMap fun v=>v.cells.toList)[k]?) :
  ∀ (i:Nat) (d:D),l[i]?=some d→d.cells.length=sz∧d.okv=true∧(false=false→d.pure=true)∧∀ (j:Nat) (x:D),d.cells[j]?=some x→CRep w N st bl cells (i * sz+j) x:=by
 intro i d hd
 have hi:i < vl.length:=by rw [h.1]; exact (List.getElem?_eq_some_iff.1 hd).1
 obtain ⟨h1,h2,h3⟩:=h.2 i _ d (List.getElem?_eq_getElem hi) hd
 refine ⟨h3,pure_okv h2,fun _=>h2,fun j x hx=>?_⟩
 have hj:j < sz:=by rw [←h3]; exact (List.getElem?_eq_some_iff.1 hx).1
 obtain ⟨k1,v,k2,k3⟩:=rep_crep h1 (pure_okv h2) j x hx
 have hlt:i * sz+j < vl.length * sz:=by
  have:=Nat.mul_le_mul_right sz hi
  rw [Nat.succ_mul] at this; omega
 refine ⟨k1,v,?_,k3⟩
 rw [hc _ hlt,Great.flat_get hs vl h.sizes]
 have e1:(i * sz+j) / sz=i:=by rw [Nat.mul_comm,Nat.mul_add_div hs,Nat.div_eq_of_lt hj]; omega
 have e2:(i * sz+j) % sz=j:=by rw [Nat.mul_comm,Nat.mul_add_mod,Nat.mod_eq_of_lt hj]
 rw [e1,e2,List.getElem?_eq_getElem hi]
 exact k2
theorem slice_els {L:Nat→Prop} {st:St} {v:Value} {d:D} {sz:Nat} {l:List D} (H:HRel w L st bl) (hr:Rep w (NN L st bl) st bl v d) (hl:listD st sz d=some l) :
  ∃ p cap vl,v=.slice p l.length cap∧l.length≤cap∧(p=none→cap=0)∧Els w (NN L st bl) st bl sz vl l ∧
   ∀ (i:Nat) (u:Value),vl[i]?=some u→∃ q:Addr,p=some q∧q.spot=none∧∀ (j:Nat) (x:Value),u.cells[j]?=some x→w.cell? ⟨q.block,q.off+i * sz+j,none⟩=some x:=by
 unfold listD at hl
 split at hl
 ·simp at hl; subst hl
  cases hr
  exact ⟨none,0,[],rfl,Nat.le_refl _,fun _=>rfl,⟨rfl,fun i u y h=>by simp at h⟩,fun i u h=>by simp at h⟩
 ·rename_i sz' full ds
  split at hl
  ·rename_i he
   simp at hl; subst hl; subst he
   cases hr with
   | sl _ _ _ p cap vs hc hf hs hp hm hrep=>
    refine ⟨some p,cap,(List.range ds.length).map vs,rfl,hc,fun h=>by simp at h,⟨by simp,fun i u y hu hy=>?_⟩,fun i u hu=>?_⟩
    ·simp only [List.getElem?_map,Option.map_eq_some_iff] at hu
     obtain ⟨k,hk,rfl⟩:=hu
     obtain ⟨_,hk'⟩:=List.getElem?_eq_some_iff.1 hk
     simp at hk'; subst hk'
     exact ⟨hrep _ _ hy,(hp _ _ hy).1,(hp _ _ hy).2⟩
    ·simp only [List.getElem?_map,Option.map_eq_some_iff] at hu
     obtain ⟨k,hk,rfl⟩:=hu
     obtain ⟨hlt,hk'⟩:=List.getElem?_eq_some_iff.1 hk
     simp at hk' hlt; subst hk'
     have hy:=List.getElem?_eq_getElem hlt
     exact ⟨p,rfl,hs (fun e=>by subst e; simp at hlt),fun j x hx=>(hm _ _ hy).2.2 j x hx⟩
  ·simp at hl
 ·rename_i id ver sz' off len full
  split at hl
  ·rename_i sz'' ver' m fr elems hob
   split at hl
   ·rename_i hcon
    obtain ⟨rfl,rfl,rfl,hle⟩:=hcon
    simp at hl
    cases hr with
    | rs _ _ _ _ _ _ p cap hid hv hcap hfull ha=>
     obtain ⟨ha1,_⟩:=ha (by rw [hob]; rfl)
     have hO:=H.obj id hid
     rw [hob] at hO
     have hll:l.length=len:=by subst hl; simp; omega
     have hget:∀ (i:Nat) (d:D),l[i]?=some d→elems[off+i]?=some d:=by
      intro i d hd
      subst hl
      rw [List.getElem?_take] at hd
      split at hd
      ·rw [List.getElem?_drop] at hd; exact hd
      ·simp at hd
     have hch:∀ i:Nat,∃ u,∀ d,l[i]?=some d→Rep w (NN L st bl) st bl u d∧∀ (j:Nat) (x:Value),u.cells[j]?=some x→w.cell? ⟨bl id,(off+i) * sz''+j,none⟩=some x:=by
      intro i
      cases he:l[i]? with
      | none=>exact ⟨undef,fun d hd=>by simp at hd⟩
      | some d=>
       obtain ⟨u,h1,h2⟩:=ob_elem hO (hget i d he)
       exact ⟨u,fun d' hd=>by simp at hd; subst hd; exact ⟨h1,h2⟩⟩
     refine ⟨some p,cap,(List.range l.length).map fun i=>(hch i).choose,by rw [hll],by omega,fun h=>by simp at h,⟨by simp,fun i u y hu hy=>?_⟩,fun i u hu=>?_⟩
     ·simp only [List.getElem?_map,Option.map_eq_some_iff] at hu
      obtain ⟨k,hk,rfl⟩:=hu
      obtain ⟨_,hk'⟩:=List.getElem?_eq_some_iff.1 hk
      simp at hk'; subst hk'
      obtain ⟨h1,h2,h3,_⟩:=ob_cells hO (hget i y hy)
      exact ⟨((hch i).choose_spec y hy).1,h3 rfl,h1⟩
     ·simp only [List.getElem?_map,Option.map_eq_some_iff] at hu
      obtain ⟨k,hk,rfl⟩:=hu
      obtain ⟨hlt,hk'⟩:=List.getElem?_eq_some_iff.1 hk
      simp at hk' hlt; subst hk'
      have hy:=List.getElem?_eq_getElem hlt
      have hp:=ha1 (by omega)
      refine ⟨p,rfl,by rw [hp],fun j x hx=>?_⟩
      have:=((hch i).choose_spec _ hy).2 j x hx
      rw [hp]
      simp only
      rw [←Nat.add_mul]; exact this
   ·simp at hl
  ·simp at hl
 ·simp at hl
theorem firstCells_run {p:Option Addr} {sz cap n:Nat} {vl:List Value} (hs:0 < sz) (hn:n=vl.length) (hsz:∀ v∈vl,v.cells.size=sz)
  (hm:∀ (i:Nat) (u:Value),vl[i]?=some u→∃ q:Addr,p=some q∧q.spot=none∧∀ (j:Nat) (x:Value),u.cells[j]?=some x→w.cell? ⟨q.block,q.off+i * sz+j,none⟩=some x) :
  (Builtin.firstCells sz n (.slice p n cap)).run P w=.ok (vl.flatMap fun v=>v.cells.toList).toArray w:=by
 subst hn
 cases p with
 | none=>
  cases vl with
  | nil=>rfl
  | cons v vl=>obtain ⟨q,hq,_⟩:=hm 0 v rfl; simp at hq
 | some q=>
  simp only [Builtin.firstCells]
  have hlen:=flat_len hsz
  have:=run_loadCells_list (P:=P) w q (vl.flatMap fun v=>v.cells.toList) (fun j x hx=>by
   have hj:=(List.getElem?_eq_some_iff.1 hx).1
   rw [hlen] at hj
   rw [Great.flat_get hs vl hsz] at hx
   have hi:j / sz < vl.length:=(Nat.div_lt_iff_lt_mul hs).2 hj
   rw [List.getElem?_eq_getElem hi] at hx
   obtain ⟨q',hq',hsp,hc⟩:=hm _ _ (List.getElem?_eq_getElem hi)
   simp at hq'; subst hq'
   have:=hc _ x hx
   rw [add_eq q j hsp]
   rw [show q.off+j=q.off+j / sz * sz+j % sz by have:=Nat.div_add_mod j sz; rw [Nat.mul_comm] at this; omega]
   exact this)
  rw [hlen] at this
  exact this
theorem growBy_le (n:Nat):∀ (r c:Nat),c≤n→Builtin.growBy n r c≤n+(n+768) / 4
 | 0,c,h=>by simp [Builtin.growBy]; omega
 | r+1,c,h=>by
  simp only [Builtin.growBy]
  split
  ·omega
  ·by_cases hc:c+(c+768) / 4≤n
   ·exact growBy_le n r _ hc
   ·cases r with
    | zero=>simp [Builtin.growBy]; omega
    | succ r=>simp only [Builtin.growBy]; rw [if_pos (by omega)]; omega
theorem nextcap_le {need cap:Nat} (h:cap < need):Builtin.nextslicecap need cap≤2 * need+200:=by
 unfold Builtin.nextslicecap
 split
 ·omega
 ·split
  ·omega
  ·have:=growBy_le need 4 cap (by omega); omega
def appT (P:Program) (ts:Array TypeId) (sz:Nat):Bool:=
 (match ts[0]? with | some t=>sliceT P t sz | none=>false) &&
 (match ts[1]? with | some t=>kindOK P t .slice || kindOK P t .str | none=>false)
theorem appT_run {ts:Array TypeId} {sz:Nat} (ht:appT P ts sz=true):∃ t0 t1 e d1 ie z,ts[0]?=some t0∧ts[1]?=some t1∧P.underlying t0=some (.slice e)∧P.info? e=some ie∧ie.size=sz∧ie.zero=some z∧z.cells.size=sz∧0 < sz∧sz≤4096∧ie.bytes≤65536 ∧
  P.underlying t1=some d1∧((∃ e',d1=.slice e')∨d1=.string):=by
 unfold appT at ht
 simp only [Bool.and_eq_true] at ht
 cases h0:ts[0]? with
 | none=>simp [h0] at ht
 | some t0=>
  cases h1:ts[1]? with
  | none=>simp [h1] at ht
  | some t1=>
   simp only [h0,h1] at ht
   obtain ⟨ha,hb⟩:=ht
   unfold sliceT at ha
   split at ha
   ·rename_i e hu
    simp only [Bool.and_eq_true,decide_eq_true_eq] at ha
    obtain ⟨⟨⟨hs,hz⟩,hp,hle⟩,hby⟩:=ha
    unfold sizeOK at hs
    cases hi:P.info? e with
    | none=>simp [hi] at hs
    | some ie=>
     simp [hi] at hs hby
     cases hzz:ie.zero with
     | none=>simp [hi,hzz] at hz
     | some z=>
      simp [hi,hzz] at hz
      have hd:∃ d,P.underlying t1=some d∧((∃ e',d=.slice e')∨d=.string):=by
       simp only [kindOK,Bool.or_eq_true] at hb
       rcases hb with hb | hb <;> (split at hb <;> first | contradiction | exact ⟨_,by assumption,.inl ⟨_,rfl⟩⟩ | exact ⟨_,by assumption,.inr rfl⟩)
      obtain ⟨d1,hd1,hd2⟩:=hd
      exact ⟨t0,t1,e,d1,ie,z,rfl,rfl,hu,hi,hs,hzz,hz,hp,hle,hby,hd1,hd2⟩
   ·simp at ha
theorem append_room {ts:Array TypeId} {ty:TypeId} {sz sLen sCap n:Nat} {p:Option Addr} {x:Value} {news:Array Value} {w':World} (ht:appT P ts sz=true) (hx:(Builtin.lenOf x).run P w=.ok n w) (hf:(Builtin.firstCells sz n x).run P w=.ok news w)
  (h:sLen+n≤sCap) (hst:((match p with | some q=>storeCells (q.add (sLen * sz)) news.toList | none=>pure ()):Sem Unit).run P w=.ok () w') :
  (Builtin.append_ ts ty #[.slice p sLen sCap,x]).run P w=.ok (.slice p (sLen+n) sCap) w':=by
 obtain ⟨t0,t1,e,d1,ie,z,h0,h1,hu,hi,rfl,hz,hzs,hpos,hle,hby,hd1,hd2⟩:=appT_run ht
 have hsz:(sizeOf e).run P w=.ok ie.size w:=by simp [sizeOf,typeInfo,hi]
 simp only [Builtin.append_,h0,h1]
 cases p with
 | none=>
  simp at hst; subst hst
  rcases hd2 with ⟨e',rfl⟩ | rfl <;> simp [run_underlying hu,run_underlying hd1,hsz,hx,h,hf]
 | some q=>rcases hd2 with ⟨e',rfl⟩ | rfl <;> simp [run_underlying hu,run_underlying hd1,hsz,hx,h,hf,hst]
theorem append_grow {ts:Array TypeId} {ty:TypeId} {sz sLen sCap n:Nat} {p:Option Addr} {x:Value} {olds news:Array Value} (ht:appT P ts sz=true) (hx:(Builtin.lenOf x).run P w=.ok n w)
  (ho:∀ w',w'.heap=w.heap→(Builtin.firstCells sz sLen (.slice p sLen sCap)).run P w'=.ok olds w') (hf:∀ w',w'.heap=w.heap→(Builtin.firstCells sz n x).run P w'=.ok news w')
  (h:¬ sLen+n≤sCap) (hl:olds.size=sLen * sz) (hn:news.size=n * sz) (hb:sLen+n≤268435456) :
  ∃ cap e cells,(sLen+n≤cap∧cap≤9223372036854775807)∧(Builtin.append_ ts ty #[.slice p sLen sCap,x]).run P w=.ok (.slice (some ⟨w.heap.size,0,none⟩) (sLen+n) cap) (w.drew.alloc (.cells cells e))∧cells.size=cap * sz ∧
   ∀ k,k < (sLen+n) * sz→cells[k]?=(olds++news)[k]?:=by
 obtain ⟨t0,t1,e,d1,ie,z,h0,h1,hu,hi,rfl,hz,hzs,hpos,hle,hby,hd1,hd2⟩:=appT_run ht
 have hsz:∀ w',(sizeOf e).run P w'=.ok ie.size w':=fun w'=>by simp [sizeOf,typeInfo,hi]
 have hzv:∀ w',(zeroValue e).run P w'=.ok z w':=fun w'=>by simp [zeroValue,typeInfo,hi,hz]
 have hcap:=nextcap_le (show sCap < sLen+n by omega)
 have hbig:¬ (Builtin.nextslicecap (sLen+n) sCap * ie.bytes > 2 ^ 48):=by
  have:Builtin.nextslicecap (sLen+n) sCap * ie.bytes≤(2 * 268435456+200) * 65536:=Nat.mul_le_mul (by omega) hby
  omega
 refine ⟨(Question.appendCap (sLen+n) sCap e).cut (w.tape w.drawn (.appendCap (sLen+n) sCap e)),e,
  olds++news++Builtin.zeroCells z.cells ((Question.appendCap (sLen+n) sCap e).cut (w.tape w.drawn (.appendCap (sLen+n) sCap e)) - (sLen+n)),?_,?_,?_,?_⟩
 ·have hlt:=Nat.mod_lt (w.tape w.drawn (.appendCap (sLen+n) sCap e)) (show 0 < 2 ^ 63 - (sLen+n) by omega)
  simp only [Question.cut]; omega
 ·have e1:=ho w.drew rfl
  have e2:=hf w.drew rfl
  simp only [Builtin.append_,h0,h1]
  rcases hd2 with ⟨e',rfl⟩ | rfl <;> simp [run_underlying hu,run_underlying hd1,hsz,hx,h,typeInfo,hi,hbig,Question.forced,e1,e2,hzv,newRow] <;> (intro hh; omega)
 ·simp only [Array.size_append,hl,hn,Builtin.zeroCells,Array.size_map,Array.size_range,hzs]
  rw [←Nat.add_mul,←Nat.add_mul]
  congr 1
  simp only [Question.cut]; omega
 ·intro k hk
  rw [Array.getElem?_append_left (by simp only [Array.size_append,hl,hn]; rw [←Nat.add_mul]; exact hk)]
theorem cell_heap {w w':World} (h:w'.heap=w.heap) (p:Addr):w'.cell? p=w.cell? p:=by unfold World.cell?; rw [h]
theorem src_run {L:Nat→Prop} {st:St} {v:Value} {d:D} {sz:Nat} {l:List D} (hs:0 < sz) (H:HRel w L st bl) (hr:Rep w (NN L st bl) st bl v d)
  (hl:srcD st sz d=some l) :
  ∃ vl,(Builtin.lenOf v).run P w=.ok l.length w∧(∀ w',w'.heap=w.heap→(Builtin.firstCells sz l.length v).run P w'=.ok (vl.flatMap fun v=>v.cells.toList).toArray w')∧Els w (NN L st bl) st bl sz vl l:=by
 unfold srcD at hl
 split at hl
 ·rename_i b
  split at hl
  ·rename_i h1
   simp at hl; subst hl; subst h1
   cases hr with
   | str s=>
    have e:∀ vl:List Value,(∀ v∈vl,v.oneCell'=true)→vl.flatMap (fun v=>v.cells.toList)=vl:=by
     intro vl
     induction vl with
     | nil=>intro _; rfl
     | cons v vl ih=>
      intro h
      have hv:=h v (by simp)
      rw [List.flatMap_cons,ih fun u hu=>h u (by simp [hu])]
      cases v <;> first | rfl | (simp [Value.oneCell'] at hv; done)
    refine ⟨s.data.toList.map fun b=>.int .u8 b.toNat,by simp [Builtin.lenOf],fun w' _=>?_,by simp,fun i u y hu hy=>?_⟩
    ·rw [e _ (by intro v hv; simp at hv; obtain ⟨b,_,rfl⟩:=hv; rfl)]
     simp only [Builtin.firstCells,Sem.run_pure]
     congr 1
     apply Array.ext'
     simp
    ·simp only [List.getElem?_map,Option.map_eq_some_iff] at hu hy
     obtain ⟨b1,hb1,rfl⟩:=hu
     obtain ⟨b2,hb2,rfl⟩:=hy
     rw [hb1] at hb2; simp at hb2; subst hb2
     exact ⟨.int _ _,rfl,rfl⟩
  ·simp at hl
 ·obtain ⟨p,cap,vl,rfl,h1,h2,h3,h4⟩:=slice_els H hr hl
  refine ⟨vl,by simp [Builtin.lenOf],fun w' hw=>?_,h3⟩
  exact firstCells_run hs h3.1.symm h3.sizes fun i u hu=>by
   obtain ⟨q,q1,q2,q3⟩:=h4 i u hu
   exact ⟨q,q1,q2,fun j x hx=>by rw [cell_heap hw]; exact q3 j x hx⟩
theorem drewAl (w:World) (o:Obj):Al w (w.drew.alloc o) o:=by
 have:=alloc_al w.drew o
 exact ⟨this.os,this.tape,this.output,this.size,this.same,this.new⟩
theorem sim_app (C:CR X c bl lb a w) {o:Oper} {cl:Call} {s x:Operand} {s' x':Opd} {sz d:Nat} {l:List D} {r:D × St} (ho:o.op=.call cl) (hc:cl.callee=.builtin .append) (hargs:cl.args=#[s,x]) (ht:appT P cl.argTypes sz=true)
  (hdst:o.dst=some d) (hdn:d < X.n) (h1:opdOK s s'=true) (h2:opdOK x x'=true)
  (hl:srcD c.2 sz (x'.ev c.1.s)=some l) (hr:appendD c.2 (s'.ev c.1.s) l sz=some r)
  {K:Act→World→Prop} {Q:Exit→Act→World→Prop} (hK:∀ a' w',RelC X (apply c (some d) (r.1,none,some r.2)) a' w'→K a' w'):o.wp P a w K Q:=by
 obtain ⟨_,_,_,_,_,_,_,_,_,_,_,_,_,hpos,_⟩:=appT_run ht
 have rx:RR X c bl lb w (a.eval x) (x'.ev c.1.s):=(opd_rep C h2).rep fun b g off e=>by rw [e] at hl; simp [srcD,listD] at hl
 obtain ⟨vl1,hlen,hfirst,E1⟩:=src_run (P:=P) hpos C.heap rx hl
 have rs:=opd_rep C h1
 have he:∀ v w',(Builtin.append_ cl.argTypes o.type #[a.eval s,a.eval x]).run P w=.ok v w'→(execOp a.eval o).run P w=.ok (.value v) w':=by
  intro v w' h
  simp [execOp,ho,resolve,hc,hargs,invoke,builtin,h]
 have hfl1:=flat_len E1.sizes
 have nop:∀ p cap len,l=[]→a.eval s=.slice p len cap→len≤cap→(execOp a.eval o).run P w=.ok (.value (.slice p len cap)) w:=by
  intro p cap len hnil hs hle
  subst hnil
  have hvl:vl1=[]:=List.eq_nil_of_length_eq_zero E1.1
  subst hvl
  refine he _ _ ?_
  rw [hs]
  have:=append_room (P:=P) (ty:=o.type) (sLen:=len) (sCap:=cap) (n:=0) (p:=p) (w':=w) ht hlen (hfirst w rfl) (by simpa using hle) (by cases p <;> simp [storeCells])
  simpa using this
 have fresh:∀ p cap vl0 (l0:List D),a.eval s=.slice p l0.length cap→l≠[]→¬ l0.length+l.length≤cap→l0.length+l.length≤268435456→Els w (NX X c bl lb) c.2 bl sz vl0 l0 →
   (∀ (i:Nat) (u:Value),vl0[i]?=some u→∃ q:Addr,p=some q∧q.spot=none∧∀ (j:Nat) (x:Value),u.cells[j]?=some x→w.cell? ⟨q.block,q.off+i * sz+j,none⟩=some x) →
   ∃ cap' e cells,(l0.length+l.length≤cap'∧cap'≤9223372036854775807)∧(execOp a.eval o).run P w=.ok (.value (.slice (some ⟨w.heap.size,0,none⟩) (l0.length+l.length) cap')) (w.drew.alloc (.cells cells e))∧cells.size=cap' * sz ∧
    ∀ k,k < (vl0++vl1).length * sz→cells[k]?=((vl0++vl1).flatMap fun v=>v.cells.toList)[k]?:=by
  intro p cap vl0 l0 hs hne hcap hbound E0 hm
  have hf0:=flat_len E0.sizes
  obtain ⟨cap',e,cells,g1,g2,g3,g4⟩:=append_grow (P:=P) (ty:=o.type) (p:=p) (sLen:=l0.length) (sCap:=cap) (n:=l.length) ht hlen
   (fun w' hw=>firstCells_run hpos E0.1.symm E0.sizes fun i u hu=>by
    obtain ⟨q,q1,q2,q3⟩:=hm i u hu
    exact ⟨q,q1,q2,fun j x hx=>by rw [cell_heap hw]; exact q3 j x hx⟩) hfirst hcap (by simp only [List.size_toArray,hf0,E0.1]) (by simp only [List.size_toArray,hfl1,E1.1]) hbound
  refine ⟨cap',e,cells,g1,he _ _ (by rw [hs]; exact g2),g3,fun k hk=>?_⟩
  rw [List.length_append,E0.1,E1.1] at hk
  rw [g4 k hk,List.flatMap_append]
  simp
 have newob:∀ cap' e cells vl0 (l0:List D),Els w (NX X c bl lb) c.2 bl sz vl0 l0→l0.length+l.length≤cap'∧cap'≤9223372036854775807→cells.size=cap' * sz→(∀ k,k < (vl0++vl1).length * sz→cells[k]?=((vl0++vl1).flatMap fun v=>v.cells.toList)[k]?) →
   RelC X (apply c (some d) (.rs c.2.length 0 sz 0 (l0.length+l.length) false,none,some (c.2++[.cells false sz 0 0 false (l0++l)]))) (a.put (some d) (.slice (some ⟨w.heap.size,0,none⟩) (l0.length+l.length) cap')) (w.drew.alloc (.cells cells e)):=by
  intro cap' e cells vl0 l0 E0 hle hsz hcells
  have A:=drewAl w (.cells cells e)
  have E:=(new_ext C.heap A (.cells false sz 0 0 false (l0++l))).ext (L:=X.LL c.1.b lb)
  have hAs:=A.size
  have C':=C.objNew (ob:=.cells false sz 0 0 false (l0++l)) A ⟨cells,e,0,0,A.new,fun _ _ _=>by omega,⟨by rw [hsz,List.length_append]; exact Nat.mul_le_mul_right sz hle.1,tag_zero⟩,
   els_ob hpos ((E0.append E1).ext E (by omega)) cells hcells⟩
  rw [apply_heap]
  refine ⟨_,_,C'.put (fun d' e'=>by cases e'; exact hdn) fun _=>Rep.slot _ _ ?_⟩
  refine .rs _ _ _ _ _ _ _ _ (by simp) (by simp) (by omega) (by simp) fun _=>⟨fun _=>by simp,cells,e,(0,0),by simp only [↓reduceIte]; exact A.new,by simp [hsz]⟩
 unfold appendD at hr
 split at hr
 ·simp at hr
 ·rename_i hmost
  have hml:l.length≤134217728:=by unfold most at hmost; omega
  split at hr
  ·rename_i hs
   rw [hs] at rs
   have hy:a.eval s=.slice none 0 0:=by
    generalize a.eval s=y at rs
    cases (show Rep w (NX X c bl lb) c.2 bl y .nils from rs)
    rfl
   cases hem:l.isEmpty
   ·simp only [hem,Bool.false_eq_true,if_false,Option.some.injEq] at hr
    subst hr
    have hne:l≠[]:=by intro e; subst e; simp at hem
    have hlp:0 < l.length:=List.length_pos_iff.2 hne
    obtain ⟨cap',e,cells,g1,g2,g3,g4⟩:=fresh none 0 [] [] hy hne (by simp; omega) (by simp; omega) ⟨rfl,fun i u y h=>by simp at h⟩ (fun i u h=>by simp at h)
    refine wp_val g2 (hK _ _ ?_)
    rw [hdst]
    have:=newob cap' e cells [] [] ⟨rfl,fun i u y h=>by simp at h⟩ g1 g3 g4
    simpa using this
   ·simp only [hem,if_true,Option.some.injEq] at hr
    subst hr
    have hnil:l=[]:=by simpa using hem
    refine wp_val (nop none 0 0 hnil hy (Nat.le_refl _)) (hK _ _ ?_)
    rw [hdst]
    exact ⟨_,_,C.put (fun d' e'=>by cases e'; exact hdn) fun _=>Rep.slot _ _ .nils⟩
  ·rename_i sz' full ds hs
   rw [hs] at rs
   cases hem:l.isEmpty
   ·simp only [hem,Bool.false_eq_true,if_false] at hr
    split at hr
    ·rename_i hcon
     obtain ⟨rfl,rfl,hdm⟩:=hcon
     simp only [Option.some.injEq] at hr
     subst hr
     have hne:l≠[]:=by intro e; subst e; simp at hem
     have hlp:0 < l.length:=List.length_pos_iff.2 hne
     obtain ⟨p,cap,vl0,e1,e2,e3,e4,e5⟩:=slice_els C.heap (show RR X c bl lb w (a.eval s) (.sl sz' true ds) from rs) (sz:=sz') (l:=ds) (by simp [listD])
     have hcap:cap=ds.length:=by
      generalize a.eval s=y at *
      cases (show Rep w (NX X c bl lb) c.2 bl y (.sl sz' true ds) from rs) with
      | sl _ _ _ p' cap'' vs hc' hf'=>simp at e1; rw [←e1.2]; exact hf' rfl
     obtain ⟨cap',e,cells,g1,g2,g3,g4⟩:=fresh p cap vl0 ds e1 hne (by omega) (by unfold most at hdm; omega) e4 e5
     refine wp_val g2 (hK _ _ ?_)
     rw [hdst]
     exact newob cap' e cells vl0 ds e4 g1 g3 g4
    ·simp at hr
   ·simp only [hem,if_true,Option.some.injEq] at hr
    subst hr
    have hnil:l=[]:=by simpa using hem
    obtain ⟨p,cap,e1,e2⟩:∃ p cap,a.eval s=.slice (some p) ds.length cap∧ds.length≤cap:=by
     generalize a.eval s=y at *
     cases (show Rep w (NX X c bl lb) c.2 bl y (.sl sz' full ds) from rs) with
     | sl _ _ _ p' cap'' vs hc' hf'=>exact ⟨_,_,rfl,hc'⟩
    refine wp_val (nop _ _ _ hnil e1 e2) (hK _ _ ?_)
    rw [hdst,hs]
    refine ⟨_,_,C.put (fun d' e'=>by cases e'; exact hdn) fun _=>?_⟩
    rw [e1] at rs; exact rs
  ·rename_i id ver sz' off len full hs
   rw [hs] at rs
   split at hr
   ·rename_i sz'' ver' mod fr elems hob
    split at hr
    ·rename_i hcon
     obtain ⟨rfl,rfl,rfl,hoff,hel⟩:=hcon
     have hls:listD c.2 sz' (.rs id ver' sz' off len full)=some ((elems.drop off).take len):=by simp [listD,hob,hoff]
     have hll:((elems.drop off).take len).length=len:=by simp; omega
     obtain ⟨p,cap,vl0,e1,e2,e3,e4,e5⟩:=slice_els C.heap (show RR X c bl lb w (a.eval s) (.rs id ver' sz' off len full) from rs) hls
     rw [hll] at e1 e2
     have hmo:elems.length≤134217728:=by unfold most at hel; exact hel
     cases hem:l.isEmpty
     ·simp only [hem,Bool.false_eq_true,if_false] at hr
      have hne:l≠[]:=by intro e; subst e; simp at hem
      have hlp:0 < l.length:=List.length_pos_iff.2 hne
      cases hfu:full
      ·simp only [hfu,Bool.false_eq_true,if_false] at hr
       split at hr
       ·rename_i hcon2
        obtain ⟨rfl,rfl,hvt⟩:=hcon2
        simp only [Option.some.injEq] at hr
        subst hr
        have hid:(id < c.2.length∧cap≤9223372036854775807)∧((cap≠0→p=some ⟨bl id,0,none⟩)∧∃ c0 e0 f0,w.heap[bl id]?=some (.cells c0 e0 f0)∧cap * sz'≤c0.size):=by
         rw [e1] at rs
         cases (show Rep w (NX X c bl lb) c.2 bl (.slice p len cap) (.rs id ver' sz' 0 len full) from rs) with
         | rs _ _ _ _ _ _ p' _ hid hv hc' hf' ha=>
          obtain ⟨k1,c0,e0,f0,k2,k3⟩:=ha (by rw [hob]; rfl)
          exact ⟨⟨hid,hc'.2⟩,fun h=>by rw [k1 h]; simp,c0,e0,f0,k2,by simpa using k3⟩
        obtain ⟨⟨hid,hcb⟩,hp,c0,e0,⟨lo,hi⟩,hc0,hroom⟩:=hid
        have hO:=C.heap.obj id hid
        rw [hob] at hO
        obtain ⟨cur,e1',lo',hi',hcur,hfro0,⟨hcsz,htag⟩,_⟩:=hO
        have hfro:=hfro0 rfl
        rw [hc0] at hcur
        simp only [Option.some.injEq,Obj.cells.injEq,Prod.mk.injEq] at hcur
        obtain ⟨rfl,rfl,rfl,rfl⟩:=hcur
        by_cases hrm:len+l.length≤cap
        ·have hpq:=hp (by omega)
         subst hpq
         have hmul:=Nat.mul_le_mul_right sz' hrm
         rw [Nat.add_mul] at hmul
         have hnl:(vl1.flatMap fun v=>v.cells.toList).length=l.length * sz':=by rw [hfl1,E1.1]
         obtain ⟨w',hst,W⟩:=storeCells_run (P:=P) (len * sz') (vl1.flatMap fun v=>v.cells.toList) 0 c0 w hc0 (fun k hk=>hfro k (Nat.le_of_lt hk)) (by omega) E1.one
         have happ:=append_room (P:=P) (ty:=o.type) (sLen:=len) (sCap:=cap) (p:=some ⟨bl id,0,none⟩) (w':=w') ht hlen (hfirst w rfl) hrm (by
          simp only [Addr.add_mid,Nat.zero_add]; exact hst)
         have E:=upd_ext (w':=w') C.heap hid (by rw [hob]; rfl) (.cells false sz' (ver'+1) (mod+1) false (elems.take len++l)) (bl id) W.os W.tape W.output (Nat.le_of_eq W.size.symm) (fun k _ hk=>W.same k hk) (.inl rfl)
          (.inl (by rw [hob]; exact Nat.lt_succ_self _)) (by rw [hob]; exact Nat.lt_succ_self _) (by rw [hob]; simp [Ob.isMap])
         have hps:(putA c0 (len * sz'+0) (vl1.flatMap fun v=>v.cells.toList)).size=c0.size:=putA_size _ _ _ (by omega)
         have H':=C.heap.upd C.bound hid E (fun k _ hk=>W.same k hk) (.inl rfl) (by
          refine ⟨_,e0,lo,hi,W.new,fun _=>by rw [hps]; exact hfro,⟨?_,tag_small hvt⟩,?_⟩
          ·rw [hps,List.length_append]
           have:(elems.take len).length=len:=by simp; omega
           rw [this,Nat.add_mul]; omega
          ·refine els_ob hpos (Els.ext (E.ext (L:=X.LL c.1.b lb)) (Nat.le_of_eq W.size.symm) (by have:=e4.append E1; simpa using this)) _ fun k hk=>?_
           rw [List.length_append,e4.1,hll,E1.1,Nat.add_mul] at hk
           have hf0:=flat_len e4.sizes
           rw [e4.1,hll] at hf0
           rw [putA_get _ _ _ (by omega),List.flatMap_append]
           by_cases hk2:k < len * sz'
           ·rw [if_neg (by omega),List.getElem?_append_left (by omega),Great.flat_get hpos vl0 e4.sizes]
            have hi:k / sz' < vl0.length:=by rw [e4.1,hll]; exact (Nat.div_lt_iff_lt_mul hpos).2 hk2
            rw [List.getElem?_eq_getElem hi]
            obtain ⟨q,q1,q2,q3⟩:=e5 _ _ (List.getElem?_eq_getElem hi)
            simp at q1; subst q1
            have hsz0:=e4.sizes _ (List.getElem_mem hi)
            have hj:k % sz' < (vl0[k / sz'].cells).size:=by rw [hsz0]; exact Nat.mod_lt _ hpos
            have:=q3 (k % sz') _ (Array.getElem?_eq_getElem hj)
            rw [cell_of_row _ _ _ _ _ _ hc0] at this
            simp only [Nat.zero_add] at this
            rw [show k / sz' * sz'+k % sz'=k by have:=Nat.div_add_mod k sz'; rw [Nat.mul_comm] at this; exact this] at this
            rw [this]
            simp [hj]
           ·rw [if_pos (by omega),List.getElem?_append_right (by omega),hf0]
            rfl)
         rw [upd_same] at E H'
         refine wp_val (he _ _ (by rw [e1]; exact happ)) (hK _ _ ?_)
         rw [hdst,apply_heap]
         refine ⟨bl,lb,(C.go E H').put (fun d' e'=>by cases e'; exact hdn) fun _=>Rep.slot _ _ ?_⟩
         refine .rs _ _ _ _ _ _ _ _ (by simpa using hid) (by rw [at_set _ _ _ _ hid,if_pos rfl]; exact Nat.le_refl _) ⟨hrm,hcb⟩ (by simp) fun _=>⟨fun _=>by simp,_,e0,(lo,hi),W.new,by rw [hps]; simpa using hroom⟩
        ·obtain ⟨cap',e,cells,g1,g2,g3,g4⟩:=fresh p cap vl0 ((elems.drop 0).take len) (by rw [hll]; exact e1) hne (by rw [hll]; exact hrm) (by rw [hll]; omega) e4 e5
         rw [hll] at g1 g2
         have A:=drewAl w (.cells cells e)
         have hAs:=A.size
         have E:=upd_ext (w':=w.drew.alloc (.cells cells e)) C.heap hid (by rw [hob]; rfl) (.cells false sz' (ver'+1) (mod+1) false (elems.take len++l)) w.heap.size A.os A.tape A.output (by omega) (fun k hk _=>A.same k hk) (.inr (Nat.le_refl _))
          (.inl (by rw [hob]; exact Nat.lt_succ_self _)) (by rw [hob]; exact Nat.lt_succ_self _) (by rw [hob]; simp [Ob.isMap])
         have H':=C.heap.upd C.bound hid E (fun k hk _=>A.same k hk) (.inr (Nat.le_refl _)) (by
          refine ⟨cells,e,0,0,A.new,fun _ _ _=>by omega,⟨?_,tag_small hvt⟩,els_ob hpos (Els.ext (E.ext (L:=X.LL c.1.b lb)) (by omega) (by have:=e4.append E1; simpa using this)) cells g4⟩
          rw [g3,List.length_append]
          have:(elems.take len).length=len:=by simp; omega
          rw [this]; exact Nat.mul_le_mul_right _ g1.1)
         refine wp_val g2 (hK _ _ ?_)
         rw [hdst,apply_heap]
         refine ⟨_,lb,(C.go E H').put (fun d' e'=>by cases e'; exact hdn) fun _=>Rep.slot _ _ ?_⟩
         refine .rs _ _ _ _ _ _ _ _ (by simpa using hid) (by rw [at_set _ _ _ _ hid,if_pos rfl]; exact Nat.le_refl _) g1 (by simp) fun _=>⟨fun _=>by simp,cells,e,(0,0),by simp only [↓reduceIte]; exact A.new,by rw [g3]; simp⟩
       ·simp at hr
      ·simp only [hfu,if_true,Option.some.injEq] at hr
       subst hr
       have hcap:cap=len:=by
        rw [e1] at rs
        cases (show Rep w (NX X c bl lb) c.2 bl (.slice p len cap) (.rs id ver' sz' off len full) from rs) with
        | rs _ _ _ _ _ _ p' _ hid hv hc' hf' ha=>exact hf' hfu
       obtain ⟨cap',e,cells,g1,g2,g3,g4⟩:=fresh p cap vl0 ((elems.drop off).take len) (by rw [hll]; exact e1) hne (by rw [hll]; omega) (by rw [hll]; omega) e4 e5
       refine wp_val g2 (hK _ _ ?_)
       rw [hdst]
       have:=newob cap' e cells vl0 ((elems.drop off).take len) e4 g1 g3 g4
       rw [hll] at this ⊢
       exact this
     ·simp only [hem,if_true,Option.some.injEq] at hr
      subst hr
      have hnil:l=[]:=by simpa using hem
      refine wp_val (nop _ _ _ hnil e1 e2) (hK _ _ ?_)
      rw [hdst,hs]
      refine ⟨_,_,C.put (fun d' e'=>by cases e'; exact hdn) fun _=>?_⟩
      rw [e1] at rs; exact rs
    ·simp at hr
   ·simp at hr
  ·simp at hr
end Go.Nt
namespace Go.Nt
variable {P:Program} {X:Cx} {c:Cfg} {bl:Bl} {lb:Nat→Nat} {a:Act} {w:World}
theorem part_val {N:Nat→Prop} {st:St} {t:TypeId} {vs:Array Value} {cs:List D} {off:Nat} {n:Option Nat} {d:D} (hs:shapeOK P t n=true) (hr:Rep w N st bl (.agg vs) (.agg cs)) (hp:part cs off n=some d) :
  ∃ v,(Go.part t vs off).run P w=.ok v w∧Rep w N st bl v d:=by
 obtain ⟨h1,h2⟩:=shape_run hs w
 cases hr with
 | agg _ _ hl hc h=>
  cases n with
  | none=>
   simp only [part] at hp
   have hi:off < vs.size:=by rw [hl]; exact (List.getElem?_eq_some_iff.1 hp).1
   have hv:vs[off]?=some vs[off]:=by simp [hi]
   exact ⟨vs[off],by simp [Go.part,h1,hv],h off _ d hv hp⟩
  | some k=>
   simp only [part] at hp
   split at hp
   ·rename_i hle
    simp at hp; subst hp
    refine ⟨.agg (vs.extract off (off+k)),by simp [Go.part,h1,h2],.agg _ _ (by simp; omega) (fun i d hd=>?_) (fun i v d hv hd=>?_)⟩
    ·rw [List.getElem?_take] at hd
     split at hd
     ·rw [List.getElem?_drop] at hd; exact hc _ d hd
     ·simp at hd
    ·rw [List.getElem?_take] at hd
     split at hd
     ·rename_i hik
      rw [List.getElem?_drop] at hd
      refine h (off+i) v d ?_ hd
      rw [Array.getElem?_extract] at hv
      split at hv
      ·exact hv
      ·simp at hv
     ·simp at hd
   ·simp at hp
theorem sim_fld (C:CR X c bl lb a w) {o:Oper} {t:TypeId} {x:Operand} {x':Opd} {f off:Nat} {n:Option Nat} (ho:o.op=.field t x f) (h1:opdOK x x'=true) (hf:fieldOK P t f off n=true) {cs:List D}
  (hx:x'.ev c.1.s=.agg cs) {d:D} (hd:part cs off n=some d):GivesV P X c bl lb a w o d:=by
 have r:=opd_rep C h1
 rw [hx] at r
 have he:execOp a.eval o=(do pure (.value (←Instr.field t (a.eval x) f))):=by simp [execOp,ho]
 generalize a.eval x=y at *
 have r':RR X c bl lb w y (.agg cs):=r
 unfold fieldOK at hf
 split at hf
 ·rename_i fs hu
  split at hf
  ·rename_i fd hfd
   simp only [Bool.and_eq_true,beq_iff_eq] at hf
   obtain ⟨rfl,hs,_⟩:=hf
   cases r' with
   | agg vs ds hl hc h=>
    obtain ⟨v,hv,hr⟩:=part_val (P:=P) hs (.agg vs cs hl hc h) hd
    exact gv hr (by rw [he]; simp [Instr.field,run_underlying hu,hfd,asAgg,hv])
  ·simp at hf
 ·simp at hf
def madeOK (P:Program) (t:TypeId) (sz:Nat) (zero:D):Bool:=
 match P.underlying t with
 | some (.slice e)=>zeroOK P e zero && (zero.pure && zero.cells.length == sz)
 | _=>false
theorem sim_mksl (C:CR X c bl lb a w) {o:Oper} {t:TypeId} {x y:Operand} {x' y':Opd} {sz d:Nat} {zero:D} (ho:o.op=.makeSlice t x y) (hdst:o.dst=some d) (hdn:d < X.n) (ht:sliceT P t sz=true) (hz:madeOK P t sz zero=true)
  (h1:opdOK x x'=true) (h2:opdOK y y'=true) {k k':IntKind} {n m:Int} (hx:x'.ev c.1.s=.int k n) (hy:y'.ev c.1.s=.int k' m) (hb:0≤n∧n≤m∧m≤most)
  {K:Act→World→Prop} {Q:Exit→Act→World→Prop} (hK:∀ a' w',RelC X (apply c (some d) (.rs c.2.length 0 sz 0 n.toNat (n == m),none,some (c.2++[.cells false sz 0 0 false (List.replicate n.toNat zero)]))) a' w'→K a' w'):o.wp P a w K Q:=by
 have ex:=sr_int C h1 hx
 have ey:=sr_int C h2 hy
 unfold sliceT at ht
 unfold madeOK at hz
 split at ht
 ·rename_i e hu
  simp only [hu,Bool.and_eq_true,decide_eq_true_eq,beq_iff_eq] at ht hz
  obtain ⟨⟨⟨hs,hz0⟩,hpos,hle⟩,hby⟩:=ht
  obtain ⟨hzo,hzp,hzl⟩:=hz
  unfold sizeOK at hs
  obtain ⟨z,hzr,hzc⟩:=zero_run hzo w
  cases hi:P.info? e with
  | none=>simp [hi] at hs
  | some ie=>
   simp [hi] at hs hby
   cases hzz:ie.zero with
   | none=>simp [hi,hzz] at hz0
   | some z1=>
    have hz1:z1=z:=by simpa [zeroValue,typeInfo,hi,hzz] using hzr
    subst hz1
    simp [hi,hzz] at hz0
    subst hs
    have hm:m≤134217728:=by have h3:=hb.2.2; have h4:most=134217728:=rfl; omega
    have hbytes:(ie.bytes:Int) * m≤281474976710656:=by
     have:(ie.bytes:Int) * m≤65536 * 134217728:=Int.mul_le_mul (by omega) hm (by omega) (by omega)
     omega
    have hrun:=run_make (P:=P) w t e ie z1 hu hi hzz k k' n m hb.1 hb.2.1 hbytes (by omega)
    have A:=alloc_al w (.cells (madeCells z1.cells (m.toNat * ie.size)) e)
    have hAs:=A.size
    have E:=(new_ext C.heap A (.cells false ie.size 0 0 false (List.replicate n.toNat zero))).ext (L:=X.LL c.1.b lb)
    have hels:Els (w.alloc (.cells (madeCells z1.cells (m.toNat * ie.size)) e)) (NN (X.LL c.1.b lb) (c.2++[.cells false ie.size 0 0 false (List.replicate n.toNat zero)]) (fun i=>if i=c.2.length then w.heap.size else bl i))
      (c.2++[.cells false ie.size 0 0 false (List.replicate n.toNat zero)]) (fun i=>if i=c.2.length then w.heap.size else bl i) ie.size (List.replicate n.toNat z1) (List.replicate n.toNat zero):=by
     refine ⟨by simp,fun i u q hu hq=>?_⟩
     have e1:=(List.mem_replicate.1 (List.mem_of_getElem? hu)).2
     have e2:=(List.mem_replicate.1 (List.mem_of_getElem? hq)).2
     subst e1 e2
     exact ⟨const_rep hzc,hzp,hzl⟩
    have hnm:n.toNat≤m.toNat:=by omega
    have C':=C.objNew (ob:=.cells false ie.size 0 0 false (List.replicate n.toNat zero)) A
     ⟨madeCells z1.cells (m.toNat * ie.size),e,0,0,A.new,fun _ _ _=>by omega,⟨by rw [size_madeCells,List.length_replicate]; exact Nat.mul_le_mul_right _ hnm,tag_zero⟩,
      els_ob hpos hels _ fun q hq=>by
       rw [List.length_replicate] at hq
       have hq':q < m.toNat * ie.size:=Nat.lt_of_lt_of_le hq (Nat.mul_le_mul_right _ hnm)
       rw [Great.flat_get hpos _ hels.sizes,List.getElem?_replicate,if_pos ((Nat.div_lt_iff_lt_mul hpos).2 hq)]
       have hmod:q % ie.size < z1.cells.size:=by rw [hz0]; exact Nat.mod_lt _ hpos
       simp only [madeCells,Array.getElem?_map,Array.getElem?_range,hq',if_true,Option.map_some,Option.bind_some,hz0]
       rw [getElem!_pos z1.cells _ hmod]; exact (Array.getElem?_eq_getElem hmod).symm⟩
    refine wp_val (v:=.slice (some ⟨w.heap.size,0,none⟩) n.toNat m.toNat) (w':=w.alloc (.cells (madeCells z1.cells (m.toNat * ie.size)) e)) (by simp only [execOp,ho,ex,ey,Sem.run_bind,hrun,Result.andThen_ok,Sem.run_pure]) (hK _ _ ?_)
    rw [hdst,apply_heap]
    refine ⟨_,_,C'.put (fun d' e'=>by cases e'; exact hdn) fun _=>Rep.slot _ _ ?_⟩
    refine .rs _ _ _ _ _ _ _ _ (by simp) (by simp) (by omega) (fun h=>by rw [eq_of_beq h]) fun _=>⟨fun _=>by simp,_,e,(0,0),by simp only [↓reduceIte]; exact A.new,by simp [size_madeCells]⟩
 ·simp at ht
end Go.Nt
namespace Go.Nt
variable {P:Program} {X:Cx} {c:Cfg} {bl:Bl} {lb:Nat→Nat} {a:Act} {w:World}
theorem tagOf_mul (ty:Nat):tagOf ((ty+1) * tagB)=ty+1:=Nat.mul_div_cancel _ (by decide)
theorem tag_mul {ty:TypeId} {n size:Nat}:TagOK false ((ty+1) * tagB) ty n size:=fun _=>⟨(tagOf_mul ty).symm,fun h=>by cases h⟩
theorem append_growT {ts:Array TypeId} {ty:TypeId} {sz sLen sCap n:Nat} {p:Option Addr} {x:Value} {olds news:Array Value} (ht:appT P ts sz=true) (hx:(Builtin.lenOf x).run P w=.ok n w)
  (ho:∀ w',w'.heap=w.heap→(Builtin.firstCells sz sLen (.slice p sLen sCap)).run P w'=.ok olds w') (hf:∀ w',w'.heap=w.heap→(Builtin.firstCells sz n x).run P w'=.ok news w')
  (h:¬ sLen+n≤sCap) (hl:olds.size=sLen * sz) (hn:news.size=n * sz) (hb:sLen+n≤268435456) :
  ∃ cap e cells,(∀ t0,ts[0]?=some t0→P.underlying t0=some (.slice e))∧(sLen+n≤cap∧cap≤9223372036854775807)∧(Builtin.append_ ts ty #[.slice p sLen sCap,x]).run P w=.ok (.slice (some ⟨w.heap.size,0,none⟩) (sLen+n) cap) (w.drew.alloc (.cells cells e))∧cells.size=cap * sz ∧
   ∀ k,k < (sLen+n) * sz→cells[k]?=(olds++news)[k]?:=by
 obtain ⟨t0,t1,e,d1,ie,z,h0,h1,hu,hi,rfl,hz,hzs,hpos,hle,hby,hd1,hd2⟩:=appT_run ht
 have hsz:∀ w',(sizeOf e).run P w'=.ok ie.size w':=fun w'=>by simp [sizeOf,typeInfo,hi]
 have hzv:∀ w',(zeroValue e).run P w'=.ok z w':=fun w'=>by simp [zeroValue,typeInfo,hi,hz]
 have hcap:=nextcap_le (show sCap < sLen+n by omega)
 have hbig:¬ (Builtin.nextslicecap (sLen+n) sCap * ie.bytes > 2 ^ 48):=by
  have:Builtin.nextslicecap (sLen+n) sCap * ie.bytes≤(2 * 268435456+200) * 65536:=Nat.mul_le_mul (by omega) hby
  omega
 refine ⟨(Question.appendCap (sLen+n) sCap e).cut (w.tape w.drawn (.appendCap (sLen+n) sCap e)),e,
  olds++news++Builtin.zeroCells z.cells ((Question.appendCap (sLen+n) sCap e).cut (w.tape w.drawn (.appendCap (sLen+n) sCap e)) - (sLen+n)),fun t0' h0'=>by rw [h0] at h0'; cases h0'; exact hu,?_,?_,?_,?_⟩
 ·have hlt:=Nat.mod_lt (w.tape w.drawn (.appendCap (sLen+n) sCap e)) (show 0 < 2 ^ 63 - (sLen+n) by omega)
  simp only [Question.cut]; omega
 ·have e1:=ho w.drew rfl
  have e2:=hf w.drew rfl
  simp only [Builtin.append_,h0,h1]
  rcases hd2 with ⟨e',rfl⟩ | rfl <;> simp [run_underlying hu,run_underlying hd1,hsz,hx,h,typeInfo,hi,hbig,Question.forced,e1,e2,hzv,newRow] <;> (intro hh; omega)
 ·simp only [Array.size_append,hl,hn,Builtin.zeroCells,Array.size_map,Array.size_range,hzs]
  rw [←Nat.add_mul,←Nat.add_mul]
  congr 1
  simp only [Question.cut]; omega
 ·intro k hk
  rw [Array.getElem?_append_left (by simp only [Array.size_append,hl,hn]; rw [←Nat.add_mul]; exact hk)]
theorem sim_appT (C:CR X c bl lb a w) {o:Oper} {cl:Call} {s x:Operand} {s' x':Opd} {sz d:Nat} {l:List D} {r:D × St} (ho:o.op=.call cl) (hc:cl.callee=.builtin .append) (hargs:cl.args=#[s,x]) (ht:appT P cl.argTypes sz=true)
  (hdst:o.dst=some d) (hdn:d < X.n) (h1:opdOK s s'=true) (h2:opdOK x x'=true)
  (hl:srcD c.2 sz (x'.ev c.1.s)=some l) {ty:TypeId} (hty:∀ t0,cl.argTypes[0]?=some t0→P.underlying t0=some (.slice ty)) (hr:appendTD ty c.2 (s'.ev c.1.s) l sz=some r)
  {K:Act→World→Prop} {Q:Exit→Act→World→Prop} (hK:∀ a' w',RelC X (apply c (some d) (r.1,none,some r.2)) a' w'→K a' w'):o.wp P a w K Q:=by
 obtain ⟨_,_,_,_,_,_,_,_,_,_,_,_,_,hpos,_⟩:=appT_run ht
 have rx:RR X c bl lb w (a.eval x) (x'.ev c.1.s):=(opd_rep C h2).rep fun b g off e=>by rw [e] at hl; simp [srcD,listD] at hl
 obtain ⟨vl1,hlen,hfirst,E1⟩:=src_run (P:=P) hpos C.heap rx hl
 have rs:=opd_rep C h1
 have he:∀ v w',(Builtin.append_ cl.argTypes o.type #[a.eval s,a.eval x]).run P w=.ok v w'→(execOp a.eval o).run P w=.ok (.value v) w':=by
  intro v w' h
  simp [execOp,ho,resolve,hc,hargs,invoke,builtin,h]
 have hfl1:=flat_len E1.sizes
 have nop:∀ p cap len,l=[]→a.eval s=.slice p len cap→len≤cap→(execOp a.eval o).run P w=.ok (.value (.slice p len cap)) w:=by
  intro p cap len hnil hs hle
  subst hnil
  have hvl:vl1=[]:=List.eq_nil_of_length_eq_zero E1.1
  subst hvl
  refine he _ _ ?_
  rw [hs]
  have:=append_room (P:=P) (ty:=o.type) (sLen:=len) (sCap:=cap) (n:=0) (p:=p) (w':=w) ht hlen (hfirst w rfl) (by simpa using hle) (by cases p <;> simp [storeCells])
  simpa using this
 have fresh:∀ p cap vl0 (l0:List D),a.eval s=.slice p l0.length cap→l≠[]→¬ l0.length+l.length≤cap→l0.length+l.length≤268435456→Els w (NX X c bl lb) c.2 bl sz vl0 l0 →
   (∀ (i:Nat) (u:Value),vl0[i]?=some u→∃ q:Addr,p=some q∧q.spot=none∧∀ (j:Nat) (x:Value),u.cells[j]?=some x→w.cell? ⟨q.block,q.off+i * sz+j,none⟩=some x) →
   ∃ cap' cells,(l0.length+l.length≤cap'∧cap'≤9223372036854775807)∧(execOp a.eval o).run P w=.ok (.value (.slice (some ⟨w.heap.size,0,none⟩) (l0.length+l.length) cap')) (w.drew.alloc (.cells cells ty))∧cells.size=cap' * sz ∧
    ∀ k,k < (vl0++vl1).length * sz→cells[k]?=((vl0++vl1).flatMap fun v=>v.cells.toList)[k]?:=by
  intro p cap vl0 l0 hs hne hcap hbound E0 hm
  have hf0:=flat_len E0.sizes
  obtain ⟨cap',e,cells,gt,g1,g2,g3,g4⟩:=append_growT (P:=P) (ty:=o.type) (p:=p) (sLen:=l0.length) (sCap:=cap) (n:=l.length) ht hlen
   (fun w' hw=>firstCells_run hpos E0.1.symm E0.sizes fun i u hu=>by
    obtain ⟨q,q1,q2,q3⟩:=hm i u hu
    exact ⟨q,q1,q2,fun j x hx=>by rw [cell_heap hw]; exact q3 j x hx⟩) hfirst hcap (by simp only [List.size_toArray,hf0,E0.1]) (by simp only [List.size_toArray,hfl1,E1.1]) hbound
  obtain ⟨t0,_,_,_,_,_,q0,_⟩:=appT_run ht
  have ee:e=ty:=by have q1:=gt t0 q0; have q2:=hty t0 q0; rw [q1] at q2; cases q2; rfl
  subst ee
  refine ⟨cap',cells,g1,he _ _ (by rw [hs]; exact g2),g3,fun k hk=>?_⟩
  rw [List.length_append,E0.1,E1.1] at hk
  rw [g4 k hk,List.flatMap_append]
  simp
 have newob:∀ cap' cells vl0 (l0:List D),Els w (NX X c bl lb) c.2 bl sz vl0 l0→l0.length+l.length≤cap'∧cap'≤9223372036854775807→cells.size=cap' * sz→(∀ k,k < (vl0++vl1).length * sz→cells[k]?=((vl0++vl1).flatMap fun v=>v.cells.toList)[k]?) →
   RelC X (apply c (some d) (.rs c.2.length ((ty+1) * tagB) sz 0 (l0.length+l.length) false,none,some (c.2++[.cells false sz ((ty+1) * tagB) 0 false (l0++l)]))) (a.put (some d) (.slice (some ⟨w.heap.size,0,none⟩) (l0.length+l.length) cap')) (w.drew.alloc (.cells cells ty)):=by
  intro cap' cells vl0 l0 E0 hle hsz hcells
  have A:=drewAl w (.cells cells ty)
  have E:=(new_ext C.heap A (.cells false sz ((ty+1) * tagB) 0 false (l0++l))).ext (L:=X.LL c.1.b lb)
  have hAs:=A.size
  have C':=C.objNew (ob:=.cells false sz ((ty+1) * tagB) 0 false (l0++l)) A ⟨cells,ty,0,0,A.new,fun _ _ _=>by omega,⟨by rw [hsz,List.length_append]; exact Nat.mul_le_mul_right sz hle.1,tag_mul⟩,
   els_ob hpos ((E0.append E1).ext E (by omega)) cells hcells⟩
  rw [apply_heap]
  refine ⟨_,_,C'.put (fun d' e'=>by cases e'; exact hdn) fun _=>Rep.slot _ _ ?_⟩
  refine .rs _ _ _ _ _ _ _ _ (by simp) (by rw [at_append_self]; exact Nat.le_refl _) (by omega) (by simp) fun _=>⟨fun _=>by simp,cells,ty,(0,0),by simp only [↓reduceIte]; exact A.new,by simp [hsz]⟩
 unfold appendTD at hr
 split at hr
 ·simp at hr
 ·rename_i hmost
  have hml:l.length≤134217728:=by unfold most at hmost; omega
  split at hr
  ·rename_i hs
   rw [hs] at rs
   have hy:a.eval s=.slice none 0 0:=by
    generalize a.eval s=y at rs
    cases (show Rep w (NX X c bl lb) c.2 bl y .nils from rs)
    rfl
   cases hem:l.isEmpty
   ·simp only [hem,Bool.false_eq_true,if_false,Option.some.injEq] at hr
    subst hr
    have hne:l≠[]:=by intro e; subst e; simp at hem
    have hlp:0 < l.length:=List.length_pos_iff.2 hne
    obtain ⟨cap',cells,g1,g2,g3,g4⟩:=fresh none 0 [] [] hy hne (by simp; omega) (by simp; omega) ⟨rfl,fun i u y h=>by simp at h⟩ (fun i u h=>by simp at h)
    refine wp_val g2 (hK _ _ ?_)
    rw [hdst]
    have:=newob cap' cells [] [] ⟨rfl,fun i u y h=>by simp at h⟩ g1 g3 g4
    simpa using this
   ·simp only [hem,if_true,Option.some.injEq] at hr
    subst hr
    have hnil:l=[]:=by simpa using hem
    refine wp_val (nop none 0 0 hnil hy (Nat.le_refl _)) (hK _ _ ?_)
    rw [hdst]
    exact ⟨_,_,C.put (fun d' e'=>by cases e'; exact hdn) fun _=>Rep.slot _ _ .nils⟩
  ·rename_i id ver sz' off len full hs
   rw [hs] at rs
   split at hr
   ·rename_i sz'' ver' mod fr elems hob
    split at hr
    ·rename_i hcon
     obtain ⟨rfl,rfl,rfl,hoff,hel⟩:=hcon
     have hls:listD c.2 sz' (.rs id ver' sz' off len full)=some ((elems.drop off).take len):=by simp [listD,hob,hoff]
     have hll:((elems.drop off).take len).length=len:=by simp; omega
     obtain ⟨p,cap,vl0,e1,e2,e3,e4,e5⟩:=slice_els C.heap (show RR X c bl lb w (a.eval s) (.rs id ver' sz' off len full) from rs) hls
     rw [hll] at e1 e2
     have hmo:elems.length≤134217728:=by unfold most at hel; exact hel
     cases hem:l.isEmpty
     ·simp only [hem,Bool.false_eq_true,if_false] at hr
      have hne:l≠[]:=by intro e; subst e; simp at hem
      have hlp:0 < l.length:=List.length_pos_iff.2 hne
      ·split at hr
       ·rename_i hcon2
        obtain ⟨hfu,rfl,rfl,hv1,hv2⟩:=hcon2
        simp only [Option.some.injEq] at hr
        subst hr
        have hid:(id < c.2.length∧cap≤9223372036854775807)∧((cap≠0→p=some ⟨bl id,0,none⟩)∧∃ c0 e0 f0,w.heap[bl id]?=some (.cells c0 e0 f0)∧cap * sz'≤c0.size):=by
         rw [e1] at rs
         cases (show Rep w (NX X c bl lb) c.2 bl (.slice p len cap) (.rs id ver' sz' 0 len full) from rs) with
         | rs _ _ _ _ _ _ p' _ hid hv hc' hf' ha=>
          obtain ⟨k1,c0,e0,f0,k2,k3⟩:=ha (by rw [hob]; rfl)
          exact ⟨⟨hid,hc'.2⟩,fun h=>by rw [k1 h]; simp,c0,e0,f0,k2,by simpa using k3⟩
        obtain ⟨⟨hid,hcb⟩,hp,c0,e0,⟨lo,hi⟩,hc0,hroom⟩:=hid
        have hO:=C.heap.obj id hid
        rw [hob] at hO
        obtain ⟨cur,e1',lo',hi',hcur,hfro0,⟨hcsz,htag⟩,_⟩:=hO
        have hfro:=hfro0 rfl
        rw [hc0] at hcur
        simp only [Option.some.injEq,Obj.cells.injEq,Prod.mk.injEq] at hcur
        obtain ⟨rfl,rfl,rfl,rfl⟩:=hcur
        by_cases hrm:len+l.length≤cap
        ·have hpq:=hp (by omega)
         subst hpq
         have hmul:=Nat.mul_le_mul_right sz' hrm
         rw [Nat.add_mul] at hmul
         have hnl:(vl1.flatMap fun v=>v.cells.toList).length=l.length * sz':=by rw [hfl1,E1.1]
         obtain ⟨w',hst,W⟩:=storeCells_run (P:=P) (len * sz') (vl1.flatMap fun v=>v.cells.toList) 0 c0 w hc0 (fun k hk=>hfro k (Nat.le_of_lt hk)) (by omega) E1.one
         have happ:=append_room (P:=P) (ty:=o.type) (sLen:=len) (sCap:=cap) (p:=some ⟨bl id,0,none⟩) (w':=w') ht hlen (hfirst w rfl) hrm (by
          simp only [Addr.add_mid,Nat.zero_add]; exact hst)
         have E:=upd_ext (w':=w') C.heap hid (by rw [hob]; rfl) (.cells false sz' (ver'+1) (mod+1) false (elems.take len++l)) (bl id) W.os W.tape W.output (Nat.le_of_eq W.size.symm) (fun k _ hk=>W.same k hk) (.inl rfl)
          (.inl (by rw [hob]; exact Nat.lt_succ_self _)) (by rw [hob]; exact Nat.lt_succ_self _) (by rw [hob]; simp [Ob.isMap])
         have hps:(putA c0 (len * sz'+0) (vl1.flatMap fun v=>v.cells.toList)).size=c0.size:=putA_size _ _ _ (by omega)
         have H':=C.heap.upd C.bound hid E (fun k _ hk=>W.same k hk) (.inl rfl) (by
          refine ⟨_,e0,lo,hi,W.new,fun _=>by rw [hps]; exact hfro,⟨?_,fun g=>by
            have:=htag (by rw [hv1]; omega)
            rw [hv2]; rw [hv1] at this
            exact ⟨this.1,fun h=>by cases h⟩⟩,?_⟩
          ·rw [hps,List.length_append]
           have:(elems.take len).length=len:=by simp; omega
           rw [this,Nat.add_mul]; omega
          ·refine els_ob hpos (Els.ext (E.ext (L:=X.LL c.1.b lb)) (Nat.le_of_eq W.size.symm) (by have:=e4.append E1; simpa using this)) _ fun k hk=>?_
           rw [List.length_append,e4.1,hll,E1.1,Nat.add_mul] at hk
           have hf0:=flat_len e4.sizes
           rw [e4.1,hll] at hf0
           rw [putA_get _ _ _ (by omega),List.flatMap_append]
           by_cases hk2:k < len * sz'
           ·rw [if_neg (by omega),List.getElem?_append_left (by omega),Great.flat_get hpos vl0 e4.sizes]
            have hi:k / sz' < vl0.length:=by rw [e4.1,hll]; exact (Nat.div_lt_iff_lt_mul hpos).2 hk2
            rw [List.getElem?_eq_getElem hi]
            obtain ⟨q,q1,q2,q3⟩:=e5 _ _ (List.getElem?_eq_getElem hi)
            simp at q1; subst q1
            have hsz0:=e4.sizes _ (List.getElem_mem hi)
            have hj:k % sz' < (vl0[k / sz'].cells).size:=by rw [hsz0]; exact Nat.mod_lt _ hpos
            have:=q3 (k % sz') _ (Array.getElem?_eq_getElem hj)
            rw [cell_of_row _ _ _ _ _ _ hc0] at this
            simp only [Nat.zero_add] at this
            rw [show k / sz' * sz'+k % sz'=k by have:=Nat.div_add_mod k sz'; rw [Nat.mul_comm] at this; exact this] at this
            rw [this]
            simp [hj]
           ·rw [if_pos (by omega),List.getElem?_append_right (by omega),hf0]
            rfl)
         rw [upd_same] at E H'
         refine wp_val (he _ _ (by rw [e1]; exact happ)) (hK _ _ ?_)
         rw [hdst,apply_heap]
         refine ⟨bl,lb,(C.go E H').put (fun d' e'=>by cases e'; exact hdn) fun _=>Rep.slot _ _ ?_⟩
         refine .rs _ _ _ _ _ _ _ _ (by simpa using hid) (by rw [at_set _ _ _ _ hid,if_pos rfl]; exact Nat.le_refl _) ⟨hrm,hcb⟩ (by simp) fun _=>⟨fun _=>by simp,_,e0,(lo,hi),W.new,by rw [hps]; simpa using hroom⟩
        ·obtain ⟨cap',cells,g1,g2,g3,g4⟩:=fresh p cap vl0 ((elems.drop 0).take len) (by rw [hll]; exact e1) hne (by rw [hll]; exact hrm) (by rw [hll]; omega) e4 e5
         rw [hll] at g1 g2
         have A:=drewAl w (.cells cells ty)
         have hAs:=A.size
         have E:=upd_ext (w':=w.drew.alloc (.cells cells ty)) C.heap hid (by rw [hob]; rfl) (.cells false sz' (ver'+1) (mod+1) false (elems.take len++l)) w.heap.size A.os A.tape A.output (by omega) (fun k hk _=>A.same k hk) (.inr (Nat.le_refl _))
          (.inl (by rw [hob]; exact Nat.lt_succ_self _)) (by rw [hob]; exact Nat.lt_succ_self _) (by rw [hob]; simp [Ob.isMap])
         have H':=C.heap.upd C.bound hid E (fun k hk _=>A.same k hk) (.inr (Nat.le_refl _)) (by
          refine ⟨cells,ty,0,0,A.new,fun _ _ _=>by omega,⟨?_,fun _=>⟨hv2.symm,fun h=>by cases h⟩⟩,els_ob hpos (Els.ext (E.ext (L:=X.LL c.1.b lb)) (by omega) (by have:=e4.append E1; simpa using this)) cells g4⟩
          rw [g3,List.length_append]
          have:(elems.take len).length=len:=by simp; omega
          rw [this]; exact Nat.mul_le_mul_right _ g1.1)
         refine wp_val g2 (hK _ _ ?_)
         rw [hdst,apply_heap]
         refine ⟨_,lb,(C.go E H').put (fun d' e'=>by cases e'; exact hdn) fun _=>Rep.slot _ _ ?_⟩
         refine .rs _ _ _ _ _ _ _ _ (by simpa using hid) (by rw [at_set _ _ _ _ hid,if_pos rfl]; exact Nat.le_refl _) g1 (by simp) fun _=>⟨fun _=>by simp,cells,ty,(0,0),by simp only [↓reduceIte]; exact A.new,by rw [g3]; simp⟩
       ·simp at hr
     ·simp only [hem,if_true,Option.some.injEq] at hr
      subst hr
      have hnil:l=[]:=by simpa using hem
      refine wp_val (nop _ _ _ hnil e1 e2) (hK _ _ ?_)
      rw [hdst,hs]
      refine ⟨_,_,C.put (fun d' e'=>by cases e'; exact hdn) fun _=>?_⟩
      rw [e1] at rs; exact rs
    ·simp at hr
   ·simp at hr
  ·simp at hr
theorem sim_boxT (C:CR X c bl lb a w) {o:Oper} {e:TypeId} {v:Value} {x:D} {d n:Nat} (hrun:(execOp a.eval o).run P w=.ok (.value (.pointer (some ⟨w.heap.size,0,none⟩))) (w.alloc (.cells v.cells e)))
  (hdst:o.dst=some d) (hd:d < X.n) (hv:SR X c bl lb w v x) (hf:x.fits (some n)=true) {K:Act→World→Prop} {Q:Exit→Act→World→Prop}
  (hK:∀ a' w',RelC X (apply c (some d) (.hp c.2.length ((e+1) * tagB) n 0 0,none,some (c.2++[.cells true n ((e+1) * tagB) 0 false [x]]))) a' w'→K a' w'):o.wp P a w K Q:=by
 obtain ⟨h1,h2,h3⟩:=fits_all hv hf
 obtain ⟨_,hs,hc⟩:=sr_cells hv h1
 have A:=alloc_al w (.cells v.cells e)
 have E:=(new_ext C.heap A (.cells true n ((e+1) * tagB) 0 false [x])).ext (L:=X.LL c.1.b lb)
 have hsz:=A.size
 have h2':x.cells.length=n:=h2
 have C':=C.objNew (ob:=.cells true n ((e+1) * tagB) 0 false [x]) A (by
  refine ⟨v.cells,e,0,0,A.new,fun _ _ _=>by omega,⟨by simp [hs,h2'],fun _=>⟨(tagOf_mul e).symm,fun _=>by simp [hs,h2']⟩⟩,fun i y hy=>?_⟩
  cases i with
  | succ i=>simp at hy
  | zero=>
   simp at hy; subst hy
   exact ⟨h2',h3,by simp,fun j u hu=>by have:=(hc j u hu).ext E (by omega); simpa using this⟩)
 refine wp_val hrun (hK _ _ ?_)
 rw [hdst,apply_heap]
 refine ⟨_,_,C'.put (fun d' e'=>by cases e'; exact hd) fun _=>Rep.slot _ _ ?_⟩
 refine .hp _ _ _ _ _ _ (by simp) (by rw [at_append_self]; exact Nat.le_refl _) fun _=>?_
 simp
end Go.Nt
namespace Go.Nt
open Go
variable {P:Program} {X:Cx} {c:Cfg} {bl:Bl} {lb:Nat→Nat} {a:Act} {w:World}
def mapOK (P:Program) (t:TypeId) (kk:Kd):Bool:=
 match P.underlying t with
 | some (.map k _)=>(match P.underlying k with
  | some .string=>kk == .str
  | some (.int _)=>kk == .int
  | _=>false)
 | _=>false
def mapZ (P:Program) (t:TypeId) (zero:D):Bool:=
 match P.underlying t with
 | some (.map _ e)=>zeroOK P e zero
 | _=>false
theorem mapOK_eq {t:TypeId} {kk:Kd} (h:mapOK P t kk=true):∃ k e d,P.underlying t=some (.map k e)∧P.underlying k=some d∧((d=.string∧kk=.str)∨((∃ i,d=.int i)∧kk=.int)):=by
 unfold mapOK at h
 split at h
 ·rename_i k e hu
  split at h
  ·rename_i hk
   exact ⟨k,e,_,hu,hk,.inl ⟨rfl,by simpa using h⟩⟩
  ·rename_i i hk
   exact ⟨k,e,_,hu,hk,.inr ⟨⟨i,rfl⟩,by simpa using h⟩⟩
  ·cases h
 ·cases h
theorem setBlk (w:World) (b:Nat) (o o':Obj) (h:w.heap[b]?=some o):Wr w { w with heap:=w.heap.setIfInBounds b o' } b o':=by
 have hb:b < w.heap.size:=(Array.getElem?_eq_some_iff.1 h).1
 refine ⟨rfl,rfl,rfl,by simp,fun k hk=>?_,?_⟩
 ·simp only [Array.getElem?_setIfInBounds,if_neg (Ne.symm hk)]
 ·simp [hb]
theorem seek_lt {kk:Kd} {k:D}:∀ {ents:List (D × D)} {i j:Nat} {v:D},seekD kk k ents i=some (some (j,v))→i≤j∧∃ x,ents[j - i]?=some x∧x.2=v∧keyD kk k x.1=some true
 | [],i,j,v,h=>by simp [seekD] at h
 | x::r,i,j,v,h=>by
  unfold seekD at h
  split at h
  ·simp only [Option.some.injEq,Prod.mk.injEq] at h
   obtain ⟨rfl,rfl⟩:=h
   exact ⟨Nat.le_refl _,x,by simp,rfl,by assumption⟩
  ·obtain ⟨h1,y,h2,h3,h4⟩:=seek_lt h
   refine ⟨by omega,y,?_,h3,h4⟩
   rw [show j - i=(j - (i+1))+1 by omega,List.getElem?_cons_succ]; exact h2
  ·cases h
theorem key_val {N:Nat→Prop} {st:St} {kk:Kd} {d:TypeDesc} (hd:(d=.string∧kk=.str)∨((∃ i,d=.int i)∧kk=.int)) {u v:Value} {x y:D} {b:Bool} (hu:Rep w N st bl u x) (hv:Rep w N st bl v y) (h:keyD kk x y=some b) :
  Instr.sameNow d u v=some b∧(b=true→Instr.sameBits 10000 v u=true):=by
 unfold keyD at h
 split at h
 ·rename_i j p j' q
  cases hu; cases hv
  obtain ⟨i,rfl⟩:∃ i,d=.int i:=by
   rcases hd with ⟨_,h0⟩ | ⟨h0,_⟩
   ·cases h0
   ·exact h0
  split at h
  ·rename_i hj
   simp only [Option.some.injEq] at h
   subst h; subst hj
   refine ⟨by simp [Instr.sameNow],fun hb=>?_⟩
   simp only [Instr.sameBits,Bool.and_eq_true,beq_iff_eq] at hb ⊢
   exact ⟨trivial,hb.symm⟩
  ·cases h
 ·rename_i p q
  generalize hp:D.str p=x at hu
  generalize hq:D.str q=y at hv
  cases hu <;> cases hp
  cases hv <;> cases hq
  rename_i s1 s2
  simp only [Option.some.injEq] at h
  obtain rfl:d=.string:=by
   rcases hd with ⟨h0,_⟩ | ⟨_,h0⟩
   ·exact h0
   ·cases h0
  have e:(s1 == s2)=(s1.data.toList == s2.data.toList):=by
   rw [Bool.eq_iff_iff,MapKept.bytes_beq,beq_iff_eq]
   constructor
   ·rintro rfl; rfl
   ·intro h
    cases s1; cases s2
    simp only [Array.toList_inj] at h
    rw [h]
  subst h
  refine ⟨by simp [Instr.sameNow,e],fun hb=>?_⟩
  have h1:=(MapKept.bytes_beq s1 s2).1 (e.trans hb)
  simp only [Instr.sameBits]
  exact (MapKept.bytes_beq s2 s1).2 h1.symm
 ·cases h
theorem find_run {N:Nat→Prop} {st:St} {kk:Kd} {d:TypeDesc} (hd:(d=.string∧kk=.str)∨((∃ i,d=.int i)∧kk=.int)) {kv:Value} {k:D} (hk:Rep w N st bl kv k) :
  ∀ (es:List MapEntry) (ents:List (D × D)) (i:Nat) (r:Option (Nat × D)),es.length=ents.length→(∀ (j:Nat) (e:MapEntry) (x:D × D),es[j]?=some e→ents[j]?=some x→Rep w N st bl e.key x.1)→seekD kk k ents i=some r →
  Instr.findNow d kv es i=some (r.map fun x=>(x.1,((es[x.1 - i]?).map (·.val)).getD undef))
 | [],[],i,r,_,_,h=>by
  simp only [seekD,Option.some.injEq] at h
  subst h; rfl
 | [],_::_,_,_,h,_,_=>by simp at h
 | _::_,[],_,_,h,_,_=>by simp at h
 | e::es,x::ents,i,r,hl,hr,h=>by
  unfold seekD at h
  split at h
  ·rename_i hq
   obtain ⟨h1,_⟩:=key_val hd hk (hr 0 e x rfl rfl) hq
   simp only [Option.some.injEq] at h
   subst h
   simp [Instr.findNow,h1]
  ·rename_i hq
   obtain ⟨h1,_⟩:=key_val hd hk (hr 0 e x rfl rfl) hq
   have:=find_run hd hk es ents (i+1) r (by simpa using hl) (fun j e x he hx=>hr (j+1) e x (by simpa using he) (by simpa using hx)) h
   simp only [Instr.findNow,h1,this]
   cases r with
   | none=>rfl
   | some y=>
    obtain ⟨j,v⟩:=y
    obtain ⟨hij,_⟩:=seek_lt h
    simp only [Option.map_some,Option.some.injEq,Prod.mk.injEq,true_and]
    rw [show j - i=(j - (i+1))+1 by omega,List.getElem?_cons_succ]
  ·cases h
theorem check_key {k:TypeId} {d:TypeDesc} {kk:Kd} (hk:P.underlying k=some d) (hd:(d=.string∧kk=.str)∨((∃ i,d=.int i)∧kk=.int)) (e:Bool) (v:Value):(Instr.checkKey e 10000 k v).run P w=.ok () w:=by
 unfold Instr.checkKey
 simp only [Sem.run_bind,run_underlying hk,Result.andThen_ok]
 rcases hd with ⟨rfl,_⟩ | ⟨⟨i,rfl⟩,_⟩ <;> cases v <;> rfl
theorem findKey_run {k:TypeId} {d:TypeDesc} {kk:Kd} (hu:P.underlying k=some d) (hd:(d=.string∧kk=.str)∨((∃ i,d=.int i)∧kk=.int)) {N:Nat→Prop} {st:St} {kv:Value} {kd:D} (hk:Rep w N st bl kv kd)
  {es:Array MapEntry} {ents:List (D × D)} {r:Option (Nat × D)} (hl:es.size=ents.length) (hr:∀ (j:Nat) (e:MapEntry) (x:D × D),es[j]?=some e→ents[j]?=some x→Rep w N st bl e.key x.1) (h:seekD kk kd ents 0=some r) :
  (Instr.findKey k kv es.toList).run P w=.ok (r.map fun x=>(x.1,((es[x.1]?).map (·.val)).getD undef)) w:=by
 have:=find_run hd hk es.toList ents 0 r (by simpa using hl) (fun j e x he hx=>hr j e x (by simpa using he) hx) h
 simp only [Nat.sub_zero,Array.getElem?_toList] at this
 unfold Instr.findKey
 simp only [Sem.run_bind,run_underlying hu,Result.andThen_ok,this]
 rfl
theorem sim_mkmap (C:CR X c bl lb a w) {o:Oper} {t:TypeId} {d:Nat} (ho:o.op=.makeMap t none) (hdst:o.dst=some d) (hd:d < X.n) {K:Act→World→Prop} {Q:Exit→Act→World→Prop}
  (hK:∀ a' w',RelC X (apply c (some d) (.mp c.2.length,none,some (c.2++[.map 0 []]))) a' w'→K a' w'):o.wp P a w K Q:=by
 have A:=alloc_al w (.map #[] 0)
 have hsz:=A.size
 have C':=C.objNew (ob:=.map 0 []) A ⟨#[],0,A.new,⟨rfl,rfl,fun i e h=>by simp at h⟩,fun i e x h=>by simp at h⟩
 refine wp_val (v:=.map (some w.heap.size)) (w':=w.alloc (.map #[] 0)) ?_ (hK _ _ ?_)
 ·have h0:(newObj (.map #[] 0)).run P w=.ok w.heap.size (w.alloc (.map #[] 0)):=rfl
  simp [execOp,ho,Instr.makeMap,h0]
 ·rw [hdst,apply_heap]
  refine ⟨_,_,C'.put (fun d' e'=>by cases e'; exact hd) fun _=>Rep.slot _ _ ?_⟩
  have:=Rep.mp (w:=w.alloc (.map #[] 0)) (N:=NN (X.LL c.1.b lb) (c.2++[.map 0 []]) (fun i=>if i=c.2.length then w.heap.size else bl i)) (st:=c.2++[.map 0 []]) (bl:=fun i=>if i=c.2.length then w.heap.size else bl i) c.2.length (by simp) (by rw [at_append_self]; rfl)
  simpa using this
theorem map_at (C:CR X c bl lb a w) {x:Operand} {x':Opd} (h1:opdOK x x'=true) {id:Nat} (hx:x'.ev c.1.s=.mp id):id < c.2.length∧(St.at c.2 id).isMap=true∧a.eval x=.map (some (bl id)):=by
 have r:=opd_rep C h1
 rw [hx] at r
 generalize a.eval x=y at r
 cases (show Rep w (NX X c bl lb) c.2 bl y (.mp id) from r) with
 | mp _ hi hm=>exact ⟨hi,hm,rfl⟩
theorem sim_look (C:CR X c bl lb a w) {o:Oper} {t:TypeId} {m k:Operand} {m' k':Opd} {kk:Kd} {zero:D} {ok:Bool} (ho:o.op=.lookup t m k ok) (ht:mapOK P t kk=true) (hz:mapZ P t zero=true) (h1:opdOK m m'=true) (h2:opdOK k k'=true)
  {r:Option (Nat × D)} (hr:(match m'.ev c.1.s with | .nilm=>some none | .mp id=>(match St.at c.2 id with | .map _ ents=>seekD kk (k'.ev c.1.s) ents 0 | _=>none) | _=>none)=some r) (hkey:(k'.ev c.1.s).isKey kk=true) :
  GivesV P X c bl lb a w o (if ok then .tup [(r.map (·.2)).getD zero,.bool r.isSome] else (r.map (·.2)).getD zero):=by
 obtain ⟨kt,et,d,hu,hk,hd⟩:=mapOK_eq ht
 have hz':zeroOK P et zero=true:=by unfold mapZ at hz; rw [hu] at hz; exact hz
 obtain ⟨z,zr,zc⟩:=zero_run hz' w
 have rk:RR X c bl lb w (a.eval k) (k'.ev c.1.s):=(opd_rep C h2).rep fun b g off e=>by rw [e] at hkey; simp [D.isKey] at hkey
 have done:∀ (v:Value) (y:D) (b:Bool),RR X c bl lb w v y→(Instr.lookup t (a.eval m) (a.eval k) ok).run P w=.ok (if ok then .tuple #[v,.bool b] else v) w →
   GivesV P X c bl lb a w o (if ok then .tup [y,.bool b] else y):=by
  intro v y b hv hrun
  cases ok with
  | false=>exact gv hv (by simp [execOp,ho,hrun])
  | true=>
   refine gv (v:=.tuple #[v,.bool b]) (.tup _ _ rfl fun i u x hu hx=>?_) (by simp [execOp,ho,hrun])
   match i,hu,hx with
   | 0,hu,hx=>simp at hu hx; subst hu; subst hx; exact hv
   | 1,hu,hx=>simp at hu hx; subst hu; subst hx; exact .bool _
 split at hr
 ·rename_i hm
  simp only [Option.some.injEq] at hr
  subst hr
  have hv:a.eval m=.map none:=by
   have:=opd_rep C h1
   rw [hm] at this
   generalize a.eval m=y at this
   cases (show Rep w (NX X c bl lb) c.2 bl y .nilm from this)
   rfl
  refine done z zero false (const_rep zc) ?_
  have hf:(Instr.findKey kt (a.eval k) []).run P w=.ok none w:=by
   unfold Instr.findKey
   simp only [Sem.run_bind,run_underlying hk,Result.andThen_ok]
   rfl
  simp [Instr.lookup,run_underlying hu,hv,check_key hk hd,hf,zr]
 ·rename_i id hm
  obtain ⟨hid,hmap,hv⟩:=map_at C h1 hm
  split at hr
  ·rename_i md ents hob
   have hO:=C.heap.obj id hid
   rw [hob] at hO
   obtain ⟨es,clock,hes,⟨hsz,_,_⟩,hent⟩:=hO
   have hf:=findKey_run hk hd rk hsz (fun j e x he hx=>(hent j e x he hx).1) hr
   cases r with
   | none=>
    refine done z zero false (const_rep zc) ?_
    simp [Instr.lookup,run_underlying hu,hv,MapKept.run_getObj_map hes,check_key hk hd,hf,zr]
   | some y=>
    obtain ⟨j,y⟩:=y
    obtain ⟨_,x,hx,rfl,_⟩:=seek_lt hr
    simp only [Nat.sub_zero] at hx
    have hj:j < es.size:=by rw [hsz]; exact (List.getElem?_eq_some_iff.1 hx).1
    refine done es[j].val x.2 true (hent j es[j] x (by simp [hj]) hx).2.1 ?_
    simp [Instr.lookup,run_underlying hu,hv,MapKept.run_getObj_map hes,check_key hk hd,hf,hj]
  ·cases hr
 ·cases hr
theorem modify_get (es:Array MapEntry) (i:Nat) (f:MapEntry→MapEntry) (j:Nat):(es.modify i f)[j]?=if i=j then (es[j]?).map f else es[j]?:=by
 rw [Array.getElem?_modify]
theorem map_upd (C:CR X c bl lb a w) {id:Nat} (hid:id < c.2.length) {md:Nat} {ents ents':List (D × D)} (hob:St.at c.2 id=.map md ents) {es es':Array MapEntry} {clock:Nat} (hes:w.heap[bl id]?=some (.map es clock))
  (hsz:es'.size=ents'.length) (hb:∀ (i:Nat) (e:MapEntry),es'[i]?=some e→e.born=i) (hent:∀ (i:Nat) (e:MapEntry) (x:D × D),es'[i]?=some e→ents'[i]?=some x→RR X c bl lb w e.key x.1∧RR X c bl lb w e.val x.2∧x.2.okv=true) :
  CR X (c.1,List.set c.2 id (.map (md+1) ents')) bl lb a { w with heap:=w.heap.setIfInBounds (bl id) (.map es' es'.size) } ∧
   Ext w (NX X c bl lb) c.2 bl { w with heap:=w.heap.setIfInBounds (bl id) (.map es' es'.size) } (NN (X.LL c.1.b lb) (List.set c.2 id (.map (md+1) ents')) bl) (List.set c.2 id (.map (md+1) ents')) bl:=by
 have W:=setBlk w (bl id) _ (.map es' es'.size) hes
 have E:=upd_ext (w':={ w with heap:=w.heap.setIfInBounds (bl id) (.map es' es'.size) }) C.heap hid (by rw [hob]; rfl) (.map (md+1) ents') (bl id) W.os W.tape W.output (Nat.le_of_eq W.size.symm) (fun k _ hk=>W.same k hk) (.inl rfl)
  (.inr ⟨by rw [hob]; rfl,rfl,fun c0 e0 f0 hc=>by rw [hes] at hc; cases hc⟩) (by rw [hob]; exact Nat.lt_succ_self _) (fun _=>⟨rfl,rfl⟩)
 have XE:=E.ext (L:=X.LL c.1.b lb)
 have H':=C.heap.upd C.bound hid E (fun k _ hk=>W.same k hk) (.inl rfl) ⟨es',es'.size,W.new,⟨hsz,rfl,hb⟩,fun i e x he hx=>by
  obtain ⟨q1,q2,q3⟩:=hent i e x he hx
  exact ⟨q1.ext XE (Nat.le_of_eq W.size.symm),q2.ext XE (Nat.le_of_eq W.size.symm),q3⟩⟩
 rw [upd_same] at E H' XE
 exact ⟨C.go E H',XE⟩
theorem set_get {α:Type} (l:List α) (i j:Nat) (x:α):(l.set i x)[j]?=if i=j then (if j < l.length then some x else none) else l[j]?:=by
 rw [List.getElem?_set]
 by_cases h:i=j
 ·subst h; simp
 ·simp [h]
theorem stays_run {old new:Value} (h:Instr.sameBits 10000 old new=true):(Instr.keyThatStays old new).run P w=.ok new w:=by
 simp [Instr.keyThatStays,h]
theorem sim_mupd (C:CR X c bl lb a w) {o:Oper} {t:TypeId} {m k x:Operand} {m' k' x':Opd} {kk:Kd} (ho:o.op=.mapUpdate t m k x) (hdst:o.dst=none) (ht:mapOK P t kk=true) (h1:opdOK m m'=true) (h2:opdOK k k'=true) (h3:opdOK x x'=true)
  {id md:Nat} {ents:List (D × D)} (hm:m'.ev c.1.s=.mp id) (hob:St.at c.2 id=.map md ents) (hok:(x'.ev c.1.s).okv=true) (hkey:(k'.ev c.1.s).isKey kk=true) {r:Option (Nat × D)} (hr:seekD kk (k'.ev c.1.s) ents 0=some r)
  {K:Act→World→Prop} {Q:Exit→Act→World→Prop} (hK:∀ a' w',RelC X (apply c none (.undef,none,some (List.set c.2 id (.map (md+1) (match (generalizing:=false) r with | some (i,_)=>ents.set i (k'.ev c.1.s,x'.ev c.1.s) | none=>ents++[(k'.ev c.1.s,x'.ev c.1.s)]))))) a' w'→K a' w'):o.wp P a w K Q:=by
 obtain ⟨kt,et,d,hu,hk,hd⟩:=mapOK_eq ht
 have rk:RR X c bl lb w (a.eval k) (k'.ev c.1.s):=(opd_rep C h2).rep fun b g off e=>by rw [e] at hkey; simp [D.isKey] at hkey
 have rx:RR X c bl lb w (a.eval x) (x'.ev c.1.s):=(opd_rep C h3).okv hok
 obtain ⟨hid,hmap,hv⟩:=map_at C h1 hm
 have hO:=C.heap.obj id hid
 rw [hob] at hO
 obtain ⟨es,clock,hes,⟨hsz,hcl,hb⟩,hent⟩:=hO
 have hf:=findKey_run hk hd rk hsz (fun j e x he hx=>(hent j e x he hx).1) hr
 cases r with
 | none=>
  obtain ⟨C',_⟩:=map_upd C hid hob hes (es':=es.push ⟨a.eval k,a.eval x,clock⟩) (ents':=ents++[(k'.ev c.1.s,x'.ev c.1.s)]) (by simp [hsz])
   (fun i e he=>by
    rw [Array.getElem?_push] at he
    split at he
    ·simp at he; subst he; simp [hcl]; omega
    ·exact hb i e he)
   (fun i e y he hy=>by
    rw [Array.getElem?_push] at he
    split at he
    ·rename_i hi
     simp at he; subst he
     rw [List.getElem?_append_right (by omega),hi,hsz] at hy
     simp at hy; subst hy
     exact ⟨rk,rx,hok⟩
    ·rename_i hi
     have hlt:i < es.size:=(Array.getElem?_eq_some_iff.1 he).1
     rw [List.getElem?_append_left (by omega)] at hy
     exact hent i e y he hy)
  refine wp_skp (w':={ w with heap:=w.heap.setIfInBounds (bl id) (.map (es.push ⟨a.eval k,a.eval x,clock⟩) (es.push ⟨a.eval k,a.eval x,clock⟩).size) }) ?_ (hK _ _ ?_)
  ·simp [execOp,ho,Instr.mapUpdate,run_underlying hu,hv,MapKept.run_getObj_map hes,check_key hk hd,hf,MapKept.run_setObj_map _ hes,hcl]
  ·rw [hdst]
   exact ⟨bl,lb,C'⟩
 | some y=>
  obtain ⟨j,y⟩:=y
  obtain ⟨_,q,hq,rfl,hkq⟩:=seek_lt hr
  simp only [Nat.sub_zero] at hq
  have hj:j < es.size:=by rw [hsz]; exact (List.getElem?_eq_some_iff.1 hq).1
  have hjl:j < ents.length:=by omega
  obtain ⟨C',_⟩:=map_upd C hid hob hes (es':=es.modify j fun e=>{ e with key:=a.eval k,val:=a.eval x }) (ents':=ents.set j (k'.ev c.1.s,x'.ev c.1.s)) (by simp [hsz])
   (fun i e he=>by
    rw [modify_get] at he
    split at he
    ·obtain ⟨e0,h0,rfl⟩:=Option.map_eq_some_iff.1 he
     exact hb i e0 h0
    ·exact hb i e he)
   (fun i e y he hy=>by
    rw [modify_get] at he
    rw [set_get] at hy
    split at he
    ·rename_i hi
     subst hi
     rw [if_pos rfl,if_pos hjl] at hy
     simp at hy; subst hy
     obtain ⟨e0,h0,rfl⟩:=Option.map_eq_some_iff.1 he
     exact ⟨rk,rx,hok⟩
    ·rename_i hi
     rw [if_neg hi] at hy
     exact hent i e y he hy)
  have hbits:=(key_val (w:=w) (bl:=bl) hd rk (hent j es[j] q (by simp [hj]) hq).1 hkq).2 rfl
  refine wp_skp (w':={ w with heap:=w.heap.setIfInBounds (bl id) (.map (es.modify j fun e=>{ e with key:=a.eval k,val:=a.eval x }) (es.modify j fun e=>{ e with key:=a.eval k,val:=a.eval x }).size) }) ?_ (hK _ _ ?_)
  ·simp [execOp,ho,Instr.mapUpdate,run_underlying hu,hv,MapKept.run_getObj_map hes,check_key hk hd,hf,hj,stays_run hbits,MapKept.run_setObj_map _ hes,hcl]
  ·rw [hdst]
   exact ⟨bl,lb,C'⟩
theorem sim_ment (C:CR X c bl lb a w) {o:Oper} {t:TypeId} {m k:Operand} {m' k':Opd} {kk:Kd} {zero:D} {dd:Nat} (ho:o.op=.mapEntry t m k) (hdst:o.dst=some dd) (hdn:dd < X.n) (ht:mapOK P t kk=true) (hz:mapZ P t zero=true) (h1:opdOK m m'=true) (h2:opdOK k k'=true)
  {id md:Nat} {ents:List (D × D)} (hm:m'.ev c.1.s=.mp id) (hob:St.at c.2 id=.map md ents) (hkey:(k'.ev c.1.s).isKey kk=true) (zok:zero.okv=true) {r:Option (Nat × D)} (hr:seekD kk (k'.ev c.1.s) ents 0=some r) {e:Eff}
  (he:(match (generalizing:=false) r with
   | some (i,v)=>some (.tup [v,.i i],none,some (List.set c.2 id (.map (md+1) (ents.set i (k'.ev c.1.s,v)))))
   | none=>some (.tup [zero,.i ents.length],none,some (List.set c.2 id (.map (md+1) (ents++[(k'.ev c.1.s,zero)])))):Option Eff)=some e)
  {K:Act→World→Prop} {Q:Exit→Act→World→Prop} (hK:∀ a' w',RelC X (apply c (some dd) e) a' w'→K a' w'):o.wp P a w K Q:=by
 obtain ⟨kt,et,d,hu,hk,hd⟩:=mapOK_eq ht
 have hz':zeroOK P et zero=true:=by unfold mapZ at hz; rw [hu] at hz; exact hz
 obtain ⟨z,zr,zc⟩:=zero_run hz' w
 have rk:RR X c bl lb w (a.eval k) (k'.ev c.1.s):=(opd_rep C h2).rep fun b g off e=>by rw [e] at hkey; simp [D.isKey] at hkey
 obtain ⟨hid,hmap,hv⟩:=map_at C h1 hm
 have hO:=C.heap.obj id hid
 rw [hob] at hO
 obtain ⟨es,clock,hes,⟨hsz,hcl,hb⟩,hent⟩:=hO
 have hf:=findKey_run hk hd rk hsz (fun j e x he hx=>(hent j e x he hx).1) hr
 have tupR:∀ {w':World} {N:Nat→Prop} {st:St} {v:Value} {y:D} (n:Nat),Rep w' N st bl v y→Rep w' N st bl (.tuple #[v,goInt n]) (.tup [y,.i n]):=by
  intro w' N st v y n hr
  refine .tup _ _ rfl fun i u x hu hx=>?_
  match i,hu,hx with
  | 0,hu,hx=>simp at hu hx; subst hu; subst hx; exact hr
  | 1,hu,hx=>simp at hu hx; subst hu; subst hx; exact .int _ _
 cases r with
 | none=>
  simp only [Option.some.injEq] at he
  subst he
  obtain ⟨C',E⟩:=map_upd C hid hob hes (es':=es.push ⟨a.eval k,z,clock⟩) (ents':=ents++[(k'.ev c.1.s,zero)]) (by simp [hsz])
   (fun i e he=>by
    rw [Array.getElem?_push] at he
    split at he
    ·simp at he; subst he; simp [hcl]; omega
    ·exact hb i e he)
   (fun i e y he hy=>by
    rw [Array.getElem?_push] at he
    split at he
    ·rename_i hi
     simp at he; subst he
     rw [List.getElem?_append_right (by omega),hi,hsz] at hy
     simp at hy; subst hy
     exact ⟨rk,const_rep zc,zok⟩
    ·rename_i hi
     have hlt:i < es.size:=(Array.getElem?_eq_some_iff.1 he).1
     rw [List.getElem?_append_left (by omega)] at hy
     exact hent i e y he hy)
  refine wp_val (v:=.tuple #[z,goInt clock]) (w':={ w with heap:=w.heap.setIfInBounds (bl id) (.map (es.push ⟨a.eval k,z,clock⟩) (es.push ⟨a.eval k,z,clock⟩).size) }) ?_ (hK _ _ ?_)
  ·simp [execOp,ho,Instr.mapEntry,run_underlying hu,hv,MapKept.run_getObj_map hes,check_key hk hd,hf,zr,MapKept.run_setObj_map _ hes,hcl]
  ·rw [hdst,apply_heap]
   refine ⟨_,_,C'.put (fun d' e'=>by cases e'; exact hdn) fun _=>Rep.slot _ _ ?_⟩
   rw [hcl,hsz]
   exact tupR _ (const_rep zc)
 | some y=>
  obtain ⟨j,y⟩:=y
  simp only [Option.some.injEq] at he
  subst he
  obtain ⟨_,q,hq,rfl,hkq⟩:=seek_lt hr
  simp only [Nat.sub_zero] at hq
  have hj:j < es.size:=by rw [hsz]; exact (List.getElem?_eq_some_iff.1 hq).1
  have hjl:j < ents.length:=by omega
  obtain ⟨_,rv,rok⟩:=hent j es[j] q (by simp [hj]) hq
  obtain ⟨C',E⟩:=map_upd C hid hob hes (es':=es.modify j fun e=>{ e with key:=a.eval k }) (ents':=ents.set j (k'.ev c.1.s,q.2)) (by simp [hsz])
   (fun i e he=>by
    rw [modify_get] at he
    split at he
    ·obtain ⟨e0,h0,rfl⟩:=Option.map_eq_some_iff.1 he
     exact hb i e0 h0
    ·exact hb i e he)
   (fun i e y he hy=>by
    rw [modify_get] at he
    rw [set_get] at hy
    split at he
    ·rename_i hi
     subst hi
     rw [if_pos rfl,if_pos hjl] at hy
     simp at hy; subst hy
     obtain ⟨e0,h0,rfl⟩:=Option.map_eq_some_iff.1 he
     have:e0=es[j]:=by rw [Array.getElem?_eq_getElem hj] at h0; exact (Option.some.inj h0).symm
     subst this
     exact ⟨rk,rv,rok⟩
    ·rename_i hi
     rw [if_neg hi] at hy
     exact hent i e y he hy)
  have hbits:=(key_val (w:=w) (bl:=bl) hd rk (hent j es[j] q (by simp [hj]) hq).1 hkq).2 rfl
  have hborn:=hb j es[j] (by simp [hj])
  refine wp_val (v:=.tuple #[es[j].val,goInt j]) (w':={ w with heap:=w.heap.setIfInBounds (bl id) (.map (es.modify j fun e=>{ e with key:=a.eval k }) (es.modify j fun e=>{ e with key:=a.eval k }).size) }) ?_ (hK _ _ ?_)
  ·simp [execOp,ho,Instr.mapEntry,run_underlying hu,hv,MapKept.run_getObj_map hes,check_key hk hd,hf,hj,stays_run hbits,MapKept.run_setObj_map _ hes,hcl,hborn]
  ·rw [hdst,apply_heap]
   refine ⟨_,_,C'.put (fun d' e'=>by cases e'; exact hdn) fun _=>Rep.slot _ _ (tupR _ ?_)⟩
   exact rv.ext E (by simp)
theorem findIdx_born {es:Array MapEntry} (hb:∀ (i:Nat) (e:MapEntry),es[i]?=some e→e.born=i) {i:Nat} (hi:i < es.size):es.findIdx? (fun e=>(e.born:Int) == (i:Int))=some i:=by
 rw [Array.findIdx?_eq_some_iff_getElem]
 refine ⟨hi,by simp [hb i es[i] (by simp [hi])],fun j hj=>?_⟩
 have:=hb j es[j] (by simp)
 simp [this]; omega
theorem sim_mst (C:CR X c bl lb a w) {o:Oper} {t:TypeId} {m s x:Operand} {m' s' x':Opd} (ho:o.op=.entryStore t m s x) (hdst:o.dst=none) (h1:opdOK m m'=true) (h2:opdOK s s'=true) (h3:opdOK x x'=true)
  {id md:Nat} {ents:List (D × D)} {i:Int} (hm:m'.ev c.1.s=.mp id) (hs:s'.ev c.1.s=.int .i64 i) (hob:St.at c.2 id=.map md ents) (hok:(x'.ev c.1.s).okv=true) (hi:0≤i) {e0:D × D} (hr:ents[i.toNat]?=some e0)
  {K:Act→World→Prop} {Q:Exit→Act→World→Prop} (hK:∀ a' w',RelC X (apply c none (.undef,none,some (List.set c.2 id (.map (md+1) (ents.set i.toNat (e0.1,x'.ev c.1.s)))))) a' w'→K a' w'):o.wp P a w K Q:=by
 have rx:RR X c bl lb w (a.eval x) (x'.ev c.1.s):=(opd_rep C h3).okv hok
 have es':=sr_int C h2 hs
 obtain ⟨hid,hmap,hv⟩:=map_at C h1 hm
 have hO:=C.heap.obj id hid
 rw [hob] at hO
 obtain ⟨es,clock,hes,⟨hsz,hcl,hb⟩,hent⟩:=hO
 have hjl:i.toNat < ents.length:=(List.getElem?_eq_some_iff.1 hr).1
 have hj:i.toNat < es.size:=by omega
 obtain ⟨j,rfl⟩:∃ j:Nat,i=j:=⟨i.toNat,by omega⟩
 simp only [Int.toNat_natCast] at *
 obtain ⟨C',E⟩:=map_upd C hid hob hes (es':=es.modify j fun e=>{ e with val:=a.eval x }) (ents':=ents.set j (e0.1,x'.ev c.1.s)) (by simp [hsz])
  (fun i e he=>by
   rw [modify_get] at he
   split at he
   ·obtain ⟨e0,h0,rfl⟩:=Option.map_eq_some_iff.1 he
    exact hb i e0 h0
   ·exact hb i e he)
  (fun i e y he hy=>by
   rw [modify_get] at he
   rw [set_get] at hy
   split at he
   ·rename_i hi
    subst hi
    rw [if_pos rfl,if_pos hjl] at hy
    simp at hy; subst hy
    obtain ⟨e1,h0,rfl⟩:=Option.map_eq_some_iff.1 he
    exact ⟨(hent j e1 e0 h0 hr).1,rx,hok⟩
   ·rename_i hi
    rw [if_neg hi] at hy
    exact hent i e y he hy)
 have hidx:=findIdx_born hb hj
 refine wp_skp (w':={ w with heap:=w.heap.setIfInBounds (bl id) (.map (es.modify j fun e=>{ e with val:=a.eval x }) (es.modify j fun e=>{ e with val:=a.eval x }).size) }) ?_ (hK _ _ ?_)
 ·simp [execOp,ho,Instr.entryStore,hv,MapKept.run_getObj_map hes,es',asInt,asIntOf,hidx,MapKept.run_setObj_map _ hes,hcl]
 ·rw [hdst]
  exact ⟨bl,lb,C'⟩
def arrOK (P:Program) (t:TypeId) (n:Nat):Bool:=
 match P.underlying t with
 | some (.array n' e)=>n' == n && sizeOK P e 1
 | _=>false
theorem freeze_ob {L:Nat→Prop} {st:St} (H:HRel w L st bl) (hL:∀ b,L b→b < w.heap.size) {id:Nat} (hid:id < st.length) {box:Bool} {sz ver mod:Nat} {elems:List D} (hob:St.at st id=.cells box sz ver mod false elems) :
  Freed w L st bl (List.set st id (.cells box sz ver (mod+1) true elems)):=by
 have hO:=H.obj id hid
 rw [hob] at hO
 have E:=upd_ext (w':=w) H hid (by rw [hob]; rfl) (.cells box sz ver (mod+1) true elems) (bl id) rfl rfl rfl (Nat.le_refl _) (fun _ _ _=>rfl) (.inl rfl)
  (.inr ⟨by rw [hob]; rfl,rfl,.refl _ _⟩) (by rw [hob]; exact Nat.lt_succ_self _) (by rw [hob]; simp [Ob.isMap])
 have H':=H.upd hL hid E (fun _ _ _=>rfl) (.inl rfl) (by
  have:=hO.ext (E.ext (L:=L)) (Nat.le_refl _) rfl
  obtain ⟨cs,e,lo,hi,k1,_,k3,k4⟩:=this
  exact ⟨cs,e,lo,hi,k1,fun (h:true=false)=>(by simp at h),k3,k4⟩)
 rw [upd_same] at E H'
 exact ⟨H',E⟩
theorem sim_slcA (C:CR X c bl lb a w) {o:Oper} {t:TypeId} {x:Operand} {x':Opd} {lo hi:Option Operand} {lo' hi':Option Opd} {n dd:Nat} (ho:o.op=.slice t x lo hi none) (hdst:o.dst=some dd) (hdn:dd < X.n) (h1:opdOK x x'=true)
  (k1:opdO lo lo'=true) (k2:opdO hi hi'=true) (ht:arrOK P t n=true) {id ver sz mod:Nat} {box:Bool} {cs:List D} (hx:x'.ev c.1.s=.hp id ver sz 0 0) (hob:St.at c.2 id=.cells box sz ver mod false [.agg cs])
  (hn:cs.length=n) (hp:cs.all D.pure1=true) {h l:Nat} (e2:boundD (hi'.map (Opd.ev c.1.s)) n n=some h) (e3:boundD (lo'.map (Opd.ev c.1.s)) 0 h=some l)
  {K:Act→World→Prop} {Q:Exit→Act→World→Prop}
  (hK:∀ a' w',RelC X (apply c (some dd) (.sl 1 (h == n) ((cs.drop l).take (h - l)),none,some (List.set c.2 id (.cells box sz ver (mod+1) true [.agg cs])))) a' w'→K a' w'):o.wp P a w K Q:=by
 obtain ⟨et,hu,hsz⟩:∃ e,P.underlying t=some (.array n e)∧sizeOK P e 1=true:=by
  unfold arrOK at ht
  split at ht
  ·rename_i n' e he
   simp only [Bool.and_eq_true,beq_iff_eq] at ht
   rw [ht.1] at he
   exact ⟨e,he,ht.2⟩
  ·cases ht
 have r:=opd_rep C h1
 rw [hx] at r
 have b2:=bound_v C k2 e2
 have b3:=bound_v C k1 e3
 have z2:=b2.le (Nat.le_refl _)
 have z3:=b3.le (Nat.zero_le _)
 have hr:=bounds_run (P:=P) (w:=w) (isS:=false) (len:=n) (cap:=n) (mx:=none) (.inl ⟨rfl,rfl⟩) b2 b3 (Nat.le_refl _) (by simp)
 generalize hy:a.eval x=y at r
 cases (show Rep w (NX X c bl lb) c.2 bl y (.hp id ver sz 0 0) from r) with
 | hp _ _ _ _ _ q hid hv ha=>
 have hq:=ha (by rw [hob]; rfl)
 simp only [Nat.zero_mul,Nat.add_zero] at hq
 subst hq
 have F:=freeze_ob C.heap C.bound hid hob
 have C':=C.go F.evo F.heap
 have hO:=F.heap.obj id (by simpa using hid)
 rw [at_set _ _ _ _ hid,if_pos rfl] at hO
 obtain ⟨a1,a2,_,_⟩:=ob_cells hO (i:=0) rfl
 have hcl:=a2
 have hnl:¬ NN (X.LL c.1.b lb) (List.set c.2 id (.cells box sz ver (mod+1) true [.agg cs])) bl (bl id):=by
  rintro (g | ⟨j,hj,hl,hb⟩)
  ·exact C.heap.out id hid g
  ·have hj':j < c.2.length:=by simpa using hj
   have:=C.heap.inj j id hj' hid hb
   subst this
   rw [at_set _ _ _ _ hid,if_pos rfl] at hl
   simp [Ob.live] at hl
 have hcell:∀ (j:Nat) (d:D),cs[j]?=some d→d.cell=true∧∃ v,w.cell? ⟨bl id,j,none⟩=some v∧Rep w (NN (X.LL c.1.b lb) (List.set c.2 id (.cells box sz ver (mod+1) true [.agg cs])) bl) (List.set c.2 id (.cells box sz ver (mod+1) true [.agg cs])) bl v d:=by
  obtain ⟨ar,e,l0,h0,g1,_,_,g4⟩:=hO
  intro j d hd
  obtain ⟨_,_,_,q4⟩:=g4 0 (.agg cs) rfl
  obtain ⟨q5,v,q6,q7⟩:=q4 j d hd
  exact ⟨q5,v,by simp only [World.cell?,g1]; simpa using q6,q7⟩
 have hch:∀ i:Nat,∃ u,∀ d,cs[i]?=some d→w.cell? ⟨bl id,i,none⟩=some u∧Rep w (NN (X.LL c.1.b lb) (List.set c.2 id (.cells box sz ver (mod+1) true [.agg cs])) bl) (List.set c.2 id (.cells box sz ver (mod+1) true [.agg cs])) bl u d:=by
  intro i
  cases he:cs[i]? with
  | none=>exact ⟨undef,fun d hd=>by simp at hd⟩
  | some d=>
   obtain ⟨_,v,h1,h2⟩:=hcell i d he
   exact ⟨v,fun d' hd=>by simp at hd; subst hd; exact ⟨h1,h2⟩⟩
 have hget:∀ (i:Nat) (d:D),((cs.drop l).take (h - l))[i]?=some d→cs[l+i]?=some d:=by
  intro i d hd
  rw [List.getElem?_take] at hd
  split at hd
  ·rw [List.getElem?_drop] at hd; exact hd
  ·simp at hd
 have hll:((cs.drop l).take (h - l)).length=h - l:=by simp; omega
 refine wp_val (v:=.slice (some (if n=l then ⟨bl id,0,none⟩ else Addr.add ⟨bl id,0,none⟩ (l * 1))) (h - l) (n - l)) (w':=w) ?_ (hK _ _ ?_)
 ·simp [execOp,ho,hy,Instr.sliceAt,run_underlying hu,Instr.sureAddr,hr,size_run hsz w]
 ·rw [hdst,apply_heap]
  refine ⟨_,_,C'.put (fun d' e'=>by cases e'; exact hdn) fun _=>Rep.slot _ _ ?_⟩
  have ea:Addr.add ⟨bl id,0,none⟩ (l * 1)=⟨bl id,l,none⟩:=by rw [add_eq _ _ rfl]; simp
  have key:=Rep.sl (w:=w) (N:=NN (X.LL c.1.b lb) (List.set c.2 id (.cells box sz ver (mod+1) true [.agg cs])) bl) (st:=List.set c.2 id (.cells box sz ver (mod+1) true [.agg cs])) (bl:=bl) 1 (h == n) ((cs.drop l).take (h - l))
   (if n=l then ⟨bl id,0,none⟩ else Addr.add ⟨bl id,0,none⟩ (l * 1)) (n - l) (fun i=>(hch (l+i)).choose) (by rw [hll]; omega) (fun e=>by rw [hll]; simp at e; omega)
   (fun _=>by
          by_cases e:n=l
          ·rw [if_pos e]
          ·rw [if_neg e,ea])
   (fun i d hd=>by
    have g:=hget i d hd
    have hp1:=all_get hp g
    obtain ⟨g1,_⟩:=hcell _ d g
    exact ⟨D.p1 hp1,by rw [cell_cells g1]; rfl⟩)
   (fun i d hd=>by
    have g:=hget i d hd
    have hne:n≠l:=by
     have:=(List.getElem?_eq_some_iff.1 hd).1
     rw [hll] at this
     omega
    obtain ⟨g1,g2⟩:=(hch (l+i)).choose_spec d g
    rw [if_neg hne]
    rw [ea]
    refine ⟨hnl,C.heap.lt hid,fun j u hu=>?_⟩
    obtain ⟨gc,_⟩:=hcell _ d g
    rw [(g2.cells_one fun cs' e=>by rw [e] at gc; simp [D.cell] at gc).1] at hu
    cases j with
    | zero=>simp at hu; subst hu; simpa using g1
    | succ j=>simp at hu)
   (fun i d hd=>((hch (l+i)).choose_spec d (hget i d hd)).2)
  rw [hll] at key
  exact key
def bytesT (P:Program) (t:TypeId):Bool:=
 match P.underlying t with
 | some (.slice e)=>(match P.underlying e with | some (.int .u8)=>true | _=>false)
 | _=>false
theorem unbytes:∀ {ds:List D} {l:List UInt8},ds.mapM unbyte=some l→l.length=ds.length∧∀ (j:Nat) (x:UInt8),l[j]?=some x→ds[j]?=some (.int .u8 x.toNat)
 | [],l,h=>by simp at h; subst h; simp
 | d::ds,l,h=>by
  simp only [List.mapM_cons,Option.bind_eq_bind,Option.bind_eq_some_iff,Option.pure_def,Option.some.injEq] at h
  obtain ⟨x,hx,r,hr,rfl⟩:=h
  obtain ⟨h1,h2⟩:=unbytes hr
  have hd:d=.int .u8 x.toNat:=by
   unfold unbyte at hx
   split at hx
   ·rename_i n
    split at hx
    ·rename_i hn
     simp only [Option.some.injEq] at hx
     subst hx
     have:n.toNat < 256:=by omega
     simp [UInt8.toNat_ofNat',Nat.mod_eq_of_lt this]
     omega
    ·cases hx
   ·cases hx
  refine ⟨by simp [h1],fun j y hy=>?_⟩
  cases j with
  | zero=>simp at hy ⊢; subst hy; exact hd
  | succ j=>simpa using h2 j y (by simpa using hy)
theorem sim_bytesstr (C:CR X c bl lb a w) {o:Oper} {s t:TypeId} {x:Operand} {x':Opd} {l:List D} {b:List UInt8} (ho:o.op=.convert s t x) (hs:bytesT P s=true) (ht:kindOK P t .str=true) (h1:opdOK x x'=true)
  (hl:listD c.2 1 (x'.ev c.1.s)=some l) (hb:l.mapM unbyte=some b):GivesV P X c bl lb a w o (.str b):=by
 obtain ⟨e,hu,he⟩:∃ e,P.underlying s=some (.slice e)∧P.underlying e=some (.int .u8):=by
  unfold bytesT at hs
  split at hs
  ·rename_i e hu
   split at hs
   ·exact ⟨e,hu,by assumption⟩
   ·cases hs
  ·cases hs
 have hd:P.underlying t=some .string:=by unfold kindOK at ht; split at ht <;> simp_all
 have rx:RR X c bl lb w (a.eval x) (x'.ev c.1.s):=(opd_rep C h1).rep fun b g off e=>by rw [e] at hl; simp [listD] at hl
 obtain ⟨p,cap,vl,e1,e2,e3,e4,e5⟩:=slice_els C.heap rx hl
 obtain ⟨hlen,hget⟩:=unbytes hb
 have hvl:vl.length=l.length:=e4.1
 by_cases h0:l=[]
 ·subst h0
  simp at hb; subst hb
  refine gv (v:=.string .empty) (.str _) ?_
  cases p with
  | none=>simp [execOp,ho,e1,run_convert_bytes_nil (P:=P) w s e hu he 0 cap t hd]
  | some q=>
   have hq:(loadCells q 0).run P w=.ok (([]:List Int).map (Value.int .u8)).toArray w:=by simp [loadCells,loadCellsFrom]
   have:=run_bytesToString (P:=P) w q 0 cap [] hq
   have h2:=run_convert_bytes_string (P:=P) w s t e (some q) 0 cap hu he hd
   simp [execOp,ho,e1,h2,this]
 ·have hpos:0 < l.length:=List.length_pos_iff.2 h0
  obtain ⟨q,rfl,hsp,_⟩:=e5 0 vl[0] (by simp)
  have hbl:b.length=l.length:=hlen
  have hcell:∀ i,i < b.length→w.cell? ⟨q.block,q.off+i,none⟩=some (.int .u8 ((b.map fun x=>(x.toNat:Int)).getD i 0)):=by
   intro i hi
   have hg:=hget i b[i] (by simp [hi])
   have hi':i < vl.length:=by omega
   obtain ⟨q',hq',_,hcells⟩:=e5 i vl[i] (by simp [hi'])
   simp only [Option.some.injEq] at hq'
   subst hq'
   obtain ⟨_,k2⟩:=e4
   obtain ⟨hr,_⟩:=k2 i vl[i] _ (by simp [hi']) hg
   have hv:vl[i]=.int .u8 b[i].toNat:=by
    generalize vl[i]=y at hr
    cases hr; rfl
   have:=hcells 0 (.int .u8 b[i].toNat) (by rw [hv]; rfl)
   simp only [Nat.mul_one,Nat.add_zero] at this
   rw [this]
   simp [List.getD,hi]
  have:=run_convert_bytes_arg (P:=P) w s e hu he q.block q.off b.length cap (b.map fun x=>(x.toNat:Int)) (by simp) hcell t hd
  have hqe:q=⟨q.block,q.off,none⟩:=by cases q; simp at hsp; simp [hsp]
  refine gv (v:=.string (strOfNums (b.map fun x=>(x.toNat:Int)))) (rep_str _ ?_) ?_
  ·rw [strOfNums_data,List.map_map]
   refine (List.map_congr_left fun x _=>?_).trans (List.map_id b)
   simp
  ·rw [←hqe,hbl] at this
   simp [execOp,ho,e1,this]
end Go.Nt
namespace Go.Nt
variable {P:Program} {X:Cx} {c:Cfg} {bl:Bl} {lb:Nat→Nat} {a:Act} {w:World}
def CallOK (P:Program) (f:Nat) (args:List D) (st:St) (r:D) (st':St):Prop:=
 ∀ (w:World) (L:Nat→Prop) (bl:Bl) (vs:Array Value),HRel w L st bl→(∀ b,L b→b < w.heap.size)→vs.size=args.length→(∀ (i:Nat) (v:Value) (d:D),vs[i]?=some v→args[i]?=some d→Rep w (NN L st bl) st bl v d) →
  Calls P f vs w fun e w'=>∃ v bl',e=.returned v∧HRel w' L st' bl'∧Rep w' (NN L st' bl') st' bl' v r∧Evo w st bl w' st' bl'
theorem pureArgs_ok (L:Nat→Prop) (bl:Bl) (hL:∀ b,L b→b < w.heap.size):∀ (ds:List D) (st:St) (vs:Nat→Value) (ds':List D) (st':St),HRel w L st bl →
  (∀ (i:Nat) (d:D),ds[i]?=some d→Rep w (NN L st bl) st bl (vs i) d)→pureArgs st ds=some (ds',st') →
  Freed w L st bl st'∧ds'.length=ds.length∧∀ (i:Nat) (d':D),ds'[i]?=some d'→Rep w (NN L st' bl) st' bl (vs i) d'∧d'.pure=true
 | [],st,vs,ds',st',H,_,hf=>by
  simp only [pureArgs,Option.some.injEq,Prod.mk.injEq] at hf
  obtain ⟨rfl,rfl⟩:=hf
  exact ⟨.refl H,rfl,fun i d' hd=>by simp at hd⟩
 | d::ds,st,vs,ds',st',H,hr,hf=>by
  simp only [pureArgs] at hf
  cases h1:fz1 st d with
  | none=>simp [h1] at hf
  | some r=>
   obtain ⟨e,st1⟩:=r
   simp only [h1,Option.bind_some] at hf
   split at hf
   ·rename_i hp
    cases h2:pureArgs st1 ds with
    | none=>simp [h2] at hf
    | some q=>
     obtain ⟨es,st2⟩:=q
     simp only [h2,Option.bind_some,Option.some.injEq,Prod.mk.injEq] at hf
     obtain ⟨rfl,rfl⟩:=hf
     obtain ⟨F1,r1,_⟩:=fz1_ok w L st bl (vs 0) d e st1 H hL (hr 0 d rfl) h1
     obtain ⟨F2,hl,k⟩:=pureArgs_ok L bl hL ds st1 (fun i=>vs (i+1)) es st2 F1.heap (fun i d hd=>F1.rep (hr (i+1) d hd)) h2
     refine ⟨F1.trans F2,by simp [hl],fun i d' hd'=>?_⟩
     cases i with
     | zero=>simp at hd'; subst hd'; exact ⟨F2.rep r1,hp⟩
     | succ i=>exact k i d' (by simpa using hd')
   ·simp at hf
theorem HRel.nil (w:World) (L:Nat→Prop) (bl:Bl):HRel w L [] bl:=⟨fun i j h=>by simp at h,fun i h=>by simp at h,fun i h=>by simp at h⟩
theorem NN_nil {L:Nat→Prop} {bl:Bl} {b:Nat}:NN L [] bl b↔L b:=by
 constructor
 ·rintro (h | ⟨id,h,_⟩)
  ·exact h
  ·simp at h
 ·exact .inl
theorem pure_call {L:Nat→Prop} {st:St} {f:Nat} {ds:List D} {r q:D} {st2 st3:St} {vs:Array Value} (hgo:CallOK P f ds [] r st2) (hf:fz st2 r=some (q,st3)) (hq:q.pureT=true)
  (H:HRel w L st bl) (hL:∀ b,L b→b < w.heap.size) (hl:vs.size=ds.length) (hr:∀ (i:Nat) (v:Value) (d:D),vs[i]?=some v→ds[i]?=some d→Rep w (NN L st bl) st bl v d∧d.pure=true) :
  Calls P f vs w fun e w'=>∃ v,e=.returned v∧w'.os=w.os∧w'.tape=w.tape∧w'.output=w.output∧w.heap.size≤w'.heap.size∧(∀ k,k < w.heap.size→w'.heap[k]?=w.heap[k]?)∧Rep w' (NN L st bl) st bl v q:=by
 have hL':∀ b,NN L st bl b→b < w.heap.size:=by
  rintro b (h | ⟨id,h,_,rfl⟩)
  ·exact hL b h
  ·exact H.lt h
 refine Calls.mono (hgo w (NN L st bl) bl vs (HRel.nil _ _ _) hL' hl fun i v d hv hd=>?_) ?_
 ·obtain ⟨h1,h2⟩:=hr i v d hv hd
  exact h1.free (fun b hb _=>⟨rfl,fun g=>hb (NN_nil.1 g)⟩) (Nat.le_refl _) (D.pT h2)
 ·rintro e w' ⟨v,bl2,rfl,H2,R2,E⟩
  obtain ⟨F,R3,_⟩:=fz_ok w' _ st2 bl2 v r q st3 H2 (fun b hb=>Nat.lt_of_lt_of_le (hL' b hb) E.size) R2 hf
  refine ⟨v,rfl,E.os,E.tape,E.output,E.size,fun k hk=>E.same k hk (by rintro ⟨id,h,_⟩; simp at h),?_⟩
  exact R3.free (fun b hb _=>⟨rfl,fun g=>hb (.inl g)⟩) (Nat.le_refl _) hq
theorem agree_at:∀ {st st':St},agree st st'=true→∀ i,i < st.length→(St.at st' i).mod=(St.at st i).mod
 | [],_,_,i,h=>by simp at h
 | _::_,[],h,_,_=>by simp [agree] at h
 | o::os,o'::os',h,i,hi=>by
  simp only [agree,Bool.and_eq_true,beq_iff_eq] at h
  cases i with
  | zero=>exact h.1.symm
  | succ i=>exact agree_at h.2 i (by simpa using hi)
theorem settledN_at {n:Nat}:∀ {st st':St},settledN n st st'=true→∀ i,i < st.length→(St.at st' i).mod=(St.at st i).mod∨(St.at st' i).pureO=true∨(St.at st' i).old n=true
 | [],_,_,i,h=>by simp at h
 | _::_,[],h,_,_=>by simp [settledN] at h
 | o::os,o'::os',h,i,hi=>by
  simp only [settledN,Bool.and_eq_true,Bool.or_eq_true,beq_iff_eq] at h
  cases i with
  | zero=>exact h.1.elim (fun g=>g.elim (fun e=>.inl e.symm) fun q=>.inr (.inl q)) fun q=>.inr (.inr q)
  | succ i=>exact settledN_at h.2 i (by simpa using hi)
theorem settled_at {st st':St} (h:settled st st'=true):∀ i,i < st.length→(St.at st' i).mod=(St.at st i).mod∨(St.at st' i).pureO=true∨(St.at st' i).old st.length=true:=settledN_at h
theorem at_take {st:St} {n i:Nat} (hi:i < n):St.at (st.take n) i=St.at st i:=by
 simp only [St.at,List.getD_eq_getElem?_getD,List.getElem?_take,if_pos hi]
theorem ObRel.free {N N':Nat→Prop} {st st':St} {bl':Bl} {b:Nat} {o:Ob} (hN:∀ b,¬ N b→¬ N' b) (hp:o.pureO=true) (h:ObRel w N st bl b o):ObRel w N' st' bl' b o:=by
 cases o with
 | cells box sz ver m fr elems=>
  obtain ⟨cs,e,lo,hi,h1,h2,h3,h4⟩:=h
  refine ⟨cs,e,lo,hi,h1,h2,h3,fun i d hd=>?_⟩
  obtain ⟨k1,k2,k3,k4⟩:=h4 i d hd
  refine ⟨k1,k2,k3,fun j x hx=>?_⟩
  obtain ⟨q1,v,q2,q3⟩:=k4 j x hx
  refine ⟨q1,v,q2,q3.free (fun b hb _=>⟨rfl,hN b hb⟩) (Nat.le_refl _) ?_⟩
  have hdp:d.pure=true:=all_get (show elems.all D.pure=true from hp) hd
  by_cases hg:∃ cs,d=.agg cs
  ·obtain ⟨ds,rfl⟩:=hg
   exact D.pT (D.p1 (all_get (show ds.all D.pure1=true from hdp) hx))
  ·have:d.cells=[d]:=by cases d <;> first | rfl | exact absurd ⟨_,rfl⟩ hg
   rw [this] at hx
   cases j with
   | zero=>simp at hx; subst hx; exact D.pT hdp
   | succ j=>simp at hx
 | map m ents=>
  obtain ⟨es,clock,h1,h2,h3⟩:=h
  refine ⟨es,clock,h1,h2,fun i e x he hx=>?_⟩
  obtain ⟨k1,k2,k3⟩:=h3 i e x he hx
  have:=all_get (show (ents.all fun x=>x.1.pure && x.2.pure)=true from hp) hx
  simp only [Bool.and_eq_true] at this
  exact ⟨k1.free (fun b hb _=>⟨rfl,hN b hb⟩) (Nat.le_refl _) (D.pT this.1),k2.free (fun b hb _=>⟨rfl,hN b hb⟩) (Nat.le_refl _) (D.pT this.2),k3⟩
theorem Rep.cut1 {w:World} {bl:Bl} {N N':Nat→Prop} {st:St} {n:Nat} (hN:∀ b,¬ N b→¬ N' b) (hn:n≤st.length) {v:Value} {d:D} (ho:d.old1 n=true) (h:Rep w N st bl v d):Rep w N' (st.take n) bl v d:=by
 have hl:(st.take n).length=n:=by rw [List.length_take]; omega
 by_cases hp:d.pure1=true
 ·exact h.free (fun b hb _=>⟨rfl,hN b hb⟩) (Nat.le_refl _) (D.pT (D.p1 hp))
 ·cases h with
  | hp id ver sz idx off a hi hv ha=>
   have hid:id < n:=by simpa [D.old1] using ho
   exact .hp id ver sz idx off a (by omega) (by rw [at_take hid]; exact hv) (by rw [at_take hid]; exact ha)
  | rs id ver sz off len full a cap hi hv hc hf ha=>
   have hid:id < n:=by simpa [D.old1] using ho
   exact .rs id ver sz off len full a cap (by omega) (by rw [at_take hid]; exact hv) hc hf (by rw [at_take hid]; exact ha)
  | kp b o id ver sz idx off v hm h=>
   have hid:id < n:=by simpa [D.old1] using ho
   refine .kp b o id ver sz idx off v ⟨hN _ hm.1,hm.2⟩ ?_
   cases h with
   | hp _ _ _ _ _ a hi hv ha=>exact .hp id ver sz idx off a (by omega) (by rw [at_take hid]; exact hv) (by rw [at_take hid]; exact ha)
  | _=>exact absurd ho hp
theorem ObRel.cut {w:World} {N N':Nat→Prop} {st:St} {bl:Bl} {n b:Nat} {o:Ob} (hN:∀ b,¬ N b→¬ N' b) (hn:n≤st.length) (hp:o.old n=true) (h:ObRel w N st bl b o):ObRel w N' (st.take n) bl b o:=by
 cases o with
 | cells box sz ver m fr elems=>
  obtain ⟨cs,e,lo,hi,h1,h2,h3,h4⟩:=h
  refine ⟨cs,e,lo,hi,h1,h2,h3,fun i d hd=>?_⟩
  obtain ⟨k1,k2,k3,k4⟩:=h4 i d hd
  refine ⟨k1,k2,k3,fun j x hx=>?_⟩
  obtain ⟨q1,v,q2,q3⟩:=k4 j x hx
  refine ⟨q1,v,q2,q3.cut1 hN hn ?_⟩
  have hdp:d.old n=true:=all_get (show elems.all (D.old n)=true from hp) hd
  by_cases hg:∃ cs,d=.agg cs
  ·obtain ⟨ds,rfl⟩:=hg
   exact all_get (show ds.all (D.old1 n)=true from hdp) hx
  ·have:d.cells=[d]:=by cases d <;> first | rfl | exact absurd ⟨_,rfl⟩ hg
   rw [this] at hx
   cases j with
   | zero=>simp at hx; subst hx; cases d <;> first | exact hdp | exact absurd ⟨_,rfl⟩ hg
   | succ j=>simp at hx
 | map m ents=>simp [Ob.old] at hp
theorem cut_ok {L:Nat→Prop} {st st3:St} {bl3:Bl} {w':World} (H:HRel w L st bl) (H3:HRel w' L st3 bl3) (E:Evo w st bl w' st3 bl3) (hs:settled st st3=true) :
  Evo w st bl w' (st3.take st.length) bl3∧HRel w' L (st3.take st.length) bl3∧∀ b,NN L (st3.take st.length) bl3 b→NN L st3 bl3 b:=by
 have hlen:=E.len
 have hl:(st3.take st.length).length=st.length:=by rw [List.length_take]; omega
 have hlive:∀ b,LiveB (st3.take st.length) bl3 b→LiveB st3 bl3 b:=by
  rintro b ⟨id,h1,h2,h3⟩
  rw [hl] at h1
  rw [at_take h1] at h2
  exact ⟨id,by omega,h2,h3⟩
 have E4:Evo w st bl w' (st3.take st.length) bl3:=by
  refine ⟨E.os,E.tape,E.output,E.size,E.same,fun b hb=>E.live b (hlive b hb),by omega,fun id hid=>?_,fun id hid=>?_,fun id hid=>?_⟩
  ·rw [at_take hid]; exact E.ver id hid
  ·rw [at_take hid]; exact E.map id hid
  ·rw [at_take hid]; exact E.mod id hid
 have hN:∀ b,NN L (st3.take st.length) bl3 b→NN L st3 bl3 b:=fun b hb=>hb.elim .inl fun h=>.inr (hlive b h)
 refine ⟨E4,⟨fun i j hi hj h=>?_,fun i hi=>?_,fun i hi=>?_⟩,hN⟩
 ·rw [hl] at hi hj; exact H3.inj i j (by omega) (by omega) h
 ·rw [hl] at hi; exact H3.out i (by omega)
 ·rw [hl] at hi
  rw [at_take hi]
  rcases settled_at hs i hi with h | h | h
  ·obtain ⟨k1,k2,k3⟩:=(E.mod i hi).2 h
   rw [k1,k2]
   exact (H.obj i hi).ext (E4.ext (L:=L)) E.size k3
  ·exact (H3.obj i (by omega)).free (fun b hb g=>hb (hN b g)) h
  ·exact (H3.obj i (by omega)).cut (fun b hb g=>hb (hN b g)) hlen h
theorem wp_ent {o:Oper} {f:Nat} {vs:Array Value} {K:Act→World→Prop} {Q:Exit→Act→World→Prop} (h:(execOp a.eval o).run P w=.ok (.enter f vs) w) (hc:Calls P f vs w fun e w'=>∃ v,e=.returned v∧K (a.put o.dst v) w'):o.wp P a w K Q:=by
 unfold Oper.wp; rw [h]
 refine Calls.mono hc ?_
 rintro e w' ⟨v,rfl,hk⟩
 exact hk
theorem sim_callD (C:CR X c bl lb a w) {T:Nat→Option IFunc} {go:GoF} (hgo:∀ f args st r st',go f args st=some (r,st')→(T f).isSome=true→CallOK P f args st r st') {o:Oper} {f:Nat} {vs:Array Value} {ds:List D} {r:D × St}
  (hrun:(execOp a.eval o).run P w=.ok (.enter f vs) w) (hdn:∀ d,o.dst=some d→d < X.n) (hl:vs.size=ds.length) (hr:∀ (i:Nat) (v:Value) (d:D),vs[i]?=some v→ds[i]?=some d→SR X c bl lb w v d)
  (hd:callD T go f ds c.2=some r) {K:Act→World→Prop} {Q:Exit→Act→World→Prop} (hK:∀ a' w',RelC X (apply c o.dst (r.1,none,some r.2)) a' w'→K a' w'):o.wp P a w K Q:=by
 refine wp_ent hrun ?_
 unfold callD at hd
 cases hT:T f with
 | none=>simp [hT] at hd
 | some fn=>
  simp only [hT] at hd
  have hsome:(T f).isSome=true:=by rw [hT]; rfl
  split at hd
  ·cases hpa:pureArgs c.2 ds with
   | none=>simp [hpa] at hd
   | some as=>
    obtain ⟨as,st1⟩:=as
    simp only [hpa,Option.bind_some] at hd
    cases hg:go f as [] with
    | none=>simp [hg] at hd
    | some r2=>
     obtain ⟨r2,st2⟩:=r2
     simp only [hg,Option.bind_some] at hd
     cases hz:fz st2 r2 with
     | none=>simp [hz] at hd
     | some q=>
      obtain ⟨q,st3⟩:=q
      simp only [hz,Option.bind_some] at hd
      split at hd
      ·rename_i hq
       simp only [Option.some.injEq] at hd
       subst hd
       have noLp:∀ (i:Nat) (d:D),ds[i]?=some d→∀ b g off,d≠.lp b g off:=by
        have:∀ (ds:List D) (st:St) (as:List D) (st1:St),pureArgs st ds=some (as,st1)→∀ (i:Nat) (d:D),ds[i]?=some d→∀ b g off,d≠.lp b g off:=by
         intro ds
         induction ds with
         | nil=>intro _ _ _ _ i d h; simp at h
         | cons x ds ih=>
          intro st as st1 hp i d hd b g off e
          simp only [pureArgs] at hp
          cases h1:fz1 st x with
          | none=>simp [h1] at hp
          | some r=>
           simp only [h1,Option.bind_some] at hp
           cases i with
           | zero=>simp at hd; subst hd; subst e; simp [fz1,fz0] at h1
           | succ i=>
            split at hp
            ·cases h2:pureArgs r.2 ds with
             | none=>simp [h2] at hp
             | some q=>exact ih r.2 q.1 q.2 (by rw [h2]) i d (by simpa using hd) b g off e
            ·simp at hp
        exact this ds c.2 as st1 hpa
       obtain ⟨F,hal,har⟩:=pureArgs_ok (X.LL c.1.b lb) bl C.bound ds c.2 (fun i=>vs.getD i undef) as st1 C.heap (fun i d hd=>by
        have hi:i < vs.size:=by rw [hl]; exact (List.getElem?_eq_some_iff.1 hd).1
        have:=(hr i vs[i] d (by simp [hi]) hd).rep (noLp i d hd)
        simpa [Array.getD_eq_getD_getElem?,hi] using this) hpa
       refine Calls.mono (pure_call (hgo _ _ _ _ _ hg hsome) hz hq F.heap C.bound (by omega) fun i v d hv hd=>?_) ?_
       ·have:=har i d hd
        simpa [Array.getD_eq_getD_getElem?,hv] using this
       ·rintro e w' ⟨v,rfl,e1,e2,e3,e4,e5,e6⟩
        refine ⟨v,rfl,hK _ _ ?_⟩
        have C1:=(C.go F.evo F.heap).grown e1 e2 e3 e4 e5
        rw [apply_heap]
        exact ⟨bl,lb,C1.put hdn fun _=>Rep.slot _ _ e6⟩
      ·simp at hd
  ·split at hd
   ·rename_i hok
    cases hg:go f ds c.2 with
    | none=>simp [hg] at hd
    | some r2=>
     obtain ⟨r2,st2⟩:=r2
     simp only [hg,Option.bind_some] at hd
     cases hz:fz st2 r2 with
     | none=>simp [hz] at hd
     | some q=>
      obtain ⟨q,st3⟩:=q
      simp only [hz,Option.bind_some] at hd
      split at hd
      ·rename_i hq
       simp only [Bool.and_eq_true] at hq
       simp only [Option.some.injEq] at hd
       subst hd
       refine Calls.mono (hgo _ _ _ _ _ hg hsome w (X.LL c.1.b lb) bl vs C.heap C.bound hl fun i v d hv hd=>(hr i v d hv hd).okv (all_get hok hd)) ?_
       rintro e w' ⟨v,bl2,rfl,H2,R2,E⟩
       obtain ⟨F,R3,_⟩:=fz_ok w' _ st2 bl2 v r2 q st3 H2 (fun b hb=>Nat.lt_of_lt_of_le (C.bound b hb) E.size) R2 hz
       have E3:=E.trans F.evo
       have hmod:=agree_at hq.2
       have hsame:∀ k,k < w.heap.size→w'.heap[k]?=w.heap[k]?:=by
        intro k hk
        by_cases hlv:LiveB c.2 bl k
        ·obtain ⟨id,hid,_,rfl⟩:=hlv
         exact ((E3.mod id hid).2 (hmod id hid)).2.2
        ·exact E3.same k hk hlv
       refine ⟨v,rfl,hK _ _ ?_⟩
       have C1:=C.grown E3.os E3.tape E3.output E3.size hsame
       rw [apply_heap]
       refine ⟨bl,lb,C1.put hdn fun _=>Rep.slot _ _ ?_⟩
       refine R3.free (fun b hb _=>⟨rfl,fun g=>hb ?_⟩) (Nat.le_refl _) hq.1
       rcases g with g | ⟨id,hid,hlv,rfl⟩
       ·exact .inl g
       ·obtain ⟨k1,k2,_⟩:=(E3.mod id hid).2 (hmod id hid)
        exact .inr ⟨id,Nat.lt_of_lt_of_le hid E3.len,by rw [k1]; exact hlv,k2⟩
      ·simp at hd
   ·simp at hd
  ·split at hd
   ·rename_i hok
    cases hg:go f ds c.2 with
    | none=>simp [hg] at hd
    | some r2=>
     obtain ⟨r2,st2⟩:=r2
     simp only [hg,Option.bind_some] at hd
     cases hz:fz st2 r2 with
     | none=>simp [hz] at hd
     | some q=>
      obtain ⟨q,st3⟩:=q
      simp only [hz,Option.bind_some] at hd
      split at hd
      ·rename_i hq
       simp only [Bool.and_eq_true] at hq
       simp only [Option.some.injEq] at hd
       subst hd
       refine Calls.mono (hgo _ _ _ _ _ hg hsome w (X.LL c.1.b lb) bl vs C.heap C.bound hl fun i v d hv hd=>(hr i v d hv hd).okv (all_get hok hd)) ?_
       rintro e w' ⟨v,bl2,rfl,H2,R2,E⟩
       obtain ⟨F,R3,_⟩:=fz_ok w' _ st2 bl2 v r2 q st3 H2 (fun b hb=>Nat.lt_of_lt_of_le (C.bound b hb) E.size) R2 hz
       obtain ⟨E4,H4,hN⟩:=cut_ok C.heap F.heap (E.trans F.evo) hq.2
       refine ⟨v,rfl,hK _ _ ?_⟩
       rw [apply_heap]
       exact ⟨bl2,lb,(C.go E4 H4).put hdn fun _=>Rep.slot _ _ (R3.free (fun b hb _=>⟨rfl,fun g=>hb (hN b g)⟩) (Nat.le_refl _) hq.1)⟩
      ·simp at hd
   ·simp at hd
  ·split at hd
   ·rename_i hok
    refine Calls.mono (hgo _ _ _ _ _ hd hsome w (X.LL c.1.b lb) bl vs C.heap C.bound hl fun i v d hv hd=>(hr i v d hv hd).okv (all_get hok hd)) ?_
    rintro e w' ⟨v,bl2,rfl,H2,R2,E⟩
    refine ⟨v,rfl,hK _ _ ?_⟩
    rw [apply_heap]
    exact ⟨bl2,lb,(C.go E H2).put hdn fun _=>Rep.slot _ _ R2⟩
   ·simp at hd
  ·split at hd
   ·rename_i hok
    cases hg:go f ds c.2 with
    | none=>simp [hg] at hd
    | some r2=>
     obtain ⟨r2,st2⟩:=r2
     simp only [hg,Option.bind_some] at hd
     cases hz:fz st2 r2 with
     | none=>simp [hz] at hd
     | some q=>
      obtain ⟨q,st3⟩:=q
      simp only [hz,Option.bind_some] at hd
      split at hd
      ·simp only [Option.some.injEq] at hd
       subst hd
       refine Calls.mono (hgo _ _ _ _ _ hg hsome w (X.LL c.1.b lb) bl vs C.heap C.bound hl fun i v d hv hd=>(hr i v d hv hd).okv (all_get hok hd)) ?_
       rintro e w' ⟨v,bl2,rfl,H2,R2,E⟩
       obtain ⟨F,R3,_⟩:=fz_ok w' _ st2 bl2 v r2 q st3 H2 (fun b hb=>Nat.lt_of_lt_of_le (C.bound b hb) E.size) R2 hz
       refine ⟨v,rfl,hK _ _ ?_⟩
       rw [apply_heap]
       exact ⟨bl2,lb,(C.go (E.trans F.evo) F.heap).put hdn fun _=>Rep.slot _ _ R3⟩
      ·simp at hd
   ·simp at hd
theorem sim_callQ (C:CR X c bl lb a w) {T:Nat→Option IFunc} {go:GoF} (hgo:∀ f args st r st',go f args st=some (r,st')→(T f).isSome=true→CallOK P f args st r st') {o:Oper} {f:Nat} {vs:Array Value} {ds:List D} {r:D}
  (hrun:(execOp a.eval o).run P w=.ok (.enter f vs) w) (hdn:∀ d,o.dst=some d→d < X.n) (hl:vs.size=ds.length) (hr:∀ (i:Nat) (v:Value) (d:D),vs[i]?=some v→ds[i]?=some d→SR X c bl lb w v d)
  (hd:callQD T go f ds=some r) {K:Act→World→Prop} {Q:Exit→Act→World→Prop} (hK:∀ a' w',RelC X (apply c o.dst (r,none,none)) a' w'→K a' w'):o.wp P a w K Q:=by
 refine wp_ent hrun ?_
 unfold callQD at hd
 cases hT:T f with
 | none=>simp [hT] at hd
 | some fn=>
  simp only [hT] at hd
  have hsome:(T f).isSome=true:=by rw [hT]; rfl
  split at hd
  ·split at hd
   ·rename_i hok
    cases hg:go f ds [] with
    | none=>simp [hg] at hd
    | some r2=>
     obtain ⟨r2,st2⟩:=r2
     simp only [hg,Option.bind_some] at hd
     cases hz:fz st2 r2 with
     | none=>simp [hz] at hd
     | some q=>
      obtain ⟨q,st3⟩:=q
      simp only [hz,Option.bind_some] at hd
      split at hd
      ·rename_i hq
       simp only [Option.some.injEq] at hd
       subst hd
       refine Calls.mono (pure_call (hgo _ _ _ _ _ hg hsome) hz hq C.heap C.bound hl fun i v d hv hd=>?_) ?_
       ·have hp:=all_get hok hd
        exact ⟨(hr i v d hv hd).okv (pure_okv hp),hp⟩
       ·rintro e w' ⟨v,rfl,e1,e2,e3,e4,e5,e6⟩
        refine ⟨v,rfl,hK _ _ ?_⟩
        exact ⟨bl,lb,(C.grown e1 e2 e3 e4 e5).put hdn fun _=>Rep.slot _ _ e6⟩
      ·simp at hd
   ·simp at hd
  ·simp at hd
end Go.Nt
