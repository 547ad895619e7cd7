/-
  FROM WHAT A LAW IS CALLED WITH TO DATA; FROM WHAT THE MACHINE COMES TO, TO THE CALL.
  No condition.
-/
import Derived.Test.YtnflammoeakgfaaGreatNtSim
import Derived.ChangeArms
import Derived.ChangeSame
namespace Go.Nt
open Go Go.ChangeShapes Go.WideShapes Go.RowKit
abbrev bl0:Bl:=fun _=>0
abbrev N0:Nat→Prop:=NN (fun _=>False) [] bl0
theorem N0_no (b:Nat):¬ N0 b:=by
 rintro (h | ⟨id,h,_⟩)
 ·exact h
 ·simp at h
theorem cells_get {w:World} {base:Nat} {a:Addr} {n:Nat} {es:List Value} (h:w.cells? base a n=some es):es.length=n∧∀ (j:Nat) (u:Value),es[j]?=some u→w.cell? (a.add j)=some u:=by
 unfold World.cells? at h
 split at h
 ·have hl:es.length=n:=by simpa using mapM_some_length h
  refine ⟨hl,fun j u hu=>?_⟩
  have hj:j < n:=by rw [←hl]; exact (List.getElem?_eq_some_iff.1 hu).1
  have:=mapM_some_get h j j (by simp [hj])
  rw [this,hu]
 ·cases h
theorem addr_add {a:Addr} (h:a.spot=none) (n:Nat):a.add n=⟨a.block,a.off+n,none⟩:=by
 obtain ⟨b,o,s⟩:=a
 subst h
 unfold Addr.add
 by_cases hn:n=0
 ·subst hn; rfl
 ·rw [if_neg hn]
theorem rep_slice {α:Type} {w:World} {base:Nat} {enc:α→D} {a:Addr} {len cap sz:Nat} (good:α→Prop) (hsz:0 < sz) (hc:len≤cap) (hp:∀ x,good x→(enc x).pure=true∧(enc x).cells.length=sz)
  (h:∀ i,i < len→∃ (es:List Value) (v:Value) (x:α),w.cells? base (a.add (i * sz)) sz=some es∧v.cells.toList=es∧Rep w N0 [] bl0 v (enc x)∧good x) :
  ∃ l:List α,l.length=len∧(∀ x,x∈l→good x)∧Rep w N0 [] bl0 (.slice (some a) len cap) (slE sz .part (l.map enc)):=by
 have h':∀ i:Fin len,∃ q:List Value × Value × α,w.cells? base (a.add (i.1 * sz)) sz=some q.1∧q.2.1.cells.toList=q.1∧Rep w N0 [] bl0 q.2.1 (enc q.2.2)∧good q.2.2:=fun i=>by
  obtain ⟨es,v,x,h⟩:=h i.1 i.2
  exact ⟨(es,v,x),h⟩
 let q:=fun i=>Classical.choose (h' i)
 have hq:∀ i,w.cells? base (a.add (i.1 * sz)) sz=some (q i).1∧(q i).2.1.cells.toList=(q i).1∧Rep w N0 [] bl0 (q i).2.1 (enc (q i).2.2)∧good (q i).2.2:=fun i=>Classical.choose_spec (h' i)
 let l:=List.ofFn fun i=>(q i).2.2
 have hlen:l.length=len:=List.length_ofFn
 have hget:∀ (i:Nat) (d:D),(l.map enc)[i]?=some d→∃ hi:i < len,d=enc (q ⟨i,hi⟩).2.2:=by
  intro i d hd
  rw [List.getElem?_map,Option.map_eq_some_iff] at hd
  obtain ⟨x,hx,rfl⟩:=hd
  have hi:i < l.length:=(List.getElem?_eq_some_iff.1 hx).1
  rw [hlen] at hi
  refine ⟨hi,?_⟩
  have:=(List.getElem?_eq_some_iff.1 hx).2
  rw [←this]
  simp [l]
 refine ⟨l,hlen,?_,?_⟩
 ·intro x hx
  obtain ⟨i,hi⟩:=List.mem_ofFn.1 hx
  subst hi
  exact (hq i).2.2.2
 ·have spot:0 < len→a.spot=none:=by
   intro h0
   obtain ⟨h1,h2⟩:=cells_get (hq ⟨0,h0⟩).1
   have:=h2 0 ((q ⟨0,h0⟩).1[0]'(by omega)) (by simp)
   have:=World.cell?_spot this
   simpa [Addr.add] using this
  have e:(.slice (some a) len cap:Value)=.slice (some a) (l.map enc).length cap:=by rw [List.length_map,hlen]
  rw [e,show slE sz .part (l.map enc)=.sl sz false (l.map enc) from rfl]
  refine .sl sz false (l.map enc) a cap (fun i=>if hi:i < len then (q ⟨i,hi⟩).2.1 else .nilFunc) (by rw [List.length_map,hlen]; exact hc) (fun h=>by cases h) ?_ ?_ ?_ ?_
  ·intro hne
   have h0:0 < len:=by
    rcases Nat.eq_zero_or_pos len with g | g
    ·exact absurd (List.eq_nil_of_length_eq_zero (by rw [List.length_map,hlen,g])) hne
    ·exact g
   exact spot h0
  ·intro i d hd
   obtain ⟨hi,rfl⟩:=hget i d hd
   exact hp _ (hq ⟨i,hi⟩).2.2.2
  ·intro i d hd
   obtain ⟨hi,rfl⟩:=hget i d hd
   simp only [hi,dif_pos]
   obtain ⟨h0,h1,h2,h3⟩:=hq ⟨i,hi⟩
   obtain ⟨g1,g2⟩:=cells_get h0
   have hsp:a.spot=none:=spot (by omega)
   have hcell:∀ (j:Nat) (u:Value),(q ⟨i,hi⟩).2.1.cells[j]?=some u→w.cell? ⟨a.block,a.off+i * sz+j,none⟩=some u:=by
    intro j u hu
    have:=g2 j u (by rw [←h1,Array.getElem?_toList]; exact hu)
    rw [addr_add hsp,addr_add rfl] at this
    exact this
   refine ⟨N0_no _,?_,hcell⟩
   have hlt:0 < (q ⟨i,hi⟩).2.1.cells.size:=by
    have:(q ⟨i,hi⟩).2.1.cells.toList.length=sz:=by rw [h1,g1]
    rw [Array.length_toList] at this
    omega
   exact cell_lt (a:=⟨a.block,a.off+i * sz+0,none⟩) (hcell 0 _ (Array.getElem?_eq_getElem hlt))
  ·intro i d hd
   obtain ⟨hi,rfl⟩:=hget i d hd
   simp only [hi,dif_pos]
   exact (hq ⟨i,hi⟩).2.2.1
theorem calls_of_ev {P:Program} {T:Nat→Option IFunc} (hT:∀ f ifn,T f=some ifn→FuncOK P f ifn) {f:Nat} {args:List D} {b:Bool} {st':St} (h:ev T f args []=some (.bool b,st')) {w:World} {vs:Array Value}
  (hl:vs.size=args.length) (hr:∀ (i:Nat) (v:Value) (d:D),vs[i]?=some v→args[i]?=some d→Rep w N0 [] bl0 v d) :
  Calls P f vs w fun e w'=>e=.returned (.bool b)∧Below w.heap.size w w':=by
 obtain ⟨k,hk⟩:=(lim_iff (ev_mono _ _ _) _).1 h
 refine (sound hT k f args [] (.bool b) st' hk w (fun _=>False) bl0 vs ⟨fun i j hi=>by simp at hi,fun i hi=>by simp at hi,fun i hi=>by simp at hi⟩ (fun b hb=>hb.elim) hl hr).mono fun e w' ⟨v,bl',he,hh,hrep,hevo⟩=>?_
 refine ⟨?_,hevo.os,hevo.tape,hevo.output,hevo.size,fun k hk=>hevo.same k hk ?_⟩
 ·cases hrep; exact he
 ·rintro ⟨id,hid,_⟩; simp at hid
end Go.Nt
