/-
  LOOPS, round by round; a nested read of an aggregate.
  No condition.
-/
import Derived.Test.YtnflammoeakgfaaGreatNtIfW
import Derived.Test.YtnflammoeakgfaaGreatLiIr
import Derived.Test.YtnflammoeakgfaaGreatLiIns
namespace Go.Nt
variable {T:Nat→Option IFunc}
def qW (T:Nat→Option IFunc) (L:Ic) (K:Kt):Kt
 | .normal,c=>WL T L c K
 | e,c=>K e c
@[simp ↓] theorem qW_n (L:Ic) (K:Kt) (c:Cfg):qW T L K .normal c=WL T L c K:=(rfl)
@[simp ↓] theorem qW_r (L:Ic) (K:Kt) (c:Cfg):qW T L K .ret c=K .ret c:=(rfl)
@[simp ↓] theorem qW_e (L:Ic) (K:Kt) (id:Nat) (c:Cfg):qW T L K (.exit id) c=K (.exit id) c:=(rfl)
theorem WL_un {L body:Ic} (h:L=body) (c:Cfg) (K:Kt):WL T L c K=WP T body c (qW T L K):=by
 refine propext ⟨fun ⟨e,c',hr,hk⟩=>?_,fun ⟨e,c',hr,hk⟩=>?_⟩
 ·rw [lp_at L body h] at hr
  cases hq:rn T (ev T) (lp T) body c with
  | none=>rw [hq] at hr; cases hr
  | some r=>
   obtain ⟨e1,c1⟩:=r
   rw [hq] at hr
   refine ⟨e1,c1,hq,?_⟩
   cases e1 with
   | normal=>exact ⟨e,c',hr,hk⟩
   | ret=>cases hr; exact hk
   | exit id=>cases hr; exact hk
 ·cases e with
  | normal=>
   obtain ⟨e2,c2,h2,k2⟩:=hk
   exact ⟨e2,c2,by rw [lp_at L body h,hr]; exact h2,k2⟩
  | ret=>exact ⟨_,_,by rw [lp_at L body h,hr]; rfl,hk⟩
  | exit id=>exact ⟨_,_,by rw [lp_at L body h,hr]; rfl,hk⟩
end Go.Nt
set_option linter.unusedSimpArgs false
set_option maxRecDepth 20000
namespace Go.Nt.Li
open Go Go.Nt
abbrev nI (l:List Int):List D:=l.map (.int .i64)
def rid:D→Option Nat
 | .rs id _ _ _ _ _=>some id
 | _=>none
def RowI (st:St) (d:D) (l:List Int):Prop:=
 (d=.nils∧l=[])∨∃ id md,d=.rs id (l.length - 1) 1 0 l.length false∧id < st.length∧l≠[]∧St.at st id=.cells false 1 (l.length - 1) md false (nI l)
theorem RowI.nil (st:St):RowI st .nils []:=.inl ⟨rfl,rfl⟩
theorem RowI.keep {st st':St} {d:D} {l:List Int} (h:RowI st d l) (hl:st.length≤st'.length) (ha:∀ i,rid d=some i→St.at st' i=St.at st i):RowI st' d l:=by
 rcases h with h | ⟨id,md,rfl,h1,h2,h3⟩
 ·exact .inl h
 ·exact .inr ⟨id,md,rfl,by omega,h2,by rw [ha id rfl]; exact h3⟩
theorem RowI.lt {st:St} {d:D} {l:List Int} (h:RowI st d l) {i:Nat} (hi:rid d=some i):i < st.length∧∃ v m e,St.at st i=.cells false 1 v m false e:=by
 rcases h with ⟨rfl,_⟩ | ⟨id,md,rfl,h1,h2,h3⟩
 ·cases hi
 ·cases hi; exact ⟨h1,_,_,_,h3⟩
theorem RowI.facts {st:St} {d:D} {l:List Int} (h:RowI st d l):d.okv=true∧d.cells=[d]∧d.fits none=true∧(∀ st' q,lenD st' .slice d q=some (.i l.length))∧listD st 1 d=some (nI l):=by
 rcases h with ⟨rfl,rfl⟩ | ⟨id,md,rfl,h1,h2,h3⟩
 ·exact ⟨rfl,rfl,rfl,fun _ _=>rfl,rfl⟩
 ·refine ⟨rfl,rfl,rfl,fun _ _=>rfl,?_⟩
  simp [listD,h3]
  exact List.take_of_length_le (by simp)
theorem ints_nI (l:List Int):ints (nI l)=some l:=by
 induction l with
 | nil=>rfl
 | cons z l ih=>simp [ints] at ih ⊢; exact ih
theorem c95 {st:St} {d:D} {l:List Int} (h:RowI st d l) (hr:rises l=true) (hl:l.length≤1000000) (n:Int) :
  callD T (ev T) 95 [d,.int .i64 n] st=some (.tup [.int .i64 ((l.countP (· < n):Nat):Int),.bool (l.contains n)],st):=by
 obtain ⟨h1,h2,h3,h4,h5⟩:=h.facts
 rw [callD_rawE (fn:=F95) rfl rfl (by simp [h1]),ev_eq 95 F95 rfl,F95]
 have hm:l.length < most:=by unfold most; omega
 have hp:primD 27 [d,.int .i64 n] st=some ([.int .i64 ((l.countP (· < n):Nat):Int),.bool (l.contains n)],st):=by
  rw [primD,if_pos (by decide)]
  simp only [primI,h5,Option.bind_some,ints_nI,hr,hm,and_self,if_true]
 simp [hp]
theorem c94 {st:St} {d:D} {l:List Int} (h:RowI st d l) (hr:rises l=true) (hl:l.length≤1000000) (n:Int) :
  ∃ d' st',callD T (ev T) 94 [d,.int .i64 n] st=some (d',st')∧RowI st' d' (insI n l)∧st.length≤st'.length∧(∀ i,i < st.length→rid d≠some i→St.at st' i=St.at st i)∧(rid d'=rid d∨∃ k,rid d'=some k∧st.length≤k):=by
 obtain ⟨h1,h2,h3,h4,h5⟩:=h.facts
 have q:=c95 h hr hl n
 by_cases hc:l.contains n=true
 ·rw [hc] at q
  refine ⟨d,st,?_,by rw [insI_same hc]; exact h,Nat.le_refl _,fun _ _ _=>rfl,.inl rfl⟩
  rw [callD_rawE (fn:=F94) rfl rfl (by simp [h1])]
  have go:Ret (ev T 94 [d,.int .i64 n] st) fun r st'=>r=d∧st'=st:=by
   refine Ret_wp (fn:=F94) rfl ?_
   rw [F94]
   simp [q,h1]
  obtain ⟨r,st',g,rfl,rfl⟩:=go
  exact g
 ·have hc':l.contains n=false:=by simpa using hc
  rw [hc'] at q
  have hcl:=List.countP_le_length (p:=fun x=>decide (x < n)) (l:=l)
  have hil:insI n l=l.take (l.countP (· < n))++n::l.drop (l.countP (· < n)):=by unfold insI; rw [if_neg hc]
  have hlen:(insI n l).length=l.length+1:=by rw [hil]; simp; omega
  have hne:insI n l≠[]:=by intro e; rw [e] at hlen; simp at hlen
  have hm:l.length < most:=by unfold most; omega
  have hm2:l.length < 134217728:=by omega
  have hx:listD (st++[.cells false 1 0 0 false [.int .i64 n]]) 1 (.rs st.length 0 1 0 1 true)=some [.int .i64 n]:=by simp [listD,at_append_self]
  have ins:∃ d' st',callD T (ev T) 127 [d,.int .i64 ((l.countP (· < n):Nat):Int),.rs st.length 0 1 0 1 true] (st++[.cells false 1 0 0 false [.int .i64 n]])=some (d',st')∧RowI st' d' (insI n l)∧st.length≤st'.length ∧
    (∀ i,i < st.length→rid d≠some i→St.at st' i=St.at st i)∧(rid d'=rid d∨∃ k,rid d'=some k∧st.length≤k):=by
   rcases h with ⟨rfl,rfl⟩ | ⟨id,md,rfl,g1,g2,g3⟩
   ·refine ⟨.rs (st.length+1) 0 1 0 1 false,(st++[.cells false 1 0 0 false [.int .i64 n]])++[.cells false 1 0 0 false [.int .i64 n]],?_,.inr ⟨st.length+1,0,by simp [insI],by simp,by simp [insI],?_⟩,by simp,fun i hi _=>?_,.inr ⟨_,rfl,by omega⟩⟩
    ·rw [callD_rawE (fn:=F127) rfl rfl (by simp),ev_eq 127 F127 rfl,F127]
     have hp:primD 15 [.nils,.int .i64 (([]:List Int).countP (· < n):Nat),.rs st.length 0 1 0 1 true] (st++[.cells false 1 0 0 false [.int .i64 n]])=some ([.rs (st.length+1) 0 1 0 1 false],(st++[.cells false 1 0 0 false [.int .i64 n]])++[.cells false 1 0 0 false [.int .i64 n]]):=by
      rw [primD,if_pos (by decide)]
      simp only [primI,hx,Option.bind_some]
      simp
     simp at hp ⊢
     simp [hp]
    ·rw [show st.length+1=(st++[Ob.cells false 1 0 0 false [.int .i64 n]]).length by simp,at_append_self]; simp [insI,nI]
    ·rw [at_append _ _ _ (by simp; omega),at_append _ _ _ hi]
   ·have hg:St.at (st++[Ob.cells false 1 0 0 false [.int .i64 n]]) id=.cells false 1 (l.length - 1) md false (nI l):=by rw [at_append _ _ _ g1]; exact g3
    have hlv:(St.at (st++[Ob.cells false 1 0 0 false [.int .i64 n]]) st.length).live=true:=by rw [at_append_self]; rfl
    have hpos:=List.length_pos_iff.2 g2
    have hid2:id < (st++[Ob.cells false 1 0 0 false [.int .i64 n]]).length:=by simp; omega
    have ev1:l.length - 1+1=l.length:=by omega
    have htb:l.length < tagB:=by unfold tagB; omega
    refine ⟨.rs id l.length 1 0 (l.length+1) false,List.set (st++[.cells false 1 0 0 false [.int .i64 n]]) id (.cells false 1 l.length (md+1) false (nI (insI n l))),?_,.inr ⟨id,md+1,by rw [hlen]; simp,by simp; omega,hne,?_⟩,by simp,fun i hi hr=>?_,.inl rfl⟩
    ·rw [callD_rawE (fn:=F127) rfl rfl (by simp),ev_eq 127 F127 rfl,F127]
     have hp:primD 15 [.rs id (l.length - 1) 1 0 l.length false,.int .i64 (l.countP (· < n):Nat),.rs st.length 0 1 0 1 true] (st++[.cells false 1 0 0 false [.int .i64 n]])=some ([.rs id l.length 1 0 (l.length+1) false],List.set (st++[.cells false 1 0 0 false [.int .i64 n]]) id (.cells false 1 l.length (md+1) false (nI (insI n l)))):=by
      rw [primD,if_pos (by decide)]
      have hne2:st.length≠id:=by omega
      simp only [primI,hx,Option.bind_some,hg,ints_nI,hlv]
      rw [if_pos ⟨trivial,by simp,by omega,by omega,hm,by omega,hne2,trivial⟩,ev1,hil]
      simp
     simp at hp ⊢
     simp [hp]
    ·rw [at_set _ _ _ _ hid2,if_pos rfl,hlen]; simp
    ·rw [at_set _ _ _ _ hid2,if_neg (fun e=>hr (by rw [e]; rfl)),at_append _ _ _ hi]
  obtain ⟨d',st',i1,i2,i3,i4,i5⟩:=ins
  obtain ⟨y1,y2,y3,_⟩:=i2.facts
  refine ⟨d',st',?_,i2,i3,i4,i5⟩
  rw [callD_rawE (fn:=F94) rfl rfl (by simp [h1])]
  have go:Ret (ev T 94 [d,.int .i64 n] st) fun r s=>r=d'∧s=st':=by
   refine Ret_wp (fn:=F94) rfl ?_
   rw [F94]
   simp [q,h1,i1,y1]
  obtain ⟨r,s,g,rfl,rfl⟩:=go
  exact g
end Go.Nt.Li
