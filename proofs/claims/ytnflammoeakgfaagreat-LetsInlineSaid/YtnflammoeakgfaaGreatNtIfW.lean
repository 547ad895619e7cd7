/-
  RUNS WITH WHAT IS ASKED BEHIND THEM: 'simp' walks code head first, parts at branches ('+contextual': each way knows its truth), and leaves what is asked at each way's end.
  No condition.
-/
import Derived.Test.YtnflammoeakgfaaGreatNtFast
namespace Go.Nt
variable {T:Nat→Option IFunc}
abbrev Kt:Type:=Ex→Cfg→Prop
def WP (T:Nat→Option IFunc) (a:Ic) (c:Cfg) (K:Kt):Prop:=∃ e c',rn T (ev T) (lp T) a c=some (e,c')∧K e c'
def WO (T:Nat→Option IFunc) (l:List Gi) (c:Cfg) (K:Kt):Prop:=∃ c',runOps T (ev T) l c=some c'∧K .normal c'
def WE (T:Nat→Option IFunc) (d:Option Nat) (s:List D) (b:List (Nat × List D)) (st:St) (os:List Gi) (x:Option Eff) (K:Kt):Prop:=∃ c',kE T (ev T) d s b st os x=some c'∧K .normal c'
def WL (T:Nat→Option IFunc) (L:Ic) (c:Cfg) (K:Kt):Prop:=∃ e c',lp T L c=some (e,c')∧K e c'
def WC (T:Nat→Option IFunc) (a b:Ic) (c:Cfg) (d:D) (K:Kt):Prop:=∃ e c',kC T (ev T) (lp T) a b c d=some (e,c')∧K e c'
def WG (T:Nat→Option IFunc) (w:Bool) (io:Io) (os:List Gi) (s:List D) (b:List (Nat × List D)) (st:St) (d:D) (K:Kt):Prop:=∃ c',kG T (ev T) w io os s b st d=some c'∧K .normal c'
def qSq (T:Nat→Option IFunc) (b:Ic) (K:Kt):Kt
 | .normal,c=>WP T b c K
 | e,c=>K e c
def qBk (id:Nat) (K:Kt):Kt
 | .exit id',c=>K (if id'=id then .normal else .exit id') c
 | e,c=>K e c
def qLp (T:Nat→Option IFunc) (L:Ic) (Q:Ex→List D→List (Nat × List D)→St→Prop):Kt
 | .normal,c=>Stops (lp T L c) Q
 | e,c=>Q e c.1.s c.1.b c.2
def qFn (res:List Rv) (Q:D→St→Prop):Kt
 | .exit _,_=>False
 | _,c=>Ret (finish res c) Q
@[congr] theorem WE_cg {d d':Option Nat} {s:List D} {b:List (Nat × List D)} {st:St} {os:List Gi} {x x':Option Eff} {K:Kt} (hd:d=d') (hx:x=x'):WE T d s b st os x K=WE T d' s b st os x' K:=by rw [hd,hx]
@[congr] theorem WG_cg {w:Bool} {io:Io} {os:List Gi} {s:List D} {b:List (Nat × List D)} {st:St} {d d':D} {K:Kt} (h:d=d'):WG T w io os s b st d K=WG T w io os s b st d' K:=by rw [h]
@[congr] theorem WC_cg {a b:Ic} {c:Cfg} {d d':D} {K:Kt} (h:d=d'):WC T a b c d K=WC T a b c d' K:=by rw [h]
@[simp ↓] theorem qSq_n (b:Ic) (K:Kt) (c:Cfg):qSq T b K .normal c=WP T b c K:=(rfl)
@[simp ↓] theorem qSq_r (b:Ic) (K:Kt) (c:Cfg):qSq T b K .ret c=K .ret c:=(rfl)
@[simp ↓] theorem qSq_e (b:Ic) (K:Kt) (id:Nat) (c:Cfg):qSq T b K (.exit id) c=K (.exit id) c:=(rfl)
@[simp ↓] theorem qBk_n (id:Nat) (K:Kt) (c:Cfg):qBk id K .normal c=K .normal c:=(rfl)
@[simp ↓] theorem qBk_r (id:Nat) (K:Kt) (c:Cfg):qBk id K .ret c=K .ret c:=(rfl)
@[simp ↓] theorem qBk_e0 (id:Nat) (K:Kt) (c:Cfg):qBk id K (.exit id) c=K .normal c:=by simp [qBk]
@[simp ↓] theorem qBk_e (id id':Nat) (K:Kt) (c:Cfg) (h:id'≠id):qBk id K (.exit id') c=K (.exit id') c:=by simp [qBk,h]
@[simp ↓] theorem qLp_n (L:Ic) (Q:Ex→List D→List (Nat × List D)→St→Prop) (c:Cfg):qLp T L Q .normal c=Stops (lp T L c) Q:=(rfl)
@[simp ↓] theorem qLp_r (L:Ic) (Q:Ex→List D→List (Nat × List D)→St→Prop) (s:List D) (b:List (Nat × List D)) (st:St):qLp T L Q .ret ⟨⟨s,b⟩,st⟩=Q .ret s b st:=(rfl)
@[simp ↓] theorem qLp_e (L:Ic) (Q:Ex→List D→List (Nat × List D)→St→Prop) (id:Nat) (s:List D) (b:List (Nat × List D)) (st:St):qLp T L Q (.exit id) ⟨⟨s,b⟩,st⟩=Q (.exit id) s b st:=(rfl)
@[simp ↓] theorem qFn_n (res:List Rv) (Q:D→St→Prop) (c:Cfg):qFn res Q .normal c=Ret (finish res c) Q:=(rfl)
@[simp ↓] theorem qFn_r (res:List Rv) (Q:D→St→Prop) (c:Cfg):qFn res Q .ret c=Ret (finish res c) Q:=(rfl)
@[simp ↓] theorem WP_skip (c:Cfg) (K:Kt):WP T .skip c K=K .normal c:=propext ⟨fun ⟨_,_,h,k⟩=>by cases h; exact k,fun k=>⟨_,_,rfl,k⟩⟩
@[simp ↓] theorem WP_exit (id:Nat) (c:Cfg) (K:Kt):WP T (.exit id) c K=K (.exit id) c:=propext ⟨fun ⟨_,_,h,k⟩=>by cases h; exact k,fun k=>⟨_,_,rfl,k⟩⟩
@[simp ↓] theorem WP_ret (c:Cfg) (K:Kt):WP T .ret c K=K .ret c:=propext ⟨fun ⟨_,_,h,k⟩=>by cases h; exact k,fun k=>⟨_,_,rfl,k⟩⟩
@[simp ↓] theorem WP_loop (L:Ic) (c:Cfg) (K:Kt):WP T (.loop L) c K=WL T L c K:=(rfl)
@[simp ↓] theorem WP_seq (a b:Ic) (c:Cfg) (K:Kt):WP T (.seq a b) c K=WP T a c (qSq T b K):=by
 refine propext ⟨fun ⟨e,c',h,k⟩=>?_,fun ⟨e,c',h,k⟩=>?_⟩
 ·rw [rn_seq] at h
  cases hq:rn T (ev T) (lp T) a c with
  | none=>rw [hq] at h; cases h
  | some r=>
   obtain ⟨e1,c1⟩:=r
   rw [hq] at h
   refine ⟨e1,c1,hq,?_⟩
   cases e1 with
   | normal=>exact ⟨e,c',h,k⟩
   | ret=>cases h; exact k
   | exit id=>cases h; exact k
 ·cases e with
  | normal=>
   obtain ⟨e2,c2,h2,k2⟩:=k
   exact ⟨e2,c2,by rw [rn_seq,h]; exact h2,k2⟩
  | ret=>exact ⟨_,_,by rw [rn_seq,h]; rfl,k⟩
  | exit id=>exact ⟨_,_,by rw [rn_seq,h]; rfl,k⟩
@[simp ↓] theorem WP_block (id:Nat) (a:Ic) (c:Cfg) (K:Kt):WP T (.block id a) c K=WP T a c (qBk id K):=by
 refine propext ⟨fun ⟨e,c',h,k⟩=>?_,fun ⟨e,c',h,k⟩=>?_⟩
 ·rw [rn_block] at h
  cases hq:rn T (ev T) (lp T) a c with
  | none=>rw [hq] at h; cases h
  | some r=>
   obtain ⟨e1,c1⟩:=r
   rw [hq] at h
   refine ⟨e1,c1,hq,?_⟩
   cases e1 <;> (cases h; exact k)
 ·cases e <;> exact ⟨_,_,by rw [rn_block,h]; rfl,k⟩
@[simp ↓] theorem WP_cond (x:Opd) (a b:Ic) (c:Cfg) (K:Kt):WP T (.cond x a b) c K=WC T a b c (x.ev c.1.s) K:=by simp only [WP,WC,rn_cond]
@[simp ↓] theorem WC_b (t:Bool) (a b:Ic) (c:Cfg) (K:Kt):WC T a b c (.bool t) K=((t=true→WP T a c K)∧(t=false→WP T b c K)):=by cases t <;> simp [WC,WP]
@[simp ↓] theorem WP_ops (l:List Gi) (c:Cfg) (K:Kt):WP T (.ops l) c K=WO T l c K:=by
 refine propext ⟨fun ⟨e,c',h,k⟩=>?_,fun ⟨c',h,k⟩=>⟨.normal,c',by rw [rn_ops,h]; rfl,k⟩⟩
 rw [rn_ops,Option.map_eq_some_iff] at h
 obtain ⟨c1,h1,h2⟩:=h
 cases h2
 exact ⟨_,h1,k⟩
@[simp ↓] theorem WO_nil (c:Cfg) (K:Kt):WO T [] c K=K .normal c:=propext ⟨fun ⟨_,h,k⟩=>by cases h; exact k,fun k=>⟨_,rfl,k⟩⟩
@[simp ↓] theorem WO_g0 (io:Io) (os:List Gi) (s:List D) (b:List (Nat × List D)) (st:St) (K:Kt):WO T (g0 io::os) ⟨⟨s,b⟩,st⟩ K=WE T io.dst s b st os (actO T (ev T) (Opd.ev s) (getB b) st io) K:=by simp only [WO,WE,runOps_g0]
@[simp ↓] theorem WO_g1 (j:Nat) (w:Bool) (io:Io) (os:List Gi) (s:List D) (b:List (Nat × List D)) (st:St) (K:Kt):WO T (g1 j w io::os) ⟨⟨s,b⟩,st⟩ K=WG T w io os s b st (get s j) K:=by simp only [WO,WG,runOps_kG]
@[simp ↓] theorem WG_u (w:Bool) (io:Io) (os:List Gi) (s:List D) (b:List (Nat × List D)) (st:St) (K:Kt):WG T w io os s b st (.tup []) K=WO T os ⟨⟨putO s io.dst .undef,b⟩,st⟩ K:=(rfl)
@[simp ↓] theorem WG_t (t:Bool) (io:Io) (os:List Gi) (s:List D) (b:List (Nat × List D)) (st:St) (K:Kt):WG T true io os s b st (.bool t) K=((t=true→WO T (g0 io::os) ⟨⟨s,b⟩,st⟩ K)∧(t=false→WE T io.dst s b st os (some (.undef,none,none)) K)):=by cases t <;> simp [WG,WE]
@[simp ↓] theorem WG_f (t:Bool) (io:Io) (os:List Gi) (s:List D) (b:List (Nat × List D)) (st:St) (K:Kt):WG T false io os s b st (.bool t) K=((t=false→WO T (g0 io::os) ⟨⟨s,b⟩,st⟩ K)∧(t=true→WE T io.dst s b st os (some (.undef,none,none)) K)):=by cases t <;> simp [WG,WE]
@[simp ↓ high] theorem WC_tt (a b:Ic) (c:Cfg) (K:Kt):WC T a b c (.bool true) K=WP T a c K:=by simp
@[simp ↓ high] theorem WC_ff (a b:Ic) (c:Cfg) (K:Kt):WC T a b c (.bool false) K=WP T b c K:=by simp
@[simp ↓ high] theorem WG_tt (io:Io) (os:List Gi) (s:List D) (b:List (Nat × List D)) (st:St) (K:Kt):WG T true io os s b st (.bool true) K=WO T (g0 io::os) ⟨⟨s,b⟩,st⟩ K:=by simp [WG,WO]
@[simp ↓ high] theorem WG_tf (io:Io) (os:List Gi) (s:List D) (b:List (Nat × List D)) (st:St) (K:Kt):WG T true io os s b st (.bool false) K=WE T io.dst s b st os (some (.undef,none,none)) K:=by simp [WG,WE]
@[simp ↓ high] theorem WG_ff (io:Io) (os:List Gi) (s:List D) (b:List (Nat × List D)) (st:St) (K:Kt):WG T false io os s b st (.bool false) K=WO T (g0 io::os) ⟨⟨s,b⟩,st⟩ K:=by simp [WG,WO]
@[simp ↓ high] theorem WG_ft (io:Io) (os:List Gi) (s:List D) (b:List (Nat × List D)) (st:St) (K:Kt):WG T false io os s b st (.bool true) K=WE T io.dst s b st os (some (.undef,none,none)) K:=by simp [WG,WE]
@[simp ↓] theorem WE_vs (d:Nat) (s:List D) (b:List (Nat × List D)) (st:St) (os:List Gi) (v:D) (K:Kt):WE T (some d) s b st os (some (v,none,none)) K=WO T os ⟨⟨put s d v,b⟩,st⟩ K:=(rfl)
@[simp ↓] theorem WE_vn (s:List D) (b:List (Nat × List D)) (st:St) (os:List Gi) (v:D) (K:Kt):WE T none s b st os (some (v,none,none)) K=WO T os ⟨⟨s,b⟩,st⟩ K:=(rfl)
@[simp ↓] theorem WE_hs (d:Nat) (s:List D) (b:List (Nat × List D)) (st st':St) (os:List Gi) (v:D) (K:Kt):WE T (some d) s b st os (some (v,none,some st')) K=WO T os ⟨⟨put s d v,b⟩,st'⟩ K:=(rfl)
@[simp ↓] theorem WE_hn (s:List D) (b:List (Nat × List D)) (st st':St) (os:List Gi) (v:D) (K:Kt):WE T none s b st os (some (v,none,some st')) K=WO T os ⟨⟨s,b⟩,st'⟩ K:=(rfl)
@[simp ↓] theorem WE_bs (d:Nat) (s:List D) (b:List (Nat × List D)) (st:St) (os:List Gi) (v:D) (x g:Nat) (cs:List D) (K:Kt):WE T (some d) s b st os (some (v,some (x,g,cs),none)) K=WO T os ⟨⟨put s d v,putB b x (g,cs)⟩,st⟩ K:=(rfl)
@[simp ↓] theorem WE_bn (s:List D) (b:List (Nat × List D)) (st:St) (os:List Gi) (v:D) (x g:Nat) (cs:List D) (K:Kt):WE T none s b st os (some (v,some (x,g,cs),none)) K=WO T os ⟨⟨s,putB b x (g,cs)⟩,st⟩ K:=(rfl)
@[simp ↓] theorem WE_ite {p:Prop} [Decidable p] (d:Option Nat) (s:List D) (b:List (Nat × List D)) (st:St) (os:List Gi) (x y:Option Eff) (K:Kt) :
  WE T d s b st os (if p then x else y) K=((p→WE T d s b st os x K)∧(¬ p→WE T d s b st os y K)):=by
 by_cases h:p <;> simp [h]
@[simp ↓] theorem WE_no (d:Option Nat) (s:List D) (b:List (Nat × List D)) (st:St) (os:List Gi) (K:Kt):WE T d s b st os none K=False:=propext ⟨fun ⟨_,h,_⟩=>(by cases h),False.elim⟩
@[simp ↓] theorem WP_amb (y x:Nat) (a b:Ic) (s:List D) (bx:List (Nat × List D)) (st:St) (K:Kt):WP T (.amb y x a b) ⟨⟨s,bx⟩,st⟩ K =
  WP T a ⟨⟨put (put s y .unk) x (.bool true),bx⟩,st⟩ (fun e d=>e=.normal∧WP T b ⟨⟨put (put s y .unk) x (.bool false),bx⟩,st⟩ fun e' d'=>e'=.normal∧∃ st',joinSt st d.2 d'.2=some st'∧K .normal ⟨⟨clearS (y::x::(a.wr++b.wr)) s,bx⟩,st'⟩):=by
 refine propext ⟨fun ⟨e,c',h,k⟩=>?_,fun ⟨e,c1,h,he,e',c2,h',he',st',hj,k⟩=>?_⟩
 ·simp only [rn,Option.bind_eq_some_iff] at h
  obtain ⟨⟨e1,c1⟩,h1,⟨e2,c2⟩,h2,h⟩:=h
  unfold ambJ at h
  split at h
  ·rename_i g1 g2
   simp only at g1 g2
   subst g1 g2
   rw [Option.map_eq_some_iff] at h
   obtain ⟨st',hj,h⟩:=h
   cases h
   exact ⟨_,c1,h1,rfl,_,c2,h2,rfl,st',hj,k⟩
  ·cases h
 ·subst he he'
  refine ⟨.normal,_,?_,k⟩
  simp only [rn]
  rw [show ambC y x true ⟨⟨s,bx⟩,st⟩=⟨⟨put (put s y .unk) x (.bool true),bx⟩,st⟩ from rfl,show ambC y x false ⟨⟨s,bx⟩,st⟩=⟨⟨put (put s y .unk) x (.bool false),bx⟩,st⟩ from rfl,h,h']
  simp only [Option.bind_some,ambJ,hj,Option.map_some]
@[simp ↓] theorem WE_bh (s:List D) (b:List (Nat × List D)) (st st':St) (os:List Gi) (v:D) (x g:Nat) (cs:List D) (K:Kt):WE T none s b st os (some (v,some (x,g,cs),some st')) K=WO T os ⟨⟨s,putB b x (g,cs)⟩,st'⟩ K:=(rfl)
theorem Stops_wp {L body:Ic} (h:L=body) {c:Cfg} {Q:Ex→List D→List (Nat × List D)→St→Prop} (k:WP T body c (qLp T L Q)):Stops (lp T L c) Q:=by
 obtain ⟨e,c',hr,hk⟩:=k
 rw [lp_at L body h,hr]
 cases e with
 | normal=>exact hk
 | ret=>exact ⟨_,_,_,_,rfl,hk⟩
 | exit id=>exact ⟨_,_,_,_,rfl,hk⟩
theorem Ret_wp {f:Nat} {fn:IFunc} (hf:T f=some fn) {args:List D} {st:St} {Q:D→St→Prop} (k:WP T fn.code ⟨⟨args,[]⟩,st⟩ (qFn fn.res Q)):Ret (ev T f args st) Q:=by
 obtain ⟨e,c',hr,hk⟩:=k
 rw [ev_eq f fn hf,hr]
 cases e with
 | normal=>exact hk
 | ret=>exact hk
 | exit id=>cases hk
theorem WL.use {L:Ic} (hp:L.plain=true) {W:List Nat} (hW:L.wr=W) {s0:List D} {b0:List (Nat × List D)} {st0:St} {Q:Ex→List D→List (Nat × List D)→St→Prop} {K:Kt} (h:Stops (lp T L ⟨⟨s0,b0⟩,st0⟩) Q)
  (k:∀ e s b st,Q e s b st→(∀ t,W.contains t=false→get s t=get s0 t)→K e ⟨⟨s,b⟩,st⟩):WL T L ⟨⟨s0,b0⟩,st0⟩ K:=
 Stops.fr hp hW h (fun r=>∃ e c',r=some (e,c')∧K e c') fun e s b st q f=>⟨e,_,rfl,k e s b st q f⟩
theorem WL.useB {L:Ic} (hp:L.plain=true) {W WB:List Nat} (hW:L.wr=W) (hB:L.wrB=WB) {s0:List D} {b0:List (Nat × List D)} {st0:St} {Q:Ex→List D→List (Nat × List D)→St→Prop} {K:Kt} (h:Stops (lp T L ⟨⟨s0,b0⟩,st0⟩) Q)
  (k:∀ e s b st,Q e s b st→(∀ t,W.contains t=false→get s t=get s0 t)→(∀ t,WB.contains t=false→getB b t=getB b0 t)→K e ⟨⟨s,b⟩,st⟩):WL T L ⟨⟨s0,b0⟩,st0⟩ K:=
 Stops.frB hp hW hB h (fun r=>∃ e c',r=some (e,c')∧K e c') fun e s b st q f g=>⟨e,_,rfl,k e s b st q f g⟩
@[simp] theorem ile_f {a b:Int} (h:b < a):(a≤b)=False:=eq_false (by omega)
@[simp] theorem ilt_f {a b:Int} (h:b≤a):(a < b)=False:=eq_false (by omega)
@[simp] theorem nle_f {a b:Nat} (h:b < a):(a≤b)=False:=eq_false (by omega)
@[simp] theorem nlt_f {a b:Nat} (h:b≤a):(a < b)=False:=eq_false (by omega)
end Go.Nt
namespace Go.Nt
variable {T:Nat→Option IFunc} {go:GoF} {rd:Opd→D} {rb:Nat→Nat × List D} {st:St}
@[simp] theorem cells_ifc (t:Nat) (d:D):D.cells (.ifc t d)=[.ifc t d]:=(rfl)
@[simp] theorem fits_ifc (t:Nat) (d:D):D.fits (.ifc t d) none=true:=(rfl)
@[simp] theorem okv_ifc (t:Nat) (d:D):D.okv (.ifc t d)=true:=(rfl)
@[simp ↓] theorem a_mkif (d t:Nat) (x:Opd):actO T go rd rb st (.mkif d t x)=if (rd x).okv then some (.ifc t (rd x),none,none) else none:=(rfl)
def kTas (t:Nat):D→Option Eff
 | .ifc t' v=>if t'=t then val v else none
 | _=>none
@[simp ↓] theorem a_tas (d t:Nat) (x:Opd):actO T go rd rb st (.tas d t x)=kTas t (rd x):=by simp only [actO]; cases rd x <;> rfl
@[simp] theorem kTas_ifc (t t':Nat) (v:D):kTas t (.ifc t' v)=if t'=t then some (v,none,none) else none:=(rfl)
def kInvC (T:Nat→Option IFunc) (go:GoF) (st:St) (f:Nat) (xs:List D):Option D→Option Eff
 | some r=>kCall (callD T go f (r::xs) st)
 | none=>none
@[simp] theorem kInvC_some (f:Nat) (xs:List D) (r:D):kInvC T go st f xs (some r)=kCall (callD T go f (r::xs) st):=(rfl)
def kInv (T:Nat→Option IFunc) (go:GoF) (rb:Nat→Nat × List D) (st:St) (t f:Nat) (der:Bool) (xs:List D):D→Option Eff
 | .ifc t' v=>if t'=t then kInvC T go st f xs (if der then loadD rb st v none none false else some v) else none
 | _=>none
@[simp ↓] theorem a_inv (d:Option Nat) (t f:Nat) (der:Bool) (x:Opd) (xs:List Opd):actO T go rd rb st (.inv d t f der x xs)=kInv T go rb st t f der (rdL rd xs) (rd x):=by
 simp only [actO,kInv,rdL]
 cases rd x with
 | ifc t' v=>
  simp only
  split
  ·cases (if der=true then loadD rb st v none none false else some v) with
   | none=>rfl
   | some r=>
    simp only [Option.bind_some,kInvC]
    cases callD T go f (r::xs.map rd) st <;> rfl
  ·rfl
 | _=>rfl
@[simp] theorem kInv_f (t t' f:Nat) (xs:List D) (v:D):kInv T go rb st t f false xs (.ifc t' v)=if t'=t then kCall (callD T go f (v::xs) st) else none:=(rfl)
@[simp] theorem kInv_t (t t' f:Nat) (xs:List D) (i v s x o:Nat):kInv T go rb st t f true xs (.ifc t' (.hp i v s x o))=if t'=t then kInvC T go st f xs (kHp v s x o none (St.at st i)) else none:=by
 simp only [kInv,if_true,loadD_hp]
end Go.Nt
