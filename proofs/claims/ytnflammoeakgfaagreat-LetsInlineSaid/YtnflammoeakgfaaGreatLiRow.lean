/-
  THE STATEMENT LetsInline.
-/
import Derived.Test.YtnflammoeakgfaaGreatRows
import Derived.WalkKit
import Derived.ProofKit
import Derived.OpenShut
import Derived.ChangeOld
import Derived.Below
import Derived.Test.YtnflammoeakgfaaGreatLiLaw
import Derived.Test.YtnflammoeakgfaaGreatLiRE
import Derived.Test.YtnflammoeakgfaaGreatLiIrOk
import Derived.Test.YtnflammoeakgfaaGreatLiShelf
namespace Go.Proofs.YtnflammoeakgfaaGreat
open Go.ChangeShapes Go.WideShapes Go.ChangeAt Go.RowKit
open Go.Nt Go.Nt.Li
theorem liOwn:ownKnob Tryz.prog.godebug=none:=by kernel_rfl
theorem liLaidOut:laidOutB Tryz.prog=true:=by kernel_rfl
theorem rep_args3 {w:World} {v0 v1 v2:Value} {d0 d1 d2:D} (h0:Rep w N0 [] bl0 v0 d0) (h1:Rep w N0 [] bl0 v1 d1) (h2:Rep w N0 [] bl0 v2 d2) :
  ∀ (i:Nat) (v:Value) (d:D),#[v0,v1,v2][i]?=some v→[d0,d1,d2][i]?=some d→Rep w N0 [] bl0 v d:=by
 intro i v d hv hd
 match i,hv,hd with
 | 0,hv,hd=>simp at hv hd; subst hv; subst hd; exact h0
 | 1,hv,hd=>simp at hv hd; subst hv; subst hd; exact h1
 | 2,hv,hd=>simp at hv hd; subst hv; subst hd; exact h2
set_option maxRecDepth 100000 in
theorem inlineLifted (os:Os) (started:os.Started) (H:Type) (enc:TypeId × Value→H) :
  ReturnsInHanded {} Tryz.checked os 3 .any (Rows.letsInlineSpec.pre6 enc Tryz.prog Tryz.f3 Rows.letsInlineRow.domain false) (Rows.letsInlineSpec.post enc Tryz.prog Tryz.f3 false true false false):=by
 refine returnsInHanded_of_change (C:=Tryz.checked) liOwn started (by kernel_rfl) Tryz.func3
  (ChangeSpec.witness6 (enc:=enc) (C:=Tryz.checked) false ⟨#[],#[.agg #[.int .i64 0,.int .i64 0,.string ⟨#[]⟩,.slice none 0 0,.int .i64 0,.int .i64 0],.agg #[.int .i64 0,.int .i64 0,.string ⟨#[]⟩,.slice none 0 0,.int .i64 0,.int .i64 0],.int .i64 0],[]⟩ 8 (by kernel_rfl) (by kernel_rfl) (by kernel_rfl) (by kernel_rfl)) ?_
 intro W base args ds gs before hval0 hW hcnd _
 have hval:∀ (j:Nat) t v,Tryz.f3.params[j]?=some t→args[j]?=some v→Value.okWide Tryz.prog W .any base t v:=hval0
 have hW':=hW
 obtain ⟨p,q,hA0,hV,rfl,hfz,hnd⟩:=hW
 have hA:DataW.TrodAll enc Tryz.prog W 0 (fun _=>true) true Tryz.f3.params.toList args.toList ds p:=hA0
 rw [Tryz.params3] at hA hval
 obtain ⟨v0,vs0,d0,ds0,p0,q0,hargs,rfl,rfl,h0,r0⟩:=trodAll_cons hA
 obtain ⟨v1,vs1,d1,ds1,p1,q1,rfl,rfl,rfl,h1,r1⟩:=trodAll_cons r0
 obtain ⟨v2,vs2,d2,ds2,p2,q2,rfl,rfl,rfl,h2,r2⟩:=trodAll_cons r1
 obtain ⟨rfl,rfl,rfl⟩:=trodAll_nil r2
 obtain rfl:args=#[v0,v1,v2]:=by cases args; simp_all
 obtain ⟨rfl,rfl⟩:=trodVars_none hV
 obtain ⟨c0,rfl,_⟩:=okWide_struct Tryz.underlying24 (hval 0 24 v0 rfl rfl)
 obtain ⟨c1,rfl,_⟩:=okWide_struct Tryz.underlying24 (hval 1 24 v1 rfl rfl)
 obtain ⟨n,rfl,en,_⟩:=open_int Tryz.underlying3 (hval 2 3 v2 rfl rfl) h2
 have lt0:∀ x∈p0,x.block < W.heap.size:=by obtain ⟨m,hm⟩:=h0; exact DataW.trod_lt m _ _ _ hm
 have lt1:∀ x∈p1,x.block < W.heap.size:=by obtain ⟨m,hm⟩:=h1; exact DataW.trod_lt m _ _ _ hm
 have lt2:∀ x∈p2,x.block < W.heap.size:=by obtain ⟨m,hm⟩:=h2; exact DataW.trod_lt m _ _ _ hm
 obtain ⟨m,hm,rm⟩:∃ m:Tm,m.ok∧Rep W N0 [] bl0 (.agg c0) (encT m):=by
  obtain ⟨fuel,hf⟩:=h0
  exact read_T Tryz.underlying24 rfl rfl rfl rfl rfl rfl rfl rfl rfl rfl rfl rfl Tryz.underlying3 Tryz.underlying2 Tryz.underlying9 Tryz.underlying22 (by kernel_rfl) (by kernel_rfl) (by kernel_rfl) (by kernel_rfl) (by kernel_rfl) fuel _ _ hf
 obtain ⟨t,ht,rt⟩:∃ m:Tm,m.ok∧Rep W N0 [] bl0 (.agg c1) (encT m):=by
  obtain ⟨fuel,hf⟩:=h1
  exact read_T Tryz.underlying24 rfl rfl rfl rfl rfl rfl rfl rfl rfl rfl rfl rfl Tryz.underlying3 Tryz.underlying2 Tryz.underlying9 Tryz.underlying22 (by kernel_rfl) (by kernel_rfl) (by kernel_rfl) (by kernel_rfl) (by kernel_rfl) fuel _ _ hf
 clear hA0 hval0
 refine (calls_of_ev (ok p90 p91 p95 p127) (ev3 m t hm ht n) (w:=W) (vs:=#[.agg c0,.agg c1,.int .i64 n]) rfl (rep_args3 rm rt (.int _ _))).mono fun e W' ⟨he,bel⟩=>?_
 subst he
 exact ⟨_,rfl,_,_,_,[],_,[],hW',trodAll_mk1 (shut_bool Tryz.underlying4 _),
  (trodAll_cons_mk (Below.trod liLaidOut (by kernel_rfl) (of_decide_eq_true (by kernel_rfl)) h0 bel lt0) (trodAll_cons_mk (Below.trod liLaidOut (by kernel_rfl) (of_decide_eq_true (by kernel_rfl)) h1 bel lt1)
   (trodAll_cons_mk (Below.trod liLaidOut (by kernel_rfl) (of_decide_eq_true (by kernel_rfl)) h2 bel lt2) trodAll_mk0))),rfl,bel.frame _,fun h=>by cases h⟩
theorem inlineOver:Rows.letsInlineRow.holds Tryz.pinned (OpenSpec.ofChange Rows.letsInlineSpec):=
 OpenClaim.holds_of_wide 3 Tryz.f3 rfl rfl rfl rfl rfl rfl rfl ⟨rfl,rfl,rfl,rfl,rfl⟩ rfl rfl rfl rfl rfl (by kernel_rfl) Tryz.func3 (by kernel_rfl)
  (of_decide_eq_true (by kernel_rfl)) (by unfold Func.isWrapper; first | (rw [if_pos (by decide +kernel)]; kernel_rfl) | (rw [if_neg (by decide +kernel)]; exact ⟨rfl,rfl⟩))
  (fun os started H enc _=>inlineLifted os started H enc)
theorem letsInlineProved:Rows.LetsInlineSaid:=inlineOver
end Go.Proofs.YtnflammoeakgfaaGreat
