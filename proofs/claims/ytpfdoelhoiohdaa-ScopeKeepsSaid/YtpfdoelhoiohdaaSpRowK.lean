/-
  THE STATEMENT ScopeKeeps: the law answers true for every text.
  No condition.
-/
import Derived.Test.YtpfdoelhoiohdaaRows
import Derived.WalkKit
import Derived.ProofKit
import Derived.OpenShut
import Derived.ChangeOld
import Derived.Below
import Derived.Test.YtpfdoelhoiohdaaLkIrOk
import Derived.Test.YtpfdoelhoiohdaaSpLaw
import Derived.Test.YtpfdoelhoiohdaaSpRes
namespace Go.Proofs.Ytpfdoelhoiohdaa
open Go.ChangeShapes Go.WideShapes Go.ChangeAt Go.RowKit
open Go.Nt Go.Nt.Lk
open Go.ChangeMaps (open_string shut_string)

theorem sp5Own : ownKnob Try.prog.godebug = none := by kernel_rfl
theorem sp5LaidOut : laidOutB Try.prog = true := by kernel_rfl

theorem rep_args1 {w : World} {v0 : Value} {d0 : D} (h0 : Rep w N0 [] bl0 v0 d0) :
    ∀ (i : Nat) (v : Value) (d : D), #[v0][i]? = some v → [d0][i]? = some d → Rep w N0 [] bl0 v d := by
  intro i v d hv hd
  match i, hv, hd with
  | 0, hv, hd => simp at hv hd; subst hv; subst hd; exact h0

set_option maxRecDepth 100000 in
theorem scopeKeepsLifted (os : Os) (started : os.Started) (H : Type) (enc : TypeId × Value → H) :
    ReturnsInHanded {} Try.checked os 5 .any (Rows.scopeKeepsSpec.pre6 enc Try.prog Try.f5 Rows.scopeKeepsRow.domain false) (Rows.scopeKeepsSpec.post enc Try.prog Try.f5 false true false false) := by
  refine returnsInHanded_of_change (C := Try.checked) sp5Own started (by kernel_rfl) Try.func5
    (ChangeSpec.witness6 (enc := enc) (C := Try.checked) false ⟨#[], #[.string .empty], []⟩ 5 (by kernel_rfl) (by kernel_rfl) (by kernel_rfl) (by kernel_rfl)) ?_
  intro W base args ds gs before hval0 hW hcnd _
  have hval : ∀ (j : Nat) t v, Try.f5.params[j]? = some t → args[j]? = some v → Value.okWide Try.prog W .any base t v := hval0
  have hW' := hW
  obtain ⟨p, q, hA0, hV, rfl, hfz, hnd⟩ := hW
  have hA : DataW.TrodAll enc Try.prog W 0 (fun _ => true) true Try.f5.params.toList args.toList ds p := hA0
  rw [Try.params5] at hA hval
  obtain ⟨v0, vs0, d0, ds0, p0, q0, hargs, rfl, rfl, h0, r0⟩ := trodAll_cons hA
  obtain ⟨rfl, rfl, rfl⟩ := trodAll_nil r0
  obtain rfl : args = #[v0] := by cases args; simp_all
  obtain ⟨rfl, rfl⟩ := trodVars_none hV
  obtain ⟨s, rfl, rfl, rfl, hmax⟩ := open_string Try.underlying9 (hval 0 9 v0 rfl rfl) h0
  have lt0 : ∀ x ∈ ([] : List MemPlace), x.block < W.heap.size := by simp
  clear hA0 hval0
  have h8 := ev5 s.data.toList
  refine (calls_of_ev ok h8 (w := W) (vs := #[.string s]) rfl (rep_args1 (.str s))).mono fun e W' ⟨he, bel⟩ => ?_
  subst he
  exact ⟨_, rfl, _, _, _, [], _, [], hW', trodAll_mk1 (shut_bool Try.underlying4 _),
    (trodAll_cons_mk (Below.trod sp5LaidOut (by kernel_rfl) (of_decide_eq_true (by kernel_rfl)) h0 bel lt0) trodAll_mk0), rfl, bel.frame _, fun h => by cases h⟩

theorem scopeKeepsOver : Rows.scopeKeepsRow.holds Try.pinned (OpenSpec.ofChange Rows.scopeKeepsSpec) :=
  OpenClaim.holds_of_wide 5 Try.f5 rfl rfl rfl rfl rfl rfl rfl ⟨rfl, rfl, rfl, rfl, rfl⟩ rfl rfl rfl rfl rfl (by kernel_rfl) Try.func5 (by kernel_rfl)
    (of_decide_eq_true (by kernel_rfl)) (by unfold Func.isWrapper; first | (rw [if_pos (by decide +kernel)]; kernel_rfl) | (rw [if_neg (by decide +kernel)]; exact ⟨rfl, rfl⟩))
    (fun os started H enc _ => scopeKeepsLifted os started H enc)

theorem scopeKeepsProved : Rows.ScopeKeepsSaid := scopeKeepsOver
end Go.Proofs.Ytpfdoelhoiohdaa
