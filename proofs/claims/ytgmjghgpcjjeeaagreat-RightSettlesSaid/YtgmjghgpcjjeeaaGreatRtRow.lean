/-
  THE STATEMENT RightSettles.
-/
import Derived.Test.YtgmjghgpcjjeeaaGreatRows
import Derived.WalkKit
import Derived.ProofKit
import Derived.OpenShut
import Derived.ChangeOld
import Derived.Below
import Derived.Test.YtgmjghgpcjjeeaaGreatRtMod
import Derived.Test.YtgmjghgpcjjeeaaGreatRtIrOk
import Derived.Test.YtgmjghgpcjjeeaaGreatNtAgg
namespace Go.Proofs.YtgmjghgpcjjeeaaGreat
open Go.ChangeShapes Go.WideShapes Go.ChangeAt Go.RowKit
open Go.Nt Go.Nt.Ty

theorem rtOwn : ownKnob Tryz.prog.godebug = none := by kernel_rfl
theorem rtLaidOut : laidOutB Tryz.prog = true := by kernel_rfl

theorem rep_args1 {w : World} {v0 : Value} {d0 : D} (h0 : Rep w N0 [] bl0 v0 d0) :
    ∀ (i : Nat) (v : Value) (d : D), #[v0][i]? = some v → [d0][i]? = some d → Rep w N0 [] bl0 v d := by
  intro i v d hv hd
  match i, hv, hd with
  | 0, hv, hd => simp at hv hd; subst hv; subst hd; exact h0

set_option maxRecDepth 100000 in
theorem settlesLifted (os : Os) (started : os.Started) (H : Type) (enc : TypeId × Value → H) :
    ReturnsInHanded {} Tryz.checked os 8 .any (Rows.rightSettlesSpec.pre6 enc Tryz.prog Tryz.f8 Rows.rightSettlesRow.domain false) (Rows.rightSettlesSpec.post enc Tryz.prog Tryz.f8 false true false false) := by
  refine returnsInHanded_of_change (C := Tryz.checked) rtOwn started (by kernel_rfl) Tryz.func8
    (ChangeSpec.witness6 (enc := enc) (C := Tryz.checked) false ⟨#[], #[.agg #[.int .i64 0, .int .i64 0, .string ⟨#[]⟩, .slice none 0 0, .int .i64 0, .int .i64 0]], []⟩ 8 (by kernel_rfl) (by kernel_rfl) (by kernel_rfl) (by kernel_rfl)) ?_
  intro W base args ds gs before hval0 hW hcnd _
  have hval : ∀ (j : Nat) t v, Tryz.f8.params[j]? = some t → args[j]? = some v → Value.okWide Tryz.prog W .any base t v := hval0
  have hW' := hW
  obtain ⟨p, q, hA0, hV, rfl, hfz, hnd⟩ := hW
  have hA : DataW.TrodAll enc Tryz.prog W 0 (fun _ => true) true Tryz.f8.params.toList args.toList ds p := hA0
  rw [Tryz.params8] at hA hval
  obtain ⟨v0, vs0, d0, ds0, p0, q0, hargs, rfl, rfl, h0, r0⟩ := trodAll_cons hA
  obtain ⟨rfl, rfl, rfl⟩ := trodAll_nil r0
  obtain rfl : args = #[v0] := by cases args; simp_all
  obtain ⟨rfl, rfl⟩ := trodVars_none hV
  obtain ⟨c0, rfl, _⟩ := okWide_struct Tryz.underlying31 (hval 0 31 v0 rfl rfl)
  have lt0 : ∀ x ∈ p0, x.block < W.heap.size := by obtain ⟨m, hm⟩ := h0; exact DataW.trod_lt m _ _ _ hm
  obtain ⟨m, hm, rm⟩ : ∃ m : Tm, m.ok ∧ Rep W N0 [] bl0 (.agg c0) (encT m) := by
    obtain ⟨fuel, hf⟩ := h0
    exact read_T Tryz.underlying31 rfl rfl rfl rfl rfl rfl rfl rfl rfl rfl rfl rfl Tryz.underlying3 Tryz.underlying2 Tryz.underlying9 Tryz.underlying29 (by kernel_rfl) (by kernel_rfl) (by kernel_rfl) (by kernel_rfl) (by kernel_rfl) fuel _ _ hf
  clear hA0 hval0
  refine (calls_of_ev ok (ev8 m hm) (w := W) (vs := #[.agg c0]) rfl (rep_args1 rm)).mono fun e W' ⟨he, bel⟩ => ?_
  subst he
  exact ⟨_, rfl, _, _, _, [], _, [], hW', trodAll_mk1 (shut_bool Tryz.underlying4 _),
    (trodAll_cons_mk (Below.trod rtLaidOut (by kernel_rfl) (of_decide_eq_true (by kernel_rfl)) h0 bel lt0) trodAll_mk0), rfl, bel.frame _, fun h => by cases h⟩

theorem settlesOver : Rows.rightSettlesRow.holds Tryz.pinned (OpenSpec.ofChange Rows.rightSettlesSpec) :=
  OpenClaim.holds_of_wide 8 Tryz.f8 rfl rfl rfl rfl rfl rfl rfl ⟨rfl, rfl, rfl, rfl, rfl⟩ rfl rfl rfl rfl rfl (by kernel_rfl) Tryz.func8 (by kernel_rfl)
    (of_decide_eq_true (by kernel_rfl)) (by unfold Func.isWrapper; first | (rw [if_pos (by decide +kernel)]; kernel_rfl) | (rw [if_neg (by decide +kernel)]; exact ⟨rfl, rfl⟩))
    (fun os started H enc _ => settlesLifted os started H enc)

theorem rightSettlesProved : Rows.RightSettlesSaid := settlesOver
end Go.Proofs.YtgmjghgpcjjeeaaGreat
