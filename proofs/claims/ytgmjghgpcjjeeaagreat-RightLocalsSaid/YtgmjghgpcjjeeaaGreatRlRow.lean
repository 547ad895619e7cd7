/-
  THE STATEMENT RightLocals.
-/
import Derived.Test.YtgmjghgpcjjeeaaGreatRows
import Derived.WalkKit
import Derived.ProofKit
import Derived.OpenShut
import Derived.ChangeOld
import Derived.Below
import Derived.Test.YtgmjghgpcjjeeaaGreatRlLaw
import Derived.Test.YtgmjghgpcjjeeaaGreatTmVal
import Derived.Test.YtgmjghgpcjjeeaaGreatRtIrOk
import Derived.Test.YtgmjghgpcjjeeaaGreatNtAgg
namespace Go.Proofs.YtgmjghgpcjjeeaaGreat
open Go.ChangeShapes Go.WideShapes Go.ChangeAt Go.RowKit
open Go.Nt Go.Nt.Ty

theorem rlOwn : ownKnob Tryz.prog.godebug = none := by kernel_rfl
theorem rlLaidOut : laidOutB Tryz.prog = true := by kernel_rfl

theorem rep_args2 {w : World} {v0 v1 : Value} {d0 d1 : D} (h0 : Rep w N0 [] bl0 v0 d0) (h1 : Rep w N0 [] bl0 v1 d1) :
    ∀ (i : Nat) (v : Value) (d : D), #[v0, v1][i]? = some v → [d0, d1][i]? = some d → Rep w N0 [] bl0 v d := by
  intro i v d hv hd
  match i, hv, hd with
  | 0, hv, hd => simp at hv hd; subst hv; subst hd; exact h0
  | 1, hv, hd => simp at hv hd; subst hv; subst hd; exact h1

set_option maxRecDepth 100000 in
theorem localsLifted (os : Os) (started : os.Started) (H : Type) (enc : TypeId × Value → H) :
    ReturnsInHanded {} Tryz.checked os 9 .any (Rows.rightLocalsSpec.pre6 enc Tryz.prog Tryz.f9 Rows.rightLocalsRow.domain false) (Rows.rightLocalsSpec.post enc Tryz.prog Tryz.f9 false true false false) := by
  refine returnsInHanded_of_change (C := Tryz.checked) rlOwn started (by kernel_rfl) Tryz.func9
    (ChangeSpec.witness6 (enc := enc) (C := Tryz.checked) false ⟨#[], #[.agg #[.int .i64 0, .int .i64 0, .string ⟨#[]⟩, .slice none 0 0, .int .i64 0, .int .i64 0], .slice none 0 0], []⟩ 8 (by kernel_rfl) (by kernel_rfl) (by kernel_rfl) (by kernel_rfl)) ?_
  intro W base args ds gs before hval0 hW hcnd _
  have hval : ∀ (j : Nat) t v, Tryz.f9.params[j]? = some t → args[j]? = some v → Value.okWide Tryz.prog W .any base t v := hval0
  have hW' := hW
  obtain ⟨p, q, hA0, hV, rfl, hfz, hnd⟩ := hW
  have hA : DataW.TrodAll enc Tryz.prog W 0 (fun _ => true) true Tryz.f9.params.toList args.toList ds p := hA0
  rw [Tryz.params9] at hA hval
  obtain ⟨v0, vs0, d0, ds0, p0, q0, hargs, rfl, rfl, h0, r0⟩ := trodAll_cons hA
  obtain ⟨v1, vs1, d1, ds1, p1, q1, rfl, rfl, rfl, h1, r1⟩ := trodAll_cons r0
  obtain ⟨rfl, rfl, rfl⟩ := trodAll_nil r1
  obtain rfl : args = #[v0, v1] := by cases args; simp_all
  obtain ⟨rfl, rfl⟩ := trodVars_none hV
  obtain ⟨c0, rfl, _⟩ := okWide_struct Tryz.underlying31 (hval 0 31 v0 rfl rfl)
  obtain ⟨a1, len1, cap1, rfl⟩ := okWide_slice Tryz.underlying62 (hval 1 62 v1 rfl rfl)
  have lt0 : ∀ x ∈ p0, x.block < W.heap.size := by obtain ⟨m, hm⟩ := h0; exact DataW.trod_lt m _ _ _ hm
  have lt1 : ∀ x ∈ p1, x.block < W.heap.size := by obtain ⟨m, hm⟩ := h1; exact DataW.trod_lt m _ _ _ hm
  obtain ⟨m, hm, rm⟩ : ∃ m : Tm, m.ok ∧ Rep W N0 [] bl0 (.agg c0) (encT m) := by
    obtain ⟨fuel, hf⟩ := h0
    exact read_T Tryz.underlying31 rfl rfl rfl rfl rfl rfl rfl rfl rfl rfl rfl rfl Tryz.underlying3 Tryz.underlying2 Tryz.underlying9 Tryz.underlying29 (by kernel_rfl) (by kernel_rfl) (by kernel_rfl) (by kernel_rfl) (by kernel_rfl) fuel _ _ hf
  obtain ⟨fl, l, hl, _, rl⟩ : ∃ (fl : Fl) (l : List Int), l.length ≤ 9223372036854775807 ∧ (∀ n, n ∈ l → in64 n) ∧ Rep W N0 [] bl0 (.slice a1 len1 cap1) (slE 1 fl (l.map (.int .i64))) := by
    obtain ⟨fuel, hf⟩ := h1
    exact read_ints Tryz.underlying3 Tryz.underlying62 (by kernel_rfl) hf
  clear hA0 hval0
  refine (calls_of_ev ok (ev9 m hm fl l hl) (w := W) (vs := #[.agg c0, .slice a1 len1 cap1]) rfl (rep_args2 rm rl)).mono fun e W' ⟨he, bel⟩ => ?_
  subst he
  exact ⟨_, rfl, _, _, _, [], _, [], hW', trodAll_mk1 (shut_bool Tryz.underlying4 _),
    (trodAll_cons_mk (Below.trod rlLaidOut (by kernel_rfl) (of_decide_eq_true (by kernel_rfl)) h0 bel lt0)
      (trodAll_cons_mk (Below.trod rlLaidOut (by kernel_rfl) (of_decide_eq_true (by kernel_rfl)) h1 bel lt1) trodAll_mk0)), rfl, bel.frame _, fun h => by cases h⟩

theorem localsOver : Rows.rightLocalsRow.holds Tryz.pinned (OpenSpec.ofChange Rows.rightLocalsSpec) :=
  OpenClaim.holds_of_wide 9 Tryz.f9 rfl rfl rfl rfl rfl rfl rfl ⟨rfl, rfl, rfl, rfl, rfl⟩ rfl rfl rfl rfl rfl (by kernel_rfl) Tryz.func9 (by kernel_rfl)
    (of_decide_eq_true (by kernel_rfl)) (by unfold Func.isWrapper; first | (rw [if_pos (by decide +kernel)]; kernel_rfl) | (rw [if_neg (by decide +kernel)]; exact ⟨rfl, rfl⟩))
    (fun os started H enc _ => localsLifted os started H enc)

theorem rightLocalsProved : Rows.RightLocalsSaid := localsOver
end Go.Proofs.YtgmjghgpcjjeeaaGreat
