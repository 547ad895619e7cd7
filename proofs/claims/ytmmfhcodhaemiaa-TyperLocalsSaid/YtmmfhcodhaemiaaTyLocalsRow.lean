/-
  THE STATEMENT TyperLocals.
-/
import Derived.Test.YtmmfhcodhaemiaaRows
import Derived.WalkKit
import Derived.ProofKit
import Derived.OpenShut
import Derived.ChangeOld
import Derived.Below
import Derived.Test.YtmmfhcodhaemiaaTySettlesRow
import Derived.Test.YtmmfhcodhaemiaaNtAgg
namespace Go.Proofs.Ytmmfhcodhaemiaa
open Go.ChangeShapes Go.WideShapes Go.ChangeAt Go.RowKit
open Go.Nt Go.Nt.Ty

theorem rep_args1 {w : World} {v0 : Value} {d0 : D} (h0 : Rep w N0 [] bl0 v0 d0) :
    ∀ (i : Nat) (v : Value) (d : D), #[v0][i]? = some v → [d0][i]? = some d → Rep w N0 [] bl0 v d := by
  intro i v d hv hd
  match i, hv, hd with
  | 0, hv, hd => simp at hv hd; subst hv; subst hd; exact h0

set_option maxRecDepth 100000 in
theorem localsLifted (os : Os) (started : os.Started) (H : Type) (enc : TypeId × Value → H) :
    ReturnsInHanded {} Try.checked os 4 .any (Rows.typerLocalsSpec.pre6 enc Try.prog Try.f4 Rows.typerLocalsRow.domain false) (Rows.typerLocalsSpec.post enc Try.prog Try.f4 false true false false) := by
  refine returnsInHanded_of_change (C := Try.checked) tyOwn started (by kernel_rfl) Try.func4
    (ChangeSpec.witness6 (enc := enc) (C := Try.checked) false ⟨#[], #[.agg #[.int .i64 0, .int .i64 0, .string ⟨#[]⟩, .slice none 0 0, .int .i64 0, .int .i64 0, .int .i64 0, .int .i64 0, .string ⟨#[]⟩, .slice none 0 0, .int .i64 0, .int .i64 0, .slice none 0 0, .int .i64 0, .int .i64 0, .string ⟨#[]⟩, .slice none 0 0, .int .i64 0, .int .i64 0]], []⟩ 8 (by kernel_rfl) (by kernel_rfl) (by kernel_rfl) (by kernel_rfl)) ?_
  intro W base args ds gs before hval0 hW hcnd _
  have hval : ∀ (j : Nat) t v, Try.f4.params[j]? = some t → args[j]? = some v → Value.okWide Try.prog W .any base t v := hval0
  have hW' := hW
  obtain ⟨p, q, hA0, hV, rfl, hfz, hnd⟩ := hW
  have hA : DataW.TrodAll enc Try.prog W 0 (fun _ => true) true Try.f4.params.toList args.toList ds p := hA0
  rw [Try.params4] at hA hval
  obtain ⟨v0, vs0, d0, ds0, p0, q0, hargs, rfl, rfl, h0, r0⟩ := trodAll_cons hA
  obtain ⟨rfl, rfl, rfl⟩ := trodAll_nil r0
  obtain rfl : args = #[v0] := by cases args; simp_all
  obtain ⟨rfl, rfl⟩ := trodVars_none hV
  obtain ⟨c0, rfl, _⟩ := okWide_struct Try.underlying34 (hval 0 34 v0 rfl rfl)
  have lt0 : ∀ x ∈ p0, x.block < W.heap.size := by obtain ⟨m, hm⟩ := h0; exact DataW.trod_lt m _ _ _ hm
  obtain ⟨m, a, fl, l, t, hm, ha, hl1, hl2, ht, rk⟩ : ∃ (m a : Tm) (fl : Fl) (l : List Tm) (t : Tm), m.ok ∧ a.ok ∧ l.length ≤ 9223372036854775807 ∧ (∀ t, t ∈ l → t.ok) ∧ t.ok ∧ Rep W N0 [] bl0 (.agg c0) (.agg (clT m ++ clT a ++ ([slE 6 fl (encTs l)] ++ clT t))) := by
    obtain ⟨fuel, hf⟩ := h0
    obtain ⟨xs, k, _, _, hl, hlen, hf⟩ := DataW.trod_struct Try.underlying34 hf
    rw [show Try.prog.cellsOf 34 = 19 by kernel_rfl] at hl
    have hl : c0.toList.length = 19 := hl
    match xs, hlen with
    | [y0, y1, y2, y3], _ =>
      have c24 : Try.prog.cellsOf 24 = 6 := by kernel_rfl
      have c22 : Try.prog.cellsOf 22 = 1 := by kernel_rfl
      have g0 : DataW.trod enc Try.prog W 0 (fun _ => true) true k 24 ((c0.toList.drop 0).take (Try.prog.cellsOf 24)) = some y0 := hf 0 _ rfl
      have g1 : DataW.trod enc Try.prog W 0 (fun _ => true) true k 24 ((c0.toList.drop 6).take (Try.prog.cellsOf 24)) = some y1 := hf 1 _ rfl
      have g2 : DataW.trod enc Try.prog W 0 (fun _ => true) true k 22 ((c0.toList.drop 12).take (Try.prog.cellsOf 22)) = some y2 := hf 2 _ rfl
      have g3 : DataW.trod enc Try.prog W 0 (fun _ => true) true k 24 ((c0.toList.drop 13).take (Try.prog.cellsOf 24)) = some y3 := hf 3 _ rfl
      rw [c24, List.drop_zero] at g0
      rw [c24] at g1 g3
      rw [c22] at g2
      have split : c0.toList = c0.toList.take 6 ++ (c0.toList.drop 6).take 6 ++ ((c0.toList.drop 12).take 1 ++ (c0.toList.drop 13).take 6) := by
        match c0.toList, hl with
        | [_, _, _, _, _, _, _, _, _, _, _, _, _, _, _, _, _, _, _], _ => rfl
      obtain ⟨v2, e2⟩ : ∃ v2, (c0.toList.drop 12).take 1 = [v2] := by
        match c0.toList, hl with
        | [_, _, _, _, _, _, _, _, _, _, _, _, v, _, _, _, _, _, _], _ => exact ⟨v, rfl⟩
      rw [e2] at g2 split
      obtain ⟨m, hm, rm⟩ : ∃ m : Tm, m.ok ∧ Rep W N0 [] bl0 (.agg (c0.toList.take 6).toArray) (encT m) := read_T Try.underlying24 rfl rfl rfl rfl rfl rfl rfl rfl rfl rfl rfl rfl Try.underlying3 Try.underlying2 Try.underlying9 Try.underlying22 (by kernel_rfl) (by kernel_rfl) (by kernel_rfl) (by kernel_rfl) (by kernel_rfl) _ _ _ g0
      obtain ⟨a, ha, ra⟩ : ∃ m : Tm, m.ok ∧ Rep W N0 [] bl0 (.agg ((c0.toList.drop 6).take 6).toArray) (encT m) := read_T Try.underlying24 rfl rfl rfl rfl rfl rfl rfl rfl rfl rfl rfl rfl Try.underlying3 Try.underlying2 Try.underlying9 Try.underlying22 (by kernel_rfl) (by kernel_rfl) (by kernel_rfl) (by kernel_rfl) (by kernel_rfl) _ _ _ g1
      obtain ⟨t, ht, rt⟩ : ∃ m : Tm, m.ok ∧ Rep W N0 [] bl0 (.agg ((c0.toList.drop 13).take 6).toArray) (encT m) := read_T Try.underlying24 rfl rfl rfl rfl rfl rfl rfl rfl rfl rfl rfl rfl Try.underlying3 Try.underlying2 Try.underlying9 Try.underlying22 (by kernel_rfl) (by kernel_rfl) (by kernel_rfl) (by kernel_rfl) (by kernel_rfl) _ _ _ g3
      obtain ⟨fl, l, hl1, hl2, rl⟩ := read_Tl Try.underlying24 rfl rfl rfl rfl rfl rfl rfl rfl rfl rfl rfl rfl Try.underlying3 Try.underlying2 Try.underlying9 Try.underlying22 (by kernel_rfl) (by kernel_rfl) (by kernel_rfl) (by kernel_rfl) (by kernel_rfl) g2
      refine ⟨m, a, fl, l, t, hm, ha, hl1, hl2, ht, ?_⟩
      rw [encT_eq] at rm ra rt
      have := reps_app (reps_app rm ra) (reps_app (reps_one (by cases fl <;> cases l <;> rfl) rl) rt)
      rw [← split] at this
      exact this
  clear hA0 hval0
  obtain ⟨stE, hev⟩ := ev4 m a fl l t hm ha hl1 hl2 ht
  refine (calls_of_ev ok hev (w := W) (vs := #[.agg c0]) rfl (rep_args1 rk)).mono fun e W' ⟨he, bel⟩ => ?_
  subst he
  exact ⟨_, rfl, _, _, _, [], _, [], hW', trodAll_mk1 (shut_bool Try.underlying4 _),
    (trodAll_cons_mk (Below.trod tyLaidOut (by kernel_rfl) (of_decide_eq_true (by kernel_rfl)) h0 bel lt0) trodAll_mk0), rfl, bel.frame _, fun h => by cases h⟩

theorem localsOver : Rows.typerLocalsRow.holds Try.pinned (OpenSpec.ofChange Rows.typerLocalsSpec) :=
  OpenClaim.holds_of_wide 4 Try.f4 rfl rfl rfl rfl rfl rfl rfl ⟨rfl, rfl, rfl, rfl, rfl⟩ rfl rfl rfl rfl rfl (by kernel_rfl) Try.func4 (by kernel_rfl)
    (of_decide_eq_true (by kernel_rfl)) (by unfold Func.isWrapper; first | (rw [if_pos (by decide +kernel)]; kernel_rfl) | (rw [if_neg (by decide +kernel)]; exact ⟨rfl, rfl⟩))
    (fun os started H enc _ => localsLifted os started H enc)

theorem localsProved : Rows.TyperLocalsSaid := localsOver
end Go.Proofs.Ytmmfhcodhaemiaa
