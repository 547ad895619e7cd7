/-
  THE STATEMENT ValueKeeps.
-/
import Derived.Test.YtknicjakdopilaaRows
import Derived.WalkKit
import Derived.ProofKit
import Derived.OpenShut
import Derived.ChangeOld
import Derived.Below
import Derived.Test.YtknicjakdopilaaTmKeep
import Derived.Test.YtknicjakdopilaaNtAgg
import Derived.Test.YtknicjakdopilaaVaSetsRow
namespace Go.Proofs.Ytknicjakdopilaa
open Go.ChangeShapes Go.WideShapes Go.ChangeAt Go.RowKit
open Go.Nt Go.Nt.Va

theorem rep_args1 {w : World} {v0 : Value} {d0 : D} (h0 : Rep w N0 [] bl0 v0 d0) :
    ∀ (i : Nat) (v : Value) (d : D), #[v0][i]? = some v → [d0][i]? = some d → Rep w N0 [] bl0 v d := by
  intro i v d hv hd
  match i, hv, hd with
  | 0, hv, hd => simp at hv hd; subst hv; subst hd; exact h0

set_option maxRecDepth 100000 in
theorem keepsLifted (os : Os) (started : os.Started) (H : Type) (enc : TypeId × Value → H) :
    ReturnsInHanded {} Try.checked os 5 .any (Rows.valueKeepsSpec.pre6 enc Try.prog Try.f5 Rows.valueKeepsRow.domain false) (Rows.valueKeepsSpec.post enc Try.prog Try.f5 false true false false) := by
  refine returnsInHanded_of_change (C := Try.checked) setsOwn started (by kernel_rfl) Try.func5
    (ChangeSpec.witness6 (enc := enc) (C := Try.checked) false ⟨#[], #[.agg #[.int .i64 0, .int .i64 0, .string ⟨#[]⟩, .slice none 0 0, .int .i64 0, .int .i64 0, .int .i64 0, .int .i64 0, .string ⟨#[]⟩, .slice none 0 0, .int .i64 0, .int .i64 0, .slice none 0 0, .int .i64 0]], []⟩ 8 (by kernel_rfl) (by kernel_rfl) (by kernel_rfl) (by kernel_rfl)) ?_
  intro W base args ds gs before hval0 hW hcnd _
  have hval : ∀ (j : Nat) t v, Try.f5.params[j]? = some t → args[j]? = some v → Value.okWide Try.prog W .any base t v := hval0
  have hW' := hW
  obtain ⟨p, q, hA0, hV, rfl, hfz, hnd⟩ := hW
  have hA : DataW.TrodAll enc Try.prog W 0 (fun _ => true) true Try.f5.params.toList args.toList ds p := hA0
  rw [Try.params5] at hA hval
  obtain ⟨v0, vs0, d0, ds0, p0, q0, hargs, rfl, rfl, h0, r0⟩ := trodAll_cons hA
  obtain ⟨rfl, rfl, rfl⟩ := trodAll_nil r0
  obtain rfl : args = #[v0] := by cases args; simp_all
  obtain ⟨rfl, rfl⟩ := trodVars_none hV
  obtain ⟨c0, rfl, _⟩ := okWide_struct Try.underlying44 (hval 0 44 v0 rfl rfl)
  have lt0 : ∀ x ∈ p0, x.block < W.heap.size := by obtain ⟨m, hm⟩ := h0; exact DataW.trod_lt m _ _ _ hm
  obtain ⟨m, t, fl, w, n, hm, ht, hn, rk⟩ : ∃ (m t : Tm) (fl : Fl) (w : List Int) (n : Int), m.ok ∧ t.ok ∧ in64 n ∧ Rep W N0 [] bl0 (.agg c0) (.agg (clT m ++ clT t ++ [slE 1 fl (encW w), .int .i64 n])) := by
    obtain ⟨fuel, hf⟩ := h0
    obtain ⟨xs, k, _, _, hl, hlen, hf⟩ := DataW.trod_struct Try.underlying44 hf
    rw [show Try.prog.cellsOf 44 = 14 by kernel_rfl] at hl
    have hl : c0.toList.length = 14 := hl
    match xs, hlen with
    | [y0, y1, y2, y3], _ =>
      have c38 : Try.prog.cellsOf 38 = 6 := by kernel_rfl
      have c25 : Try.prog.cellsOf 25 = 1 := by kernel_rfl
      have c2 : Try.prog.cellsOf 2 = 1 := by kernel_rfl
      have g0 : DataW.trod enc Try.prog W 0 (fun _ => true) true k 38 ((c0.toList.drop 0).take (Try.prog.cellsOf 38)) = some y0 := hf 0 _ rfl
      have g1 : DataW.trod enc Try.prog W 0 (fun _ => true) true k 38 ((c0.toList.drop 6).take (Try.prog.cellsOf 38)) = some y1 := hf 1 _ rfl
      have g2 : DataW.trod enc Try.prog W 0 (fun _ => true) true k 25 ((c0.toList.drop 12).take (Try.prog.cellsOf 25)) = some y2 := hf 2 _ rfl
      have g3 : DataW.trod enc Try.prog W 0 (fun _ => true) true k 2 ((c0.toList.drop 13).take (Try.prog.cellsOf 2)) = some y3 := hf 3 _ rfl
      rw [c38, List.drop_zero] at g0
      rw [c38] at g1
      rw [c25] at g2
      rw [c2] at g3
      have split : c0.toList = c0.toList.take 6 ++ (c0.toList.drop 6).take 6 ++ ((c0.toList.drop 12).take 1 ++ (c0.toList.drop 13).take 1) := by
        match c0.toList, hl with
        | [_, _, _, _, _, _, _, _, _, _, _, _, _, _], _ => rfl
      obtain ⟨v2, e2⟩ : ∃ v2, (c0.toList.drop 12).take 1 = [v2] := by
        match c0.toList, hl with
        | [_, _, _, _, _, _, _, _, _, _, _, _, v, _], _ => exact ⟨v, rfl⟩
      rw [e2] at g2 split
      obtain ⟨n, e3, _, hn⟩ := DataW.trod_int Try.underlying2 g3
      rw [e3] at split
      obtain ⟨m, hm, rm⟩ : ∃ m : Tm, m.ok ∧ Rep W N0 [] bl0 (.agg (c0.toList.take 6).toArray) (encT m) := read_T Try.underlying38 rfl rfl rfl rfl rfl rfl rfl rfl rfl rfl rfl rfl Try.underlying3 Try.underlying2 Try.underlying9 Try.underlying36 (by kernel_rfl) (by kernel_rfl) (by kernel_rfl) (by kernel_rfl) (by kernel_rfl) _ _ _ g0
      obtain ⟨t, ht, rt⟩ : ∃ m : Tm, m.ok ∧ Rep W N0 [] bl0 (.agg ((c0.toList.drop 6).take 6).toArray) (encT m) := read_T Try.underlying38 rfl rfl rfl rfl rfl rfl rfl rfl rfl rfl rfl rfl Try.underlying3 Try.underlying2 Try.underlying9 Try.underlying36 (by kernel_rfl) (by kernel_rfl) (by kernel_rfl) (by kernel_rfl) (by kernel_rfl) _ _ _ g1
      obtain ⟨fl, l, _, _, rl⟩ := read_ints Try.underlying3 Try.underlying25 (by kernel_rfl) g2
      refine ⟨m, t, fl, l, n, hm, ht, wf64 hn, ?_⟩
      rw [encT_eq] at rm rt
      have := reps_app (reps_app rm rt) (reps_app (reps_one (by cases fl <;> cases l <;> rfl) rl) (reps_one rfl (.int .i64 n)))
      rw [← split] at this
      exact this
  clear hA0 hval0
  refine (calls_of_ev ok (ev5 m t fl w n hm ht hn) (w := W) (vs := #[.agg c0]) rfl (rep_args1 rk)).mono fun e W' ⟨he, bel⟩ => ?_
  subst he
  exact ⟨_, rfl, _, _, _, [], _, [], hW', trodAll_mk1 (shut_bool Try.underlying4 _),
    (trodAll_cons_mk (Below.trod setsLaidOut (by kernel_rfl) (of_decide_eq_true (by kernel_rfl)) h0 bel lt0) trodAll_mk0), rfl, bel.frame _, fun h => by cases h⟩

theorem keepsOver : Rows.valueKeepsRow.holds Try.pinned (OpenSpec.ofChange Rows.valueKeepsSpec) :=
  OpenClaim.holds_of_wide 5 Try.f5 rfl rfl rfl rfl rfl rfl rfl ⟨rfl, rfl, rfl, rfl, rfl⟩ rfl rfl rfl rfl rfl (by kernel_rfl) Try.func5 (by kernel_rfl)
    (of_decide_eq_true (by kernel_rfl)) (by unfold Func.isWrapper; first | (rw [if_pos (by decide +kernel)]; kernel_rfl) | (rw [if_neg (by decide +kernel)]; exact ⟨rfl, rfl⟩))
    (fun os started H enc _ => keepsLifted os started H enc)

theorem keepsProved : Rows.ValueKeepsSaid := keepsOver
end Go.Proofs.Ytknicjakdopilaa
