/-
  THE STATEMENT LinkRenames, where what it reads is of bulk at most 1048576.
-/
import Derived.Test.YtpfdoelhoiohdaaRows
import Derived.WalkKit
import Derived.ProofKit
import Derived.OpenShut
import Derived.ChangeOld
import Derived.JoinedCond
import Derived.Below
import Derived.Test.YtpfdoelhoiohdaaLkName4
import Derived.Test.YtpfdoelhoiohdaaLkPrim
import Derived.Test.YtpfdoelhoiohdaaLkNameRead
namespace Go.Proofs.Ytpfdoelhoiohdaa
open Go.ChangeShapes Go.WideShapes Go.ChangeAt Go.RowKit
open Go.Nt Go.Nt.Lk
open Go.ChangeMaps (open_string shut_string)

theorem lnOwn : ownKnob Try.prog.godebug = none := by kernel_rfl
theorem lnLaidOut : laidOutB Try.prog = true := by kernel_rfl

theorem bulk_part {H : Type} {d : DataW H} {l : List (DataW H)} (h : d ∈ l) : Rows.uptoBulk d ≤ Rows.uptoBulkAll l := by
  induction l with
  | nil => cases h
  | cons x r ih =>
    simp only [Rows.uptoBulkAll]
    cases List.mem_cons.1 h with
    | inl e => subst e; omega
    | inr e => have := ih e; omega

theorem nm_bulk {H : Type} (n : Nm) : n.2.length ≤ Rows.uptoBulk (nmW (H := H) n) := by
  simp only [nmW, Rows.uptoBulk, Rows.uptoBulkAll]; omega

theorem rep_args2 {w : World} {v0 v1 : Value} {d0 d1 : D} (h0 : Rep w N0 [] bl0 v0 d0) (h1 : Rep w N0 [] bl0 v1 d1) :
    ∀ (i : Nat) (v : Value) (d : D), #[v0, v1][i]? = some v → [d0, d1][i]? = some d → Rep w N0 [] bl0 v d := by
  intro i v d hv hd
  match i, hv, hd with
  | 0, hv, hd => simp at hv hd; subst hv; subst hd; exact h0
  | 1, hv, hd => simp at hv hd; subst hv; subst hd; exact h1

set_option maxRecDepth 100000 in
theorem renamesLifted (os : Os) (started : os.Started) (H : Type) (enc : TypeId × Value → H) (F : Stop.Interp) :
    ReturnsInHanded {} Try.checked os 6 .any ((Rows.OpenSpec.upto Rows.linkRenamesSpec).pre6 enc Try.prog Try.f6 Rows.linkRenamesUptoRow.domain false) (((Rows.OpenSpec.upto Rows.linkRenamesSpec).at F).post enc Try.prog Try.f6 false true false false) := by
  refine returnsInHanded_of_cond (C := Try.checked) (s := Rows.OpenSpec.upto Rows.linkRenamesSpec) (k := Rows.uptoSmall) rfl lnOwn started (by kernel_rfl) Try.func6
    (OpenSpec.witness (enc := enc) (C := Try.checked) (s := Rows.OpenSpec.upto Rows.linkRenamesSpec) (k := Rows.uptoSmall) rfl false ⟨#[], #[.string .empty, .slice none 0 0], []⟩ 8 (by kernel_rfl) (by kernel_rfl) (by kernel_rfl)
      (x := ([.lit (.string []), .nil], [], [])) (by kernel_rfl) rfl (by kernel_rfl)) ?_
  intro W base args ds gs before hval0 hW _ hk _
  have hval : ∀ (j : Nat) t v, Try.f6.params[j]? = some t → args[j]? = some v → Value.okWide Try.prog W .any base t v := hval0
  have hW' := hW
  obtain ⟨p, q, hA0, hV, rfl, hfz, hnd⟩ := hW
  have hA : DataW.TrodAll enc Try.prog W 0 (fun _ => true) true Try.f6.params.toList args.toList ds p := hA0
  rw [Try.params6] at hA hval
  obtain ⟨v0, vs0, d0, ds0, p0, q0, hargs, rfl, rfl, h0, r0⟩ := trodAll_cons hA
  obtain ⟨v1, vs1, d1, ds1, p1, q1, rfl, rfl, rfl, h1, r1⟩ := trodAll_cons r0
  obtain ⟨rfl, rfl, rfl⟩ := trodAll_nil r1
  obtain rfl : args = #[v0, v1] := by cases args; simp_all
  obtain ⟨rfl, rfl⟩ := trodVars_none hV
  obtain ⟨s, rfl, rfl, rfl, hmax⟩ := open_string Try.underlying9 (hval 0 9 v0 rfl rfl) h0
  obtain ⟨a1, len1, cap1, rfl⟩ := okWide_slice Try.underlying39 (hval 1 39 v1 rfl rfl)
  have lt0 : ∀ x ∈ ([] : List MemPlace), x.block < W.heap.size := by simp
  have lt1 : ∀ x ∈ p1, x.block < W.heap.size := by obtain ⟨m, hm⟩ := h1; exact DataW.trod_lt m _ _ _ hm
  obtain ⟨fl, l, hl, rl⟩ : ∃ (fl : Fl) (l : List Nm), (l = [] ∨ ∃ elems sp, d1 = .slice elems sp ∧ ∀ n, n ∈ l → nmW n ∈ elems) ∧ Rep W N0 [] bl0 (.slice a1 len1 cap1) (slE 2 fl (l.map encN)) := by
    obtain ⟨fuel, hf⟩ := h1
    exact read_Nms Try.underlying39 Try.underlying81 rfl rfl rfl rfl Try.underlying9 (by kernel_rfl) (by kernel_rfl) hf
  have hN : ∀ n, n ∈ l → n.2.length ≤ 1048576 := by
    intro n hn
    rcases hl with rfl | ⟨elems, sp, rfl, he⟩
    · cases hn
    · have hb : Rows.uptoBulkAll [DataW.lit (H := H) (.string s.data.toList), .slice elems sp] ≤ 1048576 := of_decide_eq_true hk
      have h1 := bulk_part (he n hn)
      have h2 := nm_bulk (H := H) n
      simp only [Rows.uptoBulkAll, Rows.uptoBulk] at hb
      omega
  clear hA0 hval0
  refine (calls_of_ev (ok p49 p88) (ev6 s.data.toList l fl hN) (w := W) (vs := #[.string s, .slice a1 len1 cap1]) rfl (rep_args2 (.str s) rl)).mono fun e W' ⟨he, bel⟩ => ?_
  subst he
  exact ⟨_, rfl, _, _, _, [], _, [], hW', trodAll_mk1 (shut_bool Try.underlying4 _),
    (trodAll_cons_mk (Below.trod lnLaidOut (by kernel_rfl) (of_decide_eq_true (by kernel_rfl)) h0 bel lt0) (trodAll_cons_mk (Below.trod lnLaidOut (by kernel_rfl) (of_decide_eq_true (by kernel_rfl)) h1 bel lt1) trodAll_mk0)), rfl, bel.frame _, fun h => by cases h⟩

theorem renamesProved : Rows.LinkRenamesUptoSaid :=
  OpenClaim.holds_of_cond 6 Try.f6 rfl rfl rfl rfl rfl rfl rfl ⟨rfl, rfl, rfl, rfl, rfl⟩ rfl rfl rfl rfl rfl (by kernel_rfl) Try.func6 (by kernel_rfl)
    (of_decide_eq_true (by kernel_rfl)) (by unfold Func.isWrapper; first | (rw [if_pos (by decide +kernel)]; kernel_rfl) | (rw [if_neg (by decide +kernel)]; exact ⟨rfl, rfl⟩))
    (fun os started H enc _ F => renamesLifted os started H enc F)
end Go.Proofs.Ytpfdoelhoiohdaa
