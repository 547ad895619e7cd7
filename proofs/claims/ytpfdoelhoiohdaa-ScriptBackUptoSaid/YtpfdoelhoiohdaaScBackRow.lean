/-
  THE STATEMENT ScriptBack, where what it reads is of bulk at most 1048576.
-/
import Derived.Test.YtpfdoelhoiohdaaRows
import Derived.WalkKit
import Derived.ProofKit
import Derived.OpenShut
import Derived.ChangeOld
import Derived.JoinedCond
import Derived.Below
import Derived.Test.YtpfdoelhoiohdaaScBulk
import Derived.Test.YtpfdoelhoiohdaaScBackRead
import Derived.Test.YtpfdoelhoiohdaaLkPrim
import Derived.Test.YtpfdoelhoiohdaaScShelf
namespace Go.Proofs.Ytpfdoelhoiohdaa
open Go.ChangeShapes Go.WideShapes Go.ChangeAt Go.RowKit
open Go.Nt Go.Nt.Lk

theorem sbOwn : ownKnob Try.prog.godebug = none := by kernel_rfl
theorem sbLaidOut : laidOutB Try.prog = true := by kernel_rfl

theorem sb_pos {H : Type} (d : DataW H) : 1 ≤ Rows.uptoBulk d := by
  cases d with
  | lit l => cases l <;> simp [Rows.uptoBulk]
  | nil => simp [Rows.uptoBulk]
  | ptr d => simp [Rows.uptoBulk]
  | slice a b => simp [Rows.uptoBulk]
  | agg a => simp [Rows.uptoBulk]
  | iface a b => simp [Rows.uptoBulk]
  | map a => simp [Rows.uptoBulk]
  | held a => simp [Rows.uptoBulk]
theorem sb_all {H : Type} : ∀ l : List (DataW H), l.length ≤ Rows.uptoBulkAll l
  | [] => by simp
  | d :: l => by
    have h1 := sb_pos d
    have h2 := sb_all l
    simp only [Rows.uptoBulkAll, List.length_cons]; omega
theorem sb_op {H : Type} {o : Opr} {d : DataW H} (h : OpW o d) : wt o ≤ Rows.uptoBulk d := by
  obtain ⟨nd, a, b, c, e, f, hn, rfl⟩ := h
  have h1 : o.rq.nums.length ≤ Rows.uptoBulk nd := by
    rcases hn with h | ⟨es, sp, rfl, h⟩
    · rw [h]; simp
    · have := sb_all es
      simp only [Rows.uptoBulk]; omega
  unfold wt
  simp only [Rows.uptoBulk, Rows.uptoBulkAll]
  omega
theorem sb_ops {H : Type} : ∀ (l : List Opf) (elems : List (DataW H)), elems.length = l.length → (∀ (i : Nat) (y : Opf), l[i]? = some y → ∃ d, elems[i]? = some d ∧ OpW y.1 d) → wts l ≤ Rows.uptoBulkAll elems
  | [], _, _, _ => by simp [wts]
  | y :: l, [], h, _ => by simp at h
  | y :: l, d :: elems, h, hp => by
    obtain ⟨d', h1, h2⟩ := hp 0 y rfl
    simp only [List.getElem?_cons_zero, Option.some.injEq] at h1
    subst h1
    have i1 := sb_op h2
    have i2 := sb_ops l elems (by simpa using h) fun i z hz => by simpa using hp (i + 1) z (by simpa using hz)
    simp only [wts, Rows.uptoBulkAll]; omega

theorem sb_args1 {w : World} {v0 : Value} {d0 : D} (h0 : Rep w N0 [] bl0 v0 d0) :
    ∀ (i : Nat) (v : Value) (d : D), #[v0][i]? = some v → [d0][i]? = some d → Rep w N0 [] bl0 v d := by
  intro i v d hv hd
  match i, hv, hd with
  | 0, hv, hd => simp at hv hd; subst hv; subst hd; exact h0

set_option maxRecDepth 100000 in
theorem backLifted (os : Os) (started : os.Started) (H : Type) (enc : TypeId × Value → H) (F : Stop.Interp) :
    ReturnsInHanded {} Try.checked os 9 .any ((Rows.OpenSpec.upto Rows.scriptBackSpec).pre6 enc Try.prog Try.f9 Rows.scriptBackUptoRow.domain false) (((Rows.OpenSpec.upto Rows.scriptBackSpec).at F).post enc Try.prog Try.f9 false true false false) := by
  refine returnsInHanded_of_cond (C := Try.checked) (s := Rows.OpenSpec.upto Rows.scriptBackSpec) (k := Rows.uptoSmall) rfl sbOwn started (by kernel_rfl) Try.func9
    (OpenSpec.witness (enc := enc) (C := Try.checked) (s := Rows.OpenSpec.upto Rows.scriptBackSpec) (k := Rows.uptoSmall) rfl false ⟨#[], #[.slice none 0 0], []⟩ 8 (by kernel_rfl) (by kernel_rfl) (by kernel_rfl)
      (x := ([.nil], [], [])) (by kernel_rfl) rfl (by kernel_rfl)) ?_
  intro W base args ds gs before hval0 hW _ hk _
  have hval : ∀ (j : Nat) t v, Try.f9.params[j]? = some t → args[j]? = some v → Value.okWide Try.prog W .any base t v := hval0
  have hW' := hW
  obtain ⟨p, q, hA0, hV, rfl, hfz, hnd⟩ := hW
  have hA : DataW.TrodAll enc Try.prog W 0 (fun _ => true) true Try.f9.params.toList args.toList ds p := hA0
  rw [Try.params9] at hA hval
  obtain ⟨v1, vs1, d1, ds1, p1, q1, hargs, rfl, rfl, h1, r1⟩ := trodAll_cons hA
  obtain ⟨rfl, rfl, rfl⟩ := trodAll_nil r1
  obtain rfl : args = #[v1] := by cases args; simp_all
  obtain ⟨rfl, rfl⟩ := trodVars_none hV
  obtain ⟨a1, len1, cap1, rfl⟩ := okWide_slice Try.underlying49 (hval 0 49 v1 rfl rfl)
  have lt1 : ∀ x ∈ p1, x.block < W.heap.size := by obtain ⟨m, hm⟩ := h1; exact DataW.trod_lt m _ _ _ hm
  obtain ⟨fl, l, hl, hin, rl⟩ : ∃ (fl : Fl) (l : List Opf), (l = [] ∨ ∃ elems sp, d1 = .slice elems sp ∧ elems.length = l.length ∧ ∀ (i : Nat) (y : Opf), l[i]? = some y → ∃ d, elems[i]? = some d ∧ OpW y.1 d) ∧ (∀ y ∈ l, RqIn y.1.rq ∧ Lk.in64 y.1.n) ∧ Rep W N0 [] bl0 (.slice a1 len1 cap1) (opsD fl l) := by
    obtain ⟨fuel, hf⟩ := h1
    exact read_Ops Try.underlying49 Try.underlying56 Try.underlying54 rfl rfl rfl rfl rfl rfl rfl rfl rfl rfl rfl rfl rfl rfl rfl rfl rfl rfl Try.underlying3 Try.underlying9 Try.underlying52 (by kernel_rfl) (by kernel_rfl) (by kernel_rfl) (by kernel_rfl) (by kernel_rfl) hf
  have hB : wts l ≤ 1048576 := by
    rcases hl with rfl | ⟨elems, sp, rfl, he, hp⟩
    · simp [wts]
    · have hb : Rows.uptoBulkAll [DataW.slice (H := H) elems sp] ≤ 1048576 := of_decide_eq_true hk
      have := sb_ops l elems he hp
      simp only [Rows.uptoBulkAll, Rows.uptoBulk] at hb
      omega
  clear hA0 hval0
  obtain ⟨st9, h9⟩ := ev9w l fl hin hB
  refine (calls_of_ev (ok p49 p60 p88 p133 p160) h9 (w := W) (vs := #[.slice a1 len1 cap1]) rfl (sb_args1 rl)).mono fun e W' ⟨he, bel⟩ => ?_
  subst he
  exact ⟨_, rfl, _, _, _, [], _, [], hW', trodAll_mk1 (shut_bool Try.underlying4 _),
    (trodAll_cons_mk (Below.trod sbLaidOut (by kernel_rfl) (of_decide_eq_true (by kernel_rfl)) h1 bel lt1) trodAll_mk0), rfl, bel.frame _, fun h => by cases h⟩

theorem backProved : Rows.ScriptBackUptoSaid :=
  OpenClaim.holds_of_cond 9 Try.f9 rfl rfl rfl rfl rfl rfl rfl ⟨rfl, rfl, rfl, rfl, rfl⟩ rfl rfl rfl rfl rfl (by kernel_rfl) Try.func9 (by kernel_rfl)
    (of_decide_eq_true (by kernel_rfl)) (by unfold Func.isWrapper; first | (rw [if_pos (by decide +kernel)]; kernel_rfl) | (rw [if_neg (by decide +kernel)]; exact ⟨rfl, rfl⟩))
    (fun os started H enc _ F => backLifted os started H enc F)
end Go.Proofs.Ytpfdoelhoiohdaa
