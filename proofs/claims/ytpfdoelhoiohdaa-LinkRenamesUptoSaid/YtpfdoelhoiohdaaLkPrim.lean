/-
  WHAT (*strings.Builder).copyCheck AND String DO, EXACTLY (turned from the kit's walks of the two), and that the machine's prims 0 and 1 are they.
  No condition.
-/
import Derived.Test.YtpfdoelhoiohdaaLkIr
import Derived.Test.YtpfdoelhoiohdaaNtBuild
import Derived.Shelf.Strings.Builder1
namespace Go.Proofs
open Go Go.Shelf Go.RowKit

set_option maxHeartbeats 1000000 in
set_option maxRecDepth 100000 in
theorem Try.cc_used (b : Nat) (w : World) (h0 : w.cell? ⟨b, 0, none⟩ = some (.pointer (some ⟨b, 0, none⟩))) :
    Calls Try.prog 88 #[.pointer (some ⟨b, 0, none⟩)] w fun e w' => e = .returned (.tuple #[]) ∧ w' = w := by
  obtain ⟨j, hj, _⟩ := Option.map_eq_some_iff.1 (show (Try.prog.info? 85).map (·.size) = some 2 by kernel_rfl)
  go_enter Try.func88, Try.ntmps88
  go_wp2
  rw [Lib.run_neq_ptr_same w _ Try.underlying82 hj]
  go_wp2
  go_end0
  exact ⟨rfl, rfl⟩

set_option maxHeartbeats 1000000 in
set_option maxRecDepth 100000 in
theorem Try.cc_fresh (b : Nat) (w : World) (h0 : w.cell? ⟨b, 0, none⟩ = some (.pointer none)) (hsh : w.shape? b = some (85, 2)) (hfz : w.frozen? ⟨b, 0, none⟩ = false) :
    Calls Try.prog 88 #[.pointer (some ⟨b, 0, none⟩)] w fun e w' => e = .returned (.tuple #[]) ∧ w' = w.setCell ⟨b, 0, none⟩ (.pointer (some ⟨b, 0, none⟩)) := by
  obtain ⟨j, hj, hjs⟩ := Option.map_eq_some_iff.1 (show (Try.prog.info? 85).map (·.size) = some 2 by kernel_rfl)
  go_enter Try.func88, Try.ntmps88
  go_wp2
  rw [Lib.run_to_unsafe w ⟨b, 0, none⟩ Try.underlying82 Try.underlying155 hj (by rw [hjs]; decide) hsh (Nat.zero_lt_succ 1)]
  simp only [Result.andThen]
  rw [Oper.upon_value]
  go_wp2
  rw [run_callFunc_extern Try.func132 (by kernel_rfl) (by kernel_rfl) (by kernel_rfl) (e := Extern.AbiNoEscape.same) (by kernel_rfl)]
  rw [Lib.run_noEscape]
  simp only [Result.andThen]
  rw [Oper.upon_value]
  go_wp2
  rw [Lib.run_from_unsafe w ⟨b, 0, none⟩ Try.underlying155 Try.underlying82 hj hsh (by kernel_rfl)]
  simp only [Result.andThen]
  rw [Oper.upon_value]
  go_wp2
  go_end0
  exact ⟨rfl, rfl⟩

set_option maxHeartbeats 1000000 in
set_option maxRecDepth 100000 in
theorem Try.string_some (b g cap n : Nat) (l : List UInt8) (w : World) (h0 : l.length ≠ 0) (hbk : w.cell? ⟨b, 1, none⟩ = some (.slice (some ⟨g, 0, none⟩) l.length cap))
    (hg : w.shape? g = some (5, n)) (hnc : l.length ≤ cap) (hcs : cap ≤ n) (hml : l.length ≤ maxLen) (htake : ∀ (j : Nat) (x : UInt8), l[j]? = some x → w.cell? (Addr.add ⟨g, 0, none⟩ j) = some (.int .u8 x.toNat)) :
    Calls Try.prog 49 #[.pointer (some ⟨b, 0, none⟩)] w fun e w' => e = .returned (.string ⟨l.toArray⟩) ∧ w' = w.drew.freeze ⟨g, 0, none⟩ l.length := by
  have c1 : w.drew.cell? ⟨b, 1, none⟩ = some (.slice (some ⟨g, 0, none⟩) l.length cap) := hbk
  have hSD : (Builtin.unsafeSliceData_ #[83] 133 #[.slice (some ⟨g, 0, none⟩) l.length cap]).run Try.prog w.drew = .ok (.pointer (some ⟨g, 0, none⟩)) w.drew :=
    Lib.run_unsafeSliceData_row _ _ _ _ _ _ (by omega)
  have hUS : (Builtin.unsafeString_ #[133, 3] 9 #[.pointer (some ⟨g, 0, none⟩), .int .i64 l.length]).run Try.prog w.drew = .ok (.string ⟨l.toArray⟩) (w.drew.freeze ⟨g, 0, none⟩ l.length) := by
    refine Lib.run_unsafeString_row w.drew 133 3 9 5 Try.underlying133 (by kernel_rfl) g n hg l (by intro e; subst e; simp at h0) (by omega) (by unfold maxLen at *; omega) htake
  go_enter Try.func49, Try.ntmps49
  go_wp2
  go_region
  all_goals (go_wp2; go_ret; exact ⟨rfl, rfl⟩)

set_option maxHeartbeats 2000000 in
set_option maxRecDepth 100000 in
theorem Try.string_nil (b : Nat) (w : World) (hbk : w.cell? ⟨b, 1, none⟩ = some (.slice none 0 0)) :
    Calls Try.prog 49 #[.pointer (some ⟨b, 0, none⟩)] w fun e w' => e = .returned (.string ⟨#[]⟩) ∧ w' = w.drew := by
  have hUS : ∀ (W : World) (q : Option Addr), (Builtin.unsafeString_ #[133, 3] 9 #[.pointer q, .int .i64 0]).run Try.prog W = .ok (.string .empty) W := fun W q => Lib.run_unsafeString_none W _ _ _ q
  have c1 : w.drew.cell? ⟨b, 1, none⟩ = some (.slice none 0 0) := hbk
  have hSD : (Builtin.unsafeSliceData_ #[83] 133 #[.slice none 0 0]).run Try.prog w.drew = .ok (.pointer none) w.drew := rfl
  go_enter Try.func49, Try.ntmps49
  go_wp2
  go_region
  all_goals (go_wp2; go_ret; exact ⟨rfl, rfl⟩)

end Go.Proofs

namespace Go.Nt.Lk
open Go Go.Nt

theorem p88 : PrimF Proofs.Try.prog 88 F88 :=
  prim_copyCheck (ty := 85) ⟨Proofs.Try.f88, _, Proofs.Try.func88, rfl, by decide +kernel⟩ rfl rfl (fun b w h => Proofs.Try.cc_used b w h) (fun b w h1 h2 h3 => Proofs.Try.cc_fresh b w h1 h2 h3)
theorem p49 : PrimF Proofs.Try.prog 49 F49 :=
  prim_string (ty := 85) (tb := 5) ⟨Proofs.Try.f49, _, Proofs.Try.func49, rfl, by decide +kernel⟩ (by decide) rfl rfl (fun b w h => Proofs.Try.string_nil b w h)
    (fun b g cap n l w h0 h1 h2 h3 h4 h5 h6 => Proofs.Try.string_some b g cap n l w h0 h1 h2 h3 h4 (by unfold maxLen; unfold most at h5; omega) h6)

end Go.Nt.Lk
