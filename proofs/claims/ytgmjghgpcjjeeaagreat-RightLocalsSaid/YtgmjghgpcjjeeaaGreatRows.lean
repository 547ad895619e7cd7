/-
  NARROWER THAN 'FOR EVERY INPUT', by the rows' own cells (each row's printed sentence says how): ExecRuns: loops · ExecCalls: loops · ExecMore: loops · ExecFits: loops · ExecEvals: loops · RightSettles: loops · RightLocals: loops.
  DERIVED. THE GIVEN ROWS OF THIS SEAT. 7 by the template 'for every input the law returns true; each argument reads behind the call as it read before'; 0 by the template 'total and deterministic' (their statements: YtgmjghgpcjjeeaaGreatTotals.lean).
  GIVEN WITH THE SEED: the statements are not yours to turn. If you find one false, say at which input.
  Laid BY PROGRAM, IN A SANDBOX (cutbox-rows.mjs): the forced cells as the released guide's own fill.sh prints them over the translation 0834e09c6a63c7c3… (all of the seat's roots in one cut). By AI agents, Wed Nov 11 2026. No macro, syntax, notation, axiom, sorry.
-/
import Derived.Test.YtgmjghgpcjjeeaaGreatChecked
import GoSem.Claim
import GoSem.ClaimJoined
import GoSem.ClaimMapViews
import Derived.JoinedTies
import Derived.KernelRfl
namespace Go.Proofs.YtgmjghgpcjjeeaaGreat
/- THE CELL 'sum', in the pinned program and in every row, IS THE sha256 OF THE DUMP (.gsa) THAT YtgmjghgpcjjeeaaGreatProg.lean LOADS. Nothing in Lean hashes anything: it is a label: what it is worth is what the hold of that sum in a sandbox is worth. -/
noncomputable def Tryz.pinned : Pinned := { name := "ytgmjghgpcjjeeaagreat", sum := "0834e09c6a63c7c38b000a1345195c0faead1b66597a6f86beac5a003ff3aac2", checked := Tryz.checked }
namespace Rows
def none {H : Type} : Left H := { results := [], args := [] }

/-- 'notarylaw21.ExecRuns': WHATEVER THE INPUT: true; the input reads as it did. -/
def execRunsSpec : ChangeSpec := { name := "execRuns", fn := fun _ => fun
  | [d1, d2, d3] => { results := [.lit (.bool true)], args := [d1, d2, d3] }
  | _ => none }
def execRunsRow : OpenClaim := { program := "ytgmjghgpcjjeeaagreat", sum := "0834e09c6a63c7c38b000a1345195c0faead1b66597a6f86beac5a003ff3aac2", func := "notary/notarylaw21.ExecRuns", spec := "execRuns", unfollowed := true, recurses := true, loops := true, apart := false }
def ExecRunsSaid : Prop := execRunsRow.holds Tryz.pinned (OpenSpec.ofChange execRunsSpec)

/-- ITS FALSE NEIGHBOUR: 'it returns false'. Refute it at one input. -/
def execRunsWrong : ChangeSpec := { name := "execRuns", fn := fun _ => fun
  | [d1, d2, d3] => { results := [.lit (.bool false)], args := [d1, d2, d3] }
  | _ => none }
def ExecRunsWrongFalsely : Prop := execRunsRow.holds Tryz.pinned (OpenSpec.ofChange execRunsWrong)

/-- 'notarylaw21.ExecCalls': WHATEVER THE INPUT: true; the input reads as it did. -/
def execCallsSpec : ChangeSpec := { name := "execCalls", fn := fun _ => fun
  | [d] => { results := [.lit (.bool true)], args := [d] }
  | _ => none }
def execCallsRow : OpenClaim := { program := "ytgmjghgpcjjeeaagreat", sum := "0834e09c6a63c7c38b000a1345195c0faead1b66597a6f86beac5a003ff3aac2", func := "notary/notarylaw21.ExecCalls", spec := "execCalls", unfollowed := true, recurses := true, loops := true, apart := false }
def ExecCallsSaid : Prop := execCallsRow.holds Tryz.pinned (OpenSpec.ofChange execCallsSpec)

/-- ITS FALSE NEIGHBOUR: 'it returns false'. Refute it at one input. -/
def execCallsWrong : ChangeSpec := { name := "execCalls", fn := fun _ => fun
  | [d] => { results := [.lit (.bool false)], args := [d] }
  | _ => none }
def ExecCallsWrongFalsely : Prop := execCallsRow.holds Tryz.pinned (OpenSpec.ofChange execCallsWrong)

/-- 'notarylaw21.ExecMore': WHATEVER THE INPUT: true; the input reads as it did. -/
def execMoreSpec : ChangeSpec := { name := "execMore", fn := fun _ => fun
  | [d1, d2, d3] => { results := [.lit (.bool true)], args := [d1, d2, d3] }
  | _ => none }
def execMoreRow : OpenClaim := { program := "ytgmjghgpcjjeeaagreat", sum := "0834e09c6a63c7c38b000a1345195c0faead1b66597a6f86beac5a003ff3aac2", func := "notary/notarylaw21.ExecMore", spec := "execMore", unfollowed := true, recurses := true, loops := true, apart := false }
def ExecMoreSaid : Prop := execMoreRow.holds Tryz.pinned (OpenSpec.ofChange execMoreSpec)

/-- ITS FALSE NEIGHBOUR: 'it returns false'. Refute it at one input. -/
def execMoreWrong : ChangeSpec := { name := "execMore", fn := fun _ => fun
  | [d1, d2, d3] => { results := [.lit (.bool false)], args := [d1, d2, d3] }
  | _ => none }
def ExecMoreWrongFalsely : Prop := execMoreRow.holds Tryz.pinned (OpenSpec.ofChange execMoreWrong)

/-- 'notarylaw21.ExecFits': WHATEVER THE INPUT: true; the input reads as it did. -/
def execFitsSpec : ChangeSpec := { name := "execFits", fn := fun _ => fun
  | [d] => { results := [.lit (.bool true)], args := [d] }
  | _ => none }
def execFitsRow : OpenClaim := { program := "ytgmjghgpcjjeeaagreat", sum := "0834e09c6a63c7c38b000a1345195c0faead1b66597a6f86beac5a003ff3aac2", func := "notary/notarylaw21.ExecFits", spec := "execFits", unfollowed := true, recurses := true, loops := true, apart := false }
def ExecFitsSaid : Prop := execFitsRow.holds Tryz.pinned (OpenSpec.ofChange execFitsSpec)

/-- ITS FALSE NEIGHBOUR: 'it returns false'. Refute it at one input. -/
def execFitsWrong : ChangeSpec := { name := "execFits", fn := fun _ => fun
  | [d] => { results := [.lit (.bool false)], args := [d] }
  | _ => none }
def ExecFitsWrongFalsely : Prop := execFitsRow.holds Tryz.pinned (OpenSpec.ofChange execFitsWrong)

/-- 'notarylaw21.ExecEvals': WHATEVER THE INPUT: true; the input reads as it did. -/
def execEvalsSpec : ChangeSpec := { name := "execEvals", fn := fun _ => fun
  | [d] => { results := [.lit (.bool true)], args := [d] }
  | _ => none }
def execEvalsRow : OpenClaim := { program := "ytgmjghgpcjjeeaagreat", sum := "0834e09c6a63c7c38b000a1345195c0faead1b66597a6f86beac5a003ff3aac2", func := "notary/notarylaw21.ExecEvals", spec := "execEvals", unfollowed := true, recurses := true, loops := true, apart := false }
def ExecEvalsSaid : Prop := execEvalsRow.holds Tryz.pinned (OpenSpec.ofChange execEvalsSpec)

/-- ITS FALSE NEIGHBOUR: 'it returns false'. Refute it at one input. -/
def execEvalsWrong : ChangeSpec := { name := "execEvals", fn := fun _ => fun
  | [d] => { results := [.lit (.bool false)], args := [d] }
  | _ => none }
def ExecEvalsWrongFalsely : Prop := execEvalsRow.holds Tryz.pinned (OpenSpec.ofChange execEvalsWrong)

/-- 'notarylaw16.RightSettles': WHATEVER THE INPUT: true; the input reads as it did. -/
def rightSettlesSpec : ChangeSpec := { name := "rightSettles", fn := fun _ => fun
  | [d] => { results := [.lit (.bool true)], args := [d] }
  | _ => none }
def rightSettlesRow : OpenClaim := { program := "ytgmjghgpcjjeeaagreat", sum := "0834e09c6a63c7c38b000a1345195c0faead1b66597a6f86beac5a003ff3aac2", func := "notary/notarylaw16.RightSettles", spec := "rightSettles", unfollowed := true, recurses := true, loops := true, apart := false }
def RightSettlesSaid : Prop := rightSettlesRow.holds Tryz.pinned (OpenSpec.ofChange rightSettlesSpec)

/-- ITS FALSE NEIGHBOUR: 'it returns false'. Refute it at one input. -/
def rightSettlesWrong : ChangeSpec := { name := "rightSettles", fn := fun _ => fun
  | [d] => { results := [.lit (.bool false)], args := [d] }
  | _ => none }
def RightSettlesWrongFalsely : Prop := rightSettlesRow.holds Tryz.pinned (OpenSpec.ofChange rightSettlesWrong)

/-- 'notarylaw16.RightLocals': WHATEVER THE INPUT: true; the input reads as it did. -/
def rightLocalsSpec : ChangeSpec := { name := "rightLocals", fn := fun _ => fun
  | [d1, d2] => { results := [.lit (.bool true)], args := [d1, d2] }
  | _ => none }
def rightLocalsRow : OpenClaim := { program := "ytgmjghgpcjjeeaagreat", sum := "0834e09c6a63c7c38b000a1345195c0faead1b66597a6f86beac5a003ff3aac2", func := "notary/notarylaw16.RightLocals", spec := "rightLocals", unfollowed := true, recurses := true, loops := true, apart := false }
def RightLocalsSaid : Prop := rightLocalsRow.holds Tryz.pinned (OpenSpec.ofChange rightLocalsSpec)

/-- ITS FALSE NEIGHBOUR: 'it returns false'. Refute it at one input. -/
def rightLocalsWrong : ChangeSpec := { name := "rightLocals", fn := fun _ => fun
  | [d1, d2] => { results := [.lit (.bool false)], args := [d1, d2] }
  | _ => none }
def RightLocalsWrongFalsely : Prop := rightLocalsRow.holds Tryz.pinned (OpenSpec.ofChange rightLocalsWrong)

/- THE SECOND FORM. 'bulk': how many values and letters a reading holds, each counted each time it is reached (what is shared counts as often as it is met; a slice's spare places count too). A statement '..UptoSaid' is the law's where the arguments, and the package variables that the reading takes, are together of bulk at most 1048576: NARROWER than '..Said'. Prove '..Said' where nothing that the law and all that it calls make is longer than what came in: it says more and counts as full. Else prove '..UptoSaid'. A law counts once. -/
mutual
def uptoBulk {H : Type} : DataW H → Nat
  | .lit (.string bytes) => bytes.length + 1
  | .lit _ => 1
  | .nil => 1
  | .ptr d => uptoBulk d + 1
  | .slice elems spare => uptoBulkAll elems + uptoBulkAll spare + 1
  | .agg parts => uptoBulkAll parts + 1
  | .iface _ d => uptoBulk d + 1
  | .map entries => uptoBulkEntries entries + 1
  | .held _ => 1
def uptoBulkAll {H : Type} : List (DataW H) → Nat
  | [] => 0
  | d :: r => uptoBulk d + uptoBulkAll r
def uptoBulkEntries {H : Type} : List (Lit × DataW H) → Nat
  | [] => 0
  | x :: r => uptoBulkEntry x + uptoBulkEntries r
def uptoBulkEntry {H : Type} : Lit × DataW H → Nat
  | (.string bytes, d) => bytes.length + uptoBulk d + 1
  | (_, d) => uptoBulk d + 1
 end
def uptoSmall : (H : Type) → List (DataW H) → Bool := fun _ ds => decide (uptoBulkAll ds ≤ 1048576)
def OpenSpec.upto (s : _root_.Go.ChangeSpec) : _root_.Go.OpenSpec := { _root_.Go.OpenSpec.ofChange s with cond := some uptoSmall }

/-- 'notarylaw21.ExecRuns', WHERE WHAT IT READS IS OF BULK AT MOST 1048576: true; the input reads as it did. -/
def execRunsUptoRow : OpenClaim := { program := "ytgmjghgpcjjeeaagreat", sum := "0834e09c6a63c7c38b000a1345195c0faead1b66597a6f86beac5a003ff3aac2", func := "notary/notarylaw21.ExecRuns", spec := "execRuns", unfollowed := true, recurses := true, loops := true, apart := false, narrowed := true }
def ExecRunsUptoSaid : Prop := execRunsUptoRow.holds Tryz.pinned (OpenSpec.upto execRunsSpec)

/-- 'notarylaw21.ExecCalls', WHERE WHAT IT READS IS OF BULK AT MOST 1048576: true; the input reads as it did. -/
def execCallsUptoRow : OpenClaim := { program := "ytgmjghgpcjjeeaagreat", sum := "0834e09c6a63c7c38b000a1345195c0faead1b66597a6f86beac5a003ff3aac2", func := "notary/notarylaw21.ExecCalls", spec := "execCalls", unfollowed := true, recurses := true, loops := true, apart := false, narrowed := true }
def ExecCallsUptoSaid : Prop := execCallsUptoRow.holds Tryz.pinned (OpenSpec.upto execCallsSpec)

/-- 'notarylaw21.ExecMore', WHERE WHAT IT READS IS OF BULK AT MOST 1048576: true; the input reads as it did. -/
def execMoreUptoRow : OpenClaim := { program := "ytgmjghgpcjjeeaagreat", sum := "0834e09c6a63c7c38b000a1345195c0faead1b66597a6f86beac5a003ff3aac2", func := "notary/notarylaw21.ExecMore", spec := "execMore", unfollowed := true, recurses := true, loops := true, apart := false, narrowed := true }
def ExecMoreUptoSaid : Prop := execMoreUptoRow.holds Tryz.pinned (OpenSpec.upto execMoreSpec)

/-- 'notarylaw21.ExecFits', WHERE WHAT IT READS IS OF BULK AT MOST 1048576: true; the input reads as it did. -/
def execFitsUptoRow : OpenClaim := { program := "ytgmjghgpcjjeeaagreat", sum := "0834e09c6a63c7c38b000a1345195c0faead1b66597a6f86beac5a003ff3aac2", func := "notary/notarylaw21.ExecFits", spec := "execFits", unfollowed := true, recurses := true, loops := true, apart := false, narrowed := true }
def ExecFitsUptoSaid : Prop := execFitsUptoRow.holds Tryz.pinned (OpenSpec.upto execFitsSpec)

/-- 'notarylaw21.ExecEvals', WHERE WHAT IT READS IS OF BULK AT MOST 1048576: true; the input reads as it did. -/
def execEvalsUptoRow : OpenClaim := { program := "ytgmjghgpcjjeeaagreat", sum := "0834e09c6a63c7c38b000a1345195c0faead1b66597a6f86beac5a003ff3aac2", func := "notary/notarylaw21.ExecEvals", spec := "execEvals", unfollowed := true, recurses := true, loops := true, apart := false, narrowed := true }
def ExecEvalsUptoSaid : Prop := execEvalsUptoRow.holds Tryz.pinned (OpenSpec.upto execEvalsSpec)

/-- 'notarylaw16.RightSettles', WHERE WHAT IT READS IS OF BULK AT MOST 1048576: true; the input reads as it did. -/
def rightSettlesUptoRow : OpenClaim := { program := "ytgmjghgpcjjeeaagreat", sum := "0834e09c6a63c7c38b000a1345195c0faead1b66597a6f86beac5a003ff3aac2", func := "notary/notarylaw16.RightSettles", spec := "rightSettles", unfollowed := true, recurses := true, loops := true, apart := false, narrowed := true }
def RightSettlesUptoSaid : Prop := rightSettlesUptoRow.holds Tryz.pinned (OpenSpec.upto rightSettlesSpec)

/-- 'notarylaw16.RightLocals', WHERE WHAT IT READS IS OF BULK AT MOST 1048576: true; the input reads as it did. -/
def rightLocalsUptoRow : OpenClaim := { program := "ytgmjghgpcjjeeaagreat", sum := "0834e09c6a63c7c38b000a1345195c0faead1b66597a6f86beac5a003ff3aac2", func := "notary/notarylaw16.RightLocals", spec := "rightLocals", unfollowed := true, recurses := true, loops := true, apart := false, narrowed := true }
def RightLocalsUptoSaid : Prop := rightLocalsUptoRow.holds Tryz.pinned (OpenSpec.upto rightLocalsSpec)

end Rows
end Go.Proofs.YtgmjghgpcjjeeaaGreat
