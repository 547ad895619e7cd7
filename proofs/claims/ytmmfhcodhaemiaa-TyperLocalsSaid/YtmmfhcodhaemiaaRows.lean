/-
  NARROWER THAN 'FOR EVERY INPUT', by the rows' own cells (each row's printed sentence says how): TyperSettles: loops · TyperLocals: loops.
  DERIVED. THE GIVEN ROWS OF THIS SEAT. 2 by the template 'for every input the law returns true; each argument reads behind the call as it read before'; 0 by the template 'total and deterministic' (their statements: YtmmfhcodhaemiaaTotals.lean).
  GIVEN WITH THE SEED: the statements are not yours to turn. If you find one false, say at which input.
  Laid BY PROGRAM, IN A SANDBOX (cutbox-rows.mjs): the forced cells as the released guide's own fill.sh prints them over the translation 0fcfcae972e91a68… (all of the seat's roots in one cut). By AI agents, Wed Nov 11 2026. No macro, syntax, notation, axiom, sorry.
-/
import Derived.Test.YtmmfhcodhaemiaaChecked
import GoSem.Claim
import GoSem.ClaimJoined
import GoSem.ClaimMapViews
import Derived.JoinedTies
import Derived.KernelRfl
namespace Go.Proofs.Ytmmfhcodhaemiaa
/- THE CELL 'sum', in the pinned program and in every row, IS THE sha256 OF THE DUMP (.gsa) THAT YtmmfhcodhaemiaaProg.lean LOADS. Nothing in Lean hashes anything: it is a label: what it is worth is what the hold of that sum in a sandbox is worth. -/
noncomputable def Try.pinned : Pinned := { name := "ytmmfhcodhaemiaa", sum := "0fcfcae972e91a6899823ecb8799514477e5fa56e827d53ee325f203687eb7ff", checked := Try.checked }
namespace Rows
def none {H : Type} : Left H := { results := [], args := [] }

/-- 'notarylaw15.TyperSettles': WHATEVER THE INPUT: true; the input reads as it did. -/
def typerSettlesSpec : ChangeSpec := { name := "typerSettles", fn := fun _ => fun
  | [d1, d2, d3] => { results := [.lit (.bool true)], args := [d1, d2, d3] }
  | _ => none }
def typerSettlesRow : OpenClaim := { program := "ytmmfhcodhaemiaa", sum := "0fcfcae972e91a6899823ecb8799514477e5fa56e827d53ee325f203687eb7ff", func := "notary/notarylaw15.TyperSettles", spec := "typerSettles", unfollowed := true, recurses := true, loops := true, apart := false }
def TyperSettlesSaid : Prop := typerSettlesRow.holds Try.pinned (OpenSpec.ofChange typerSettlesSpec)

/-- ITS FALSE NEIGHBOUR: 'it returns false'. Refute it at one input. -/
def typerSettlesWrong : ChangeSpec := { name := "typerSettles", fn := fun _ => fun
  | [d1, d2, d3] => { results := [.lit (.bool false)], args := [d1, d2, d3] }
  | _ => none }
def TyperSettlesWrongFalsely : Prop := typerSettlesRow.holds Try.pinned (OpenSpec.ofChange typerSettlesWrong)

/-- 'notarylaw15.TyperLocals': WHATEVER THE INPUT: true; the input reads as it did. -/
def typerLocalsSpec : ChangeSpec := { name := "typerLocals", fn := fun _ => fun
  | [d] => { results := [.lit (.bool true)], args := [d] }
  | _ => none }
def typerLocalsRow : OpenClaim := { program := "ytmmfhcodhaemiaa", sum := "0fcfcae972e91a6899823ecb8799514477e5fa56e827d53ee325f203687eb7ff", func := "notary/notarylaw15.TyperLocals", spec := "typerLocals", unfollowed := true, recurses := true, loops := true, apart := false }
def TyperLocalsSaid : Prop := typerLocalsRow.holds Try.pinned (OpenSpec.ofChange typerLocalsSpec)

/-- ITS FALSE NEIGHBOUR: 'it returns false'. Refute it at one input. -/
def typerLocalsWrong : ChangeSpec := { name := "typerLocals", fn := fun _ => fun
  | [d] => { results := [.lit (.bool false)], args := [d] }
  | _ => none }
def TyperLocalsWrongFalsely : Prop := typerLocalsRow.holds Try.pinned (OpenSpec.ofChange typerLocalsWrong)

/- THE SECOND FORM. 'bulk': how many values and letters a reading holds, each counted each time it is reached (what is shared counts as often as it is met; a slice's spare places count too). A statement '..UptoSaid' is the law's where the arguments, and the package variables that the reading takes, are together of bulk at most 1048576: NARROWER than '..Said'. Prove '..Said' where nothing that the law and all that it calls make is longer than what came in: it says more and counts as full. Else prove '..UptoSaid'. A law counts once. -/
mutual
def uptoBulk {H : Type} : DataW H → Nat
  | .lit (.string bytes) => bytes.length + 1
  | .lit _ => 1
  | .nil => 1
  | .ptr d => uptoBulk d + 1
  | .slice elems spare => uptoBulkAll elems + uptoBulkAll spare + 1
  | .agg parts => uptoBulkAll parts + 1
  | .iface _ d => uptoBulk d + 1
  | .map entries => uptoBulkEntries entries + 1
  | .held _ => 1
def uptoBulkAll {H : Type} : List (DataW H) → Nat
  | [] => 0
  | d :: r => uptoBulk d + uptoBulkAll r
def uptoBulkEntries {H : Type} : List (Lit × DataW H) → Nat
  | [] => 0
  | x :: r => uptoBulkEntry x + uptoBulkEntries r
def uptoBulkEntry {H : Type} : Lit × DataW H → Nat
  | (.string bytes, d) => bytes.length + uptoBulk d + 1
  | (_, d) => uptoBulk d + 1
 end
def uptoSmall : (H : Type) → List (DataW H) → Bool := fun _ ds => decide (uptoBulkAll ds ≤ 1048576)
def OpenSpec.upto (s : _root_.Go.ChangeSpec) : _root_.Go.OpenSpec := { _root_.Go.OpenSpec.ofChange s with cond := some uptoSmall }

/-- 'notarylaw15.TyperSettles', WHERE WHAT IT READS IS OF BULK AT MOST 1048576: true; the input reads as it did. -/
def typerSettlesUptoRow : OpenClaim := { program := "ytmmfhcodhaemiaa", sum := "0fcfcae972e91a6899823ecb8799514477e5fa56e827d53ee325f203687eb7ff", func := "notary/notarylaw15.TyperSettles", spec := "typerSettles", unfollowed := true, recurses := true, loops := true, apart := false, narrowed := true }
def TyperSettlesUptoSaid : Prop := typerSettlesUptoRow.holds Try.pinned (OpenSpec.upto typerSettlesSpec)

/-- 'notarylaw15.TyperLocals', WHERE WHAT IT READS IS OF BULK AT MOST 1048576: true; the input reads as it did. -/
def typerLocalsUptoRow : OpenClaim := { program := "ytmmfhcodhaemiaa", sum := "0fcfcae972e91a6899823ecb8799514477e5fa56e827d53ee325f203687eb7ff", func := "notary/notarylaw15.TyperLocals", spec := "typerLocals", unfollowed := true, recurses := true, loops := true, apart := false, narrowed := true }
def TyperLocalsUptoSaid : Prop := typerLocalsUptoRow.holds Try.pinned (OpenSpec.upto typerLocalsSpec)

end Rows
end Go.Proofs.Ytmmfhcodhaemiaa
