/-
  NARROWER THAN 'FOR EVERY INPUT', by the rows' own cells (each row's printed sentence says how): ValueSets: loops · ValueZeroes: loops · ValueKeeps: loops.
  DERIVED. THE GIVEN ROWS OF THIS SEAT. 3 by the template 'for every input the law returns true; each argument reads behind the call as it read before'; 0 by the template 'total and deterministic' (their statements: YtknicjakdopilaaTotals.lean).
  GIVEN WITH THE SEED: the statements are not yours to turn. If you find one false, say at which input.
  Laid BY PROGRAM, IN A SANDBOX (cutbox-rows.mjs): the forced cells as the released guide's own fill.sh prints them over the translation 00b899b21499aa20… (all of the seat's roots in one cut). By AI agents, Wed Nov 11 2026. No macro, syntax, notation, axiom, sorry.
-/
import Derived.Test.YtknicjakdopilaaChecked
import GoSem.Claim
import GoSem.ClaimJoined
import GoSem.ClaimMapViews
import Derived.JoinedTies
import Derived.KernelRfl
namespace Go.Proofs.Ytknicjakdopilaa
/- THE CELL 'sum', in the pinned program and in every row, IS THE sha256 OF THE DUMP (.gsa) THAT YtknicjakdopilaaProg.lean LOADS. Nothing in Lean hashes anything: it is a label: what it is worth is what the hold of that sum in a sandbox is worth. -/
noncomputable def Try.pinned : Pinned := { name := "ytknicjakdopilaa", sum := "00b899b21499aa2021aabc69ded7ea458fa031e6c58f79a1c9949ba718651c44", checked := Try.checked }
namespace Rows
def none {H : Type} : Left H := { results := [], args := [] }

/-- 'notarylaw19.ValueSets': WHATEVER THE INPUT: true; the input reads as it did. -/
def valueSetsSpec : ChangeSpec := { name := "valueSets", fn := fun _ => fun
  | [d1, d2, d3] => { results := [.lit (.bool true)], args := [d1, d2, d3] }
  | _ => none }
def valueSetsRow : OpenClaim := { program := "ytknicjakdopilaa", sum := "00b899b21499aa2021aabc69ded7ea458fa031e6c58f79a1c9949ba718651c44", func := "notary/notarylaw19.ValueSets", spec := "valueSets", unfollowed := true, recurses := true, loops := true, apart := false }
def ValueSetsSaid : Prop := valueSetsRow.holds Try.pinned (OpenSpec.ofChange valueSetsSpec)

/-- ITS FALSE NEIGHBOUR: 'it returns false'. Refute it at one input. -/
def valueSetsWrong : ChangeSpec := { name := "valueSets", fn := fun _ => fun
  | [d1, d2, d3] => { results := [.lit (.bool false)], args := [d1, d2, d3] }
  | _ => none }
def ValueSetsWrongFalsely : Prop := valueSetsRow.holds Try.pinned (OpenSpec.ofChange valueSetsWrong)

/-- 'notarylaw19.ValueZeroes': WHATEVER THE INPUT: true; the input reads as it did. -/
def valueZeroesSpec : ChangeSpec := { name := "valueZeroes", fn := fun _ => fun
  | [d1, d2, d3] => { results := [.lit (.bool true)], args := [d1, d2, d3] }
  | _ => none }
def valueZeroesRow : OpenClaim := { program := "ytknicjakdopilaa", sum := "00b899b21499aa2021aabc69ded7ea458fa031e6c58f79a1c9949ba718651c44", func := "notary/notarylaw19.ValueZeroes", spec := "valueZeroes", unfollowed := true, recurses := true, loops := true, apart := false }
def ValueZeroesSaid : Prop := valueZeroesRow.holds Try.pinned (OpenSpec.ofChange valueZeroesSpec)

/-- ITS FALSE NEIGHBOUR: 'it returns false'. Refute it at one input. -/
def valueZeroesWrong : ChangeSpec := { name := "valueZeroes", fn := fun _ => fun
  | [d1, d2, d3] => { results := [.lit (.bool false)], args := [d1, d2, d3] }
  | _ => none }
def ValueZeroesWrongFalsely : Prop := valueZeroesRow.holds Try.pinned (OpenSpec.ofChange valueZeroesWrong)

/-- 'notarylaw19.ValueKeeps': WHATEVER THE INPUT: true; the input reads as it did. -/
def valueKeepsSpec : ChangeSpec := { name := "valueKeeps", fn := fun _ => fun
  | [d] => { results := [.lit (.bool true)], args := [d] }
  | _ => none }
def valueKeepsRow : OpenClaim := { program := "ytknicjakdopilaa", sum := "00b899b21499aa2021aabc69ded7ea458fa031e6c58f79a1c9949ba718651c44", func := "notary/notarylaw19.ValueKeeps", spec := "valueKeeps", unfollowed := true, recurses := true, loops := true, apart := false }
def ValueKeepsSaid : Prop := valueKeepsRow.holds Try.pinned (OpenSpec.ofChange valueKeepsSpec)

/-- ITS FALSE NEIGHBOUR: 'it returns false'. Refute it at one input. -/
def valueKeepsWrong : ChangeSpec := { name := "valueKeeps", fn := fun _ => fun
  | [d] => { results := [.lit (.bool false)], args := [d] }
  | _ => none }
def ValueKeepsWrongFalsely : Prop := valueKeepsRow.holds Try.pinned (OpenSpec.ofChange valueKeepsWrong)

/- THE SECOND FORM. 'bulk': how many values and letters a reading holds, each counted each time it is reached (what is shared counts as often as it is met; a slice's spare places count too). A statement '..UptoSaid' is the law's where the arguments, and the package variables that the reading takes, are together of bulk at most 1048576: NARROWER than '..Said'. Prove '..Said' where nothing that the law and all that it calls make is longer than what came in: it says more and counts as full. Else prove '..UptoSaid'. A law counts once. -/
mutual
def uptoBulk {H : Type} : DataW H → Nat
  | .lit (.string bytes) => bytes.length + 1
  | .lit _ => 1
  | .nil => 1
  | .ptr d => uptoBulk d + 1
  | .slice elems spare => uptoBulkAll elems + uptoBulkAll spare + 1
  | .agg parts => uptoBulkAll parts + 1
  | .iface _ d => uptoBulk d + 1
  | .map entries => uptoBulkEntries entries + 1
  | .held _ => 1
def uptoBulkAll {H : Type} : List (DataW H) → Nat
  | [] => 0
  | d :: r => uptoBulk d + uptoBulkAll r
def uptoBulkEntries {H : Type} : List (Lit × DataW H) → Nat
  | [] => 0
  | x :: r => uptoBulkEntry x + uptoBulkEntries r
def uptoBulkEntry {H : Type} : Lit × DataW H → Nat
  | (.string bytes, d) => bytes.length + uptoBulk d + 1
  | (_, d) => uptoBulk d + 1
 end
def uptoSmall : (H : Type) → List (DataW H) → Bool := fun _ ds => decide (uptoBulkAll ds ≤ 1048576)
def OpenSpec.upto (s : _root_.Go.ChangeSpec) : _root_.Go.OpenSpec := { _root_.Go.OpenSpec.ofChange s with cond := some uptoSmall }

/-- 'notarylaw19.ValueSets', WHERE WHAT IT READS IS OF BULK AT MOST 1048576: true; the input reads as it did. -/
def valueSetsUptoRow : OpenClaim := { program := "ytknicjakdopilaa", sum := "00b899b21499aa2021aabc69ded7ea458fa031e6c58f79a1c9949ba718651c44", func := "notary/notarylaw19.ValueSets", spec := "valueSets", unfollowed := true, recurses := true, loops := true, apart := false, narrowed := true }
def ValueSetsUptoSaid : Prop := valueSetsUptoRow.holds Try.pinned (OpenSpec.upto valueSetsSpec)

/-- 'notarylaw19.ValueZeroes', WHERE WHAT IT READS IS OF BULK AT MOST 1048576: true; the input reads as it did. -/
def valueZeroesUptoRow : OpenClaim := { program := "ytknicjakdopilaa", sum := "00b899b21499aa2021aabc69ded7ea458fa031e6c58f79a1c9949ba718651c44", func := "notary/notarylaw19.ValueZeroes", spec := "valueZeroes", unfollowed := true, recurses := true, loops := true, apart := false, narrowed := true }
def ValueZeroesUptoSaid : Prop := valueZeroesUptoRow.holds Try.pinned (OpenSpec.upto valueZeroesSpec)

/-- 'notarylaw19.ValueKeeps', WHERE WHAT IT READS IS OF BULK AT MOST 1048576: true; the input reads as it did. -/
def valueKeepsUptoRow : OpenClaim := { program := "ytknicjakdopilaa", sum := "00b899b21499aa2021aabc69ded7ea458fa031e6c58f79a1c9949ba718651c44", func := "notary/notarylaw19.ValueKeeps", spec := "valueKeeps", unfollowed := true, recurses := true, loops := true, apart := false, narrowed := true }
def ValueKeepsUptoSaid : Prop := valueKeepsUptoRow.holds Try.pinned (OpenSpec.upto valueKeepsSpec)

end Rows
end Go.Proofs.Ytknicjakdopilaa
