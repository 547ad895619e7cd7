/-
  No cell of these rows narrows 'for every input' (looked for: loops, veiled, ifaces, maps, wideKeys, modest, calm, conditions, laid).
  DERIVED. THE GIVEN ROWS OF THIS SEAT. 8 by the template 'for every input the law returns true; each argument reads behind the call as it read before'; 0 by the template 'total and deterministic' (their statements: YtpfdoelhoiohdaaTotals.lean).
  GIVEN WITH THE SEED: the statements are not yours to turn. If you find one false, say at which input.
  Laid BY PROGRAM, IN A SANDBOX (cutbox-rows.mjs): the forced cells as the released guide's own fill.sh prints them over the translation e6fdb7bec4ca2e42… (all of the seat's roots in one cut). By AI agents, Wed Nov 11 2026. No macro, syntax, notation, axiom, sorry.
-/
import Derived.Test.YtpfdoelhoiohdaaChecked
import GoSem.Claim
import GoSem.ClaimJoined
import GoSem.ClaimMapViews
import Derived.JoinedTies
import Derived.KernelRfl
namespace Go.Proofs.Ytpfdoelhoiohdaa
/- THE CELL 'sum', in the pinned program and in every row, IS THE sha256 OF THE DUMP (.gsa) THAT YtpfdoelhoiohdaaProg.lean LOADS. Nothing in Lean hashes anything: it is a label: what it is worth is what the hold of that sum in a sandbox is worth. -/
noncomputable def Try.pinned : Pinned := { name := "ytpfdoelhoiohdaa", sum := "e6fdb7bec4ca2e4223b8e53d9a7d510bbca16cacf6ca99f16fdf0993428f5e8a", checked := Try.checked }
namespace Rows
def none {H : Type} : Left H := { results := [], args := [] }

/-- 'notarylaw13.ScopeResolves': WHATEVER THE INPUT: true; the input reads as it did. -/
def scopeResolvesSpec : ChangeSpec := { name := "scopeResolves", fn := fun _ => fun
  | [d] => { results := [.lit (.bool true)], args := [d] }
  | _ => none }
def scopeResolvesRow : OpenClaim := { program := "ytpfdoelhoiohdaa", sum := "e6fdb7bec4ca2e4223b8e53d9a7d510bbca16cacf6ca99f16fdf0993428f5e8a", func := "notary/notarylaw13.ScopeResolves", spec := "scopeResolves", unfollowed := true, recurses := true, apart := false }
def ScopeResolvesSaid : Prop := scopeResolvesRow.holds Try.pinned (OpenSpec.ofChange scopeResolvesSpec)

/-- ITS FALSE NEIGHBOUR: 'it returns false'. Refute it at one input. -/
def scopeResolvesWrong : ChangeSpec := { name := "scopeResolves", fn := fun _ => fun
  | [d] => { results := [.lit (.bool false)], args := [d] }
  | _ => none }
def ScopeResolvesWrongFalsely : Prop := scopeResolvesRow.holds Try.pinned (OpenSpec.ofChange scopeResolvesWrong)

/-- 'notarylaw13.ScopeNames': WHATEVER THE INPUT: true; the input reads as it did. -/
def scopeNamesSpec : ChangeSpec := { name := "scopeNames", fn := fun _ => fun
  | [d] => { results := [.lit (.bool true)], args := [d] }
  | _ => none }
def scopeNamesRow : OpenClaim := { program := "ytpfdoelhoiohdaa", sum := "e6fdb7bec4ca2e4223b8e53d9a7d510bbca16cacf6ca99f16fdf0993428f5e8a", func := "notary/notarylaw13.ScopeNames", spec := "scopeNames", unfollowed := true, recurses := true, apart := false }
def ScopeNamesSaid : Prop := scopeNamesRow.holds Try.pinned (OpenSpec.ofChange scopeNamesSpec)

/-- ITS FALSE NEIGHBOUR: 'it returns false'. Refute it at one input. -/
def scopeNamesWrong : ChangeSpec := { name := "scopeNames", fn := fun _ => fun
  | [d] => { results := [.lit (.bool false)], args := [d] }
  | _ => none }
def ScopeNamesWrongFalsely : Prop := scopeNamesRow.holds Try.pinned (OpenSpec.ofChange scopeNamesWrong)

/-- 'notarylaw13.ScopeKeeps': WHATEVER THE INPUT: true; the input reads as it did. -/
def scopeKeepsSpec : ChangeSpec := { name := "scopeKeeps", fn := fun _ => fun
  | [d] => { results := [.lit (.bool true)], args := [d] }
  | _ => none }
def scopeKeepsRow : OpenClaim := { program := "ytpfdoelhoiohdaa", sum := "e6fdb7bec4ca2e4223b8e53d9a7d510bbca16cacf6ca99f16fdf0993428f5e8a", func := "notary/notarylaw13.ScopeKeeps", spec := "scopeKeeps", unfollowed := true, recurses := true, apart := false }
def ScopeKeepsSaid : Prop := scopeKeepsRow.holds Try.pinned (OpenSpec.ofChange scopeKeepsSpec)

/-- ITS FALSE NEIGHBOUR: 'it returns false'. Refute it at one input. -/
def scopeKeepsWrong : ChangeSpec := { name := "scopeKeeps", fn := fun _ => fun
  | [d] => { results := [.lit (.bool false)], args := [d] }
  | _ => none }
def ScopeKeepsWrongFalsely : Prop := scopeKeepsRow.holds Try.pinned (OpenSpec.ofChange scopeKeepsWrong)

/-- 'notarylaw22.LinkRenames': WHATEVER THE INPUT: true; the input reads as it did. -/
def linkRenamesSpec : ChangeSpec := { name := "linkRenames", fn := fun _ => fun
  | [d1, d2] => { results := [.lit (.bool true)], args := [d1, d2] }
  | _ => none }
def linkRenamesRow : OpenClaim := { program := "ytpfdoelhoiohdaa", sum := "e6fdb7bec4ca2e4223b8e53d9a7d510bbca16cacf6ca99f16fdf0993428f5e8a", func := "notary/notarylaw22.LinkRenames", spec := "linkRenames", inPlace := ["internal/abi.NoEscape"], unfollowed := true, recurses := true, apart := false }
def LinkRenamesSaid : Prop := linkRenamesRow.holds Try.pinned (OpenSpec.ofChange linkRenamesSpec)

/-- ITS FALSE NEIGHBOUR: 'it returns false'. Refute it at one input. -/
def linkRenamesWrong : ChangeSpec := { name := "linkRenames", fn := fun _ => fun
  | [d1, d2] => { results := [.lit (.bool false)], args := [d1, d2] }
  | _ => none }
def LinkRenamesWrongFalsely : Prop := linkRenamesRow.holds Try.pinned (OpenSpec.ofChange linkRenamesWrong)

/-- 'notarylaw22.LinkAgrees': WHATEVER THE INPUT: true; the input reads as it did. -/
def linkAgreesSpec : ChangeSpec := { name := "linkAgrees", fn := fun _ => fun
  | [d1, d2, d3] => { results := [.lit (.bool true)], args := [d1, d2, d3] }
  | _ => none }
def linkAgreesRow : OpenClaim := { program := "ytpfdoelhoiohdaa", sum := "e6fdb7bec4ca2e4223b8e53d9a7d510bbca16cacf6ca99f16fdf0993428f5e8a", func := "notary/notarylaw22.LinkAgrees", spec := "linkAgrees", inPlace := ["internal/abi.NoEscape"], unfollowed := true, recurses := true, apart := false }
def LinkAgreesSaid : Prop := linkAgreesRow.holds Try.pinned (OpenSpec.ofChange linkAgreesSpec)

/-- ITS FALSE NEIGHBOUR: 'it returns false'. Refute it at one input. -/
def linkAgreesWrong : ChangeSpec := { name := "linkAgrees", fn := fun _ => fun
  | [d1, d2, d3] => { results := [.lit (.bool false)], args := [d1, d2, d3] }
  | _ => none }
def LinkAgreesWrongFalsely : Prop := linkAgreesRow.holds Try.pinned (OpenSpec.ofChange linkAgreesWrong)

/-- 'notarylaw51.ScriptQuotes': WHATEVER THE INPUT: true; the input reads as it did. -/
def scriptQuotesSpec : ChangeSpec := { name := "scriptQuotes", fn := fun _ => fun
  | [d] => { results := [.lit (.bool true)], args := [d] }
  | _ => none }
def scriptQuotesRow : OpenClaim := { program := "ytpfdoelhoiohdaa", sum := "e6fdb7bec4ca2e4223b8e53d9a7d510bbca16cacf6ca99f16fdf0993428f5e8a", func := "notary/notarylaw51.ScriptQuotes", spec := "scriptQuotes", inPlace := ["internal/bytealg.IndexByteString", "internal/bytealg.IndexString", "internal/abi.NoEscape"], unfollowed := true, recurses := true, named := ["internal/bytealg.MaxLen"], apart := false }
def ScriptQuotesSaid : Prop := scriptQuotesRow.holds Try.pinned (OpenSpec.ofChange scriptQuotesSpec)

/-- ITS FALSE NEIGHBOUR: 'it returns false'. Refute it at one input. -/
def scriptQuotesWrong : ChangeSpec := { name := "scriptQuotes", fn := fun _ => fun
  | [d] => { results := [.lit (.bool false)], args := [d] }
  | _ => none }
def ScriptQuotesWrongFalsely : Prop := scriptQuotesRow.holds Try.pinned (OpenSpec.ofChange scriptQuotesWrong)

/-- 'notarylaw51.ScriptBack': WHATEVER THE INPUT: true; the input reads as it did. -/
def scriptBackSpec : ChangeSpec := { name := "scriptBack", fn := fun _ => fun
  | [d] => { results := [.lit (.bool true)], args := [d] }
  | _ => none }
def scriptBackRow : OpenClaim := { program := "ytpfdoelhoiohdaa", sum := "e6fdb7bec4ca2e4223b8e53d9a7d510bbca16cacf6ca99f16fdf0993428f5e8a", func := "notary/notarylaw51.ScriptBack", spec := "scriptBack", inPlace := ["internal/bytealg.IndexByteString", "internal/bytealg.IndexString", "internal/abi.NoEscape", "internal/bytealg.MakeNoZero"], unfollowed := true, recurses := true, named := ["internal/bytealg.MaxLen"], apart := false }
def ScriptBackSaid : Prop := scriptBackRow.holds Try.pinned (OpenSpec.ofChange scriptBackSpec)

/-- ITS FALSE NEIGHBOUR: 'it returns false'. Refute it at one input. -/
def scriptBackWrong : ChangeSpec := { name := "scriptBack", fn := fun _ => fun
  | [d] => { results := [.lit (.bool false)], args := [d] }
  | _ => none }
def ScriptBackWrongFalsely : Prop := scriptBackRow.holds Try.pinned (OpenSpec.ofChange scriptBackWrong)

/-- 'notarylaw51.ScriptReads': WHATEVER THE INPUT: true; the input reads as it did. -/
def scriptReadsSpec : ChangeSpec := { name := "scriptReads", fn := fun _ => fun
  | [d] => { results := [.lit (.bool true)], args := [d] }
  | _ => none }
def scriptReadsRow : OpenClaim := { program := "ytpfdoelhoiohdaa", sum := "e6fdb7bec4ca2e4223b8e53d9a7d510bbca16cacf6ca99f16fdf0993428f5e8a", func := "notary/notarylaw51.ScriptReads", spec := "scriptReads", inPlace := ["internal/bytealg.IndexByteString", "internal/bytealg.IndexString", "internal/abi.NoEscape", "internal/bytealg.MakeNoZero"], unfollowed := true, recurses := true, named := ["internal/bytealg.MaxLen"], apart := false }
def ScriptReadsSaid : Prop := scriptReadsRow.holds Try.pinned (OpenSpec.ofChange scriptReadsSpec)

/-- ITS FALSE NEIGHBOUR: 'it returns false'. Refute it at one input. -/
def scriptReadsWrong : ChangeSpec := { name := "scriptReads", fn := fun _ => fun
  | [d] => { results := [.lit (.bool false)], args := [d] }
  | _ => none }
def ScriptReadsWrongFalsely : Prop := scriptReadsRow.holds Try.pinned (OpenSpec.ofChange scriptReadsWrong)

/- THE SECOND FORM. 'bulk': how many values and letters a reading holds, each counted each time it is reached (what is shared counts as often as it is met; a slice's spare places count too). A statement '..UptoSaid' is the law's where the arguments, and the package variables that the reading takes, are together of bulk at most 1048576: NARROWER than '..Said'. Prove '..Said' where nothing that the law and all that it calls make is longer than what came in: it says more and counts as full. Else prove '..UptoSaid'. A law counts once. -/
mutual
def uptoBulk {H : Type} : DataW H → Nat
  | .lit (.string bytes) => bytes.length + 1
  | .lit _ => 1
  | .nil => 1
  | .ptr d => uptoBulk d + 1
  | .slice elems spare => uptoBulkAll elems + uptoBulkAll spare + 1
  | .agg parts => uptoBulkAll parts + 1
  | .iface _ d => uptoBulk d + 1
  | .map entries => uptoBulkEntries entries + 1
  | .held _ => 1
def uptoBulkAll {H : Type} : List (DataW H) → Nat
  | [] => 0
  | d :: r => uptoBulk d + uptoBulkAll r
def uptoBulkEntries {H : Type} : List (Lit × DataW H) → Nat
  | [] => 0
  | x :: r => uptoBulkEntry x + uptoBulkEntries r
def uptoBulkEntry {H : Type} : Lit × DataW H → Nat
  | (.string bytes, d) => bytes.length + uptoBulk d + 1
  | (_, d) => uptoBulk d + 1
 end
def uptoSmall : (H : Type) → List (DataW H) → Bool := fun _ ds => decide (uptoBulkAll ds ≤ 1048576)
def OpenSpec.upto (s : _root_.Go.ChangeSpec) : _root_.Go.OpenSpec := { _root_.Go.OpenSpec.ofChange s with cond := some uptoSmall }

/-- 'notarylaw13.ScopeResolves', WHERE WHAT IT READS IS OF BULK AT MOST 1048576: true; the input reads as it did. -/
def scopeResolvesUptoRow : OpenClaim := { program := "ytpfdoelhoiohdaa", sum := "e6fdb7bec4ca2e4223b8e53d9a7d510bbca16cacf6ca99f16fdf0993428f5e8a", func := "notary/notarylaw13.ScopeResolves", spec := "scopeResolves", unfollowed := true, recurses := true, apart := false, narrowed := true }
def ScopeResolvesUptoSaid : Prop := scopeResolvesUptoRow.holds Try.pinned (OpenSpec.upto scopeResolvesSpec)

/-- 'notarylaw13.ScopeNames', WHERE WHAT IT READS IS OF BULK AT MOST 1048576: true; the input reads as it did. -/
def scopeNamesUptoRow : OpenClaim := { program := "ytpfdoelhoiohdaa", sum := "e6fdb7bec4ca2e4223b8e53d9a7d510bbca16cacf6ca99f16fdf0993428f5e8a", func := "notary/notarylaw13.ScopeNames", spec := "scopeNames", unfollowed := true, recurses := true, apart := false, narrowed := true }
def ScopeNamesUptoSaid : Prop := scopeNamesUptoRow.holds Try.pinned (OpenSpec.upto scopeNamesSpec)

/-- 'notarylaw13.ScopeKeeps', WHERE WHAT IT READS IS OF BULK AT MOST 1048576: true; the input reads as it did. -/
def scopeKeepsUptoRow : OpenClaim := { program := "ytpfdoelhoiohdaa", sum := "e6fdb7bec4ca2e4223b8e53d9a7d510bbca16cacf6ca99f16fdf0993428f5e8a", func := "notary/notarylaw13.ScopeKeeps", spec := "scopeKeeps", unfollowed := true, recurses := true, apart := false, narrowed := true }
def ScopeKeepsUptoSaid : Prop := scopeKeepsUptoRow.holds Try.pinned (OpenSpec.upto scopeKeepsSpec)

/-- 'notarylaw22.LinkRenames', WHERE WHAT IT READS IS OF BULK AT MOST 1048576: true; the input reads as it did. -/
def linkRenamesUptoRow : OpenClaim := { program := "ytpfdoelhoiohdaa", sum := "e6fdb7bec4ca2e4223b8e53d9a7d510bbca16cacf6ca99f16fdf0993428f5e8a", func := "notary/notarylaw22.LinkRenames", spec := "linkRenames", inPlace := ["internal/abi.NoEscape"], unfollowed := true, recurses := true, apart := false, narrowed := true }
def LinkRenamesUptoSaid : Prop := linkRenamesUptoRow.holds Try.pinned (OpenSpec.upto linkRenamesSpec)

/-- 'notarylaw22.LinkAgrees', WHERE WHAT IT READS IS OF BULK AT MOST 1048576: true; the input reads as it did. -/
def linkAgreesUptoRow : OpenClaim := { program := "ytpfdoelhoiohdaa", sum := "e6fdb7bec4ca2e4223b8e53d9a7d510bbca16cacf6ca99f16fdf0993428f5e8a", func := "notary/notarylaw22.LinkAgrees", spec := "linkAgrees", inPlace := ["internal/abi.NoEscape"], unfollowed := true, recurses := true, apart := false, narrowed := true }
def LinkAgreesUptoSaid : Prop := linkAgreesUptoRow.holds Try.pinned (OpenSpec.upto linkAgreesSpec)

/-- 'notarylaw51.ScriptQuotes', WHERE WHAT IT READS IS OF BULK AT MOST 1048576: true; the input reads as it did. -/
def scriptQuotesUptoRow : OpenClaim := { program := "ytpfdoelhoiohdaa", sum := "e6fdb7bec4ca2e4223b8e53d9a7d510bbca16cacf6ca99f16fdf0993428f5e8a", func := "notary/notarylaw51.ScriptQuotes", spec := "scriptQuotes", inPlace := ["internal/bytealg.IndexByteString", "internal/bytealg.IndexString", "internal/abi.NoEscape"], unfollowed := true, recurses := true, named := ["internal/bytealg.MaxLen"], apart := false, narrowed := true }
def ScriptQuotesUptoSaid : Prop := scriptQuotesUptoRow.holds Try.pinned (OpenSpec.upto scriptQuotesSpec)

/-- 'notarylaw51.ScriptBack', WHERE WHAT IT READS IS OF BULK AT MOST 1048576: true; the input reads as it did. -/
def scriptBackUptoRow : OpenClaim := { program := "ytpfdoelhoiohdaa", sum := "e6fdb7bec4ca2e4223b8e53d9a7d510bbca16cacf6ca99f16fdf0993428f5e8a", func := "notary/notarylaw51.ScriptBack", spec := "scriptBack", inPlace := ["internal/bytealg.IndexByteString", "internal/bytealg.IndexString", "internal/abi.NoEscape", "internal/bytealg.MakeNoZero"], unfollowed := true, recurses := true, named := ["internal/bytealg.MaxLen"], apart := false, narrowed := true }
def ScriptBackUptoSaid : Prop := scriptBackUptoRow.holds Try.pinned (OpenSpec.upto scriptBackSpec)

/-- 'notarylaw51.ScriptReads', WHERE WHAT IT READS IS OF BULK AT MOST 1048576: true; the input reads as it did. -/
def scriptReadsUptoRow : OpenClaim := { program := "ytpfdoelhoiohdaa", sum := "e6fdb7bec4ca2e4223b8e53d9a7d510bbca16cacf6ca99f16fdf0993428f5e8a", func := "notary/notarylaw51.ScriptReads", spec := "scriptReads", inPlace := ["internal/bytealg.IndexByteString", "internal/bytealg.IndexString", "internal/abi.NoEscape", "internal/bytealg.MakeNoZero"], unfollowed := true, recurses := true, named := ["internal/bytealg.MaxLen"], apart := false, narrowed := true }
def ScriptReadsUptoSaid : Prop := scriptReadsUptoRow.holds Try.pinned (OpenSpec.upto scriptReadsSpec)

end Rows
end Go.Proofs.Ytpfdoelhoiohdaa
