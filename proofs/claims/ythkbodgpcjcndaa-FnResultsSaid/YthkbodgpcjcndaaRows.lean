/-
  No cell of these rows narrows 'for every input' (looked for: loops, veiled, ifaces, maps, wideKeys, modest, calm, conditions, laid).
  DERIVED. THE GIVEN ROWS OF THIS SEAT. 6 by the template 'for every input the law returns true; each argument reads behind the call as it read before'; 0 by the template 'total and deterministic' (their statements: YthkbodgpcjcndaaTotals.lean).
  GIVEN WITH THE SEED: the statements are not yours to turn. If you find one false, say at which input.
  Laid BY PROGRAM, IN A SANDBOX (cutbox-rows.mjs): the forced cells as the released guide's own fill.sh prints them over the translation 3bff2b75ecf8c035… (all of the seat's roots in one cut). By AI agents, Wed Nov 11 2026. No macro, syntax, notation, axiom, sorry.
-/
import Derived.Test.YthkbodgpcjcndaaChecked
import GoSem.Claim
import GoSem.ClaimJoined
import GoSem.ClaimMapViews
import Derived.JoinedTies
import Derived.KernelRfl
namespace Go.Proofs.Ythkbodgpcjcndaa
/- THE CELL 'sum', in the pinned program and in every row, IS THE sha256 OF THE DUMP (.gsa) THAT YthkbodgpcjcndaaProg.lean LOADS. Nothing in Lean hashes anything: it is a label: what it is worth is what the hold of that sum in a sandbox is worth. -/
noncomputable def Try.pinned : Pinned := { name := "ythkbodgpcjcndaa", sum := "3bff2b75ecf8c0357bc12c700053b2a713b98f1cb8197e82a57d07a8ebc157ab", checked := Try.checked }
namespace Rows
def none {H : Type} : Left H := { results := [], args := [] }

/-- 'laws.FnTables': WHATEVER THE INPUT: true; the input reads as it did. -/
def fnTablesSpec : ChangeSpec := { name := "fnTables", fn := fun _ => fun
  | [d] => { results := [.lit (.bool true)], args := [d] }
  | _ => none }
def fnTablesRow : OpenClaim := { program := "ythkbodgpcjcndaa", sum := "3bff2b75ecf8c0357bc12c700053b2a713b98f1cb8197e82a57d07a8ebc157ab", func := "loop.example/g01379/laws.FnTables", spec := "fnTables", unfollowed := true, recurses := true, apart := false }
def FnTablesSaid : Prop := fnTablesRow.holds Try.pinned (OpenSpec.ofChange fnTablesSpec)

/-- ITS FALSE NEIGHBOUR: 'it returns false'. Refute it at one input. -/
def fnTablesWrong : ChangeSpec := { name := "fnTables", fn := fun _ => fun
  | [d] => { results := [.lit (.bool false)], args := [d] }
  | _ => none }
def FnTablesWrongFalsely : Prop := fnTablesRow.holds Try.pinned (OpenSpec.ofChange fnTablesWrong)

/-- 'laws.FnRowComplete': WHATEVER THE INPUT: true; the input reads as it did. -/
def fnRowCompleteSpec : ChangeSpec := { name := "fnRowComplete", fn := fun _ => fun
  | [d] => { results := [.lit (.bool true)], args := [d] }
  | _ => none }
def fnRowCompleteRow : OpenClaim := { program := "ythkbodgpcjcndaa", sum := "3bff2b75ecf8c0357bc12c700053b2a713b98f1cb8197e82a57d07a8ebc157ab", func := "loop.example/g01379/laws.FnRowComplete", spec := "fnRowComplete", unfollowed := true, recurses := true, apart := false }
def FnRowCompleteSaid : Prop := fnRowCompleteRow.holds Try.pinned (OpenSpec.ofChange fnRowCompleteSpec)

/-- ITS FALSE NEIGHBOUR: 'it returns false'. Refute it at one input. -/
def fnRowCompleteWrong : ChangeSpec := { name := "fnRowComplete", fn := fun _ => fun
  | [d] => { results := [.lit (.bool false)], args := [d] }
  | _ => none }
def FnRowCompleteWrongFalsely : Prop := fnRowCompleteRow.holds Try.pinned (OpenSpec.ofChange fnRowCompleteWrong)

/-- 'laws.FnResults': WHATEVER THE INPUT: true; the input reads as it did. -/
def fnResultsSpec : ChangeSpec := { name := "fnResults", fn := fun _ => fun
  | [d] => { results := [.lit (.bool true)], args := [d] }
  | _ => none }
def fnResultsRow : OpenClaim := { program := "ythkbodgpcjcndaa", sum := "3bff2b75ecf8c0357bc12c700053b2a713b98f1cb8197e82a57d07a8ebc157ab", func := "loop.example/g01379/laws.FnResults", spec := "fnResults", unfollowed := true, recurses := true, apart := false }
def FnResultsSaid : Prop := fnResultsRow.holds Try.pinned (OpenSpec.ofChange fnResultsSpec)

/-- ITS FALSE NEIGHBOUR: 'it returns false'. Refute it at one input. -/
def fnResultsWrong : ChangeSpec := { name := "fnResults", fn := fun _ => fun
  | [d] => { results := [.lit (.bool false)], args := [d] }
  | _ => none }
def FnResultsWrongFalsely : Prop := fnResultsRow.holds Try.pinned (OpenSpec.ofChange fnResultsWrong)

/-- 'laws.FnExactGridOf': WHATEVER THE INPUT: true; the input reads as it did. -/
def fnExactGridOfSpec : ChangeSpec := { name := "fnExactGridOf", fn := fun _ => fun
  | [d] => { results := [.lit (.bool true)], args := [d] }
  | _ => none }
def fnExactGridOfRow : OpenClaim := { program := "ythkbodgpcjcndaa", sum := "3bff2b75ecf8c0357bc12c700053b2a713b98f1cb8197e82a57d07a8ebc157ab", func := "loop.example/g01379/laws.FnExactGridOf", spec := "fnExactGridOf", unfollowed := true, recurses := true, apart := false }
def FnExactGridOfSaid : Prop := fnExactGridOfRow.holds Try.pinned (OpenSpec.ofChange fnExactGridOfSpec)

/-- ITS FALSE NEIGHBOUR: 'it returns false'. Refute it at one input. -/
def fnExactGridOfWrong : ChangeSpec := { name := "fnExactGridOf", fn := fun _ => fun
  | [d] => { results := [.lit (.bool false)], args := [d] }
  | _ => none }
def FnExactGridOfWrongFalsely : Prop := fnExactGridOfRow.holds Try.pinned (OpenSpec.ofChange fnExactGridOfWrong)

/-- 'laws.FnExactTidyRound': WHATEVER THE INPUT: true; the input reads as it did. -/
def fnExactTidyRoundSpec : ChangeSpec := { name := "fnExactTidyRound", fn := fun _ => fun
  | [d1, d2] => { results := [.lit (.bool true)], args := [d1, d2] }
  | _ => none }
def fnExactTidyRoundRow : OpenClaim := { program := "ythkbodgpcjcndaa", sum := "3bff2b75ecf8c0357bc12c700053b2a713b98f1cb8197e82a57d07a8ebc157ab", func := "loop.example/g01379/laws.FnExactTidyRound", spec := "fnExactTidyRound", unfollowed := true, recurses := true, apart := false }
def FnExactTidyRoundSaid : Prop := fnExactTidyRoundRow.holds Try.pinned (OpenSpec.ofChange fnExactTidyRoundSpec)

/-- ITS FALSE NEIGHBOUR: 'it returns false'. Refute it at one input. -/
def fnExactTidyRoundWrong : ChangeSpec := { name := "fnExactTidyRound", fn := fun _ => fun
  | [d1, d2] => { results := [.lit (.bool false)], args := [d1, d2] }
  | _ => none }
def FnExactTidyRoundWrongFalsely : Prop := fnExactTidyRoundRow.holds Try.pinned (OpenSpec.ofChange fnExactTidyRoundWrong)

/-- 'laws.FnGolfGroups': WHATEVER THE INPUT: true; the input reads as it did. -/
def fnGolfGroupsSpec : ChangeSpec := { name := "fnGolfGroups", fn := fun _ => fun
  | [d] => { results := [.lit (.bool true)], args := [d] }
  | _ => none }
def fnGolfGroupsRow : OpenClaim := { program := "ythkbodgpcjcndaa", sum := "3bff2b75ecf8c0357bc12c700053b2a713b98f1cb8197e82a57d07a8ebc157ab", func := "loop.example/g01379/laws.FnGolfGroups", spec := "fnGolfGroups", unfollowed := true, recurses := true, apart := false }
def FnGolfGroupsSaid : Prop := fnGolfGroupsRow.holds Try.pinned (OpenSpec.ofChange fnGolfGroupsSpec)

/-- ITS FALSE NEIGHBOUR: 'it returns false'. Refute it at one input. -/
def fnGolfGroupsWrong : ChangeSpec := { name := "fnGolfGroups", fn := fun _ => fun
  | [d] => { results := [.lit (.bool false)], args := [d] }
  | _ => none }
def FnGolfGroupsWrongFalsely : Prop := fnGolfGroupsRow.holds Try.pinned (OpenSpec.ofChange fnGolfGroupsWrong)

/- THE SECOND FORM. 'bulk': how many values and letters a reading holds, each counted each time it is reached (what is shared counts as often as it is met; a slice's spare places count too). A statement '..UptoSaid' is the law's where the arguments, and the package variables that the reading takes, are together of bulk at most 1048576: NARROWER than '..Said'. Prove '..Said' where nothing that the law and all that it calls make is longer than what came in: it says more and counts as full. Else prove '..UptoSaid'. A law counts once. -/
mutual
def uptoBulk {H : Type} : DataW H → Nat
  | .lit (.string bytes) => bytes.length + 1
  | .lit _ => 1
  | .nil => 1
  | .ptr d => uptoBulk d + 1
  | .slice elems spare => uptoBulkAll elems + uptoBulkAll spare + 1
  | .agg parts => uptoBulkAll parts + 1
  | .iface _ d => uptoBulk d + 1
  | .map entries => uptoBulkEntries entries + 1
  | .held _ => 1
def uptoBulkAll {H : Type} : List (DataW H) → Nat
  | [] => 0
  | d :: r => uptoBulk d + uptoBulkAll r
def uptoBulkEntries {H : Type} : List (Lit × DataW H) → Nat
  | [] => 0
  | x :: r => uptoBulkEntry x + uptoBulkEntries r
def uptoBulkEntry {H : Type} : Lit × DataW H → Nat
  | (.string bytes, d) => bytes.length + uptoBulk d + 1
  | (_, d) => uptoBulk d + 1
 end
def uptoSmall : (H : Type) → List (DataW H) → Bool := fun _ ds => decide (uptoBulkAll ds ≤ 1048576)
def OpenSpec.upto (s : _root_.Go.ChangeSpec) : _root_.Go.OpenSpec := { _root_.Go.OpenSpec.ofChange s with cond := some uptoSmall }

/-- 'laws.FnTables', WHERE WHAT IT READS IS OF BULK AT MOST 1048576: true; the input reads as it did. -/
def fnTablesUptoRow : OpenClaim := { program := "ythkbodgpcjcndaa", sum := "3bff2b75ecf8c0357bc12c700053b2a713b98f1cb8197e82a57d07a8ebc157ab", func := "loop.example/g01379/laws.FnTables", spec := "fnTables", unfollowed := true, recurses := true, apart := false, narrowed := true }
def FnTablesUptoSaid : Prop := fnTablesUptoRow.holds Try.pinned (OpenSpec.upto fnTablesSpec)

/-- 'laws.FnRowComplete', WHERE WHAT IT READS IS OF BULK AT MOST 1048576: true; the input reads as it did. -/
def fnRowCompleteUptoRow : OpenClaim := { program := "ythkbodgpcjcndaa", sum := "3bff2b75ecf8c0357bc12c700053b2a713b98f1cb8197e82a57d07a8ebc157ab", func := "loop.example/g01379/laws.FnRowComplete", spec := "fnRowComplete", unfollowed := true, recurses := true, apart := false, narrowed := true }
def FnRowCompleteUptoSaid : Prop := fnRowCompleteUptoRow.holds Try.pinned (OpenSpec.upto fnRowCompleteSpec)

/-- 'laws.FnResults', WHERE WHAT IT READS IS OF BULK AT MOST 1048576: true; the input reads as it did. -/
def fnResultsUptoRow : OpenClaim := { program := "ythkbodgpcjcndaa", sum := "3bff2b75ecf8c0357bc12c700053b2a713b98f1cb8197e82a57d07a8ebc157ab", func := "loop.example/g01379/laws.FnResults", spec := "fnResults", unfollowed := true, recurses := true, apart := false, narrowed := true }
def FnResultsUptoSaid : Prop := fnResultsUptoRow.holds Try.pinned (OpenSpec.upto fnResultsSpec)

/-- 'laws.FnExactGridOf', WHERE WHAT IT READS IS OF BULK AT MOST 1048576: true; the input reads as it did. -/
def fnExactGridOfUptoRow : OpenClaim := { program := "ythkbodgpcjcndaa", sum := "3bff2b75ecf8c0357bc12c700053b2a713b98f1cb8197e82a57d07a8ebc157ab", func := "loop.example/g01379/laws.FnExactGridOf", spec := "fnExactGridOf", unfollowed := true, recurses := true, apart := false, narrowed := true }
def FnExactGridOfUptoSaid : Prop := fnExactGridOfUptoRow.holds Try.pinned (OpenSpec.upto fnExactGridOfSpec)

/-- 'laws.FnExactTidyRound', WHERE WHAT IT READS IS OF BULK AT MOST 1048576: true; the input reads as it did. -/
def fnExactTidyRoundUptoRow : OpenClaim := { program := "ythkbodgpcjcndaa", sum := "3bff2b75ecf8c0357bc12c700053b2a713b98f1cb8197e82a57d07a8ebc157ab", func := "loop.example/g01379/laws.FnExactTidyRound", spec := "fnExactTidyRound", unfollowed := true, recurses := true, apart := false, narrowed := true }
def FnExactTidyRoundUptoSaid : Prop := fnExactTidyRoundUptoRow.holds Try.pinned (OpenSpec.upto fnExactTidyRoundSpec)

/-- 'laws.FnGolfGroups', WHERE WHAT IT READS IS OF BULK AT MOST 1048576: true; the input reads as it did. -/
def fnGolfGroupsUptoRow : OpenClaim := { program := "ythkbodgpcjcndaa", sum := "3bff2b75ecf8c0357bc12c700053b2a713b98f1cb8197e82a57d07a8ebc157ab", func := "loop.example/g01379/laws.FnGolfGroups", spec := "fnGolfGroups", unfollowed := true, recurses := true, apart := false, narrowed := true }
def FnGolfGroupsUptoSaid : Prop := fnGolfGroupsUptoRow.holds Try.pinned (OpenSpec.upto fnGolfGroupsSpec)

end Rows
end Go.Proofs.Ythkbodgpcjcndaa
