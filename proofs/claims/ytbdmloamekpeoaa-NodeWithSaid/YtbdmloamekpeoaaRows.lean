/-
  No cell of these rows narrows 'for every input' (looked for: loops, veiled, ifaces, maps, wideKeys, modest, calm, conditions, laid).
  DERIVED. THE GIVEN ROWS OF THIS SEAT. 7 by the template 'for every input the law returns true; each argument reads behind the call as it read before'; 0 by the template 'total and deterministic' (their statements: YtbdmloamekpeoaaTotals.lean).
  GIVEN WITH THE SEED: the statements are not yours to turn. If you find one false, say at which input.
  Laid BY PROGRAM, IN A SANDBOX (cutbox-rows.mjs): the forced cells as the released guide's own fill.sh prints them over the translation 92b07c2472b489b6… (all of the seat's roots in one cut). By AI agents, Wed Nov 11 2026. No macro, syntax, notation, axiom, sorry.
-/
import Derived.Test.YtbdmloamekpeoaaChecked
import GoSem.Claim
import GoSem.ClaimJoined
import GoSem.ClaimMapViews
import Derived.JoinedTies
import Derived.KernelRfl
namespace Go.Proofs.Ytbdmloamekpeoaa
/- THE CELL 'sum', in the pinned program and in every row, IS THE sha256 OF THE DUMP (.gsa) THAT YtbdmloamekpeoaaProg.lean LOADS. Nothing in Lean hashes anything: it is a label: what it is worth is what the hold of that sum in a sandbox is worth. -/
noncomputable def Try.pinned : Pinned := { name := "ytbdmloamekpeoaa", sum := "92b07c2472b489b633b8dc1f8c541f394e6c81f420ff2c32604789a9a06b1afb", checked := Try.checked }
namespace Rows
def none {H : Type} : Left H := { results := [], args := [] }

/-- 'haversacklaw04.NodeJudges': WHATEVER THE INPUT: true; the input reads as it did. -/
def nodeJudgesSpec : ChangeSpec := { name := "nodeJudges", fn := fun _ => fun
  | [d] => { results := [.lit (.bool true)], args := [d] }
  | _ => none }
def nodeJudgesRow : OpenClaim := { program := "ytbdmloamekpeoaa", sum := "92b07c2472b489b633b8dc1f8c541f394e6c81f420ff2c32604789a9a06b1afb", func := "haversack/haversacklaw04.NodeJudges", spec := "nodeJudges", unfollowed := true, recurses := true, apart := false }
def NodeJudgesSaid : Prop := nodeJudgesRow.holds Try.pinned (OpenSpec.ofChange nodeJudgesSpec)

/-- ITS FALSE NEIGHBOUR: 'it returns false'. Refute it at one input. -/
def nodeJudgesWrong : ChangeSpec := { name := "nodeJudges", fn := fun _ => fun
  | [d] => { results := [.lit (.bool false)], args := [d] }
  | _ => none }
def NodeJudgesWrongFalsely : Prop := nodeJudgesRow.holds Try.pinned (OpenSpec.ofChange nodeJudgesWrong)

/-- 'haversacklaw04.NodeEncodes': WHATEVER THE INPUT: true; the input reads as it did. -/
def nodeEncodesSpec : ChangeSpec := { name := "nodeEncodes", fn := fun _ => fun
  | [d] => { results := [.lit (.bool true)], args := [d] }
  | _ => none }
def nodeEncodesRow : OpenClaim := { program := "ytbdmloamekpeoaa", sum := "92b07c2472b489b633b8dc1f8c541f394e6c81f420ff2c32604789a9a06b1afb", func := "haversack/haversacklaw04.NodeEncodes", spec := "nodeEncodes", unfollowed := true, recurses := true, apart := false }
def NodeEncodesSaid : Prop := nodeEncodesRow.holds Try.pinned (OpenSpec.ofChange nodeEncodesSpec)

/-- ITS FALSE NEIGHBOUR: 'it returns false'. Refute it at one input. -/
def nodeEncodesWrong : ChangeSpec := { name := "nodeEncodes", fn := fun _ => fun
  | [d] => { results := [.lit (.bool false)], args := [d] }
  | _ => none }
def NodeEncodesWrongFalsely : Prop := nodeEncodesRow.holds Try.pinned (OpenSpec.ofChange nodeEncodesWrong)

/-- 'haversacklaw04.NodeFinds': WHATEVER THE INPUT: true; the input reads as it did. -/
def nodeFindsSpec : ChangeSpec := { name := "nodeFinds", fn := fun _ => fun
  | [d1, d2] => { results := [.lit (.bool true)], args := [d1, d2] }
  | _ => none }
def nodeFindsRow : OpenClaim := { program := "ytbdmloamekpeoaa", sum := "92b07c2472b489b633b8dc1f8c541f394e6c81f420ff2c32604789a9a06b1afb", func := "haversack/haversacklaw04.NodeFinds", spec := "nodeFinds", unfollowed := true, recurses := true, apart := false }
def NodeFindsSaid : Prop := nodeFindsRow.holds Try.pinned (OpenSpec.ofChange nodeFindsSpec)

/-- ITS FALSE NEIGHBOUR: 'it returns false'. Refute it at one input. -/
def nodeFindsWrong : ChangeSpec := { name := "nodeFinds", fn := fun _ => fun
  | [d1, d2] => { results := [.lit (.bool false)], args := [d1, d2] }
  | _ => none }
def NodeFindsWrongFalsely : Prop := nodeFindsRow.holds Try.pinned (OpenSpec.ofChange nodeFindsWrong)

/-- 'haversacklaw04.NodeJoins': WHATEVER THE INPUT: true; the input reads as it did. -/
def nodeJoinsSpec : ChangeSpec := { name := "nodeJoins", fn := fun _ => fun
  | [d] => { results := [.lit (.bool true)], args := [d] }
  | _ => none }
def nodeJoinsRow : OpenClaim := { program := "ytbdmloamekpeoaa", sum := "92b07c2472b489b633b8dc1f8c541f394e6c81f420ff2c32604789a9a06b1afb", func := "haversack/haversacklaw04.NodeJoins", spec := "nodeJoins", unfollowed := true, recurses := true, apart := false }
def NodeJoinsSaid : Prop := nodeJoinsRow.holds Try.pinned (OpenSpec.ofChange nodeJoinsSpec)

/-- ITS FALSE NEIGHBOUR: 'it returns false'. Refute it at one input. -/
def nodeJoinsWrong : ChangeSpec := { name := "nodeJoins", fn := fun _ => fun
  | [d] => { results := [.lit (.bool false)], args := [d] }
  | _ => none }
def NodeJoinsWrongFalsely : Prop := nodeJoinsRow.holds Try.pinned (OpenSpec.ofChange nodeJoinsWrong)

/-- 'haversacklaw04.NodeDecodes': WHATEVER THE INPUT: true; the input reads as it did. -/
def nodeDecodesSpec : ChangeSpec := { name := "nodeDecodes", fn := fun _ => fun
  | [d1, d2] => { results := [.lit (.bool true)], args := [d1, d2] }
  | _ => none }
def nodeDecodesRow : OpenClaim := { program := "ytbdmloamekpeoaa", sum := "92b07c2472b489b633b8dc1f8c541f394e6c81f420ff2c32604789a9a06b1afb", func := "haversack/haversacklaw04.NodeDecodes", spec := "nodeDecodes", unfollowed := true, recurses := true, apart := false }
def NodeDecodesSaid : Prop := nodeDecodesRow.holds Try.pinned (OpenSpec.ofChange nodeDecodesSpec)

/-- ITS FALSE NEIGHBOUR: 'it returns false'. Refute it at one input. -/
def nodeDecodesWrong : ChangeSpec := { name := "nodeDecodes", fn := fun _ => fun
  | [d1, d2] => { results := [.lit (.bool false)], args := [d1, d2] }
  | _ => none }
def NodeDecodesWrongFalsely : Prop := nodeDecodesRow.holds Try.pinned (OpenSpec.ofChange nodeDecodesWrong)

/-- 'haversacklaw04.NodeBack': WHATEVER THE INPUT: true; the input reads as it did. -/
def nodeBackSpec : ChangeSpec := { name := "nodeBack", fn := fun _ => fun
  | [d1, d2, d3] => { results := [.lit (.bool true)], args := [d1, d2, d3] }
  | _ => none }
def nodeBackRow : OpenClaim := { program := "ytbdmloamekpeoaa", sum := "92b07c2472b489b633b8dc1f8c541f394e6c81f420ff2c32604789a9a06b1afb", func := "haversack/haversacklaw04.NodeBack", spec := "nodeBack", unfollowed := true, recurses := true, apart := false }
def NodeBackSaid : Prop := nodeBackRow.holds Try.pinned (OpenSpec.ofChange nodeBackSpec)

/-- ITS FALSE NEIGHBOUR: 'it returns false'. Refute it at one input. -/
def nodeBackWrong : ChangeSpec := { name := "nodeBack", fn := fun _ => fun
  | [d1, d2, d3] => { results := [.lit (.bool false)], args := [d1, d2, d3] }
  | _ => none }
def NodeBackWrongFalsely : Prop := nodeBackRow.holds Try.pinned (OpenSpec.ofChange nodeBackWrong)

/-- 'haversacklaw04.NodeWith': WHATEVER THE INPUT: true; the input reads as it did. -/
def nodeWithSpec : ChangeSpec := { name := "nodeWith", fn := fun _ => fun
  | [d1, d2, d3] => { results := [.lit (.bool true)], args := [d1, d2, d3] }
  | _ => none }
def nodeWithRow : OpenClaim := { program := "ytbdmloamekpeoaa", sum := "92b07c2472b489b633b8dc1f8c541f394e6c81f420ff2c32604789a9a06b1afb", func := "haversack/haversacklaw04.NodeWith", spec := "nodeWith", inPlace := ["slices.overlaps[string]", "slices.overlaps[haversack/api.Item]"], unfollowed := true, recurses := true, apart := false }
def NodeWithSaid : Prop := nodeWithRow.holds Try.pinned (OpenSpec.ofChange nodeWithSpec)

/-- ITS FALSE NEIGHBOUR: 'it returns false'. Refute it at one input. -/
def nodeWithWrong : ChangeSpec := { name := "nodeWith", fn := fun _ => fun
  | [d1, d2, d3] => { results := [.lit (.bool false)], args := [d1, d2, d3] }
  | _ => none }
def NodeWithWrongFalsely : Prop := nodeWithRow.holds Try.pinned (OpenSpec.ofChange nodeWithWrong)

/- THE SECOND FORM. 'bulk': how many values and letters a reading holds, each counted each time it is reached (what is shared counts as often as it is met; a slice's spare places count too). A statement '..UptoSaid' is the law's where the arguments, and the package variables that the reading takes, are together of bulk at most 1048576: NARROWER than '..Said'. Prove '..Said' where nothing that the law and all that it calls make is longer than what came in: it says more and counts as full. Else prove '..UptoSaid'. A law counts once. -/
mutual
def uptoBulk {H : Type} : DataW H → Nat
  | .lit (.string bytes) => bytes.length + 1
  | .lit _ => 1
  | .nil => 1
  | .ptr d => uptoBulk d + 1
  | .slice elems spare => uptoBulkAll elems + uptoBulkAll spare + 1
  | .agg parts => uptoBulkAll parts + 1
  | .iface _ d => uptoBulk d + 1
  | .map entries => uptoBulkEntries entries + 1
  | .held _ => 1
def uptoBulkAll {H : Type} : List (DataW H) → Nat
  | [] => 0
  | d :: r => uptoBulk d + uptoBulkAll r
def uptoBulkEntries {H : Type} : List (Lit × DataW H) → Nat
  | [] => 0
  | x :: r => uptoBulkEntry x + uptoBulkEntries r
def uptoBulkEntry {H : Type} : Lit × DataW H → Nat
  | (.string bytes, d) => bytes.length + uptoBulk d + 1
  | (_, d) => uptoBulk d + 1
 end
def uptoSmall : (H : Type) → List (DataW H) → Bool := fun _ ds => decide (uptoBulkAll ds ≤ 1048576)
def OpenSpec.upto (s : _root_.Go.ChangeSpec) : _root_.Go.OpenSpec := { _root_.Go.OpenSpec.ofChange s with cond := some uptoSmall }

/-- 'haversacklaw04.NodeJudges', WHERE WHAT IT READS IS OF BULK AT MOST 1048576: true; the input reads as it did. -/
def nodeJudgesUptoRow : OpenClaim := { program := "ytbdmloamekpeoaa", sum := "92b07c2472b489b633b8dc1f8c541f394e6c81f420ff2c32604789a9a06b1afb", func := "haversack/haversacklaw04.NodeJudges", spec := "nodeJudges", unfollowed := true, recurses := true, apart := false, narrowed := true }
def NodeJudgesUptoSaid : Prop := nodeJudgesUptoRow.holds Try.pinned (OpenSpec.upto nodeJudgesSpec)

/-- 'haversacklaw04.NodeEncodes', WHERE WHAT IT READS IS OF BULK AT MOST 1048576: true; the input reads as it did. -/
def nodeEncodesUptoRow : OpenClaim := { program := "ytbdmloamekpeoaa", sum := "92b07c2472b489b633b8dc1f8c541f394e6c81f420ff2c32604789a9a06b1afb", func := "haversack/haversacklaw04.NodeEncodes", spec := "nodeEncodes", unfollowed := true, recurses := true, apart := false, narrowed := true }
def NodeEncodesUptoSaid : Prop := nodeEncodesUptoRow.holds Try.pinned (OpenSpec.upto nodeEncodesSpec)

/-- 'haversacklaw04.NodeFinds', WHERE WHAT IT READS IS OF BULK AT MOST 1048576: true; the input reads as it did. -/
def nodeFindsUptoRow : OpenClaim := { program := "ytbdmloamekpeoaa", sum := "92b07c2472b489b633b8dc1f8c541f394e6c81f420ff2c32604789a9a06b1afb", func := "haversack/haversacklaw04.NodeFinds", spec := "nodeFinds", unfollowed := true, recurses := true, apart := false, narrowed := true }
def NodeFindsUptoSaid : Prop := nodeFindsUptoRow.holds Try.pinned (OpenSpec.upto nodeFindsSpec)

/-- 'haversacklaw04.NodeJoins', WHERE WHAT IT READS IS OF BULK AT MOST 1048576: true; the input reads as it did. -/
def nodeJoinsUptoRow : OpenClaim := { program := "ytbdmloamekpeoaa", sum := "92b07c2472b489b633b8dc1f8c541f394e6c81f420ff2c32604789a9a06b1afb", func := "haversack/haversacklaw04.NodeJoins", spec := "nodeJoins", unfollowed := true, recurses := true, apart := false, narrowed := true }
def NodeJoinsUptoSaid : Prop := nodeJoinsUptoRow.holds Try.pinned (OpenSpec.upto nodeJoinsSpec)

/-- 'haversacklaw04.NodeDecodes', WHERE WHAT IT READS IS OF BULK AT MOST 1048576: true; the input reads as it did. -/
def nodeDecodesUptoRow : OpenClaim := { program := "ytbdmloamekpeoaa", sum := "92b07c2472b489b633b8dc1f8c541f394e6c81f420ff2c32604789a9a06b1afb", func := "haversack/haversacklaw04.NodeDecodes", spec := "nodeDecodes", unfollowed := true, recurses := true, apart := false, narrowed := true }
def NodeDecodesUptoSaid : Prop := nodeDecodesUptoRow.holds Try.pinned (OpenSpec.upto nodeDecodesSpec)

/-- 'haversacklaw04.NodeBack', WHERE WHAT IT READS IS OF BULK AT MOST 1048576: true; the input reads as it did. -/
def nodeBackUptoRow : OpenClaim := { program := "ytbdmloamekpeoaa", sum := "92b07c2472b489b633b8dc1f8c541f394e6c81f420ff2c32604789a9a06b1afb", func := "haversack/haversacklaw04.NodeBack", spec := "nodeBack", unfollowed := true, recurses := true, apart := false, narrowed := true }
def NodeBackUptoSaid : Prop := nodeBackUptoRow.holds Try.pinned (OpenSpec.upto nodeBackSpec)

/-- 'haversacklaw04.NodeWith', WHERE WHAT IT READS IS OF BULK AT MOST 1048576: true; the input reads as it did. -/
def nodeWithUptoRow : OpenClaim := { program := "ytbdmloamekpeoaa", sum := "92b07c2472b489b633b8dc1f8c541f394e6c81f420ff2c32604789a9a06b1afb", func := "haversack/haversacklaw04.NodeWith", spec := "nodeWith", inPlace := ["slices.overlaps[string]", "slices.overlaps[haversack/api.Item]"], unfollowed := true, recurses := true, apart := false, narrowed := true }
def NodeWithUptoSaid : Prop := nodeWithUptoRow.holds Try.pinned (OpenSpec.upto nodeWithSpec)

end Rows
end Go.Proofs.Ytbdmloamekpeoaa
