/-
  No cell of these rows narrows 'for every input' (looked for: loops, veiled, ifaces, maps, wideKeys, modest, calm, conditions, laid).
  DERIVED. THE GIVEN ROWS OF THIS SEAT. 5 by the template 'for every input the law returns true; each argument reads behind the call as it read before'; 0 by the template 'total and deterministic' (their statements: YtooomkpingiojaaGreatTotals.lean).
  GIVEN WITH THE SEED: the statements are not yours to turn. If you find one false, say at which input.
  Laid BY PROGRAM, IN A SANDBOX (cutbox-rows.mjs): the forced cells as the released guide's own fill.sh prints them over the translation 7a8d9d19bea0d946… (all of the seat's roots in one cut). By AI agents, Wed Nov 11 2026. No macro, syntax, notation, axiom, sorry.
-/
import Derived.Test.YtooomkpingiojaaGreatChecked
import GoSem.Claim
import GoSem.ClaimJoined
import GoSem.ClaimMapViews
import Derived.JoinedTies
import Derived.KernelRfl
namespace Go.Proofs.YtooomkpingiojaaGreat
/- THE CELL 'sum', in the pinned program and in every row, IS THE sha256 OF THE DUMP (.gsa) THAT YtooomkpingiojaaGreatProg.lean LOADS. Nothing in Lean hashes anything: it is a label: what it is worth is what the hold of that sum in a sandbox is worth. -/
noncomputable def Tryz.pinned : Pinned := { name := "ytooomkpingiojaagreat", sum := "7a8d9d19bea0d946b100a1959053f0484fad6516179ede596879c7ccc608589d", checked := Tryz.checked }
namespace Rows
def none {H : Type} : Left H := { results := [], args := [] }

/-- 'haversacklaw06.TxnSerial': WHATEVER THE INPUT: true; the input reads as it did. -/
def txnSerialSpec : ChangeSpec := { name := "txnSerial", fn := fun _ => fun
  | [d] => { results := [.lit (.bool true)], args := [d] }
  | _ => none }
def txnSerialRow : OpenClaim := { program := "ytooomkpingiojaagreat", sum := "7a8d9d19bea0d946b100a1959053f0484fad6516179ede596879c7ccc608589d", func := "haversack/haversacklaw06.TxnSerial", spec := "txnSerial", inPlace := ["internal/abi.NoEscape", "slices.overlaps[string]", "slices.overlaps[haversack/api.Item]"], unfollowed := true, recurses := true, apart := false }
def TxnSerialSaid : Prop := txnSerialRow.holds Tryz.pinned (OpenSpec.ofChange txnSerialSpec)

/-- ITS FALSE NEIGHBOUR: 'it returns false'. Refute it at one input. -/
def txnSerialWrong : ChangeSpec := { name := "txnSerial", fn := fun _ => fun
  | [d] => { results := [.lit (.bool false)], args := [d] }
  | _ => none }
def TxnSerialWrongFalsely : Prop := txnSerialRow.holds Tryz.pinned (OpenSpec.ofChange txnSerialWrong)

/-- 'haversacklaw06.TxnStable': WHATEVER THE INPUT: true; the input reads as it did. -/
def txnStableSpec : ChangeSpec := { name := "txnStable", fn := fun _ => fun
  | [d1, d2, d3] => { results := [.lit (.bool true)], args := [d1, d2, d3] }
  | _ => none }
def txnStableRow : OpenClaim := { program := "ytooomkpingiojaagreat", sum := "7a8d9d19bea0d946b100a1959053f0484fad6516179ede596879c7ccc608589d", func := "haversack/haversacklaw06.TxnStable", spec := "txnStable", inPlace := ["internal/abi.NoEscape", "slices.overlaps[string]", "slices.overlaps[haversack/api.Item]"], unfollowed := true, recurses := true, apart := false }
def TxnStableSaid : Prop := txnStableRow.holds Tryz.pinned (OpenSpec.ofChange txnStableSpec)

/-- ITS FALSE NEIGHBOUR: 'it returns false'. Refute it at one input. -/
def txnStableWrong : ChangeSpec := { name := "txnStable", fn := fun _ => fun
  | [d1, d2, d3] => { results := [.lit (.bool false)], args := [d1, d2, d3] }
  | _ => none }
def TxnStableWrongFalsely : Prop := txnStableRow.holds Tryz.pinned (OpenSpec.ofChange txnStableWrong)

/-- 'haversacklaw06.TxnPlays': WHATEVER THE INPUT: true; the input reads as it did. -/
def txnPlaysSpec : ChangeSpec := { name := "txnPlays", fn := fun _ => fun
  | [d1, d2] => { results := [.lit (.bool true)], args := [d1, d2] }
  | _ => none }
def txnPlaysRow : OpenClaim := { program := "ytooomkpingiojaagreat", sum := "7a8d9d19bea0d946b100a1959053f0484fad6516179ede596879c7ccc608589d", func := "haversack/haversacklaw06.TxnPlays", spec := "txnPlays", inPlace := ["internal/abi.NoEscape", "slices.overlaps[string]", "slices.overlaps[haversack/api.Item]"], unfollowed := true, recurses := true, apart := false }
def TxnPlaysSaid : Prop := txnPlaysRow.holds Tryz.pinned (OpenSpec.ofChange txnPlaysSpec)

/-- ITS FALSE NEIGHBOUR: 'it returns false'. Refute it at one input. -/
def txnPlaysWrong : ChangeSpec := { name := "txnPlays", fn := fun _ => fun
  | [d1, d2] => { results := [.lit (.bool false)], args := [d1, d2] }
  | _ => none }
def TxnPlaysWrongFalsely : Prop := txnPlaysRow.holds Tryz.pinned (OpenSpec.ofChange txnPlaysWrong)

/-- 'haversacklaw06.TxnAgain': WHATEVER THE INPUT: true; the input reads as it did. -/
def txnAgainSpec : ChangeSpec := { name := "txnAgain", fn := fun _ => fun
  | [d1, d2] => { results := [.lit (.bool true)], args := [d1, d2] }
  | _ => none }
def txnAgainRow : OpenClaim := { program := "ytooomkpingiojaagreat", sum := "7a8d9d19bea0d946b100a1959053f0484fad6516179ede596879c7ccc608589d", func := "haversack/haversacklaw06.TxnAgain", spec := "txnAgain", inPlace := ["internal/abi.NoEscape", "slices.overlaps[string]", "slices.overlaps[haversack/api.Item]"], unfollowed := true, recurses := true, apart := false }
def TxnAgainSaid : Prop := txnAgainRow.holds Tryz.pinned (OpenSpec.ofChange txnAgainSpec)

/-- ITS FALSE NEIGHBOUR: 'it returns false'. Refute it at one input. -/
def txnAgainWrong : ChangeSpec := { name := "txnAgain", fn := fun _ => fun
  | [d1, d2] => { results := [.lit (.bool false)], args := [d1, d2] }
  | _ => none }
def TxnAgainWrongFalsely : Prop := txnAgainRow.holds Tryz.pinned (OpenSpec.ofChange txnAgainWrong)

/-- 'haversacklaw06.TxnNil': WHATEVER THE INPUT: true; the input reads as it did. -/
def txnNilSpec : ChangeSpec := { name := "txnNil", fn := fun _ => fun
  | [d1, d2, d3] => { results := [.lit (.bool true)], args := [d1, d2, d3] }
  | _ => none }
def txnNilRow : OpenClaim := { program := "ytooomkpingiojaagreat", sum := "7a8d9d19bea0d946b100a1959053f0484fad6516179ede596879c7ccc608589d", func := "haversack/haversacklaw06.TxnNil", spec := "txnNil", inPlace := ["internal/abi.NoEscape", "slices.overlaps[string]", "slices.overlaps[haversack/api.Item]"], unfollowed := true, recurses := true, apart := false }
def TxnNilSaid : Prop := txnNilRow.holds Tryz.pinned (OpenSpec.ofChange txnNilSpec)

/-- ITS FALSE NEIGHBOUR: 'it returns false'. Refute it at one input. -/
def txnNilWrong : ChangeSpec := { name := "txnNil", fn := fun _ => fun
  | [d1, d2, d3] => { results := [.lit (.bool false)], args := [d1, d2, d3] }
  | _ => none }
def TxnNilWrongFalsely : Prop := txnNilRow.holds Tryz.pinned (OpenSpec.ofChange txnNilWrong)

/- THE SECOND FORM. 'bulk': how many values and letters a reading holds, each counted each time it is reached (what is shared counts as often as it is met; a slice's spare places count too). A statement '..UptoSaid' is the law's where the arguments, and the package variables that the reading takes, are together of bulk at most 1048576: NARROWER than '..Said'. Prove '..Said' where nothing that the law and all that it calls make is longer than what came in: it says more and counts as full. Else prove '..UptoSaid'. A law counts once. -/
mutual
def uptoBulk {H : Type} : DataW H → Nat
  | .lit (.string bytes) => bytes.length + 1
  | .lit _ => 1
  | .nil => 1
  | .ptr d => uptoBulk d + 1
  | .slice elems spare => uptoBulkAll elems + uptoBulkAll spare + 1
  | .agg parts => uptoBulkAll parts + 1
  | .iface _ d => uptoBulk d + 1
  | .map entries => uptoBulkEntries entries + 1
  | .held _ => 1
def uptoBulkAll {H : Type} : List (DataW H) → Nat
  | [] => 0
  | d :: r => uptoBulk d + uptoBulkAll r
def uptoBulkEntries {H : Type} : List (Lit × DataW H) → Nat
  | [] => 0
  | x :: r => uptoBulkEntry x + uptoBulkEntries r
def uptoBulkEntry {H : Type} : Lit × DataW H → Nat
  | (.string bytes, d) => bytes.length + uptoBulk d + 1
  | (_, d) => uptoBulk d + 1
 end
def uptoSmall : (H : Type) → List (DataW H) → Bool := fun _ ds => decide (uptoBulkAll ds ≤ 1048576)
def OpenSpec.upto (s : _root_.Go.ChangeSpec) : _root_.Go.OpenSpec := { _root_.Go.OpenSpec.ofChange s with cond := some uptoSmall }

/-- 'haversacklaw06.TxnSerial', WHERE WHAT IT READS IS OF BULK AT MOST 1048576: true; the input reads as it did. -/
def txnSerialUptoRow : OpenClaim := { program := "ytooomkpingiojaagreat", sum := "7a8d9d19bea0d946b100a1959053f0484fad6516179ede596879c7ccc608589d", func := "haversack/haversacklaw06.TxnSerial", spec := "txnSerial", inPlace := ["internal/abi.NoEscape", "slices.overlaps[string]", "slices.overlaps[haversack/api.Item]"], unfollowed := true, recurses := true, apart := false, narrowed := true }
def TxnSerialUptoSaid : Prop := txnSerialUptoRow.holds Tryz.pinned (OpenSpec.upto txnSerialSpec)

/-- 'haversacklaw06.TxnStable', WHERE WHAT IT READS IS OF BULK AT MOST 1048576: true; the input reads as it did. -/
def txnStableUptoRow : OpenClaim := { program := "ytooomkpingiojaagreat", sum := "7a8d9d19bea0d946b100a1959053f0484fad6516179ede596879c7ccc608589d", func := "haversack/haversacklaw06.TxnStable", spec := "txnStable", inPlace := ["internal/abi.NoEscape", "slices.overlaps[string]", "slices.overlaps[haversack/api.Item]"], unfollowed := true, recurses := true, apart := false, narrowed := true }
def TxnStableUptoSaid : Prop := txnStableUptoRow.holds Tryz.pinned (OpenSpec.upto txnStableSpec)

/-- 'haversacklaw06.TxnPlays', WHERE WHAT IT READS IS OF BULK AT MOST 1048576: true; the input reads as it did. -/
def txnPlaysUptoRow : OpenClaim := { program := "ytooomkpingiojaagreat", sum := "7a8d9d19bea0d946b100a1959053f0484fad6516179ede596879c7ccc608589d", func := "haversack/haversacklaw06.TxnPlays", spec := "txnPlays", inPlace := ["internal/abi.NoEscape", "slices.overlaps[string]", "slices.overlaps[haversack/api.Item]"], unfollowed := true, recurses := true, apart := false, narrowed := true }
def TxnPlaysUptoSaid : Prop := txnPlaysUptoRow.holds Tryz.pinned (OpenSpec.upto txnPlaysSpec)

/-- 'haversacklaw06.TxnAgain', WHERE WHAT IT READS IS OF BULK AT MOST 1048576: true; the input reads as it did. -/
def txnAgainUptoRow : OpenClaim := { program := "ytooomkpingiojaagreat", sum := "7a8d9d19bea0d946b100a1959053f0484fad6516179ede596879c7ccc608589d", func := "haversack/haversacklaw06.TxnAgain", spec := "txnAgain", inPlace := ["internal/abi.NoEscape", "slices.overlaps[string]", "slices.overlaps[haversack/api.Item]"], unfollowed := true, recurses := true, apart := false, narrowed := true }
def TxnAgainUptoSaid : Prop := txnAgainUptoRow.holds Tryz.pinned (OpenSpec.upto txnAgainSpec)

/-- 'haversacklaw06.TxnNil', WHERE WHAT IT READS IS OF BULK AT MOST 1048576: true; the input reads as it did. -/
def txnNilUptoRow : OpenClaim := { program := "ytooomkpingiojaagreat", sum := "7a8d9d19bea0d946b100a1959053f0484fad6516179ede596879c7ccc608589d", func := "haversack/haversacklaw06.TxnNil", spec := "txnNil", inPlace := ["internal/abi.NoEscape", "slices.overlaps[string]", "slices.overlaps[haversack/api.Item]"], unfollowed := true, recurses := true, apart := false, narrowed := true }
def TxnNilUptoSaid : Prop := txnNilUptoRow.holds Tryz.pinned (OpenSpec.upto txnNilSpec)

end Rows
end Go.Proofs.YtooomkpingiojaaGreat
