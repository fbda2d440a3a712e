/-
  No cell of these rows narrows 'for every input' (looked for: loops, veiled, ifaces, maps, wideKeys, modest, calm, conditions, laid).
  DERIVED. THE GIVEN ROWS OF THIS SEAT. 7 by the template 'for every input the law returns true; each argument reads behind the call as it read before'; 0 by the template 'total and deterministic' (their statements: YtblopagmddgkjaaGreatTotals.lean).
  GIVEN WITH THE SEED: the statements are not yours to turn. If you find one false, say at which input.
  Laid BY PROGRAM, IN A SANDBOX (cutbox-rows.mjs): the forced cells as the released guide's own fill.sh prints them over the translation bfbac7c7d7213a36… (all of the seat's roots in one cut). By AI agents, Wed Nov 11 2026. No macro, syntax, notation, axiom, sorry.
-/
import Derived.Test.YtblopagmddgkjaaGreatChecked
import GoSem.Claim
import GoSem.ClaimJoined
import GoSem.ClaimMapViews
import Derived.JoinedTies
import Derived.KernelRfl
namespace Go.Proofs.YtblopagmddgkjaaGreat
/- THE CELL 'sum', in the pinned program and in every row, IS THE sha256 OF THE DUMP (.gsa) THAT YtblopagmddgkjaaGreatProg.lean LOADS. Nothing in Lean hashes anything: it is a label: what it is worth is what the hold of that sum in a sandbox is worth. -/
noncomputable def Tryz.pinned : Pinned := { name := "ytblopagmddgkjaagreat", sum := "bfbac7c7d7213a36727e55fcd1a86aa629ee1b1e43e7e02bc6f28743a4206f9a", checked := Tryz.checked }
namespace Rows
def none {H : Type} : Left H := { results := [], args := [] }

/-- 'haversacklaw05.BtreeNil': WHATEVER THE INPUT: true; the input reads as it did. -/
def btreeNilSpec : ChangeSpec := { name := "btreeNil", fn := fun _ => fun
  | [d1, d2, d3] => { results := [.lit (.bool true)], args := [d1, d2, d3] }
  | _ => none }
def btreeNilRow : OpenClaim := { program := "ytblopagmddgkjaagreat", sum := "bfbac7c7d7213a36727e55fcd1a86aa629ee1b1e43e7e02bc6f28743a4206f9a", func := "haversack/haversacklaw05.BtreeNil", spec := "btreeNil", inPlace := ["internal/abi.NoEscape", "slices.overlaps[string]", "slices.overlaps[haversack/api.Item]"], unfollowed := true, recurses := true, apart := false }
def BtreeNilSaid : Prop := btreeNilRow.holds Tryz.pinned (OpenSpec.ofChange btreeNilSpec)

/-- ITS FALSE NEIGHBOUR: 'it returns false'. Refute it at one input. -/
def btreeNilWrong : ChangeSpec := { name := "btreeNil", fn := fun _ => fun
  | [d1, d2, d3] => { results := [.lit (.bool false)], args := [d1, d2, d3] }
  | _ => none }
def BtreeNilWrongFalsely : Prop := btreeNilRow.holds Tryz.pinned (OpenSpec.ofChange btreeNilWrong)

/-- 'haversacklaw05.BtreePlays': WHATEVER THE INPUT: true; the input reads as it did. -/
def btreePlaysSpec : ChangeSpec := { name := "btreePlays", fn := fun _ => fun
  | [d1, d2] => { results := [.lit (.bool true)], args := [d1, d2] }
  | _ => none }
def btreePlaysRow : OpenClaim := { program := "ytblopagmddgkjaagreat", sum := "bfbac7c7d7213a36727e55fcd1a86aa629ee1b1e43e7e02bc6f28743a4206f9a", func := "haversack/haversacklaw05.BtreePlays", spec := "btreePlays", inPlace := ["internal/abi.NoEscape", "slices.overlaps[string]", "slices.overlaps[haversack/api.Item]"], unfollowed := true, recurses := true, apart := false }
def BtreePlaysSaid : Prop := btreePlaysRow.holds Tryz.pinned (OpenSpec.ofChange btreePlaysSpec)

/-- ITS FALSE NEIGHBOUR: 'it returns false'. Refute it at one input. -/
def btreePlaysWrong : ChangeSpec := { name := "btreePlays", fn := fun _ => fun
  | [d1, d2] => { results := [.lit (.bool false)], args := [d1, d2] }
  | _ => none }
def BtreePlaysWrongFalsely : Prop := btreePlaysRow.holds Tryz.pinned (OpenSpec.ofChange btreePlaysWrong)

/-- 'haversacklaw05.BtreeRoom': WHATEVER THE INPUT: true; the input reads as it did. -/
def btreeRoomSpec : ChangeSpec := { name := "btreeRoom", fn := fun _ => fun
  | [d1, d2, d3, d4] => { results := [.lit (.bool true)], args := [d1, d2, d3, d4] }
  | _ => none }
def btreeRoomRow : OpenClaim := { program := "ytblopagmddgkjaagreat", sum := "bfbac7c7d7213a36727e55fcd1a86aa629ee1b1e43e7e02bc6f28743a4206f9a", func := "haversack/haversacklaw05.BtreeRoom", spec := "btreeRoom", inPlace := ["internal/abi.NoEscape", "slices.overlaps[string]", "slices.overlaps[haversack/api.Item]"], unfollowed := true, recurses := true, apart := false }
def BtreeRoomSaid : Prop := btreeRoomRow.holds Tryz.pinned (OpenSpec.ofChange btreeRoomSpec)

/-- ITS FALSE NEIGHBOUR: 'it returns false'. Refute it at one input. -/
def btreeRoomWrong : ChangeSpec := { name := "btreeRoom", fn := fun _ => fun
  | [d1, d2, d3, d4] => { results := [.lit (.bool false)], args := [d1, d2, d3, d4] }
  | _ => none }
def BtreeRoomWrongFalsely : Prop := btreeRoomRow.holds Tryz.pinned (OpenSpec.ofChange btreeRoomWrong)

/-- 'haversacklaw05.BtreeSound': WHATEVER THE INPUT: true; the input reads as it did. -/
def btreeSoundSpec : ChangeSpec := { name := "btreeSound", fn := fun _ => fun
  | [d1, d2] => { results := [.lit (.bool true)], args := [d1, d2] }
  | _ => none }
def btreeSoundRow : OpenClaim := { program := "ytblopagmddgkjaagreat", sum := "bfbac7c7d7213a36727e55fcd1a86aa629ee1b1e43e7e02bc6f28743a4206f9a", func := "haversack/haversacklaw05.BtreeSound", spec := "btreeSound", inPlace := ["internal/abi.NoEscape", "slices.overlaps[string]", "slices.overlaps[haversack/api.Item]"], unfollowed := true, recurses := true, apart := false }
def BtreeSoundSaid : Prop := btreeSoundRow.holds Tryz.pinned (OpenSpec.ofChange btreeSoundSpec)

/-- ITS FALSE NEIGHBOUR: 'it returns false'. Refute it at one input. -/
def btreeSoundWrong : ChangeSpec := { name := "btreeSound", fn := fun _ => fun
  | [d1, d2] => { results := [.lit (.bool false)], args := [d1, d2] }
  | _ => none }
def BtreeSoundWrongFalsely : Prop := btreeSoundRow.holds Tryz.pinned (OpenSpec.ofChange btreeSoundWrong)

/-- 'haversacklaw05.BtreeEmptied': WHATEVER THE INPUT: true; the input reads as it did. -/
def btreeEmptiedSpec : ChangeSpec := { name := "btreeEmptied", fn := fun _ => fun
  | [d1, d2] => { results := [.lit (.bool true)], args := [d1, d2] }
  | _ => none }
def btreeEmptiedRow : OpenClaim := { program := "ytblopagmddgkjaagreat", sum := "bfbac7c7d7213a36727e55fcd1a86aa629ee1b1e43e7e02bc6f28743a4206f9a", func := "haversack/haversacklaw05.BtreeEmptied", spec := "btreeEmptied", inPlace := ["internal/abi.NoEscape", "slices.overlaps[string]", "slices.overlaps[haversack/api.Item]"], unfollowed := true, recurses := true, apart := false }
def BtreeEmptiedSaid : Prop := btreeEmptiedRow.holds Tryz.pinned (OpenSpec.ofChange btreeEmptiedSpec)

/-- ITS FALSE NEIGHBOUR: 'it returns false'. Refute it at one input. -/
def btreeEmptiedWrong : ChangeSpec := { name := "btreeEmptied", fn := fun _ => fun
  | [d1, d2] => { results := [.lit (.bool false)], args := [d1, d2] }
  | _ => none }
def BtreeEmptiedWrongFalsely : Prop := btreeEmptiedRow.holds Tryz.pinned (OpenSpec.ofChange btreeEmptiedWrong)

/-- 'haversacklaw05.BtreeBent': WHATEVER THE INPUT: true; the input reads as it did. -/
def btreeBentSpec : ChangeSpec := { name := "btreeBent", fn := fun _ => fun
  | [d1, d2, d3, d4] => { results := [.lit (.bool true)], args := [d1, d2, d3, d4] }
  | _ => none }
def btreeBentRow : OpenClaim := { program := "ytblopagmddgkjaagreat", sum := "bfbac7c7d7213a36727e55fcd1a86aa629ee1b1e43e7e02bc6f28743a4206f9a", func := "haversack/haversacklaw05.BtreeBent", spec := "btreeBent", inPlace := ["internal/abi.NoEscape", "slices.overlaps[string]", "slices.overlaps[haversack/api.Item]"], unfollowed := true, recurses := true, apart := false }
def BtreeBentSaid : Prop := btreeBentRow.holds Tryz.pinned (OpenSpec.ofChange btreeBentSpec)

/-- ITS FALSE NEIGHBOUR: 'it returns false'. Refute it at one input. -/
def btreeBentWrong : ChangeSpec := { name := "btreeBent", fn := fun _ => fun
  | [d1, d2, d3, d4] => { results := [.lit (.bool false)], args := [d1, d2, d3, d4] }
  | _ => none }
def BtreeBentWrongFalsely : Prop := btreeBentRow.holds Tryz.pinned (OpenSpec.ofChange btreeBentWrong)

/-- 'haversacklaw05.BtreeKeeps': WHATEVER THE INPUT: true; the input reads as it did. -/
def btreeKeepsSpec : ChangeSpec := { name := "btreeKeeps", fn := fun _ => fun
  | [d1, d2] => { results := [.lit (.bool true)], args := [d1, d2] }
  | _ => none }
def btreeKeepsRow : OpenClaim := { program := "ytblopagmddgkjaagreat", sum := "bfbac7c7d7213a36727e55fcd1a86aa629ee1b1e43e7e02bc6f28743a4206f9a", func := "haversack/haversacklaw05.BtreeKeeps", spec := "btreeKeeps", inPlace := ["internal/abi.NoEscape", "slices.overlaps[string]", "slices.overlaps[haversack/api.Item]"], unfollowed := true, recurses := true, apart := false }
def BtreeKeepsSaid : Prop := btreeKeepsRow.holds Tryz.pinned (OpenSpec.ofChange btreeKeepsSpec)

/-- ITS FALSE NEIGHBOUR: 'it returns false'. Refute it at one input. -/
def btreeKeepsWrong : ChangeSpec := { name := "btreeKeeps", fn := fun _ => fun
  | [d1, d2] => { results := [.lit (.bool false)], args := [d1, d2] }
  | _ => none }
def BtreeKeepsWrongFalsely : Prop := btreeKeepsRow.holds Tryz.pinned (OpenSpec.ofChange btreeKeepsWrong)

/- THE SECOND FORM. 'bulk': how many values and letters a reading holds, each counted each time it is reached (what is shared counts as often as it is met; a slice's spare places count too). A statement '..UptoSaid' is the law's where the arguments, and the package variables that the reading takes, are together of bulk at most 1048576: NARROWER than '..Said'. Prove '..Said' where nothing that the law and all that it calls make is longer than what came in: it says more and counts as full. Else prove '..UptoSaid'. A law counts once. -/
mutual
def uptoBulk {H : Type} : DataW H → Nat
  | .lit (.string bytes) => bytes.length + 1
  | .lit _ => 1
  | .nil => 1
  | .ptr d => uptoBulk d + 1
  | .slice elems spare => uptoBulkAll elems + uptoBulkAll spare + 1
  | .agg parts => uptoBulkAll parts + 1
  | .iface _ d => uptoBulk d + 1
  | .map entries => uptoBulkEntries entries + 1
  | .held _ => 1
def uptoBulkAll {H : Type} : List (DataW H) → Nat
  | [] => 0
  | d :: r => uptoBulk d + uptoBulkAll r
def uptoBulkEntries {H : Type} : List (Lit × DataW H) → Nat
  | [] => 0
  | x :: r => uptoBulkEntry x + uptoBulkEntries r
def uptoBulkEntry {H : Type} : Lit × DataW H → Nat
  | (.string bytes, d) => bytes.length + uptoBulk d + 1
  | (_, d) => uptoBulk d + 1
 end
def uptoSmall : (H : Type) → List (DataW H) → Bool := fun _ ds => decide (uptoBulkAll ds ≤ 1048576)
def OpenSpec.upto (s : _root_.Go.ChangeSpec) : _root_.Go.OpenSpec := { _root_.Go.OpenSpec.ofChange s with cond := some uptoSmall }

/-- 'haversacklaw05.BtreeNil', WHERE WHAT IT READS IS OF BULK AT MOST 1048576: true; the input reads as it did. -/
def btreeNilUptoRow : OpenClaim := { program := "ytblopagmddgkjaagreat", sum := "bfbac7c7d7213a36727e55fcd1a86aa629ee1b1e43e7e02bc6f28743a4206f9a", func := "haversack/haversacklaw05.BtreeNil", spec := "btreeNil", inPlace := ["internal/abi.NoEscape", "slices.overlaps[string]", "slices.overlaps[haversack/api.Item]"], unfollowed := true, recurses := true, apart := false, narrowed := true }
def BtreeNilUptoSaid : Prop := btreeNilUptoRow.holds Tryz.pinned (OpenSpec.upto btreeNilSpec)

/-- 'haversacklaw05.BtreePlays', WHERE WHAT IT READS IS OF BULK AT MOST 1048576: true; the input reads as it did. -/
def btreePlaysUptoRow : OpenClaim := { program := "ytblopagmddgkjaagreat", sum := "bfbac7c7d7213a36727e55fcd1a86aa629ee1b1e43e7e02bc6f28743a4206f9a", func := "haversack/haversacklaw05.BtreePlays", spec := "btreePlays", inPlace := ["internal/abi.NoEscape", "slices.overlaps[string]", "slices.overlaps[haversack/api.Item]"], unfollowed := true, recurses := true, apart := false, narrowed := true }
def BtreePlaysUptoSaid : Prop := btreePlaysUptoRow.holds Tryz.pinned (OpenSpec.upto btreePlaysSpec)

/-- 'haversacklaw05.BtreeRoom', WHERE WHAT IT READS IS OF BULK AT MOST 1048576: true; the input reads as it did. -/
def btreeRoomUptoRow : OpenClaim := { program := "ytblopagmddgkjaagreat", sum := "bfbac7c7d7213a36727e55fcd1a86aa629ee1b1e43e7e02bc6f28743a4206f9a", func := "haversack/haversacklaw05.BtreeRoom", spec := "btreeRoom", inPlace := ["internal/abi.NoEscape", "slices.overlaps[string]", "slices.overlaps[haversack/api.Item]"], unfollowed := true, recurses := true, apart := false, narrowed := true }
def BtreeRoomUptoSaid : Prop := btreeRoomUptoRow.holds Tryz.pinned (OpenSpec.upto btreeRoomSpec)

/-- 'haversacklaw05.BtreeSound', WHERE WHAT IT READS IS OF BULK AT MOST 1048576: true; the input reads as it did. -/
def btreeSoundUptoRow : OpenClaim := { program := "ytblopagmddgkjaagreat", sum := "bfbac7c7d7213a36727e55fcd1a86aa629ee1b1e43e7e02bc6f28743a4206f9a", func := "haversack/haversacklaw05.BtreeSound", spec := "btreeSound", inPlace := ["internal/abi.NoEscape", "slices.overlaps[string]", "slices.overlaps[haversack/api.Item]"], unfollowed := true, recurses := true, apart := false, narrowed := true }
def BtreeSoundUptoSaid : Prop := btreeSoundUptoRow.holds Tryz.pinned (OpenSpec.upto btreeSoundSpec)

/-- 'haversacklaw05.BtreeEmptied', WHERE WHAT IT READS IS OF BULK AT MOST 1048576: true; the input reads as it did. -/
def btreeEmptiedUptoRow : OpenClaim := { program := "ytblopagmddgkjaagreat", sum := "bfbac7c7d7213a36727e55fcd1a86aa629ee1b1e43e7e02bc6f28743a4206f9a", func := "haversack/haversacklaw05.BtreeEmptied", spec := "btreeEmptied", inPlace := ["internal/abi.NoEscape", "slices.overlaps[string]", "slices.overlaps[haversack/api.Item]"], unfollowed := true, recurses := true, apart := false, narrowed := true }
def BtreeEmptiedUptoSaid : Prop := btreeEmptiedUptoRow.holds Tryz.pinned (OpenSpec.upto btreeEmptiedSpec)

/-- 'haversacklaw05.BtreeBent', WHERE WHAT IT READS IS OF BULK AT MOST 1048576: true; the input reads as it did. -/
def btreeBentUptoRow : OpenClaim := { program := "ytblopagmddgkjaagreat", sum := "bfbac7c7d7213a36727e55fcd1a86aa629ee1b1e43e7e02bc6f28743a4206f9a", func := "haversack/haversacklaw05.BtreeBent", spec := "btreeBent", inPlace := ["internal/abi.NoEscape", "slices.overlaps[string]", "slices.overlaps[haversack/api.Item]"], unfollowed := true, recurses := true, apart := false, narrowed := true }
def BtreeBentUptoSaid : Prop := btreeBentUptoRow.holds Tryz.pinned (OpenSpec.upto btreeBentSpec)

/-- 'haversacklaw05.BtreeKeeps', WHERE WHAT IT READS IS OF BULK AT MOST 1048576: true; the input reads as it did. -/
def btreeKeepsUptoRow : OpenClaim := { program := "ytblopagmddgkjaagreat", sum := "bfbac7c7d7213a36727e55fcd1a86aa629ee1b1e43e7e02bc6f28743a4206f9a", func := "haversack/haversacklaw05.BtreeKeeps", spec := "btreeKeeps", inPlace := ["internal/abi.NoEscape", "slices.overlaps[string]", "slices.overlaps[haversack/api.Item]"], unfollowed := true, recurses := true, apart := false, narrowed := true }
def BtreeKeepsUptoSaid : Prop := btreeKeepsUptoRow.holds Tryz.pinned (OpenSpec.upto btreeKeepsSpec)

end Rows
end Go.Proofs.YtblopagmddgkjaaGreat
