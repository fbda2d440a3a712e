/-
  No cell of these rows narrows 'for every input' (looked for: loops, veiled, ifaces, maps, wideKeys, modest, calm, conditions, laid).
  DERIVED. THE GIVEN ROWS OF THIS SEAT. 6 by the template 'for every input the law returns true; each argument reads behind the call as it read before'; 0 by the template 'total and deterministic' (their statements: YtdhbiimmifedmaaTotals.lean).
  GIVEN WITH THE SEED: the statements are not yours to turn. If you find one false, say at which input.
  Laid BY PROGRAM, IN A SANDBOX (cutbox-rows.mjs): the forced cells as the released guide's own fill.sh prints them over the translation 7e9f5a8f057771d5… (all of the seat's roots in one cut). By AI agents, Wed Nov 11 2026. No macro, syntax, notation, axiom, sorry.
-/
import Derived.Test.YtdhbiimmifedmaaChecked
import GoSem.Claim
import GoSem.ClaimJoined
import GoSem.ClaimMapViews
import Derived.JoinedTies
import Derived.KernelRfl
namespace Go.Proofs.Ytdhbiimmifedmaa
/- THE CELL 'sum', in the pinned program and in every row, IS THE sha256 OF THE DUMP (.gsa) THAT YtdhbiimmifedmaaProg.lean LOADS. Nothing in Lean hashes anything: it is a label: what it is worth is what the hold of that sum in a sandbox is worth. -/
noncomputable def Try.pinned : Pinned := { name := "ytdhbiimmifedmaa", sum := "7e9f5a8f057771d5154df2686d2cf73d41e9e1043821db4faff7511d34c8c573", checked := Try.checked }
namespace Rows
def none {H : Type} : Left H := { results := [], args := [] }

/-- 'haversacklaw08.WordsBase': WHATEVER THE INPUT: true; the input reads as it did. -/
def wordsBaseSpec : ChangeSpec := { name := "wordsBase", fn := fun _ => fun
  | [d1, d2] => { results := [.lit (.bool true)], args := [d1, d2] }
  | _ => none }
def wordsBaseRow : OpenClaim := { program := "ytdhbiimmifedmaa", sum := "7e9f5a8f057771d5154df2686d2cf73d41e9e1043821db4faff7511d34c8c573", func := "haversack/haversacklaw08.WordsBase", spec := "wordsBase", inPlace := ["internal/bytealg.IndexByteString", "internal/abi.NoEscape", "internal/bytealg.MakeNoZero"], apart := false }
def WordsBaseSaid : Prop := wordsBaseRow.holds Try.pinned (OpenSpec.ofChange wordsBaseSpec)

/-- ITS FALSE NEIGHBOUR: 'it returns false'. Refute it at one input. -/
def wordsBaseWrong : ChangeSpec := { name := "wordsBase", fn := fun _ => fun
  | [d1, d2] => { results := [.lit (.bool false)], args := [d1, d2] }
  | _ => none }
def WordsBaseWrongFalsely : Prop := wordsBaseRow.holds Try.pinned (OpenSpec.ofChange wordsBaseWrong)

/-- 'haversacklaw08.WordsBack': WHATEVER THE INPUT: true; the input reads as it did. -/
def wordsBackSpec : ChangeSpec := { name := "wordsBack", fn := fun _ => fun
  | [d1, d2] => { results := [.lit (.bool true)], args := [d1, d2] }
  | _ => none }
def wordsBackRow : OpenClaim := { program := "ytdhbiimmifedmaa", sum := "7e9f5a8f057771d5154df2686d2cf73d41e9e1043821db4faff7511d34c8c573", func := "haversack/haversacklaw08.WordsBack", spec := "wordsBack", inPlace := ["internal/bytealg.IndexByteString", "internal/abi.NoEscape", "internal/bytealg.MakeNoZero"], apart := false }
def WordsBackSaid : Prop := wordsBackRow.holds Try.pinned (OpenSpec.ofChange wordsBackSpec)

/-- ITS FALSE NEIGHBOUR: 'it returns false'. Refute it at one input. -/
def wordsBackWrong : ChangeSpec := { name := "wordsBack", fn := fun _ => fun
  | [d1, d2] => { results := [.lit (.bool false)], args := [d1, d2] }
  | _ => none }
def WordsBackWrongFalsely : Prop := wordsBackRow.holds Try.pinned (OpenSpec.ofChange wordsBackWrong)

/-- 'haversacklaw08.WordsQuoted': WHATEVER THE INPUT: true; the input reads as it did. -/
def wordsQuotedSpec : ChangeSpec := { name := "wordsQuoted", fn := fun _ => fun
  | [d] => { results := [.lit (.bool true)], args := [d] }
  | _ => none }
def wordsQuotedRow : OpenClaim := { program := "ytdhbiimmifedmaa", sum := "7e9f5a8f057771d5154df2686d2cf73d41e9e1043821db4faff7511d34c8c573", func := "haversack/haversacklaw08.WordsQuoted", spec := "wordsQuoted", inPlace := ["internal/bytealg.IndexByteString", "internal/abi.NoEscape", "internal/bytealg.MakeNoZero"], apart := false }
def WordsQuotedSaid : Prop := wordsQuotedRow.holds Try.pinned (OpenSpec.ofChange wordsQuotedSpec)

/-- ITS FALSE NEIGHBOUR: 'it returns false'. Refute it at one input. -/
def wordsQuotedWrong : ChangeSpec := { name := "wordsQuoted", fn := fun _ => fun
  | [d] => { results := [.lit (.bool false)], args := [d] }
  | _ => none }
def WordsQuotedWrongFalsely : Prop := wordsQuotedRow.holds Try.pinned (OpenSpec.ofChange wordsQuotedWrong)

/-- 'haversacklaw08.WordsTells': WHATEVER THE INPUT: true; the input reads as it did. -/
def wordsTellsSpec : ChangeSpec := { name := "wordsTells", fn := fun _ => fun
  | [d] => { results := [.lit (.bool true)], args := [d] }
  | _ => none }
def wordsTellsRow : OpenClaim := { program := "ytdhbiimmifedmaa", sum := "7e9f5a8f057771d5154df2686d2cf73d41e9e1043821db4faff7511d34c8c573", func := "haversack/haversacklaw08.WordsTells", spec := "wordsTells", inPlace := ["internal/bytealg.IndexByteString", "internal/abi.NoEscape", "internal/bytealg.MakeNoZero"], apart := false }
def WordsTellsSaid : Prop := wordsTellsRow.holds Try.pinned (OpenSpec.ofChange wordsTellsSpec)

/-- ITS FALSE NEIGHBOUR: 'it returns false'. Refute it at one input. -/
def wordsTellsWrong : ChangeSpec := { name := "wordsTells", fn := fun _ => fun
  | [d] => { results := [.lit (.bool false)], args := [d] }
  | _ => none }
def WordsTellsWrongFalsely : Prop := wordsTellsRow.holds Try.pinned (OpenSpec.ofChange wordsTellsWrong)

/-- 'haversacklaw08.WordsPlain': WHATEVER THE INPUT: true; the input reads as it did. -/
def wordsPlainSpec : ChangeSpec := { name := "wordsPlain", fn := fun _ => fun
  | [d1, d2, d3] => { results := [.lit (.bool true)], args := [d1, d2, d3] }
  | _ => none }
def wordsPlainRow : OpenClaim := { program := "ytdhbiimmifedmaa", sum := "7e9f5a8f057771d5154df2686d2cf73d41e9e1043821db4faff7511d34c8c573", func := "haversack/haversacklaw08.WordsPlain", spec := "wordsPlain", inPlace := ["internal/bytealg.IndexByteString", "internal/abi.NoEscape", "internal/bytealg.MakeNoZero"], apart := false }
def WordsPlainSaid : Prop := wordsPlainRow.holds Try.pinned (OpenSpec.ofChange wordsPlainSpec)

/-- ITS FALSE NEIGHBOUR: 'it returns false'. Refute it at one input. -/
def wordsPlainWrong : ChangeSpec := { name := "wordsPlain", fn := fun _ => fun
  | [d1, d2, d3] => { results := [.lit (.bool false)], args := [d1, d2, d3] }
  | _ => none }
def WordsPlainWrongFalsely : Prop := wordsPlainRow.holds Try.pinned (OpenSpec.ofChange wordsPlainWrong)

/-- 'haversacklaw08.WordsQuotes': WHATEVER THE INPUT: true; the input reads as it did. -/
def wordsQuotesSpec : ChangeSpec := { name := "wordsQuotes", fn := fun _ => fun
  | [d1, d2] => { results := [.lit (.bool true)], args := [d1, d2] }
  | _ => none }
def wordsQuotesRow : OpenClaim := { program := "ytdhbiimmifedmaa", sum := "7e9f5a8f057771d5154df2686d2cf73d41e9e1043821db4faff7511d34c8c573", func := "haversack/haversacklaw08.WordsQuotes", spec := "wordsQuotes", inPlace := ["internal/bytealg.IndexByteString", "internal/abi.NoEscape", "internal/bytealg.MakeNoZero"], apart := false }
def WordsQuotesSaid : Prop := wordsQuotesRow.holds Try.pinned (OpenSpec.ofChange wordsQuotesSpec)

/-- ITS FALSE NEIGHBOUR: 'it returns false'. Refute it at one input. -/
def wordsQuotesWrong : ChangeSpec := { name := "wordsQuotes", fn := fun _ => fun
  | [d1, d2] => { results := [.lit (.bool false)], args := [d1, d2] }
  | _ => none }
def WordsQuotesWrongFalsely : Prop := wordsQuotesRow.holds Try.pinned (OpenSpec.ofChange wordsQuotesWrong)

/- THE SECOND FORM. 'bulk': how many values and letters a reading holds, each counted each time it is reached (what is shared counts as often as it is met; a slice's spare places count too). A statement '..UptoSaid' is the law's where the arguments, and the package variables that the reading takes, are together of bulk at most 1048576: NARROWER than '..Said'. Prove '..Said' where nothing that the law and all that it calls make is longer than what came in: it says more and counts as full. Else prove '..UptoSaid'. A law counts once. -/
mutual
def uptoBulk {H : Type} : DataW H → Nat
  | .lit (.string bytes) => bytes.length + 1
  | .lit _ => 1
  | .nil => 1
  | .ptr d => uptoBulk d + 1
  | .slice elems spare => uptoBulkAll elems + uptoBulkAll spare + 1
  | .agg parts => uptoBulkAll parts + 1
  | .iface _ d => uptoBulk d + 1
  | .map entries => uptoBulkEntries entries + 1
  | .held _ => 1
def uptoBulkAll {H : Type} : List (DataW H) → Nat
  | [] => 0
  | d :: r => uptoBulk d + uptoBulkAll r
def uptoBulkEntries {H : Type} : List (Lit × DataW H) → Nat
  | [] => 0
  | x :: r => uptoBulkEntry x + uptoBulkEntries r
def uptoBulkEntry {H : Type} : Lit × DataW H → Nat
  | (.string bytes, d) => bytes.length + uptoBulk d + 1
  | (_, d) => uptoBulk d + 1
 end
def uptoSmall : (H : Type) → List (DataW H) → Bool := fun _ ds => decide (uptoBulkAll ds ≤ 1048576)
def OpenSpec.upto (s : _root_.Go.ChangeSpec) : _root_.Go.OpenSpec := { _root_.Go.OpenSpec.ofChange s with cond := some uptoSmall }

/-- 'haversacklaw08.WordsBase', WHERE WHAT IT READS IS OF BULK AT MOST 1048576: true; the input reads as it did. -/
def wordsBaseUptoRow : OpenClaim := { program := "ytdhbiimmifedmaa", sum := "7e9f5a8f057771d5154df2686d2cf73d41e9e1043821db4faff7511d34c8c573", func := "haversack/haversacklaw08.WordsBase", spec := "wordsBase", inPlace := ["internal/bytealg.IndexByteString", "internal/abi.NoEscape", "internal/bytealg.MakeNoZero"], apart := false, narrowed := true }
def WordsBaseUptoSaid : Prop := wordsBaseUptoRow.holds Try.pinned (OpenSpec.upto wordsBaseSpec)

/-- 'haversacklaw08.WordsBack', WHERE WHAT IT READS IS OF BULK AT MOST 1048576: true; the input reads as it did. -/
def wordsBackUptoRow : OpenClaim := { program := "ytdhbiimmifedmaa", sum := "7e9f5a8f057771d5154df2686d2cf73d41e9e1043821db4faff7511d34c8c573", func := "haversack/haversacklaw08.WordsBack", spec := "wordsBack", inPlace := ["internal/bytealg.IndexByteString", "internal/abi.NoEscape", "internal/bytealg.MakeNoZero"], apart := false, narrowed := true }
def WordsBackUptoSaid : Prop := wordsBackUptoRow.holds Try.pinned (OpenSpec.upto wordsBackSpec)

/-- 'haversacklaw08.WordsQuoted', WHERE WHAT IT READS IS OF BULK AT MOST 1048576: true; the input reads as it did. -/
def wordsQuotedUptoRow : OpenClaim := { program := "ytdhbiimmifedmaa", sum := "7e9f5a8f057771d5154df2686d2cf73d41e9e1043821db4faff7511d34c8c573", func := "haversack/haversacklaw08.WordsQuoted", spec := "wordsQuoted", inPlace := ["internal/bytealg.IndexByteString", "internal/abi.NoEscape", "internal/bytealg.MakeNoZero"], apart := false, narrowed := true }
def WordsQuotedUptoSaid : Prop := wordsQuotedUptoRow.holds Try.pinned (OpenSpec.upto wordsQuotedSpec)

/-- 'haversacklaw08.WordsTells', WHERE WHAT IT READS IS OF BULK AT MOST 1048576: true; the input reads as it did. -/
def wordsTellsUptoRow : OpenClaim := { program := "ytdhbiimmifedmaa", sum := "7e9f5a8f057771d5154df2686d2cf73d41e9e1043821db4faff7511d34c8c573", func := "haversack/haversacklaw08.WordsTells", spec := "wordsTells", inPlace := ["internal/bytealg.IndexByteString", "internal/abi.NoEscape", "internal/bytealg.MakeNoZero"], apart := false, narrowed := true }
def WordsTellsUptoSaid : Prop := wordsTellsUptoRow.holds Try.pinned (OpenSpec.upto wordsTellsSpec)

/-- 'haversacklaw08.WordsPlain', WHERE WHAT IT READS IS OF BULK AT MOST 1048576: true; the input reads as it did. -/
def wordsPlainUptoRow : OpenClaim := { program := "ytdhbiimmifedmaa", sum := "7e9f5a8f057771d5154df2686d2cf73d41e9e1043821db4faff7511d34c8c573", func := "haversack/haversacklaw08.WordsPlain", spec := "wordsPlain", inPlace := ["internal/bytealg.IndexByteString", "internal/abi.NoEscape", "internal/bytealg.MakeNoZero"], apart := false, narrowed := true }
def WordsPlainUptoSaid : Prop := wordsPlainUptoRow.holds Try.pinned (OpenSpec.upto wordsPlainSpec)

/-- 'haversacklaw08.WordsQuotes', WHERE WHAT IT READS IS OF BULK AT MOST 1048576: true; the input reads as it did. -/
def wordsQuotesUptoRow : OpenClaim := { program := "ytdhbiimmifedmaa", sum := "7e9f5a8f057771d5154df2686d2cf73d41e9e1043821db4faff7511d34c8c573", func := "haversack/haversacklaw08.WordsQuotes", spec := "wordsQuotes", inPlace := ["internal/bytealg.IndexByteString", "internal/abi.NoEscape", "internal/bytealg.MakeNoZero"], apart := false, narrowed := true }
def WordsQuotesUptoSaid : Prop := wordsQuotesUptoRow.holds Try.pinned (OpenSpec.upto wordsQuotesSpec)

end Rows
end Go.Proofs.Ytdhbiimmifedmaa
