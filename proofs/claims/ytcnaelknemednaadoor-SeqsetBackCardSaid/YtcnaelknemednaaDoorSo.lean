/- What sorting spans comes to. -/
import Derived.Test.YtcnaelknemednaaDoorA
import Derived.Test.YtcnaelknemednaaDoorAiCode
import Derived.Test.YtcnaelknemednaaDoorAiSimp
namespace Go.Ai
set_option linter.unusedVariables false

/-- A span's cells. -/
def cellsP (x : Sp) : List AV := [.v (.int .i64 x.1), .v (.int .i64 x.2)]
def ltS (a b : Sp) : Bool := decide (a.1 < b.1) || (decide (a.1 = b.1) && decide (a.2 < b.2))
def srtS (l : List Sp) : List Sp := l.mergeSort (fun x y => !ltS y x)

/-- slices.SortFunc (f) of spans, with the program's order (g). -/
def SortRel (f g : Nat) : CallRel := fun f' args hp nx v hp' nx' k => f' = f ∧ k = .e ∧ nx' = nx ∧ v = .tup [] ∧
  ∃ (r : Nat) (cap : Option Nat) (d : List Sp), args = [.sl r 2 0 d.length cap, .fn (.func g) [] []] ∧ hp r = some (d.map cellsP) ∧ 0 < d.length ∧ d.length < 4611686018427387904 ∧ hp' = hupd hp r (some ((srtS d).map cellsP))
end Go.Ai
