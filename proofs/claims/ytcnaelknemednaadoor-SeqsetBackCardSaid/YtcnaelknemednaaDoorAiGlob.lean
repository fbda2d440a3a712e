/- What is known of this seat's package-level variables: the powers of ten that strconv reads. -/
import Derived.Test.YtcnaelknemednaaDoorAiCore
namespace Go.Ai
def globTab : Nat → Option (List Value)
  | 1 => some ((List.range 20).map fun i => Value.int .u64 ((10 ^ i : Nat) : Int))
  | _ => none
end Go.Ai
