/- What is known of this seat's package-level variables: nothing. -/
import Derived.Test.YtooomkpingiojaaGreatAiCore
namespace Go.Ai
def globTab : Nat → Option (List Value) := fun _ => none
theorem globTab_none : ∀ g vs, globTab g ≠ some vs := fun _ _ h => nomatch h
end Go.Ai
