/- The chapter's example, run. -/
import Derived.Test.YtblopagmddgkjaaGreatXs
import Derived.KernelRfl
namespace Go.Ai
def xpN : Nat → List AV → Option AV := fun _ _ => none
def ownX : Nat → Bool
  | 47 => true
  | 82 => true
  | 85 => true
  | 74 => true
  | 112 => true
  | 113 => true
  | 114 => true
  | _ => false
theorem f20 (hp nx) : Ret E 20 [] hp nx (.v (.bool true)) hp nx .p :=
  run_p (xp := xpN) (xe := xe5) (own := ownX) (n := 1000000) (fun _ _ _ h => by cases h) xe5_ok e20 rfl rfl (by kernel_rfl) hp nx
end Go.Ai
