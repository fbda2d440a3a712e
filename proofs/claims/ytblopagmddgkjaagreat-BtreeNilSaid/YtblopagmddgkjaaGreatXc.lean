/- BtreeNil: what is none answers so. -/
import Derived.Test.YtblopagmddgkjaaGreatXb
namespace Go.Ai
def xp3 : Nat → List AV → Option AV
  | 20, [] => some (.v (.bool true))
  | _, _ => none
theorem xp3_ok : ∀ f args v, xp3 f args = some v → ∀ hp nx, Ret E f args hp nx v hp nx .p := by
  intro f args v h hp nx
  unfold xp3 at h
  split at h
  · cases h; exact f20 hp nx
  · cases h
theorem f3 (key value : List UInt8) (n : Int) (hp nx) : Ret E 3 [.str key, .str value, .v (.int .i64 n)] hp nx (.v (.bool true)) hp nx .p :=
  run_p (xp := xp3) (xe := xe5) (own := fun _ => false) (n := 100000) xp3_ok xe5_ok e3 rfl rfl (by kernel_rfl) hp nx
end Go.Ai
