/- TxnNil: what is none answers so. -/
import Derived.Test.YtooomkpingiojaaGreatXb
namespace Go.Ai
def xp7 : Nat → List AV → Option AV
  | 9, [] => some (.v (.bool true))
  | _, _ => none
theorem xp7_ok : ∀ f args v, xp7 f args = some v → ∀ hp nx, Ret E1 f args hp nx v hp nx .p := by
  intro f args v h hp nx
  unfold xp7 at h
  split at h
  · cases h; exact f9 hp nx
  · cases h
theorem f7 (key value : List UInt8) (n : Int) (hp nx) : Ret E1 7 [.str key, .str value, .v (.int .i64 n)] hp nx (.v (.bool true)) hp nx .p :=
  run_p (E := E1) (cf := c7) (xp := xp7) (xe := xe6) (own := fun _ => false) (n := 100000) xp7_ok xe6_ok rfl rfl (by simp) (by kernel_rfl) hp nx
end Go.Ai
