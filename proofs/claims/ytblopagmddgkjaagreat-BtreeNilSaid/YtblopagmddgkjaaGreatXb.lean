/- The chapter's example, run. -/
import Derived.Test.YtblopagmddgkjaaGreatXm
namespace Go.Ai
theorem f20 (hp nx) : Ret E 20 [] hp nx (.v (.bool true)) hp nx .p :=
  run_p (xp := findT memoT) (xe := xe5) (own := ownM) (n := 1000000) memoT_ok xe5_ok e20 rfl rfl (by kernel_rfl) hp nx
end Go.Ai
