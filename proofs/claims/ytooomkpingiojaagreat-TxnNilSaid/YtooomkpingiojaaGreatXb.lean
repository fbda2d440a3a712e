/- The chapter's example, run. -/
import Derived.Test.YtooomkpingiojaaGreatXs
import Derived.Test.YtooomkpingiojaaGreatCz
import Derived.KernelRfl
namespace Go.Ai
def xpN : Nat → List AV → Option AV := fun _ _ => none
/-- Functions that are run over the caller's memory. -/
def ownM : Nat → Bool
  | 34 => true
  | 64 => true
  | 114 => true
  | 169 => true
  | 194 => true
  | 195 => true
  | 196 => true
  | _ => false
noncomputable def xe6 : Nat → List AV → Tr Blk → Nat → Option (AV × Tr Blk × Nat) := xe2 E.fn dfnTab xpN xe5 ownM 1000000
theorem xe6_ok : ∀ f args H nx v H' nx', xe6 f args H nx = some (v, H', nx') → Ret E1 f args H.get nx v H'.get nx' .e :=
  xe2_ok (E := E) (E' := E1) rfl (fun _ _ _ _ _ _ _ _ h => .inl h) (fun _ _ _ _ _ _ _ _ h => .inr h) (fun _ _ _ h => nomatch h) xe5_ok
theorem f9 (hp nx) : Ret E1 9 [] hp nx (.v (.bool true)) hp nx .p :=
  run_p (E := E1) (cf := c9) (xp := xpN) (xe := xe6) (own := ownM) (n := 1000000) (fun _ _ _ h => nomatch h) xe6_ok rfl rfl rfl (by kernel_rfl) hp nx
end Go.Ai
