/- Calls that are told by a table. -/
import Derived.Test.YtblopagmddgkjaaGreatXs
import Derived.KernelRfl
namespace Go.Ai
/-- Bytes, so many of each. -/
def rl : List (Nat × Nat) → Blk
  | [] => []
  | (k, b) :: r => List.replicate k [.v (.int .u8 (.ofNat b))] ++ rl r
def findT : List (Nat × List AV × AV) → Nat → List AV → Option AV
  | [], _, _ => none
  | (f, a, v) :: r, g, b => bif Nat.beq f g && eqL a b then some v else findT r g b
theorem findT_ok : ∀ (T : List (Nat × List AV × AV)), (∀ f a v, (f, a, v) ∈ T → ∀ hp nx, Ret E f a hp nx v hp nx .p) → ∀ g b v, findT T g b = some v → ∀ hp nx, Ret E g b hp nx v hp nx .p
  | [], _, g, b, v, h, _, _ => by cases h
  | (f, a, w) :: r, hT, g, b, v, h, hp, nx => by
    rw [findT, cond_eq_ite] at h
    split at h
    · rename_i hc
      simp only [Bool.and_eq_true] at hc
      cases h
      rw [← Nat.eq_of_beq_eq_true hc.1, ← eqL_ok _ _ hc.2]
      exact hT f a w (by simp) hp nx
    · exact findT_ok r (fun f a v hm => hT f a v (by simp [hm])) g b v h hp nx
def xpN : Nat → List AV → Option AV := fun _ _ => none
/-- Functions that are run over the caller's memory. -/
def ownM : Nat → Bool
  | 47 => true
  | 82 => true
  | 85 => true
  | 74 => true
  | 112 => true
  | 113 => true
  | 114 => true
  | _ => false
theorem memo0 (hp nx) : Ret E 55 [.v (.int .i64 1), .str []] hp nx (.tup [.rs false 1 (rl [(7, 0), (1, 1), (503, 0), (1, 1)]) (some 512), .v (.int .i64 0)]) hp nx .p :=
  run_p (xp := xpN) (xe := xe5) (own := ownM) (n := 1000000) (fun _ _ _ h => by cases h) xe5_ok e55 rfl rfl (by kernel_rfl) hp nx
theorem memo1 (hp nx) : Ret E 55 [.v (.int .i64 0), .str []] hp nx (.tup [.rs true 0 ([]) (some 0), .v (.int .i64 2)]) hp nx .p :=
  run_p (xp := xpN) (xe := xe5) (own := ownM) (n := 1000000) (fun _ _ _ h => by cases h) xe5_ok e55 rfl rfl (by kernel_rfl) hp nx
theorem memo2 (hp nx) : Ret E 127 [.v (.int .i64 1), .v (.int .i64 2), .str [0, 1, 1, 98, 1, 49]] hp nx (.tup [.rs false 1 (rl [(1, 72), (1, 118), (1, 1), (2, 0), (1, 6), (5, 0), (1, 2), (2, 0), (1, 15), (1, 227), (5, 0), (2, 1), (1, 98), (1, 1), (1, 49), (486, 0)]) (some 512), .v (.int .i64 0)]) hp nx .p :=
  run_p (xp := xpN) (xe := xe5) (own := ownM) (n := 1000000) (fun _ _ _ h => by cases h) xe5_ok e127 rfl rfl (by kernel_rfl) hp nx
theorem memo3 (hp nx) : Ret E 127 [.v (.int .i64 1), .v (.int .i64 2), .str [0, 2, 1, 97, 1, 50, 1, 98, 1, 49]] hp nx (.tup [.rs false 1 (rl [(1, 72), (1, 118), (1, 1), (2, 0), (1, 10), (5, 0), (1, 2), (2, 0), (1, 32), (1, 193), (5, 0), (1, 2), (1, 1), (1, 97), (1, 1), (1, 50), (1, 1), (1, 98), (1, 1), (1, 49), (482, 0)]) (some 512), .v (.int .i64 0)]) hp nx .p :=
  run_p (xp := xpN) (xe := xe5) (own := ownM) (n := 1000000) (fun _ _ _ h => by cases h) xe5_ok e127 rfl rfl (by kernel_rfl) hp nx
def memoT : List (Nat × List AV × AV) := [(55, [.v (.int .i64 1), .str []], .tup [.rs false 1 (rl [(7, 0), (1, 1), (503, 0), (1, 1)]) (some 512), .v (.int .i64 0)]),
  (55, [.v (.int .i64 0), .str []], .tup [.rs true 0 ([]) (some 0), .v (.int .i64 2)]),
  (127, [.v (.int .i64 1), .v (.int .i64 2), .str [0, 1, 1, 98, 1, 49]], .tup [.rs false 1 (rl [(1, 72), (1, 118), (1, 1), (2, 0), (1, 6), (5, 0), (1, 2), (2, 0), (1, 15), (1, 227), (5, 0), (2, 1), (1, 98), (1, 1), (1, 49), (486, 0)]) (some 512), .v (.int .i64 0)]),
  (127, [.v (.int .i64 1), .v (.int .i64 2), .str [0, 2, 1, 97, 1, 50, 1, 98, 1, 49]], .tup [.rs false 1 (rl [(1, 72), (1, 118), (1, 1), (2, 0), (1, 10), (5, 0), (1, 2), (2, 0), (1, 32), (1, 193), (5, 0), (1, 2), (1, 1), (1, 97), (1, 1), (1, 50), (1, 1), (1, 98), (1, 1), (1, 49), (482, 0)]) (some 512), .v (.int .i64 0)])]
theorem memoT_ok : ∀ g b v, findT memoT g b = some v → ∀ hp nx, Ret E g b hp nx v hp nx .p := findT_ok memoT fun f a v h => by
  simp only [memoT, List.mem_cons, Prod.mk.injEq, List.not_mem_nil, or_false] at h
  rcases h with ⟨rfl, rfl, rfl⟩ | ⟨rfl, rfl, rfl⟩ | ⟨rfl, rfl, rfl⟩ | ⟨rfl, rfl, rfl⟩
  · exact memo0
  · exact memo1
  · exact memo2
  · exact memo3
end Go.Ai
