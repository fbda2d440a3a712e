/- More of the statements' arguments. -/
import Derived.Test.YtdhbiimmifedmaaP
import Derived.Test.YtdhbiimmifedmaaZc
namespace Go.Ai
open Go.Proofs Go.ChangeShapes Go.WideShapes Go.ChangeAt Go.RowKit
set_option linter.unusedVariables false
set_option linter.unusedSimpArgs false

theorem cells32 : Try.prog.cellsOf 32 = 1 := by kernel_rfl
theorem argBool : ArgOk Try.prog 4 (fun n : Bool => .v (.bool n)) (fun _ => True) := arg_bool Try.underlying4 cells4
theorem argsSB : ArgsOk Try.prog [9, 4] (fun x : List UInt8 × Bool × Unit => [.str x.1, .v (.bool x.2.1)]) (fun x => x.1.length ≤ maxLen ∧ True ∧ True) := args_cons argStr (args_cons argBool args_nil)
theorem shLines : Shape Try.prog 32 (fun s : SlV (List UInt8) => [.rs s.nil 1 (s.xs.map sC) (some s.cap)]) (SlV.Ok fun _ => True) :=
  (shape_slice Try.underlying32 cells32 (by rw [cells9]; decide) (shape_string Try.underlying9 cells9)).map (fun _ => cells32.symm) fun x h => ⟨x, ⟨h.nil, h.len, h.cap, fun _ _ => trivial⟩, by rw [cells9]; rfl⟩
theorem argLines : ArgOk Try.prog 32 (fun s : SlV (List UInt8) => .rs s.nil 1 (s.xs.map sC) (some s.cap)) (SlV.Ok fun _ => True) :=
  arg_one shLines fun W base v h => by obtain ⟨a, b, c, rfl⟩ := okWide_slice Try.underlying32 h; rfl
theorem argsL : ArgsOk Try.prog [32] (fun x : SlV (List UInt8) × Unit => [.rs x.1.nil 1 (x.1.xs.map sC) (some x.1.cap)]) (fun x => SlV.Ok (fun _ => True) x.1 ∧ True) := args_cons argLines args_nil
theorem int_lo {n : Int} (h : (Lit.int .i64 n).wf = true) : -9223372036854775808 ≤ n ∧ n ≤ 9223372036854775807 := by
  simp only [Lit.wf, Bool.and_eq_true, decide_eq_true_eq] at h
  exact h
end Go.Ai
