/- The statements' arguments, read as abstract values. -/
import Derived.Test.YtdhbiimmifedmaaV
import Derived.Test.YtdhbiimmifedmaaAiArg
namespace Go.Ai
open Go.Proofs
set_option linter.unusedVariables false
set_option linter.unusedSimpArgs false

theorem cells3 : Try.prog.cellsOf 3 = 1 := by kernel_rfl
theorem cells4 : Try.prog.cellsOf 4 = 1 := by kernel_rfl
theorem cells9 : Try.prog.cellsOf 9 = 1 := by kernel_rfl
theorem argInt : ArgOk Try.prog 3 (fun n : Int => .v (.int .i64 n)) (fun n => (Lit.int .i64 n).wf = true) := arg_int Try.underlying3 cells3
theorem argStr : ArgOk Try.prog 9 (fun l : List UInt8 => .str l) (fun l => l.length ≤ maxLen) := arg_string Try.underlying9 cells9
theorem argsSS : ArgsOk Try.prog [9, 9] (fun x : List UInt8 × List UInt8 × Unit => [.str x.1, .str x.2.1]) (fun x => x.1.length ≤ maxLen ∧ x.2.1.length ≤ maxLen ∧ True) := args_cons argStr (args_cons argStr args_nil)
theorem argsS : ArgsOk Try.prog [9] (fun x : List UInt8 × Unit => [.str x.1]) (fun x => x.1.length ≤ maxLen ∧ True) := args_cons argStr args_nil
theorem argsSSI : ArgsOk Try.prog [9, 9, 3] (fun x : List UInt8 × List UInt8 × Int × Unit => [.str x.1, .str x.2.1, .v (.int .i64 x.2.2.1)]) (fun x => x.1.length ≤ maxLen ∧ x.2.1.length ≤ maxLen ∧ (Lit.int .i64 x.2.2.1).wf = true ∧ True) := args_cons argStr (args_cons argStr (args_cons argInt args_nil))
theorem kids' : Kids Try.prog (· < Try.prog.types.size) := kids_rows (by kernel_rfl) (by kernel_rfl)
theorem full' : ∀ t e, t < Try.prog.types.size → Try.prog.underlying t = some (.slice e) → 0 < Try.prog.cellsOf e := slices_full_of Try.prog (by kernel_rfl)
end Go.Ai
