/- The statements' arguments, read as abstract values. -/
import Derived.Test.YtooomkpingiojaaGreatXc
import Derived.Test.YtooomkpingiojaaGreatAiRun
namespace Go.Ai
open Go.Proofs
set_option linter.unusedVariables false
set_option linter.unusedSimpArgs false

theorem cells3 : Tryz.prog.cellsOf 3 = 1 := by kernel_rfl
theorem cells9 : Tryz.prog.cellsOf 9 = 1 := by kernel_rfl
theorem argInt : ArgOk Tryz.prog 3 (fun n : Int => .v (.int .i64 n)) (fun n => (Lit.int .i64 n).wf = true) := arg_int Tryz.underlying3 cells3
theorem argStr : ArgOk Tryz.prog 9 (fun l : List UInt8 => .str l) (fun l => l.length ≤ maxLen) := arg_string Tryz.underlying9 cells9
theorem argsSSI : ArgsOk Tryz.prog [9, 9, 3] (fun x : List UInt8 × List UInt8 × Int × Unit => [.str x.1, .str x.2.1, .v (.int .i64 x.2.2.1)]) (fun x => x.1.length ≤ maxLen ∧ x.2.1.length ≤ maxLen ∧ (Lit.int .i64 x.2.2.1).wf = true ∧ True) := args_cons argStr (args_cons argStr (args_cons argInt args_nil))
set_option maxRecDepth 100000 in
theorem kids' : Kids Tryz.prog (· < Tryz.prog.types.size) := kids_rows (by kernel_rfl) (by kernel_rfl)
set_option maxRecDepth 100000 in
theorem full' : ∀ t e, t < Tryz.prog.types.size → Tryz.prog.underlying t = some (.slice e) → 0 < Tryz.prog.cellsOf e := slices_full_of Tryz.prog (by kernel_rfl)
end Go.Ai
