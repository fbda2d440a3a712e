/- The statements' arguments, read as abstract values. -/
import Derived.Test.YtcnaelknemednaaZ
import Derived.Test.YtcnaelknemednaaSw
import Derived.Test.YtcnaelknemednaaAiArg
namespace Go.Ai
open Go.Proofs Go.ChangeShapes Go.WideShapes Go.ChangeAt Go.RowKit
set_option linter.unusedVariables false
set_option linter.unusedSimpArgs false

theorem cells3 : Try.prog.cellsOf 3 = 1 := by kernel_rfl
theorem cells9 : Try.prog.cellsOf 9 = 1 := by kernel_rfl
theorem cells23 : Try.prog.cellsOf 23 = 1 := by kernel_rfl
theorem cells32 : Try.prog.cellsOf 32 = 1 := by kernel_rfl
theorem cells39 : Try.prog.cellsOf 39 = 2 := by kernel_rfl

theorem shSpan : Shape Try.prog 39 cellsP (fun _ => True) :=
  (shape_struct Try.underlying39 cells39
    (shapeF_cons (m := 1) (n := 1) rfl cells3 (shape_int Try.underlying3 cells3)
    (shapeF_cons (m := 1) (n := 0) rfl cells3 (shape_int Try.underlying3 cells3) shapeF_nil))).map (fun _ => cells39.symm) fun x _ => ⟨(x.1, x.2.1), trivial, rfl⟩
theorem shSpans : Shape Try.prog 23 (fun s : SlV Sp => [.rs s.nil 2 (s.xs.map cellsP) (some s.cap)]) (SlV.Ok fun _ => True) :=
  (shape_slice Try.underlying23 cells23 (by rw [cells39]; decide) shSpan).map (fun _ => cells23.symm) fun x h => ⟨x, h, by rw [cells39]⟩
theorem shInts : Shape Try.prog 32 (fun s : SlV Int => [.rs s.nil 1 (s.xs.map kidC) (some s.cap)]) (SlV.Ok fun _ => True) :=
  (shape_slice Try.underlying32 cells32 (by rw [cells3]; decide) (shape_int Try.underlying3 cells3)).map (fun _ => cells32.symm) fun x h => ⟨x, ⟨h.nil, h.len, h.cap, fun _ _ => trivial⟩, by rw [cells3]; rfl⟩
theorem argSpans : ArgOk Try.prog 23 (fun s : SlV Sp => .rs s.nil 2 (s.xs.map cellsP) (some s.cap)) (SlV.Ok fun _ => True) :=
  arg_one shSpans fun W base v h => by obtain ⟨a, b, c, rfl⟩ := okWide_slice Try.underlying23 h; rfl
theorem argInts : ArgOk Try.prog 32 (fun s : SlV Int => .rs s.nil 1 (s.xs.map kidC) (some s.cap)) (SlV.Ok fun _ => True) :=
  arg_one shInts fun W base v h => by obtain ⟨a, b, c, rfl⟩ := okWide_slice Try.underlying32 h; rfl
theorem argInt : ArgOk Try.prog 3 (fun n : Int => .v (.int .i64 n)) (fun n => (Lit.int .i64 n).wf = true) := arg_int Try.underlying3 cells3
theorem argStr : ArgOk Try.prog 9 (fun l : List UInt8 => .str l) (fun l => l.length ≤ maxLen) := arg_string Try.underlying9 cells9
theorem SlA.of {α : Type} {n : Nat} {f : α → List AV} {Pr : α → Prop} {s : SlV α} (h : SlV.Ok Pr s) : SlA n (s.xs.map f) (.rs s.nil n (s.xs.map f) (some s.cap)) :=
  ⟨_, _, _, rfl, .inr rfl, fun hn => by rw [h.nil hn]; rfl⟩
theorem argsLIN : ArgsOk Try.prog [23, 3, 32] (fun x : SlV Sp × Int × SlV Int × Unit => [.rs x.1.nil 2 (x.1.xs.map cellsP) (some x.1.cap), .v (.int .i64 x.2.1), .rs x.2.2.1.nil 1 (x.2.2.1.xs.map kidC) (some x.2.2.1.cap)])
    (fun x => SlV.Ok (fun _ => True) x.1 ∧ (Lit.int .i64 x.2.1).wf = true ∧ SlV.Ok (fun _ => True) x.2.2.1 ∧ True) := args_cons argSpans (args_cons argInt (args_cons argInts args_nil))
theorem argsS : ArgsOk Try.prog [9] (fun x : List UInt8 × Unit => [.str x.1]) (fun x => x.1.length ≤ maxLen ∧ True) := args_cons argStr args_nil
theorem kids' : Kids Try.prog (· < Try.prog.types.size) := kids_rows (by kernel_rfl) (by kernel_rfl)
theorem full' : ∀ t e, t < Try.prog.types.size → Try.prog.underlying t = some (.slice e) → 0 < Try.prog.cellsOf e := slices_full_of Try.prog (by kernel_rfl)
theorem int_lo {n : Int} (h : (Lit.int .i64 n).wf = true) : -9223372036854775808 ≤ n ∧ n ≤ 9223372036854775807 := by
  simp only [Lit.wf, Bool.and_eq_true, decide_eq_true_eq] at h
  exact h
end Go.Ai
