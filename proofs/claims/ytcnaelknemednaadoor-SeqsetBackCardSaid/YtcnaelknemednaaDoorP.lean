/- The statements' arguments, read as abstract values; the table that the row lists. -/
import Derived.Test.YtcnaelknemednaaDoorWg
import Derived.Test.YtcnaelknemednaaDoorSx
import Derived.Test.YtcnaelknemednaaDoorAiArg
import Derived.Lib.LaidTab
import Derived.LaidSub
import Derived.MakeChecks
namespace Go.Ai
open Go.Proofs Go.ChangeShapes Go.WideShapes Go.ChangeAt Go.RowKit
set_option linter.unusedVariables false
set_option linter.unusedSimpArgs false

theorem cells3 : Tryd.prog.cellsOf 3 = 1 := by kernel_rfl
theorem cells9 : Tryd.prog.cellsOf 9 = 1 := by kernel_rfl
theorem cells22 : Tryd.prog.cellsOf 22 = 1 := by kernel_rfl
theorem cells35 : Tryd.prog.cellsOf 35 = 2 := by kernel_rfl

theorem shSpan : Shape Tryd.prog 35 cellsP (fun _ => True) :=
  (shape_struct Tryd.underlying35 cells35
    (shapeF_cons (m := 1) (n := 1) rfl cells3 (shape_int Tryd.underlying3 cells3)
    (shapeF_cons (m := 1) (n := 0) rfl cells3 (shape_int Tryd.underlying3 cells3) shapeF_nil))).map (fun _ => cells35.symm) fun x _ => ⟨(x.1, x.2.1), trivial, rfl⟩
theorem shSpans : Shape Tryd.prog 22 (fun s : SlV Sp => [.rs s.nil 2 (s.xs.map cellsP) (some s.cap)]) (SlV.Ok fun _ => True) :=
  (shape_slice Tryd.underlying22 cells22 (by rw [cells35]; decide) shSpan).map (fun _ => cells22.symm) fun x h => ⟨x, h, by rw [cells35]⟩
set_option maxRecDepth 100000 in
theorem argSpans : ArgOk Tryd.prog 22 (fun s : SlV Sp => .rs s.nil 2 (s.xs.map cellsP) (some s.cap)) (SlV.Ok fun _ => True) :=
  arg_one shSpans fun W base v h => by obtain ⟨a, b, c, rfl⟩ := okWide_slice Tryd.underlying22 h; rfl
theorem argStr : ArgOk Tryd.prog 9 (fun l : List UInt8 => .str l) (fun l => l.length ≤ maxLen) := arg_string Tryd.underlying9 cells9
theorem SlA.of {α : Type} {n : Nat} {f : α → List AV} {Pr : α → Prop} {s : SlV α} (h : SlV.Ok Pr s) : SlA n (s.xs.map f) (.rs s.nil n (s.xs.map f) (some s.cap)) :=
  ⟨_, _, _, rfl, .inr rfl, fun hn => by rw [h.nil hn]; rfl⟩
theorem argsL : ArgsOk Tryd.prog [22] (fun x : SlV Sp × Unit => [.rs x.1.nil 2 (x.1.xs.map cellsP) (some x.1.cap)]) (fun x => SlV.Ok (fun _ => True) x.1 ∧ True) := args_cons argSpans args_nil
theorem argsLS : ArgsOk Tryd.prog [22, 9] (fun x : SlV Sp × List UInt8 × Unit => [.rs x.1.nil 2 (x.1.xs.map cellsP) (some x.1.cap), .str x.2.1])
    (fun x => SlV.Ok (fun _ => True) x.1 ∧ x.2.1.length ≤ maxLen ∧ True) := args_cons argSpans (args_cons argStr args_nil)
theorem kids' : Kids Tryd.prog (· < Tryd.prog.types.size) := kids_rows (by kernel_rfl) (by kernel_rfl)
set_option maxRecDepth 100000 in
theorem full' : ∀ t e, t < Tryd.prog.types.size → Tryd.prog.underlying t = some (.slice e) → 0 < Tryd.prog.cellsOf e := slices_full_of Tryd.prog (by kernel_rfl)

theorem cells107 : Tryd.prog.cellsOf 107 = 20 := by kernel_rfl
theorem cells94 : Tryd.prog.cellsOf 94 = 1 := by kernel_rfl
theorem glob1 : (Tryd.prog.globals[1]?).map (·.type) = some 107 := by kernel_rfl
theorem glok_of {W : World} (h : Lib.TabIs Tryd.prog W "internal/strconv.uint64pow10" .u64 Lib.pow10Tab) : GlOk (topCx W) := by
  intro g vs hg
  unfold globTab at hg
  split at hg
  · simp only [Option.some.injEq] at hg
    subst hg
    unfold Lib.TabIs World.var? at h
    rw [pow_named] at h
    simp only [Option.bind_some] at h
    have key : ∃ cs e fz, W.heap[1]? = some (.cells cs e fz) ∧ cs = (Lib.pow10Tab.map fun z => Value.int .u64 z).toArray := by
      split at h
      · rename_i cs e fz hh
        exact ⟨cs, e, fz, hh, by simpa using h⟩
      · cases h
    obtain ⟨cs, e, fz, h1, h2⟩ := key
    refine ⟨topCx_ro (Array.getElem?_eq_some_iff.1 h1).1, e, fz, ?_⟩
    show W.heap[1]? = _
    rw [h1, h2, Lib.pow10Tab, List.map_map]
    rfl
  · cases hg
end Go.Ai
