/- WHATEVER THE NODE, THE KEY AND THE VALUE, NodeWith returns true, and the arguments read as they did. Conditions: none. -/
import Derived.Test.YtbdmloamekpeoaaMg4
import Derived.Test.YtbdmloamekpeoaaAiRun
import Derived.Test.YtbdmloamekpeoaaRows
import Derived.Test.YtbdmloamekpeoaaMg9
/- The statements' arguments, read as abstract values. -/
namespace Go.Ai
open Go.Proofs
set_option linter.unusedVariables false
set_option linter.unusedSimpArgs false

theorem cells26 : Try.prog.cellsOf 26 = 4 := by kernel_rfl
theorem cells22 : Try.prog.cellsOf 22 = 1 := by kernel_rfl
theorem cells23 : Try.prog.cellsOf 23 = 1 := by kernel_rfl
theorem cells24 : Try.prog.cellsOf 24 = 1 := by kernel_rfl
theorem cells3 : Try.prog.cellsOf 3 = 1 := by kernel_rfl
theorem cells4 : Try.prog.cellsOf 4 = 1 := by kernel_rfl
theorem cells9 : Try.prog.cellsOf 9 = 1 := by kernel_rfl
theorem cellsItem : Try.prog.cellsOf 51 = 3 := by kernel_rfl

theorem shItem : Shape Try.prog 51 Itm.cells (fun _ => True) :=
  (shape_struct Try.underlying51 cellsItem
    (shapeF_cons (m := 1) (n := 2) rfl cells9 (shape_string Try.underlying9 cells9)
    (shapeF_cons (m := 1) (n := 1) rfl cells3 (shape_int Try.underlying3 cells3)
    (shapeF_cons (m := 1) (n := 0) rfl cells3 (shape_int Try.underlying3 cells3) shapeF_nil)))).map (fun _ => cellsItem.symm) fun x _ => ⟨⟨x.1, x.2.1, x.2.2.1⟩, trivial, rfl⟩
theorem shKeys : Shape Try.prog 22 (fun s : SlV (List UInt8) => [.rs s.nil 1 (s.xs.map keyC) (some s.cap)]) (SlV.Ok fun _ => True) :=
  (shape_slice Try.underlying22 cells22 (by rw [cells9]; decide) (shape_string Try.underlying9 cells9)).map (fun _ => cells22.symm) fun x h => ⟨x, ⟨h.nil, h.len, h.cap, fun _ _ => trivial⟩, by rw [cells9]; rfl⟩
theorem shItems : Shape Try.prog 23 (fun s : SlV Itm => [.rs s.nil 3 (s.xs.map Itm.cells) (some s.cap)]) (SlV.Ok fun _ => True) :=
  (shape_slice Try.underlying23 cells23 (by rw [cellsItem]; decide) shItem).map (fun _ => cells23.symm) fun x h => ⟨x, h, by rw [cellsItem]⟩
theorem shKids : Shape Try.prog 24 (fun s : SlV Int => [.rs s.nil 1 (s.xs.map kidC) (some s.cap)]) (SlV.Ok fun _ => True) :=
  (shape_slice Try.underlying24 cells24 (by rw [cells3]; decide) (shape_int Try.underlying3 cells3)).map (fun _ => cells24.symm) fun x h => ⟨x, ⟨h.nil, h.len, h.cap, fun _ _ => trivial⟩, by rw [cells3]; rfl⟩

theorem SlA.of {α : Type} {n : Nat} {f : α → List AV} {Pr : α → Prop} {s : SlV α} (h : SlV.Ok Pr s) : SlA n (s.xs.map f) (.rs s.nil n (s.xs.map f) (some s.cap)) :=
  ⟨_, _, _, rfl, .inr rfl, fun hn => by rw [h.nil hn]; rfl⟩

set_option maxRecDepth 100000 in
theorem argNode : ArgOk Try.prog 26 (fun x : AV => x) (fun x => ∃ n, NdA n x) := by
  have S := shape_struct Try.underlying26 cells26
    (shapeF_cons (m := 1) (n := 3) rfl cells4 (shape_bool Try.underlying4 cells4)
    (shapeF_cons (m := 1) (n := 2) rfl cells22 shKeys
    (shapeF_cons (m := 1) (n := 1) rfl cells23 shItems
    (shapeF_cons (m := 1) (n := 0) rfl cells24 shKids shapeF_nil))))
  refine ⟨fun enc w sp base v d p hv h => ?_⟩
  have A := arg_struct Try.underlying26 S
  have B := A.read enc w sp base v d p hv h
  obtain ⟨⟨b, k, i, d, _⟩, ⟨_, h1, h2, h3, _⟩, hr⟩ := B
  refine ⟨.agg [.v (.bool b), .rs k.nil 1 (k.xs.map keyC) (some k.cap), .rs i.nil 3 (i.xs.map Itm.cells) (some i.cap), .rs d.nil 1 (d.xs.map kidC) (some d.cap)], ?_, hr⟩
  exact ⟨⟨b, k.xs, i.xs, d.xs⟩, _, _, _, rfl, SlA.of h1, SlA.of h2, SlA.of h3⟩

theorem args1 : ArgsOk Try.prog [26] (fun x : AV × Unit => [x.1]) (fun x => (∃ n, NdA n x.1) ∧ True) := args_cons argNode args_nil

theorem argInt : ArgOk Try.prog 3 (fun n : Int => .v (.int .i64 n)) (fun n => (Lit.int .i64 n).wf = true) := arg_int Try.underlying3 cells3
theorem argStr : ArgOk Try.prog 9 (fun l : List UInt8 => .str l) (fun l => l.length ≤ maxLen) := arg_string Try.underlying9 cells9
theorem argsNS : ArgsOk Try.prog [26, 9] (fun x : AV × List UInt8 × Unit => [x.1, .str x.2.1]) (fun x => (∃ n, NdA n x.1) ∧ x.2.1.length ≤ maxLen ∧ True) := args_cons argNode (args_cons argStr args_nil)
theorem argsIS : ArgsOk Try.prog [3, 9] (fun x : Int × List UInt8 × Unit => [.v (.int .i64 x.1), .str x.2.1]) (fun x => (Lit.int .i64 x.1).wf = true ∧ x.2.1.length ≤ maxLen ∧ True) := args_cons argInt (args_cons argStr args_nil)
theorem argsNIS : ArgsOk Try.prog [26, 3, 9] (fun x : AV × Int × List UInt8 × Unit => [x.1, .v (.int .i64 x.2.1), .str x.2.2.1]) (fun x => (∃ n, NdA n x.1) ∧ (Lit.int .i64 x.2.1).wf = true ∧ x.2.2.1.length ≤ maxLen ∧ True) := args_cons argNode (args_cons argInt (args_cons argStr args_nil))
theorem argsNSS : ArgsOk Try.prog [26, 9, 9] (fun x : AV × List UInt8 × List UInt8 × Unit => [x.1, .str x.2.1, .str x.2.2.1]) (fun x => (∃ n, NdA n x.1) ∧ x.2.1.length ≤ maxLen ∧ x.2.2.1.length ≤ maxLen ∧ True) := args_cons argNode (args_cons argStr (args_cons argStr args_nil))

theorem kids' : Kids Try.prog (· < Try.prog.types.size) := kids_rows (by kernel_rfl) (by kernel_rfl)
theorem full' : ∀ t e, t < Try.prog.types.size → Try.prog.underlying t = some (.slice e) → 0 < Try.prog.cellsOf e := slices_full_of Try.prog (by kernel_rfl)
end Go.Ai

/- WHATEVER THE NODE, THE KEY AND THE VALUE, NodeWith returns true, and the arguments read as they did. Conditions: none. -/
namespace Go.Proofs.Ytbdmloamekpeoaa
open Go.ChangeShapes Go.WideShapes Go.ChangeAt Go.RowKit
set_option linter.unusedVariables false
set_option linter.unusedSimpArgs false
theorem own' : ownKnob Try.prog.godebug = none := by kernel_rfl

set_option maxRecDepth 100000 in
theorem nodeWith_lifted (os : Os) (started : os.Started) (H : Type) (enc : TypeId × Value → H) :
    ReturnsInHanded {} Try.checked os 9 .any (Rows.nodeWithSpec.pre6 enc Try.prog Try.f9 Rows.nodeWithRow.domain false) (Rows.nodeWithSpec.post enc Try.prog Try.f9 false true false false) := by
  refine returnsInHanded_of_change (C := Try.checked) own' started (by kernel_rfl) Try.func9
    (ChangeSpec.witness6 (enc := enc) (C := Try.checked) false ⟨#[], #[.agg #[.bool false, .slice none 0 0, .slice none 0 0, .slice none 0 0], .string ⟨#[]⟩, .string ⟨#[]⟩], []⟩ 8 (by kernel_rfl) (by kernel_rfl) (by kernel_rfl) (by kernel_rfl)) ?_
  intro W base args ds gs before hval hW _ _
  obtain ⟨p, q, hA, hV, hp, hz, hn⟩ := id hW
  have hA' : DataW.TrodAll enc Try.prog W 0 (fun _ => true) true Try.f9.params.toList args.toList ds p := hA
  rw [Try.params9] at hA'
  obtain ⟨x, hx, hr⟩ := (Go.Ai.argsNSS).read enc W _ base args.toList ds p (fun j t v h1 h2 => hval j t v (by rw [Try.params9]; simpa using h1) (by simpa using h2)) hA'
  refine (Go.Ai.law_run Go.Ai.E_ok Go.Ai.mixed Go.Ai.body9 ((by obtain ⟨n, hn⟩ := hx.1; exact Go.Ai.f9 n _ hn _ _ _ _)) hr).mono fun e W' ⟨he, hk⟩ => ?_
  exact ⟨_, he, Go.Ai.law_post Go.Ai.kids' Go.Ai.full' (by show ∀ t ∈ Try.f9.params.toList, _; rw [Try.params9]; decide +kernel) rfl (by kernel_rfl) Try.underlying4 (fun ds hl => by have hl : ds.length = Try.f9.params.toList.length := hl; rw [Try.params9] at hl; match ds, hl with | [d0, d1, d2], _ => rfl) hW hk⟩

theorem nodeWith_holds : Rows.NodeWithSaid :=
  OpenClaim.holds_of_wide 9 Try.f9 rfl rfl rfl rfl rfl rfl rfl ⟨rfl, rfl, rfl, rfl, rfl⟩ rfl rfl rfl rfl rfl (by kernel_rfl) Try.func9 (by kernel_rfl)
    (of_decide_eq_true (by kernel_rfl)) (by unfold Func.isWrapper; first | (rw [if_pos (by decide +kernel)]; kernel_rfl) | (rw [if_neg (by decide +kernel)]; exact ⟨rfl, rfl⟩))
    (fun os started H enc _ => nodeWith_lifted os started H enc)

end Go.Proofs.Ytbdmloamekpeoaa

