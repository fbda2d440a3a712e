/- WHATEVER THE NODE, NodeJudges and NodeEncodes return true, and the node reads as it did. Conditions: none. -/
import Derived.Test.YtbdmloamekpeoaaRows
import Derived.Test.YtbdmloamekpeoaaN
import Derived.Test.YtbdmloamekpeoaaP
namespace Go.Proofs.Ytbdmloamekpeoaa
open Go.ChangeShapes Go.WideShapes Go.ChangeAt Go.RowKit
set_option linter.unusedVariables false
set_option linter.unusedSimpArgs false
theorem own' : ownKnob Try.prog.godebug = none := by kernel_rfl

set_option maxRecDepth 100000 in
theorem nodeJudges_lifted (os : Os) (started : os.Started) (H : Type) (enc : TypeId × Value → H) :
    ReturnsInHanded {} Try.checked os 3 .any (Rows.nodeJudgesSpec.pre6 enc Try.prog Try.f3 Rows.nodeJudgesRow.domain false) (Rows.nodeJudgesSpec.post enc Try.prog Try.f3 false true false false) := by
  refine returnsInHanded_of_change (C := Try.checked) own' started (by kernel_rfl) Try.func3
    (ChangeSpec.witness6 (enc := enc) (C := Try.checked) false ⟨#[], #[.agg #[.bool false, .slice none 0 0, .slice none 0 0, .slice none 0 0]], []⟩ 8 (by kernel_rfl) (by kernel_rfl) (by kernel_rfl) (by kernel_rfl)) ?_
  intro W base args ds gs before hval hW _ _
  obtain ⟨p, q, hA, hV, hp, hz, hn⟩ := id hW
  have hA' : DataW.TrodAll enc Try.prog W 0 (fun _ => true) true Try.f3.params.toList args.toList ds p := hA
  rw [Try.params3] at hA'
  obtain ⟨x, hx, hr⟩ := (Go.Ai.args1).read enc W _ base args.toList ds p (fun j t v h1 h2 => hval j t v (by rw [Try.params3]; simpa using h1) (by simpa using h2)) hA'
  refine (Go.Ai.law_run Go.Ai.E_ok Go.Ai.mixed ((by obtain ⟨n, hn⟩ := hx.1; exact Go.Ai.f3 n _ hn _ _)) hr).mono fun e W' ⟨he, hk⟩ => ?_
  exact ⟨_, he, Go.Ai.law_post Go.Ai.kids' Go.Ai.full' (by show ∀ t ∈ Try.f3.params.toList, _; rw [Try.params3]; decide +kernel) rfl (by kernel_rfl) Try.underlying4 (fun ds hl => by have hl : ds.length = Try.f3.params.toList.length := hl; rw [Try.params3] at hl; match ds, hl with | [d0], _ => rfl) hW hk⟩

theorem nodeJudges_holds : Rows.NodeJudgesSaid :=
  OpenClaim.holds_of_wide 3 Try.f3 rfl rfl rfl rfl rfl rfl rfl ⟨rfl, rfl, rfl, rfl, rfl⟩ rfl rfl rfl rfl rfl (by kernel_rfl) Try.func3 (by kernel_rfl)
    (of_decide_eq_true (by kernel_rfl)) (by unfold Func.isWrapper; first | (rw [if_pos (by decide +kernel)]; kernel_rfl) | (rw [if_neg (by decide +kernel)]; exact ⟨rfl, rfl⟩))
    (fun os started H enc _ => nodeJudges_lifted os started H enc)

set_option maxRecDepth 100000 in
theorem nodeEncodes_lifted (os : Os) (started : os.Started) (H : Type) (enc : TypeId × Value → H) :
    ReturnsInHanded {} Try.checked os 4 .any (Rows.nodeEncodesSpec.pre6 enc Try.prog Try.f4 Rows.nodeEncodesRow.domain false) (Rows.nodeEncodesSpec.post enc Try.prog Try.f4 false true false false) := by
  refine returnsInHanded_of_change (C := Try.checked) own' started (by kernel_rfl) Try.func4
    (ChangeSpec.witness6 (enc := enc) (C := Try.checked) false ⟨#[], #[.agg #[.bool false, .slice none 0 0, .slice none 0 0, .slice none 0 0]], []⟩ 8 (by kernel_rfl) (by kernel_rfl) (by kernel_rfl) (by kernel_rfl)) ?_
  intro W base args ds gs before hval hW _ _
  obtain ⟨p, q, hA, hV, hp, hz, hn⟩ := id hW
  have hA' : DataW.TrodAll enc Try.prog W 0 (fun _ => true) true Try.f4.params.toList args.toList ds p := hA
  rw [Try.params4] at hA'
  obtain ⟨x, hx, hr⟩ := (Go.Ai.args1).read enc W _ base args.toList ds p (fun j t v h1 h2 => hval j t v (by rw [Try.params4]; simpa using h1) (by simpa using h2)) hA'
  refine (Go.Ai.law_run Go.Ai.E_ok Go.Ai.mixed ((by obtain ⟨n, hn⟩ := hx.1; exact Go.Ai.f4 n _ hn _ _)) hr).mono fun e W' ⟨he, hk⟩ => ?_
  exact ⟨_, he, Go.Ai.law_post Go.Ai.kids' Go.Ai.full' (by show ∀ t ∈ Try.f4.params.toList, _; rw [Try.params4]; decide +kernel) rfl (by kernel_rfl) Try.underlying4 (fun ds hl => by have hl : ds.length = Try.f4.params.toList.length := hl; rw [Try.params4] at hl; match ds, hl with | [d0], _ => rfl) hW hk⟩

theorem nodeEncodes_holds : Rows.NodeEncodesSaid :=
  OpenClaim.holds_of_wide 4 Try.f4 rfl rfl rfl rfl rfl rfl rfl ⟨rfl, rfl, rfl, rfl, rfl⟩ rfl rfl rfl rfl rfl (by kernel_rfl) Try.func4 (by kernel_rfl)
    (of_decide_eq_true (by kernel_rfl)) (by unfold Func.isWrapper; first | (rw [if_pos (by decide +kernel)]; kernel_rfl) | (rw [if_neg (by decide +kernel)]; exact ⟨rfl, rfl⟩))
    (fun os started H enc _ => nodeEncodes_lifted os started H enc)

end Go.Proofs.Ytbdmloamekpeoaa
