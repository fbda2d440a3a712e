/- WHATEVER THE ARGUMENTS, NodeFinds, NodeDecodes and NodeBack return true, and they read as they did. Conditions: none. -/
import Derived.Test.YtbdmloamekpeoaaRows
import Derived.Test.YtbdmloamekpeoaaZd
import Derived.Test.YtbdmloamekpeoaaP
namespace Go.Proofs.Ytbdmloamekpeoaa
open Go.ChangeShapes Go.WideShapes Go.ChangeAt Go.RowKit
set_option linter.unusedVariables false
set_option linter.unusedSimpArgs false
theorem own' : ownKnob Try.prog.godebug = none := by kernel_rfl

set_option maxRecDepth 100000 in
theorem nodeFinds_lifted (os : Os) (started : os.Started) (H : Type) (enc : TypeId × Value → H) :
    ReturnsInHanded {} Try.checked os 5 .any (Rows.nodeFindsSpec.pre6 enc Try.prog Try.f5 Rows.nodeFindsRow.domain false) (Rows.nodeFindsSpec.post enc Try.prog Try.f5 false true false false) := by
  refine returnsInHanded_of_change (C := Try.checked) own' started (by kernel_rfl) Try.func5
    (ChangeSpec.witness6 (enc := enc) (C := Try.checked) false ⟨#[], #[.agg #[.bool false, .slice none 0 0, .slice none 0 0, .slice none 0 0], .string ⟨#[]⟩], []⟩ 8 (by kernel_rfl) (by kernel_rfl) (by kernel_rfl) (by kernel_rfl)) ?_
  intro W base args ds gs before hval hW _ _
  obtain ⟨p, q, hA, hV, hp, hz, hn⟩ := id hW
  have hA' : DataW.TrodAll enc Try.prog W 0 (fun _ => true) true Try.f5.params.toList args.toList ds p := hA
  rw [Try.params5] at hA'
  obtain ⟨x, hx, hr⟩ := (Go.Ai.argsNS).read enc W _ base args.toList ds p (fun j t v h1 h2 => hval j t v (by rw [Try.params5]; simpa using h1) (by simpa using h2)) hA'
  refine (Go.Ai.law_run Go.Ai.E_ok Go.Ai.mixed ((by obtain ⟨n, hn⟩ := hx.1; exact Go.Ai.f5 n _ hn _ _ _)) hr).mono fun e W' ⟨he, hk⟩ => ?_
  exact ⟨_, he, Go.Ai.law_post Go.Ai.kids' Go.Ai.full' (by show ∀ t ∈ Try.f5.params.toList, _; rw [Try.params5]; decide +kernel) rfl (by kernel_rfl) Try.underlying4 (fun ds hl => by have hl : ds.length = Try.f5.params.toList.length := hl; rw [Try.params5] at hl; match ds, hl with | [d0, d1], _ => rfl) hW hk⟩

theorem nodeFinds_holds : Rows.NodeFindsSaid :=
  OpenClaim.holds_of_wide 5 Try.f5 rfl rfl rfl rfl rfl rfl rfl ⟨rfl, rfl, rfl, rfl, rfl⟩ rfl rfl rfl rfl rfl (by kernel_rfl) Try.func5 (by kernel_rfl)
    (of_decide_eq_true (by kernel_rfl)) (by unfold Func.isWrapper; first | (rw [if_pos (by decide +kernel)]; kernel_rfl) | (rw [if_neg (by decide +kernel)]; exact ⟨rfl, rfl⟩))
    (fun os started H enc _ => nodeFinds_lifted os started H enc)

set_option maxRecDepth 100000 in
theorem nodeDecodes_lifted (os : Os) (started : os.Started) (H : Type) (enc : TypeId × Value → H) :
    ReturnsInHanded {} Try.checked os 7 .any (Rows.nodeDecodesSpec.pre6 enc Try.prog Try.f7 Rows.nodeDecodesRow.domain false) (Rows.nodeDecodesSpec.post enc Try.prog Try.f7 false true false false) := by
  refine returnsInHanded_of_change (C := Try.checked) own' started (by kernel_rfl) Try.func7
    (ChangeSpec.witness6 (enc := enc) (C := Try.checked) false ⟨#[], #[.int .i64 0, .string ⟨#[]⟩], []⟩ 8 (by kernel_rfl) (by kernel_rfl) (by kernel_rfl) (by kernel_rfl)) ?_
  intro W base args ds gs before hval hW _ _
  obtain ⟨p, q, hA, hV, hp, hz, hn⟩ := id hW
  have hA' : DataW.TrodAll enc Try.prog W 0 (fun _ => true) true Try.f7.params.toList args.toList ds p := hA
  rw [Try.params7] at hA'
  obtain ⟨x, hx, hr⟩ := (Go.Ai.argsIS).read enc W _ base args.toList ds p (fun j t v h1 h2 => hval j t v (by rw [Try.params7]; simpa using h1) (by simpa using h2)) hA'
  refine (Go.Ai.law_run Go.Ai.E_ok Go.Ai.mixed ((Go.Ai.f7 _ _ _ _)) hr).mono fun e W' ⟨he, hk⟩ => ?_
  exact ⟨_, he, Go.Ai.law_post Go.Ai.kids' Go.Ai.full' (by show ∀ t ∈ Try.f7.params.toList, _; rw [Try.params7]; decide +kernel) rfl (by kernel_rfl) Try.underlying4 (fun ds hl => by have hl : ds.length = Try.f7.params.toList.length := hl; rw [Try.params7] at hl; match ds, hl with | [d0, d1], _ => rfl) hW hk⟩

theorem nodeDecodes_holds : Rows.NodeDecodesSaid :=
  OpenClaim.holds_of_wide 7 Try.f7 rfl rfl rfl rfl rfl rfl rfl ⟨rfl, rfl, rfl, rfl, rfl⟩ rfl rfl rfl rfl rfl (by kernel_rfl) Try.func7 (by kernel_rfl)
    (of_decide_eq_true (by kernel_rfl)) (by unfold Func.isWrapper; first | (rw [if_pos (by decide +kernel)]; kernel_rfl) | (rw [if_neg (by decide +kernel)]; exact ⟨rfl, rfl⟩))
    (fun os started H enc _ => nodeDecodes_lifted os started H enc)

set_option maxRecDepth 100000 in
theorem nodeBack_lifted (os : Os) (started : os.Started) (H : Type) (enc : TypeId × Value → H) :
    ReturnsInHanded {} Try.checked os 8 .any (Rows.nodeBackSpec.pre6 enc Try.prog Try.f8 Rows.nodeBackRow.domain false) (Rows.nodeBackSpec.post enc Try.prog Try.f8 false true false false) := by
  refine returnsInHanded_of_change (C := Try.checked) own' started (by kernel_rfl) Try.func8
    (ChangeSpec.witness6 (enc := enc) (C := Try.checked) false ⟨#[], #[.agg #[.bool false, .slice none 0 0, .slice none 0 0, .slice none 0 0], .int .i64 0, .string ⟨#[]⟩], []⟩ 8 (by kernel_rfl) (by kernel_rfl) (by kernel_rfl) (by kernel_rfl)) ?_
  intro W base args ds gs before hval hW _ _
  obtain ⟨p, q, hA, hV, hp, hz, hn⟩ := id hW
  have hA' : DataW.TrodAll enc Try.prog W 0 (fun _ => true) true Try.f8.params.toList args.toList ds p := hA
  rw [Try.params8] at hA'
  obtain ⟨x, hx, hr⟩ := (Go.Ai.argsNIS).read enc W _ base args.toList ds p (fun j t v h1 h2 => hval j t v (by rw [Try.params8]; simpa using h1) (by simpa using h2)) hA'
  refine (Go.Ai.law_run Go.Ai.E_ok Go.Ai.mixed ((by obtain ⟨n, hn⟩ := hx.1; exact Go.Ai.f8 n _ hn _ _ _ _)) hr).mono fun e W' ⟨he, hk⟩ => ?_
  exact ⟨_, he, Go.Ai.law_post Go.Ai.kids' Go.Ai.full' (by show ∀ t ∈ Try.f8.params.toList, _; rw [Try.params8]; decide +kernel) rfl (by kernel_rfl) Try.underlying4 (fun ds hl => by have hl : ds.length = Try.f8.params.toList.length := hl; rw [Try.params8] at hl; match ds, hl with | [d0, d1, d2], _ => rfl) hW hk⟩

theorem nodeBack_holds : Rows.NodeBackSaid :=
  OpenClaim.holds_of_wide 8 Try.f8 rfl rfl rfl rfl rfl rfl rfl ⟨rfl, rfl, rfl, rfl, rfl⟩ rfl rfl rfl rfl rfl (by kernel_rfl) Try.func8 (by kernel_rfl)
    (of_decide_eq_true (by kernel_rfl)) (by unfold Func.isWrapper; first | (rw [if_pos (by decide +kernel)]; kernel_rfl) | (rw [if_neg (by decide +kernel)]; exact ⟨rfl, rfl⟩))
    (fun os started H enc _ => nodeBack_lifted os started H enc)

end Go.Proofs.Ytbdmloamekpeoaa
