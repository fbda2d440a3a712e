/- WHATEVER THE KEY, THE VALUE AND THE NUMBER, BtreeNil returns true, and they read as they did. Conditions: none. -/
import Derived.Test.YtblopagmddgkjaaGreatRows
import Derived.Test.YtblopagmddgkjaaGreatP
namespace Go.Proofs.YtblopagmddgkjaaGreat
open Go.ChangeShapes Go.WideShapes Go.ChangeAt Go.RowKit
set_option linter.unusedVariables false
set_option linter.unusedSimpArgs false
theorem own' : ownKnob Tryz.prog.godebug = none := by kernel_rfl

set_option maxRecDepth 100000 in
theorem btreeNil_lifted (os : Os) (started : os.Started) (H : Type) (enc : TypeId × Value → H) :
    ReturnsInHanded {} Tryz.checked os 3 .any (Rows.btreeNilSpec.pre6 enc Tryz.prog Tryz.f3 Rows.btreeNilRow.domain false) (Rows.btreeNilSpec.post enc Tryz.prog Tryz.f3 false true false false) := by
  refine returnsInHanded_of_change (C := Tryz.checked) own' started (by kernel_rfl) Tryz.func3
    (ChangeSpec.witness6 (enc := enc) (C := Tryz.checked) false ⟨#[], #[.string ⟨#[]⟩, .string ⟨#[]⟩, .int .i64 0], []⟩ 8 (by kernel_rfl) (by kernel_rfl) (by kernel_rfl) (by kernel_rfl)) ?_
  intro W base args ds gs before hval hW _ _
  obtain ⟨p, q, hA, hV, hp, hz, hn⟩ := id hW
  have hA' : DataW.TrodAll enc Tryz.prog W 0 (fun _ => true) true Tryz.f3.params.toList args.toList ds p := hA
  rw [Tryz.params3] at hA'
  obtain ⟨x, hx, hr⟩ := (Go.Ai.argsSSI).read enc W _ base args.toList ds p (fun j t v h1 h2 => hval j t v (by rw [Tryz.params3]; simpa using h1) (by simpa using h2)) hA'
  refine (Go.Ai.law_run Go.Ai.E_ok Go.Ai.mixed Go.Ai.body3 ((Go.Ai.f3 _ _ _ _ _)) hr).mono fun e W' ⟨he, hk⟩ => ?_
  exact ⟨_, he, Go.Ai.law_post Go.Ai.kids' Go.Ai.full' (by show ∀ t ∈ Tryz.f3.params.toList, _; rw [Tryz.params3]; decide +kernel) rfl (by kernel_rfl) Tryz.underlying4 (fun ds hl => by have hl : ds.length = Tryz.f3.params.toList.length := hl; rw [Tryz.params3] at hl; match ds, hl with | [d0, d1, d2], _ => rfl) hW hk⟩

theorem btreeNil_holds : Rows.BtreeNilSaid :=
  OpenClaim.holds_of_wide 3 Tryz.f3 rfl rfl rfl rfl rfl rfl rfl ⟨rfl, rfl, rfl, rfl, rfl⟩ rfl rfl rfl rfl rfl (by kernel_rfl) Tryz.func3 (by kernel_rfl)
    (of_decide_eq_true (by kernel_rfl)) (by unfold Func.isWrapper; first | (rw [if_pos (by decide +kernel)]; kernel_rfl) | (rw [if_neg (by decide +kernel)]; exact ⟨rfl, rfl⟩))
    (fun os started H enc _ => btreeNil_lifted os started H enc)

end Go.Proofs.YtblopagmddgkjaaGreat
