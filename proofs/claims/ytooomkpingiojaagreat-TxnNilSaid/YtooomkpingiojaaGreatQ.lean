/- WHATEVER THE KEY, THE VALUE AND THE NUMBER, TxnNil returns true, and they read as they did. Conditions: none. -/
import Derived.Test.YtooomkpingiojaaGreatRows
import Derived.Test.YtooomkpingiojaaGreatP
namespace Go.Proofs.YtooomkpingiojaaGreat
open Go.ChangeShapes Go.WideShapes Go.ChangeAt Go.RowKit
set_option linter.unusedVariables false
set_option linter.unusedSimpArgs false
theorem own' : ownKnob Tryz.prog.godebug = none := by kernel_rfl

set_option maxRecDepth 100000 in
theorem txnNil_lifted (os : Os) (started : os.Started) (H : Type) (enc : TypeId × Value → H) :
    ReturnsInHanded {} Tryz.checked os 7 .any (Rows.txnNilSpec.pre6 enc Tryz.prog Tryz.f7 Rows.txnNilRow.domain false) (Rows.txnNilSpec.post enc Tryz.prog Tryz.f7 false true false false) := by
  refine returnsInHanded_of_change (C := Tryz.checked) own' started (by kernel_rfl) Tryz.func7
    (ChangeSpec.witness6 (enc := enc) (C := Tryz.checked) false ⟨#[], #[.string ⟨#[]⟩, .string ⟨#[]⟩, .int .i64 0], []⟩ 8 (by kernel_rfl) (by kernel_rfl) (by kernel_rfl) (by kernel_rfl)) ?_
  intro W base args ds gs before hval hW _ _
  obtain ⟨p, q, hA, hV, hp, hz, hn⟩ := id hW
  have hA' : DataW.TrodAll enc Tryz.prog W 0 (fun _ => true) true Tryz.f7.params.toList args.toList ds p := hA
  rw [Tryz.params7] at hA'
  obtain ⟨x, hx, hr⟩ := (Go.Ai.argsSSI).read enc W _ base args.toList ds p (fun j t v h1 h2 => hval j t v (by rw [Tryz.params7]; simpa using h1) (by simpa using h2)) hA'
  refine (Go.Ai.law_run Go.Ai.E1_ok Go.Ai.mixed Go.Ai.body7 ((Go.Ai.f7 _ _ _ _ _)) hr).mono fun e W' ⟨he, hk⟩ => ?_
  exact ⟨_, he, Go.Ai.law_post Go.Ai.kids' Go.Ai.full' (by show ∀ t ∈ Tryz.f7.params.toList, _; rw [Tryz.params7]; decide +kernel) rfl (by kernel_rfl) Tryz.underlying4 (fun ds hl => by have hl : ds.length = Tryz.f7.params.toList.length := hl; rw [Tryz.params7] at hl; match ds, hl with | [d0, d1, d2], _ => rfl) hW hk⟩

theorem txnNil_holds : Rows.TxnNilSaid :=
  OpenClaim.holds_of_wide 7 Tryz.f7 rfl rfl rfl rfl rfl rfl rfl ⟨rfl, rfl, rfl, rfl, rfl⟩ rfl rfl rfl rfl rfl (by kernel_rfl) Tryz.func7 (by kernel_rfl)
    (of_decide_eq_true (by kernel_rfl)) (by unfold Func.isWrapper; first | (rw [if_pos (by decide +kernel)]; kernel_rfl) | (rw [if_neg (by decide +kernel)]; exact ⟨rfl, rfl⟩))
    (fun os started H enc _ => txnNil_lifted os started H enc)

end Go.Proofs.YtooomkpingiojaaGreat
