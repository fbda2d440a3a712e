/- WHATEVER THE TEXT, SeqsetParses returns true. Conditions: none. -/
import Derived.Test.YtcnaelknemednaaRows
import Derived.Test.YtcnaelknemednaaP
import Derived.Test.YtcnaelknemednaaUa
namespace Go.Proofs.Ytcnaelknemednaa
open Go.ChangeShapes Go.WideShapes Go.ChangeAt Go.RowKit
set_option linter.unusedVariables false
set_option linter.unusedSimpArgs false
theorem own' : ownKnob Try.prog.godebug = none := by kernel_rfl

set_option maxRecDepth 100000 in
theorem seqsetParses_lifted (os : Os) (started : os.Started) (H : Type) (enc : TypeId × Value → H) :
    ReturnsInHanded {} Try.checked os 3 .any (Rows.seqsetParsesSpec.pre6 enc Try.prog Try.f3 Rows.seqsetParsesRow.domain false) (Rows.seqsetParsesSpec.post enc Try.prog Try.f3 false true false false) := by
  refine returnsInHanded_of_change (C := Try.checked) own' started (by kernel_rfl) Try.func3
    (ChangeSpec.witness6 (enc := enc) (C := Try.checked) false ⟨#[], #[.string (.mk #[])], []⟩ 8 (by kernel_rfl) (by kernel_rfl) (by kernel_rfl) (by kernel_rfl)) ?_
  intro W base args ds gs before hval hW _ _
  obtain ⟨p, q, hA, hV, hp, hz, hn⟩ := id hW
  have hA' : DataW.TrodAll enc Try.prog W 0 (fun _ => true) true Try.f3.params.toList args.toList ds p := hA
  rw [Try.params3] at hA'
  obtain ⟨x, hx, hr⟩ := (Go.Ai.argsS).read enc W _ base args.toList ds p (fun j t v h1 h2 => hval j t v (by rw [Try.params3]; simpa using h1) (by simpa using h2)) hA'
  refine (Go.Ai.law_run Go.Ai.E_ok Go.Ai.mixed Go.Ai.body3 (Go.Ai.f3 _ _ _) hr).mono fun e W' ⟨he, hk⟩ => ?_
  exact ⟨_, he, Go.Ai.law_post Go.Ai.kids' Go.Ai.full' (by show ∀ t ∈ Try.f3.params.toList, _; rw [Try.params3]; decide +kernel) rfl (by kernel_rfl) Try.underlying4 (fun ds hl => by have hl : ds.length = Try.f3.params.toList.length := hl; rw [Try.params3] at hl; match ds, hl with | [d0], _ => rfl) hW hk⟩

theorem seqsetParses_holds : Rows.SeqsetParsesSaid :=
  OpenClaim.holds_of_wide 3 Try.f3 rfl rfl rfl rfl rfl rfl rfl ⟨rfl, rfl, rfl, rfl, rfl⟩ rfl rfl rfl rfl rfl (by kernel_rfl) Try.func3 (by kernel_rfl)
    (of_decide_eq_true (by kernel_rfl)) (by unfold Func.isWrapper; first | (rw [if_pos (by decide +kernel)]; kernel_rfl) | (rw [if_neg (by decide +kernel)]; exact ⟨rfl, rfl⟩))
    (fun os started H enc _ => seqsetParses_lifted os started H enc)

end Go.Proofs.Ytcnaelknemednaa
