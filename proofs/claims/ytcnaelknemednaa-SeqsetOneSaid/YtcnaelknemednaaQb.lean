/- WHATEVER THE SPANS AND NUMBERS, SeqsetOne returns true. Conditions: none. -/
import Derived.Test.YtcnaelknemednaaRows
import Derived.Test.YtcnaelknemednaaP
namespace Go.Proofs.Ytcnaelknemednaa
open Go.ChangeShapes Go.WideShapes Go.ChangeAt Go.RowKit
set_option linter.unusedVariables false
set_option linter.unusedSimpArgs false
theorem own' : ownKnob Try.prog.godebug = none := by kernel_rfl

set_option maxRecDepth 100000 in
theorem seqsetOne_lifted (os : Os) (started : os.Started) (H : Type) (enc : TypeId × Value → H) :
    ReturnsInHanded {} Try.checked os 6 .any (Rows.seqsetOneSpec.pre6 enc Try.prog Try.f6 Rows.seqsetOneRow.domain false) (Rows.seqsetOneSpec.post enc Try.prog Try.f6 false true false false) := by
  refine returnsInHanded_of_change (C := Try.checked) own' started (by kernel_rfl) Try.func6
    (ChangeSpec.witness6 (enc := enc) (C := Try.checked) false ⟨#[], #[.slice none 0 0, .int .i64 0, .slice none 0 0], []⟩ 8 (by kernel_rfl) (by kernel_rfl) (by kernel_rfl) (by kernel_rfl)) ?_
  intro W base args ds gs before hval hW _ _
  obtain ⟨p, q, hA, hV, hp, hz, hn⟩ := id hW
  have hA' : DataW.TrodAll enc Try.prog W 0 (fun _ => true) true Try.f6.params.toList args.toList ds p := hA
  rw [Try.params6] at hA'
  obtain ⟨x, hx, hr⟩ := (Go.Ai.argsLIN).read enc W _ base args.toList ds p (fun j t v h1 h2 => hval j t v (by rw [Try.params6]; simpa using h1) (by simpa using h2)) hA'
  refine (Go.Ai.law_run Go.Ai.E_ok Go.Ai.mixed Go.Ai.body6 (Go.Ai.f6 x.1.xs _ (Go.Ai.SlA.of hx.1) x.2.2.1.xs _ (Go.Ai.SlA.of hx.2.2.1) x.2.1 _ _) hr).mono fun e W' ⟨he, hk⟩ => ?_
  exact ⟨_, he, Go.Ai.law_post Go.Ai.kids' Go.Ai.full' (by show ∀ t ∈ Try.f6.params.toList, _; rw [Try.params6]; decide +kernel) rfl (by kernel_rfl) Try.underlying4 (fun ds hl => by have hl : ds.length = Try.f6.params.toList.length := hl; rw [Try.params6] at hl; match ds, hl with | [d0, d1, d2], _ => rfl) hW hk⟩

theorem seqsetOne_holds : Rows.SeqsetOneSaid :=
  OpenClaim.holds_of_wide 6 Try.f6 rfl rfl rfl rfl rfl rfl rfl ⟨rfl, rfl, rfl, rfl, rfl⟩ rfl rfl rfl rfl rfl (by kernel_rfl) Try.func6 (by kernel_rfl)
    (of_decide_eq_true (by kernel_rfl)) (by unfold Func.isWrapper; first | (rw [if_pos (by decide +kernel)]; kernel_rfl) | (rw [if_neg (by decide +kernel)]; exact ⟨rfl, rfl⟩))
    (fun os started H enc _ => seqsetOne_lifted os started H enc)

end Go.Proofs.Ytcnaelknemednaa
