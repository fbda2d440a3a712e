/- WHATEVER THE LINES AND TEXTS, WordsTells, WordsPlain and WordsQuotes return true. Conditions: none. -/
import Derived.Test.YtdhbiimmifedmaaRows
import Derived.Test.YtdhbiimmifedmaaPa
namespace Go.Proofs.Ytdhbiimmifedmaa
open Go.ChangeShapes Go.WideShapes Go.ChangeAt Go.RowKit
set_option linter.unusedVariables false
set_option linter.unusedSimpArgs false
theorem own' : ownKnob Try.prog.godebug = none := by kernel_rfl

set_option maxRecDepth 100000 in
theorem wordsTells_lifted (os : Os) (started : os.Started) (H : Type) (enc : TypeId × Value → H) :
    ReturnsInHanded {} Try.checked os 6 .any (Rows.wordsTellsSpec.pre6 enc Try.prog Try.f6 Rows.wordsTellsRow.domain false) (Rows.wordsTellsSpec.post enc Try.prog Try.f6 false true false false) := by
  refine returnsInHanded_of_change (C := Try.checked) own' started (by kernel_rfl) Try.func6
    (ChangeSpec.witness6 (enc := enc) (C := Try.checked) false ⟨#[], #[.slice none 0 0], []⟩ 8 (by kernel_rfl) (by kernel_rfl) (by kernel_rfl) (by kernel_rfl)) ?_
  intro W base args ds gs before hval hW _ _
  obtain ⟨p, q, hA, hV, hp, hz, hn⟩ := id hW
  have hA' : DataW.TrodAll enc Try.prog W 0 (fun _ => true) true Try.f6.params.toList args.toList ds p := hA
  rw [Try.params6] at hA'
  obtain ⟨x, hx, hr⟩ := (Go.Ai.argsL).read enc W _ base args.toList ds p (fun j t v h1 h2 => hval j t v (by rw [Try.params6]; simpa using h1) (by simpa using h2)) hA'
  refine (Go.Ai.law_run Go.Ai.E_ok Go.Ai.mixed Go.Ai.body6 (Go.Ai.f6 _ _ _ hx.1.nil _ _) hr).mono fun e W' ⟨he, hk⟩ => ?_
  exact ⟨_, he, Go.Ai.law_post Go.Ai.kids' Go.Ai.full' (by show ∀ t ∈ Try.f6.params.toList, _; rw [Try.params6]; decide +kernel) rfl (by kernel_rfl) Try.underlying4 (fun ds hl => by have hl : ds.length = Try.f6.params.toList.length := hl; rw [Try.params6] at hl; match ds, hl with | [d0], _ => rfl) hW hk⟩

theorem wordsTells_holds : Rows.WordsTellsSaid :=
  OpenClaim.holds_of_wide 6 Try.f6 rfl rfl rfl rfl rfl rfl rfl ⟨rfl, rfl, rfl, rfl, rfl⟩ rfl rfl rfl rfl rfl (by kernel_rfl) Try.func6 (by kernel_rfl)
    (of_decide_eq_true (by kernel_rfl)) (by unfold Func.isWrapper; first | (rw [if_pos (by decide +kernel)]; kernel_rfl) | (rw [if_neg (by decide +kernel)]; exact ⟨rfl, rfl⟩))
    (fun os started H enc _ => wordsTells_lifted os started H enc)

set_option maxRecDepth 100000 in
theorem wordsPlain_lifted (os : Os) (started : os.Started) (H : Type) (enc : TypeId × Value → H) :
    ReturnsInHanded {} Try.checked os 7 .any (Rows.wordsPlainSpec.pre6 enc Try.prog Try.f7 Rows.wordsPlainRow.domain false) (Rows.wordsPlainSpec.post enc Try.prog Try.f7 false true false false) := by
  refine returnsInHanded_of_change (C := Try.checked) own' started (by kernel_rfl) Try.func7
    (ChangeSpec.witness6 (enc := enc) (C := Try.checked) false ⟨#[], #[.string (.mk #[]), .string (.mk #[]), .int .i64 0], []⟩ 8 (by kernel_rfl) (by kernel_rfl) (by kernel_rfl) (by kernel_rfl)) ?_
  intro W base args ds gs before hval hW _ _
  obtain ⟨p, q, hA, hV, hp, hz, hn⟩ := id hW
  have hA' : DataW.TrodAll enc Try.prog W 0 (fun _ => true) true Try.f7.params.toList args.toList ds p := hA
  rw [Try.params7] at hA'
  obtain ⟨x, hx, hr⟩ := (Go.Ai.argsSSI).read enc W _ base args.toList ds p (fun j t v h1 h2 => hval j t v (by rw [Try.params7]; simpa using h1) (by simpa using h2)) hA'
  refine (Go.Ai.law_run Go.Ai.E_ok Go.Ai.mixed Go.Ai.body7 (Go.Ai.f7 _ _ _ (Go.Ai.int_lo hx.2.2.1).1 (Go.Ai.int_lo hx.2.2.1).2 _ _) hr).mono fun e W' ⟨he, hk⟩ => ?_
  exact ⟨_, he, Go.Ai.law_post Go.Ai.kids' Go.Ai.full' (by show ∀ t ∈ Try.f7.params.toList, _; rw [Try.params7]; decide +kernel) rfl (by kernel_rfl) Try.underlying4 (fun ds hl => by have hl : ds.length = Try.f7.params.toList.length := hl; rw [Try.params7] at hl; match ds, hl with | [d0, d1, d2], _ => rfl) hW hk⟩

theorem wordsPlain_holds : Rows.WordsPlainSaid :=
  OpenClaim.holds_of_wide 7 Try.f7 rfl rfl rfl rfl rfl rfl rfl ⟨rfl, rfl, rfl, rfl, rfl⟩ rfl rfl rfl rfl rfl (by kernel_rfl) Try.func7 (by kernel_rfl)
    (of_decide_eq_true (by kernel_rfl)) (by unfold Func.isWrapper; first | (rw [if_pos (by decide +kernel)]; kernel_rfl) | (rw [if_neg (by decide +kernel)]; exact ⟨rfl, rfl⟩))
    (fun os started H enc _ => wordsPlain_lifted os started H enc)

set_option maxRecDepth 100000 in
theorem wordsQuotes_lifted (os : Os) (started : os.Started) (H : Type) (enc : TypeId × Value → H) :
    ReturnsInHanded {} Try.checked os 8 .any (Rows.wordsQuotesSpec.pre6 enc Try.prog Try.f8 Rows.wordsQuotesRow.domain false) (Rows.wordsQuotesSpec.post enc Try.prog Try.f8 false true false false) := by
  refine returnsInHanded_of_change (C := Try.checked) own' started (by kernel_rfl) Try.func8
    (ChangeSpec.witness6 (enc := enc) (C := Try.checked) false ⟨#[], #[.string (.mk #[]), .bool false], []⟩ 8 (by kernel_rfl) (by kernel_rfl) (by kernel_rfl) (by kernel_rfl)) ?_
  intro W base args ds gs before hval hW _ _
  obtain ⟨p, q, hA, hV, hp, hz, hn⟩ := id hW
  have hA' : DataW.TrodAll enc Try.prog W 0 (fun _ => true) true Try.f8.params.toList args.toList ds p := hA
  rw [Try.params8] at hA'
  obtain ⟨x, hx, hr⟩ := (Go.Ai.argsSB).read enc W _ base args.toList ds p (fun j t v h1 h2 => hval j t v (by rw [Try.params8]; simpa using h1) (by simpa using h2)) hA'
  refine (Go.Ai.law_run Go.Ai.E_ok Go.Ai.mixed Go.Ai.body8 (Go.Ai.f8 _ _ _ _) hr).mono fun e W' ⟨he, hk⟩ => ?_
  exact ⟨_, he, Go.Ai.law_post Go.Ai.kids' Go.Ai.full' (by show ∀ t ∈ Try.f8.params.toList, _; rw [Try.params8]; decide +kernel) rfl (by kernel_rfl) Try.underlying4 (fun ds hl => by have hl : ds.length = Try.f8.params.toList.length := hl; rw [Try.params8] at hl; match ds, hl with | [d0, d1], _ => rfl) hW hk⟩

theorem wordsQuotes_holds : Rows.WordsQuotesSaid :=
  OpenClaim.holds_of_wide 8 Try.f8 rfl rfl rfl rfl rfl rfl rfl ⟨rfl, rfl, rfl, rfl, rfl⟩ rfl rfl rfl rfl rfl (by kernel_rfl) Try.func8 (by kernel_rfl)
    (of_decide_eq_true (by kernel_rfl)) (by unfold Func.isWrapper; first | (rw [if_pos (by decide +kernel)]; kernel_rfl) | (rw [if_neg (by decide +kernel)]; exact ⟨rfl, rfl⟩))
    (fun os started H enc _ => wordsQuotes_lifted os started H enc)

end Go.Proofs.Ytdhbiimmifedmaa
