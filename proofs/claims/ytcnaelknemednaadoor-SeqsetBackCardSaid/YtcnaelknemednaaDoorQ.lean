/- WHATEVER THE SPANS AND THE TEXT, SeqsetPrints and SeqsetBack return true. Conditions: the tables of internal/strconv and math/bits hold what the program's text lays, which the cards tie. -/
import Derived.Test.YtcnaelknemednaaDoorRows
import Derived.Test.YtcnaelknemednaaDoorCards
import Derived.Test.YtcnaelknemednaaDoorTie
import Derived.Test.YtcnaelknemednaaDoorP
import Derived.ProofKit
import Derived.OpenShut
import Derived.LaidMore
import Derived.Lay
import Derived.SevenTiedAt
import Derived.Stop.Joined
namespace Go.Proofs.YtcnaelknemednaaDoor
open Go.ChangeShapes Go.WideShapes Go.ChangeAt Go.RowKit
set_option linter.unusedVariables false
set_option linter.unusedSimpArgs false
theorem own' : ownKnob Tryd.prog.godebug = none := by kernel_rfl
abbrev laidT : List (String × DataW Unit) := [("math/bits.deBruijn32tab", Rows.laid_math_bits_deBruijn32tab), ("math/bits.deBruijn64tab", Rows.laid_math_bits_deBruijn64tab), ("internal/strconv.uint64pow10", Rows.laid_internal_strconv_uint64pow10)]
theorem pow_tab : laidT.filter (fun x => x.1 == "internal/strconv.uint64pow10") = ("internal/strconv.uint64pow10", Lib.tabData .u64 Lib.pow10Tab) :: [] := by
  rw [Lib.tabData, Lib.pow10Tab, List.map_map]
  rfl
theorem glok_laid {W : World} (h : laidMetH Tryd.prog laidT W) : Go.Ai.GlOk (Go.Ai.topCx W) := by
  rw [MakeChecks.laidMetH_plain _ _ _ (by kernel_rfl)] at h
  have h2 := h.filter fun x => x.1 == "internal/strconv.uint64pow10"
  rw [pow_tab] at h2
  exact Go.Ai.glok_of (Lib.tabIs_of_head Go.Ai.pow_named Go.Ai.glob1 Tryd.underlying107 Tryd.underlying94 Go.Ai.cells94 Go.Ai.cells107 h2)

set_option maxRecDepth 100000 in
theorem seqsetPrints_lifted (os : Os) (started : os.Started) (H : Type) (enc : TypeId × Value → H) :
    ReturnsInHanded {} Tryd.checked os 3 .any (fun w args => (Rows.seqsetPrintsSpec.pre enc Tryd.prog Tryd.f3 Rows.seqsetPrintsRow.domain false w args ∧ laidMetH Tryd.prog laidT w) ∧ sizedMet enc Tryd.prog Tryd.f3 (OpenSpec.ofChange Rows.seqsetPrintsSpec) false w args)
      (Rows.seqsetPrintsSpec.post enc Tryd.prog Tryd.f3 false true false false) := by
  refine returnsInHanded_of_change_and (C := Tryd.checked) (X := fun w _ => laidMetH Tryd.prog laidT w) (fun _ _ _ hh h => h.of_heap hh) own' started (by kernel_rfl) Tryd.func3
    (ChangeSpec.witness_shaped (enc := enc) (C := Tryd.checked) (os := os) (X := fun w _ => laidMetH Tryd.prog laidT w) false (World.laidAll Tryd.prog os laidT) #[.slice none 0 0] 8 (World.laidAll_os _ _ _)
      (World.shaped_of_ZipB (by kernel_rfl) (by kernel_rfl)) (by kernel_rfl) (by kernel_rfl) (by kernel_rfl)
      (by rw [MakeChecks.laidMetH_plain _ _ _ (by kernel_rfl)]; exact laidMet_laidAll _ (by kernel_rfl) (by kernel_rfl))) ?_
  intro W base args ds gs before hval hW _ _ hL _
  obtain ⟨p, q, hA, hV, hp, hz, hn⟩ := id hW
  have hA' : DataW.TrodAll enc Tryd.prog W 0 (fun _ => true) true Tryd.f3.params.toList args.toList ds p := hA
  rw [Tryd.params3] at hA'
  obtain ⟨x, hx, hr⟩ := (Go.Ai.argsL).read enc W _ base args.toList ds p (fun j t v h1 h2 => hval j t v (by rw [Tryd.params3]; simpa using h1) (by simpa using h2)) hA'
  refine (Go.Ai.law_runG Go.Ai.E_ok Go.Ai.mixed Go.Ai.body3 (Go.Ai.f3 x.1.xs _ (Go.Ai.SlA.of hx.1) _ _) (glok_laid hL) hr).mono fun e W' ⟨he, hk⟩ => ?_
  exact ⟨_, he, Go.Ai.law_post Go.Ai.kids' Go.Ai.full' (by show ∀ t ∈ Tryd.f3.params.toList, _; rw [Tryd.params3]; decide +kernel) rfl (by kernel_rfl) Tryd.underlying4 (fun ds hl => by have hl : ds.length = Tryd.f3.params.toList.length := hl; rw [Tryd.params3] at hl; match ds, hl with | [d0], _ => rfl) hW hk⟩

theorem seqsetPrints_holds : Rows.SeqsetPrintsSaid :=
  OpenClaim.holds_of_wide 3 Tryd.f3 rfl rfl rfl rfl rfl rfl rfl ⟨rfl, rfl, rfl, rfl, rfl⟩ rfl rfl rfl rfl rfl (by kernel_rfl) Tryd.func3 (by kernel_rfl)
    (of_decide_eq_true (by kernel_rfl)) (by unfold Func.isWrapper; first | (rw [if_pos (by decide +kernel)]; kernel_rfl) | (rw [if_neg (by decide +kernel)]; exact ⟨rfl, rfl⟩))
    (fun os started H enc _ => seqsetPrints_lifted os started H enc)

theorem seqsetPrints_card : Rows.SeqsetPrintsCardSaid :=
  Claim7.holds_tied_plain_at .later [] [.data, .data, .data] true (true, "d3d06213536ffe60d20d2f1bd9065fee0d129552bbc8f30cf5e9861c47faa411") false seqsetPrints_holds (fun _ h => by cases h) (by kernel_rfl) (fun _ h => by cases h) seqsetPrints_row_tie rfl ⟨rfl, rfl⟩ (by kernel_rfl) rfl
    (fun f fn hf hfn => by
      obtain rfl : f = 3 := Option.some.inj ((show Tryd.prog.funcNamed "haversack/haversacklaw12.SeqsetPrints" = some 3 by kernel_rfl).symm.trans hf) |>.symm
      obtain rfl : fn = Tryd.f3 := (Option.some.inj (Tryd.func3.symm.trans hfn)).symm
      exact ⟨by kernel_rfl, fun j t ht => by
        rw [Tryd.params3] at ht
        have hm : t ∈ [22] := by simpa using Array.mem_of_getElem? ht
        have hall : ([22].all fun u => !Tryd.prog.wantsStandIn u) = true := by kernel_rfl
        exact (show Tryd.prog.wantsStandIn t = false by simpa using List.all_eq_true.1 hall t hm)⟩)
    (by kernel_rfl)
set_option maxRecDepth 100000 in
theorem seqsetBack_lifted (os : Os) (started : os.Started) (H : Type) (enc : TypeId × Value → H) :
    ReturnsInHanded {} Tryd.checked os 4 .any (fun w args => (Rows.seqsetBackSpec.pre enc Tryd.prog Tryd.f4 Rows.seqsetBackRow.domain false w args ∧ laidMetH Tryd.prog laidT w) ∧ sizedMet enc Tryd.prog Tryd.f4 (OpenSpec.ofChange Rows.seqsetBackSpec) false w args)
      (Rows.seqsetBackSpec.post enc Tryd.prog Tryd.f4 false true false false) := by
  refine returnsInHanded_of_change_and (C := Tryd.checked) (X := fun w _ => laidMetH Tryd.prog laidT w) (fun _ _ _ hh h => h.of_heap hh) own' started (by kernel_rfl) Tryd.func4
    (ChangeSpec.witness_shaped (enc := enc) (C := Tryd.checked) (os := os) (X := fun w _ => laidMetH Tryd.prog laidT w) false (World.laidAll Tryd.prog os laidT) #[.slice none 0 0, .string ⟨#[]⟩] 8 (World.laidAll_os _ _ _)
      (World.shaped_of_ZipB (by kernel_rfl) (by kernel_rfl)) (by kernel_rfl) (by kernel_rfl) (by kernel_rfl)
      (by rw [MakeChecks.laidMetH_plain _ _ _ (by kernel_rfl)]; exact laidMet_laidAll _ (by kernel_rfl) (by kernel_rfl))) ?_
  intro W base args ds gs before hval hW _ _ hL _
  obtain ⟨p, q, hA, hV, hp, hz, hn⟩ := id hW
  have hA' : DataW.TrodAll enc Tryd.prog W 0 (fun _ => true) true Tryd.f4.params.toList args.toList ds p := hA
  rw [Tryd.params4] at hA'
  obtain ⟨x, hx, hr⟩ := (Go.Ai.argsLS).read enc W _ base args.toList ds p (fun j t v h1 h2 => hval j t v (by rw [Tryd.params4]; simpa using h1) (by simpa using h2)) hA'
  refine (Go.Ai.law_runG Go.Ai.E_ok Go.Ai.mixed Go.Ai.body4 (Go.Ai.f4 x.1.xs _ (Go.Ai.SlA.of hx.1) x.2.1 _ _) (glok_laid hL) hr).mono fun e W' ⟨he, hk⟩ => ?_
  exact ⟨_, he, Go.Ai.law_post Go.Ai.kids' Go.Ai.full' (by show ∀ t ∈ Tryd.f4.params.toList, _; rw [Tryd.params4]; decide +kernel) rfl (by kernel_rfl) Tryd.underlying4 (fun ds hl => by have hl : ds.length = Tryd.f4.params.toList.length := hl; rw [Tryd.params4] at hl; match ds, hl with | [d0, d1], _ => rfl) hW hk⟩

theorem seqsetBack_holds : Rows.SeqsetBackSaid :=
  OpenClaim.holds_of_wide 4 Tryd.f4 rfl rfl rfl rfl rfl rfl rfl ⟨rfl, rfl, rfl, rfl, rfl⟩ rfl rfl rfl rfl rfl (by kernel_rfl) Tryd.func4 (by kernel_rfl)
    (of_decide_eq_true (by kernel_rfl)) (by unfold Func.isWrapper; first | (rw [if_pos (by decide +kernel)]; kernel_rfl) | (rw [if_neg (by decide +kernel)]; exact ⟨rfl, rfl⟩))
    (fun os started H enc _ => seqsetBack_lifted os started H enc)

theorem seqsetBack_card : Rows.SeqsetBackCardSaid :=
  Claim7.holds_tied_plain_at .later [] [.data, .data, .data] true (true, "d3d06213536ffe60d20d2f1bd9065fee0d129552bbc8f30cf5e9861c47faa411") false seqsetBack_holds (fun _ h => by cases h) (by kernel_rfl) (fun _ h => by cases h) seqsetBack_row_tie rfl ⟨rfl, rfl⟩ (by kernel_rfl) rfl
    (fun f fn hf hfn => by
      obtain rfl : f = 4 := Option.some.inj ((show Tryd.prog.funcNamed "haversack/haversacklaw12.SeqsetBack" = some 4 by kernel_rfl).symm.trans hf) |>.symm
      obtain rfl : fn = Tryd.f4 := (Option.some.inj (Tryd.func4.symm.trans hfn)).symm
      exact ⟨by kernel_rfl, fun j t ht => by
        rw [Tryd.params4] at ht
        have hm : t ∈ [22, 9] := by simpa using Array.mem_of_getElem? ht
        have hall : ([22, 9].all fun u => !Tryd.prog.wantsStandIn u) = true := by kernel_rfl
        exact (show Tryd.prog.wantsStandIn t = false by simpa using List.all_eq_true.1 hall t hm)⟩)
    (by kernel_rfl)
end Go.Proofs.YtcnaelknemednaaDoor
