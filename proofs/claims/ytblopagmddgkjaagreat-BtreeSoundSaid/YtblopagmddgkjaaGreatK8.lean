/- WHATEVER THE SECTORS AND THE CALLS, BtreeSound returns true, and they read as they did. Conditions: none. -/
import Derived.Test.YtblopagmddgkjaaGreatRows
import Derived.Test.YtblopagmddgkjaaGreatK7
set_option linter.unusedVariables false
set_option linter.unusedSimpArgs false
namespace Go.Proofs.YtblopagmddgkjaaGreat
open Go.ChangeShapes Go.WideShapes Go.ChangeAt Go.RowKit
theorem ad9:ownKnob Tryz.prog.godebug=none:=by kernel_rfl
set_option maxRecDepth 100000 in
theorem btreeSound_lifted (os:Os) (started:os.Started) (H:Type) (enc:TypeId×Value->H) :
  ReturnsInHanded {} Tryz.checked os 6 .any (Rows.btreeSoundSpec.pre6 enc Tryz.prog Tryz.f6 Rows.btreeSoundRow.domain false) (Rows.btreeSoundSpec.post enc Tryz.prog Tryz.f6 false true false false):=by
 refine returnsInHanded_of_change (C:=Tryz.checked) ad9 started (by kernel_rfl) Tryz.func6
  (ChangeSpec.witness6 (enc:=enc) (C:=Tryz.checked) false ⟨#[],#[.int .i64 0,.slice none 0 0],[]⟩ 8 (by kernel_rfl) (by kernel_rfl) (by kernel_rfl) (by kernel_rfl)) ?_
 intro W base args ds gs before G6 hW _ _
 obtain ⟨p,q,hA,hV,hp,hz,hn⟩:=id hW
 have hA':DataW.TrodAll enc Tryz.prog W 0 (fun _=>true) true Tryz.f6.params.toList args.toList ds p:=hA
 rw[Tryz.params6]at hA'
 obtain ⟨x,hx,hr⟩:=(Go.Ai.afK).read enc W _ base args.toList ds p (fun j t v h1 h2=>G6 j t v (by rw[Tryz.params6];simpa using h1) (by simpa using h2)) hA'
 refine (Go.Ai.RK Go.Ai.afT Go.Ai.mixed Go.Ai.UH.1 (Go.Ai.f6 x.1 (Go.Ai.V2 hx.1) x.2.1.xs _ (Go.Ai.eV.of hx.2.1) (Go.Ai.S6 hx.2.1) _ _) hr).mono fun e W' ⟨he,hk⟩ => ?_
 exact ⟨_,he,Go.Ai.Nf Go.Ai.aaA Go.Ai.abD (by show ∀t∈Tryz.f6.params.toList,_;rw[Tryz.params6];decide +kernel) rfl (by kernel_rfl) Tryz.underlying4 (fun ds hl=>by have hl:ds.length=Tryz.f6.params.toList.length:=hl;rw[Tryz.params6]at hl;match ds,hl with|[d0,d1],_=>rfl) hW hk⟩
theorem btreeSound_holds:Rows.BtreeSoundSaid :=
 OpenClaim.holds_of_wide 6 Tryz.f6 rfl rfl rfl rfl rfl rfl rfl ⟨rfl,rfl,rfl,rfl,rfl⟩ rfl rfl rfl rfl rfl (by kernel_rfl) Tryz.func6 (by kernel_rfl)
  (of_decide_eq_true (by kernel_rfl)) (by unfold Func.isWrapper;first|(rw[if_pos (by decide +kernel)];kernel_rfl)|(rw[if_neg (by decide +kernel)];exact ⟨rfl,rfl⟩))
  (fun os started H enc _=>btreeSound_lifted os started H enc)
end Go.Proofs.YtblopagmddgkjaaGreat
