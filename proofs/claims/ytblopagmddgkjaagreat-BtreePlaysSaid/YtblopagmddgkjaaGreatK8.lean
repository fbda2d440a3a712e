/- WHATEVER THE SECTORS AND THE CALLS, BtreePlays returns true, and they read as they did. Conditions: none. -/
import Derived.Test.YtblopagmddgkjaaGreatRows
import Derived.Test.YtblopagmddgkjaaGreatK7
set_option linter.unusedVariables false
set_option linter.unusedSimpArgs false
namespace Go.Proofs.YtblopagmddgkjaaGreat
open Go.ChangeShapes Go.WideShapes Go.ChangeAt Go.RowKit
theorem adX:ownKnob Tryz.prog.godebug=none:=by kernel_rfl
set_option maxRecDepth 100000 in
theorem btreePlays_lifted (os:Os) (started:os.Started) (H:Type) (enc:TypeId×Value->H) :
  ReturnsInHanded {} Tryz.checked os 4 .any (Rows.btreePlaysSpec.pre6 enc Tryz.prog Tryz.f4 Rows.btreePlaysRow.domain false) (Rows.btreePlaysSpec.post enc Tryz.prog Tryz.f4 false true false false):=by
 refine returnsInHanded_of_change (C:=Tryz.checked) adX started (by kernel_rfl) Tryz.func4
  (ChangeSpec.witness6 (enc:=enc) (C:=Tryz.checked) false ⟨#[],#[.int .i64 0,.slice none 0 0],[]⟩ 8 (by kernel_rfl) (by kernel_rfl) (by kernel_rfl) (by kernel_rfl)) ?_
 intro W base args ds gs before Nf hW _ _
 obtain ⟨p,q,hA,hV,hp,hz,hn⟩:=id hW
 have hA':DataW.TrodAll enc Tryz.prog W 0 (fun _=>true) true Tryz.f4.params.toList args.toList ds p:=hA
 rw[Tryz.params4]at hA'
 obtain ⟨x,hx,hr⟩:=(Go.Ai.Xq).read enc W _ base args.toList ds p (fun j t v h1 h2=>Nf j t v (by rw[Tryz.params4];simpa using h1) (by simpa using h2)) hA'
 refine (Go.Ai.Rr Go.Ai.afG Go.Ai.mixed Go.Ai.Po.1 (Go.Ai.f4 x.1 (Go.Ai.VE hx.1) x.2.1.xs _ (Go.Ai.fa.of hx.2.1) (Go.Ai.SN hx.2.1) _ _) hr).mono fun e W' ⟨he,hk⟩ => ?_
 exact ⟨_,he,Go.Ai.MU Go.Ai.aan Go.Ai.abq (by show ∀t∈Tryz.f4.params.toList,_;rw[Tryz.params4];decide +kernel) rfl (by kernel_rfl) Tryz.underlying4 (fun ds hl=>by have hl:ds.length=Tryz.f4.params.toList.length:=hl;rw[Tryz.params4]at hl;match ds,hl with|[d0,d1],_=>rfl) hW hk⟩
theorem btreePlays_holds:Rows.BtreePlaysSaid :=
 OpenClaim.holds_of_wide 4 Tryz.f4 rfl rfl rfl rfl rfl rfl rfl ⟨rfl,rfl,rfl,rfl,rfl⟩ rfl rfl rfl rfl rfl (by kernel_rfl) Tryz.func4 (by kernel_rfl)
  (of_decide_eq_true (by kernel_rfl)) (by unfold Func.isWrapper;first|(rw[if_pos (by decide +kernel)];kernel_rfl)|(rw[if_neg (by decide +kernel)];exact ⟨rfl,rfl⟩))
  (fun os started H enc _=>btreePlays_lifted os started H enc)
end Go.Proofs.YtblopagmddgkjaaGreat
