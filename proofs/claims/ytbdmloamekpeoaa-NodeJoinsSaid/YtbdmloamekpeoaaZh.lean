/- NodeJoins, walked. -/
import Derived.Test.YtbdmloamekpeoaaZg
namespace Go.Ai
set_option linter.unusedVariables false
set_option linter.unusedSimpArgs false

set_option maxHeartbeats 1000000 in
theorem f6 (n : Nd) (x : AV) (hx : NdA n x) (hp nx) : Ret E 6 [x] hp nx (.v (.bool true)) hp nx .p := by
  obtain ⟨b, hb, e10'⟩ := f10 n x hx
  have hx0 := hx
  obtain ⟨b0, k1, k2, k3, k4, i1, i2, i3, i4, d1, d2, d3, d4, hxe⟩ := hx.shape
  have hcl : closedL [x] = true := by
    obtain ⟨kA, iA, dA, rfl, hk, hi, hd⟩ := hx
    obtain ⟨_, _, _, rfl⟩ := hk.shape
    obtain ⟨_, _, _, rfl⟩ := hi.shape
    obtain ⟨_, _, _, rfl⟩ := hd.shape
    simp
  refine Ret_pureQ e6 rfl hcl ?_ hp nx
  subst hxe
  simp [c6]
  refine WCall_p (e10' _ _) ?_
  cases b
  · simp
    refine WCall_p (f11 _ _) ?_
    simp
  have hs := hb rfl
  have hs1 := hs.1
  have hs2 := hs.2.1
  have hs3 := hs.2.2
  by_cases hgood : rightS n = true ∧ upS n < n.keys.length
  case neg =>
    have hbad : rightS n = false ∨ n.keys.length ≤ upS n := by
      cases hr : rightS n
      · exact .inl rfl
      · rw [hr] at hgood; simp at hgood; exact .inr hgood
    obtain ⟨ya, yb, ha, hb', r21⟩ := f21_bad n _ hx0 (by omega) (by omega) (by omega) hbad
    obtain ⟨_, _, _, _, _, _, _, _, _, _, _, _, _, rfl⟩ := ha.shape
    obtain ⟨_, _, _, _, _, _, _, _, _, _, _, _, _, rfl⟩ := hb'.shape
    simp
    refine WCall_p (r21 _ _) ?_
    simp [spliceL]
    refine WCall_p (f18 _ _ _) ?_
    simp
    refine WCall_p (f18 _ _ _) ?_
    simp
    refine WCall_p (f11 _ _) ?_
    simp
  obtain ⟨hr, hup⟩ := hgood
  have hf := RightF.of hr
  obtain ⟨i, ya, yb, hi, hcut, ha, hbb, r21⟩ := f21 n _ hx0 (by omega) (by omega) (by omega) hr hup
  have hrise : Rise n.keys := Rise.of (by simp only [rightS, Bool.and_eq_true] at hr; exact hr.1)
  have hpos := hcut.pos
  have hle := hcut.le
  have hup1 : 1 ≤ upS n := by simp only [upS]; split <;> omega
  have hpa := right_part hr (a := 0) (b := i) (by omega) (by omega) (fun _ => by omega)
  have hpb := right_part hr (a := i + upS n - 1) (b := n.keys.length) (by omega) (by omega) (fun h => by simp only [upS, h] at hle ⊢; simp at hle ⊢; omega)
  have hlen : ∀ a b, (partS n a b).keys.length ≤ 200 ∧ (partS n a b).items.length ≤ 200 ∧ (partS n a b).kids.length ≤ 200 := by
    intro a b
    simp only [partS]
    refine ⟨by simp; omega, ?_, ?_⟩
    · split
      · simp; omega
      · simp
    · split
      · simp
      · simp; omega
  obtain ⟨la1, la2, la3⟩ := hlen 0 i
  obtain ⟨lb1, lb2, lb3⟩ := hlen (i + upS n - 1) n.keys.length
  obtain ⟨z, hz, r23⟩ := f23 _ _ ya yb ha hbb rfl n.keys[i] (by omega) (by omega) (by omega) (by omega) (by omega) (by omega)
  rw [join_parts hr hi hle] at hz
  have r22 := f22 n n z _ hz hx0 (by omega) (by omega) (by omega)
  rw [sameS_refl] at r22
  have r12a := f12 _ _ ha (by omega) (by omega) (by omega)
  have r12b := f12 _ _ hbb (by omega) (by omega) (by omega)
  rw [hpa] at r12a; rw [hpb] at r12b
  have r14 := f14 n _ hx0 (by omega) (by omega) (by omega)
  have r14a := f14 _ _ ha (by omega) (by omega) (by omega)
  have r14b := f14 _ _ hbb (by omega) (by omega) (by omega)
  have hq := quarters hr hcut
  -- the keys that are looked at
  have ka : (partS n 0 i).keys = n.keys.take i := by simp [partS]
  have kb : (partS n (i + upS n - 1) n.keys.length).keys = n.keys.drop (i + upS n - 1) := by simp [partS]
  have kal : (partS n 0 i).keys.length = i := by rw [ka]; simp; omega
  have ga : (partS n 0 i).keys[i - 1]? = some (n.keys[i - 1]'(by omega)) := by rw [ka, List.getElem?_take, if_pos (by omega)]; exact List.getElem?_eq_getElem (by omega)
  have hj : i + upS n - 1 < n.keys.length := by omega
  have gb : (partS n (i + upS n - 1) n.keys.length).keys[0]? = some (n.keys[i + upS n - 1]'hj) := by rw [kb, List.getElem?_drop, Nat.add_zero]; exact List.getElem?_eq_getElem hj
  have la : strLt (n.keys[i - 1]'(by omega)) n.keys[i] = true := hrise _ _ hi (by omega)
  have lb : strLt (n.keys[i + upS n - 1]'hj) n.keys[i] = false := by
    by_cases h1 : i + upS n - 1 = i
    · simp only [h1]; exact strLt_irrefl _
    · exact strLt_asymm (hrise _ _ hj (by omega))
  have hlt1 : i - 1 < n.keys.length := by omega
  obtain ⟨kp, hkp⟩ : ∃ k, k = n.keys[i - 1]'hlt1 := ⟨_, rfl⟩
  obtain ⟨kq, hkq⟩ : ∃ k, k = n.keys[i + upS n - 1]'hj := ⟨_, rfl⟩
  rw [← hkp] at ga la
  rw [← hkq] at gb lb
  clear hkp hkq
  generalize partS n 0 i = na at *
  generalize partS n (i + upS n - 1) n.keys.length = nb at *
  obtain ⟨ka1, ia1, da1, rfl, ⟨kan, kaz, kac, rfl, hkaz⟩, ⟨ian, iaz, iac, rfl, hiaz⟩, ⟨dan, daz, dac, rfl, hdaz⟩⟩ := ha
  obtain ⟨kb1, ib1, db1, rfl, ⟨kbn, kbz, kbc, rfl, hkbz⟩, ⟨ibn, ibz, ibc, rfl, hibz⟩, ⟨dbn, dbz, dbc, rfl, hdbz⟩⟩ := hbb
  obtain ⟨_, _, _, _, _, _, _, _, _, _, _, _, _, rfl⟩ := hz.shape
  have hia : iaddrA 1 (.rs kan kaz (na.keys.map keyC) kac) (.v (.int .i64 ((i - 1 : Nat) : Int))) = some (.rp (keyC kp)) := iaddr_in hkaz (by simp [ga]) rfl
  have hib : iaddrA 1 (.rs kbn kbz (nb.keys.map keyC) kbc) (.v (.int .i64 0)) = some (.rp (keyC kq)) := iaddr_in (j := 0) hkbz (by simp [gb]) rfl
  have hwi : IntKind.wrap .i64 ((na.keys.length : Int) - 1) = (i - 1 : Nat) := by rw [kal, wrap_id] <;> omega
  simp
  refine WCall_p (r21 _ _) ?_
  simp [spliceL]
  refine WCall_p (f18 _ _ _) ?_
  simp
  refine WCall_p (r23 _ _) ?_
  simp
  refine WCall_p (r22 _ _) ?_
  simp
  refine WCall_p (r12a _ _) ?_
  simp
  refine WCall_p (r12b _ _) ?_
  simp [hwi, hia, hib, keyC, la, lb, -iaddrA_rs]
  refine WCall_p (r14 _ _) ?_
  by_cases hbig : 492 < sizeS n
  · have hbig' : ¬ (sizeS n : Int) ≤ 492 := by omega
    obtain ⟨qa, qb⟩ := hq hbig
    have qa' : (123 : Int) ≤ sizeS na := by omega
    have qb' : (123 : Int) ≤ sizeS nb := by omega
    simp [hbig']
    refine WCall_p (r14a _ _) ?_
    simp [qa']
    refine WCall_p (r14b _ _) ?_
    simp [qb']
    refine WCall_p (f11 _ _) ?_
    simp
  · have hbig' : (sizeS n : Int) ≤ 492 := by omega
    simp [hbig']
    refine WCall_p (f11 _ _) ?_
    simp
end Go.Ai
