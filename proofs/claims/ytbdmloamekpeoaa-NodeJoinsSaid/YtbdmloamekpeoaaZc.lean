/- Are two nodes the same? -/
import Derived.Test.YtbdmloamekpeoaaZb
namespace Go.Ai
set_option linter.unusedVariables false
set_option linter.unusedSimpArgs false

noncomputable def sameS (a b : Nd) : Bool := @decide (a = b) (Classical.propDecidable _)
theorem sameS_true {a b : Nd} (h : a = b) : sameS a b = true := by simp [sameS, h]
theorem sameS_false {a b : Nd} (h : a ≠ b) : sameS a b = false := by simp [sameS, h]
theorem sameS_refl (a : Nd) : sameS a a = true := sameS_true rfl

theorem same_upto {α : Type} {a b : List α} (hl : a.length = b.length) (h : ∀ i (h1 : i < a.length) (h2 : i < b.length), a[i] = b[i]) : a = b := List.ext_getElem hl fun i h1 h2 => h i h1 h2

theorem f22 (a b : Nd) (x y : AV) (hx : NdA a x) (hy : NdA b y) (h1 : a.keys.length ≤ 100000) (h2 : a.items.length ≤ 100000) (h3 : a.kids.length ≤ 100001) (hp nx) :
    Ret E 22 [x, y] hp nx (.v (.bool (sameS a b))) hp nx .p := by
  obtain ⟨aleaf, akeys, aitems, akids⟩ := a
  obtain ⟨bleaf, bkeys, bitems, bkids⟩ := b
  obtain ⟨kA, iA, dA, rfl, ⟨akn, aksz, akc, rfl, akz⟩, ⟨ain, aisz, aic, rfl, aiz⟩, ⟨adn, adsz, adc, rfl, adz⟩⟩ := hx
  obtain ⟨kB, iB, dB, rfl, ⟨bkn, bksz, bkc, rfl, bkz⟩, ⟨bin, bisz, bic, rfl, biz⟩, ⟨bdn, bdsz, bdc, rfl, bdz⟩⟩ := hy
  simp only at h1 h2 h3 akz aiz adz bkz biz bdz
  refine Ret_pureQ e22 rfl (by simp) ?_ hp nx
  have no : ∀ {v : Bool}, (Nd.mk aleaf akeys aitems akids ≠ Nd.mk bleaf bkeys bitems bkids) → sameS ⟨aleaf, akeys, aitems, akids⟩ ⟨bleaf, bkeys, bitems, bkids⟩ = false := fun h => sameS_false h
  by_cases g0 : aleaf = bleaf
  case neg =>
    have e : (aleaf == bleaf) = false := by simpa using g0
    simp [c22, e, no (v := true) (fun h => g0 (congrArg Nd.leaf h))]
  have e0 : (aleaf == bleaf) = true := by simpa using g0
  by_cases g1 : akeys.length = bkeys.length
  case neg =>
    have g1' : ¬ (akeys.length : Int) = bkeys.length := by omega
    simp [c22, e0, g1', no (v := true) (fun h => g1 (congrArg (·.keys.length) h))]
  have g1' : (akeys.length : Int) = bkeys.length := by omega
  by_cases g2 : aitems.length = bitems.length
  case neg =>
    have g2' : ¬ (aitems.length : Int) = bitems.length := by omega
    simp [c22, e0, g1', g2', no (v := true) (fun h => g2 (congrArg (·.items.length) h))]
  have g2' : (aitems.length : Int) = bitems.length := by omega
  by_cases g3 : akids.length = bkids.length
  case neg =>
    have g3' : ¬ (akids.length : Int) = bkids.length := by omega
    simp [c22, e0, g1', g2', g3', no (v := true) (fun h => g3 (congrArg (·.kids.length) h))]
  have g3' : (akids.length : Int) = bkids.length := by omega
  simp [c22, e0, g1', g2', g3']
  have hH : ∃ H : Heap, H = hupd (hupd hnil 0 (some [[AV.v (Value.bool aleaf), AV.rs akn aksz (akeys.map keyC) akc, AV.rs ain aisz (aitems.map Itm.cells) aic, AV.rs adn adsz (akids.map kidC) adc]])) 1
      (some [[AV.v (Value.bool bleaf), AV.rs bkn bksz (bkeys.map keyC) bkc, AV.rs bin bisz (bitems.map Itm.cells) bic, AV.rs bdn bdsz (bkids.map kidC) bdc]]) := ⟨_, rfl⟩
  obtain ⟨H, hH⟩ := hH
  rw [← hH]
  have H0 : H 0 = some [[AV.v (Value.bool aleaf), AV.rs akn aksz (akeys.map keyC) akc, AV.rs ain aisz (aitems.map Itm.cells) aic, AV.rs adn adsz (akids.map kidC) adc]] := by rw [hH]; simp
  have H1 : H 1 = some [[AV.v (Value.bool bleaf), AV.rs bkn bksz (bkeys.map keyC) bkc, AV.rs bin bisz (bitems.map Itm.cells) bic, AV.rs bdn bdsz (bkids.map kidC) bdc]] := by rw [hH]; simp
  clear hH
  refine W_loopI (I := fun (j : Nat) s => j ≤ akeys.length ∧ s.tm 5 = .int .i64 j ∧ s.tm 2 = .ptr 0 0 0 ∧ s.tm 3 = .ptr 1 0 0 ∧ s.hp = H ∧ (∀ i (u : i < akeys.length) (v : i < bkeys.length), i < j → akeys[i] = bkeys[i]))
    (fun j => akeys.length - j) 0 (by simp) ?_
  rintro j tm hp nx ⟨hj, t5, t2, t3, hH, hno⟩
  simp only at t5 t2 t3 hH
  subst hH
  by_cases hlt : j < akeys.length
  · have hlt' : (j : Int) < akeys.length := by omega
    have hltb : j < bkeys.length := by omega
    have i1 : iaddrA 1 (.rs akn aksz (akeys.map keyC) akc) (.v (.int .i64 j)) = some (.rp (keyC akeys[j])) := iaddr_in akz (by simp [hlt]) rfl
    have i2 : iaddrA 1 (.rs bkn bksz (bkeys.map keyC) bkc) (.v (.int .i64 j)) = some (.rp (keyC bkeys[j])) := iaddr_in bkz (by simp [hltb]) rfl
    have hw : IntKind.wrap .i64 ((j : Int) + 1) = (j + 1 : Nat) := by rw [wrap_id] <;> omega
    by_cases he : akeys[j] = bkeys[j]
    · simp [t5, t2, t3, H0, H1, hlt', i1, i2, -iaddrA_rs, keyC, he, hw, -Int.ofNat_lt, -Int.natCast_add]
      refine ⟨j + 1, by omega, by omega, rfl, fun i u v h => ?_⟩
      rcases Nat.lt_or_ge i j with g | g
      · exact hno i u v g
      · have : i = j := by omega
        subst this; exact he
    · simp [t5, t2, t3, H0, H1, hlt', i1, i2, -iaddrA_rs, keyC, he, -Int.ofNat_lt]
      refine no (v := true) (fun h => he ?_)
      have : akeys = bkeys := congrArg Nd.keys h
      simp [this]
  have hlt' : ¬ (j : Int) < akeys.length := by omega
  have hke : akeys = bkeys := same_upto g1 fun i u v => hno i u v (by omega)
  simp [t5, t2, t3, H0, H1, hlt', -Int.ofNat_lt]
  refine W_loopI (I := fun (j : Nat) s => j ≤ aitems.length ∧ s.tm 6 = .int .i64 j ∧ s.tm 2 = .ptr 0 0 0 ∧ s.tm 3 = .ptr 1 0 0 ∧ s.hp = hp ∧ (∀ i (u : i < aitems.length) (v : i < bitems.length), i < j → aitems[i] = bitems[i]))
    (fun j => aitems.length - j) 0 (by simp [t2, t3]) ?_
  clear t5 t2 t3 hlt hlt' hj
  rintro j tm hp nx ⟨hj, t6, t2, t3, hH, hno2⟩
  simp only at t6 t2 t3 hH
  subst hH
  by_cases hlt : j < aitems.length
  · have hlt' : (j : Int) < aitems.length := by omega
    have hltb : j < bitems.length := by omega
    have i1 : iaddrA 3 (.rs ain aisz (aitems.map Itm.cells) aic) (.v (.int .i64 j)) = some (.rp aitems[j].cells) := iaddr_in aiz (by simp [hlt]) rfl
    have i2 : iaddrA 3 (.rs bin bisz (bitems.map Itm.cells) bic) (.v (.int .i64 j)) = some (.rp bitems[j].cells) := iaddr_in biz (by simp [hltb]) rfl
    have hw : IntKind.wrap .i64 ((j : Int) + 1) = (j + 1 : Nat) := by rw [wrap_id] <;> omega
    by_cases he : aitems[j] = bitems[j]
    · simp [t6, t2, t3, H0, H1, hlt', i1, i2, -iaddrA_rs, he, hw, -Int.ofNat_lt, -Int.natCast_add]
      refine ⟨by simp [Itm.cells], ?_⟩
      simp [Itm.cells, t6, t2, t3, hw, -Int.natCast_add]
      refine ⟨j + 1, by omega, by omega, rfl, fun i u v h => ?_⟩
      rcases Nat.lt_or_ge i j with g | g
      · exact hno2 i u v g
      · have : i = j := by omega
        subst this; exact he
    · have hne : ¬ ((aitems[j].v = bitems[j].v ∧ aitems[j].p = bitems[j].p) ∧ aitems[j].s = bitems[j].s) := by
        rintro ⟨⟨u1, u2⟩, u3⟩; apply he
        generalize aitems[j] = p at *; generalize bitems[j] = q at *
        cases p; cases q; simp_all
      simp [t6, t2, t3, H0, H1, hlt', i1, i2, -iaddrA_rs, -Int.ofNat_lt]
      refine ⟨by simp [Itm.cells], by simp [Itm.cells], ?_⟩
      have hz : (!(decide (aitems[j].v = bitems[j].v) && (decide (aitems[j].p = bitems[j].p) && decide (aitems[j].s = bitems[j].s)))) = true := by
        cases hq : (decide (aitems[j].v = bitems[j].v) && (decide (aitems[j].p = bitems[j].p) && decide (aitems[j].s = bitems[j].s))) with
        | false => rfl
        | true => simp at hq; exact absurd ⟨⟨hq.1, hq.2.1⟩, hq.2.2⟩ hne
      simp [Itm.cells, -Bool.not_and, hz]
      refine no (v := true) (fun h => he ?_)
      have : aitems = bitems := congrArg Nd.items h
      simp [this]
  have hlt' : ¬ (j : Int) < aitems.length := by omega
  have hie : aitems = bitems := same_upto g2 fun i u v => hno2 i u v (by omega)
  simp [t6, t2, t3, H0, H1, hlt', -Int.ofNat_lt]
  refine W_loopI (I := fun (j : Nat) s => j ≤ akids.length ∧ s.tm 7 = .int .i64 j ∧ s.tm 2 = .ptr 0 0 0 ∧ s.tm 3 = .ptr 1 0 0 ∧ s.hp = hp ∧ (∀ i (u : i < akids.length) (v : i < bkids.length), i < j → akids[i] = bkids[i]))
    (fun j => akids.length - j) 0 (by simp [t2, t3]) ?_
  clear t6 t2 t3 hlt hlt' hj
  rintro j tm hp nx ⟨hj, t7, t2, t3, hH, hno3⟩
  simp only at t7 t2 t3 hH
  subst hH
  by_cases hlt : j < akids.length
  · have hlt' : (j : Int) < akids.length := by omega
    have hltb : j < bkids.length := by omega
    have i1 : iaddrA 1 (.rs adn adsz (akids.map kidC) adc) (.v (.int .i64 j)) = some (.rp (kidC akids[j])) := iaddr_in adz (by simp [hlt]) rfl
    have i2 : iaddrA 1 (.rs bdn bdsz (bkids.map kidC) bdc) (.v (.int .i64 j)) = some (.rp (kidC bkids[j])) := iaddr_in bdz (by simp [hltb]) rfl
    have hw : IntKind.wrap .i64 ((j : Int) + 1) = (j + 1 : Nat) := by rw [wrap_id] <;> omega
    by_cases he : akids[j] = bkids[j]
    · simp [t7, t2, t3, H0, H1, hlt', i1, i2, -iaddrA_rs, kidC, he, hw, -Int.ofNat_lt, -Int.natCast_add]
      refine ⟨j + 1, by omega, by omega, rfl, fun i u v h => ?_⟩
      rcases Nat.lt_or_ge i j with g | g
      · exact hno3 i u v g
      · have : i = j := by omega
        subst this; exact he
    · simp [t7, t2, t3, H0, H1, hlt', i1, i2, -iaddrA_rs, kidC, he, -Int.ofNat_lt]
      refine no (v := true) (fun h => he ?_)
      have : akids = bkids := congrArg Nd.kids h
      simp [this]
  have hlt' : ¬ (j : Int) < akids.length := by omega
  have hde : akids = bkids := same_upto g3 fun i u v => hno3 i u v (by omega)
  simp [t7, t2, t3, H0, H1, hlt', -Int.ofNat_lt]
  rw [g0, hke, hie, hde]; exact sameS_refl _
end Go.Ai
