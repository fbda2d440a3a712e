/- The document's Right. -/
import Derived.Test.YtbdmloamekpeoaaD
namespace Go.Ai
set_option linter.unusedVariables false
set_option linter.unusedSimpArgs false

theorem all_false {α : Type} {p : α → Bool} {l : List α} {j : Nat} (h : j < l.length) (hp : p l[j] = false) : l.all p = false := by
  cases ha : l.all p with
  | false => rfl
  | true => rw [List.all_eq_true] at ha; rw [ha _ (List.getElem_mem h)] at hp; cases hp
theorem all_true {α : Type} {p : α → Bool} {l : List α} (h : ∀ i (hi : i < l.length), p l[i] = true) : l.all p = true := by
  rw [List.all_eq_true]
  intro x hx
  obtain ⟨i, hi, rfl⟩ := List.getElem_of_mem hx
  exact h i hi

theorem f13 (n : Nd) (x : AV) (hx : NdA n x) (h1 : n.keys.length ≤ 100000) (h2 : n.items.length ≤ 100000) (h3 : n.kids.length ≤ 100000) (hp nx) :
    Ret E 13 [x] hp nx (.v (.bool (rightS n))) hp nx .p := by
  obtain ⟨kA, iA, dA, rfl, hk, hi, hd⟩ := hx
  have hk' := hk; have hi' := hi; have hd' := hd
  obtain ⟨kn, ksz, kc, rfl, hkz⟩ := hk'
  obtain ⟨in', isz, ic, rfl, hiz⟩ := hi'
  obtain ⟨dn, dsz, dc, rfl, hdz⟩ := hd'
  obtain ⟨leaf, keys, items, kids⟩ := n
  simp only at *
  refine Ret_pureQ e13 rfl (by simp) ?_ hp nx
  simp [c13]
  refine W_loopI (I := fun (j : Nat) s => j ≤ keys.length ∧ s.tm 3 = .int .i64 j ∧ s.tm 1 = .ptr 0 0 0 ∧
    s.hp = hupd hnil 0 (some [[.v (.bool leaf), .rs kn ksz (keys.map keyC) kc, .rs in' isz (items.map Itm.cells) ic, .rs dn dsz (kids.map kidC) dc]]) ∧ s.nx = 1 ∧ ∀ i, i < j → badS keys i = false)
    (fun j => keys.length - j) 0 (by simp) ?_
  rintro j tm hp nx ⟨hj, t3, t1, rfl, rfl, hno⟩
  simp only at t3 t1
  by_cases hlt : j < keys.length
  · have hget : keys[j]? = some keys[j] := List.getElem?_eq_getElem hlt
    have hgd : keys.getD j [] = keys[j] := by simp [hget]
    have hia : iaddrA 1 (.rs kn ksz (keys.map keyC) kc) (.v (.int .i64 j)) = some (.rp (keyC keys[j])) := iaddr_in hkz (by simp [hget]) rfl
    have hw : IntKind.wrap .i64 ((j : Int) + 1) = (j + 1 : Nat) := by rw [wrap_id] <;> omega
    by_cases hl : 60 < keys[j].length
    · have hl' : (60 : Int) < keys[j].length := by omega
      simp [t3, t1, hlt, -iaddrA_rs, hia, keyC, hl']
      have : badS keys j = true := by simp only [badS]; rw [hgd]; simp [hl]
      simp [rightS, keysS_false hlt this]
    · have hl' : ¬ (60 : Int) < keys[j].length := by omega
      by_cases hj0 : 0 < j
      · have hpl : j - 1 < keys.length := by omega
        have hpg : keys[j - 1]? = some keys[j - 1] := List.getElem?_eq_getElem hpl
        have hpd : keys.getD (j - 1) [] = keys[j - 1] := by simp [hpg]
        have hw1 : IntKind.wrap .i64 ((j : Int) - 1) = (j - 1 : Nat) := by rw [wrap_id] <;> omega
        have hib : iaddrA 1 (.rs kn ksz (keys.map keyC) kc) (.v (.int .i64 (j - 1 : Nat))) = some (.rp (keyC keys[j - 1])) := iaddr_in hkz (by simp [hpg]) rfl
        have hbad : badS keys j = !strLt keys[j - 1] keys[j] := by simp only [badS]; rw [hgd, hpd]; simp [hl, hj0]
        cases hs : strLt keys[j - 1] keys[j]
        · simp [t3, t1, hlt, -iaddrA_rs, hia, keyC, hl', hj0, hw1, hib, strLt_conn, hs]
          simp [rightS, keysS_false hlt (by rw [hbad, hs]; rfl)]
        · simp [t3, t1, hlt, -iaddrA_rs, hia, keyC, hl', hj0, hw1, hib, strLt_conn, hs, hw]
          refine ⟨j + 1, by omega, by omega, by simp, fun i hi => ?_⟩
          rcases Nat.lt_or_ge i j with h | h
          · exact hno i h
          · have : i = j := by omega
            subst this; rw [hbad, hs]; rfl
      · have hj0' : j = 0 := by omega
        subst hj0'
        have hia0 : iaddrA 1 (.rs kn ksz (keys.map keyC) kc) (.v (.int .i64 0)) = some (.rp (keyC keys[0])) := hia
        simp at t3
        simp [t3, t1, hlt, -iaddrA_rs, hia0, keyC, hl']
        refine ⟨1, by omega, by omega, by decide, fun i hi => ?_⟩
        have : i = 0 := by omega
        subst this
        simp only [badS]; rw [hgd]; simp; omega
  · have : j = keys.length := by omega
    subst this
    have hks := keysS_true hno
    have hw : IntKind.wrap .i64 ((keys.length : Int) + 1) = (keys.length + 1 : Nat) := by rw [wrap_id] <;> omega
    cases leaf
    · by_cases ha : 0 < keys.length
      · have ha2 : keys ≠ [] := by rintro rfl; cases ha
        by_cases hb : kids.length = keys.length + 1
        · have hb' : (kids.length : Int) = (keys.length + 1 : Nat) := by omega
          by_cases hc : items.length = 0
          · have hc' : items = [] := List.eq_nil_of_length_eq_zero hc
            simp [t3, t1, ha2, hw, hb', hc', -Int.natCast_add]
            refine W_loopI (I := fun (j : Nat) s => j ≤ kids.length ∧ s.tm 5 = .int .i64 j ∧ s.tm 1 = .ptr 0 0 0 ∧
              s.hp = hupd hnil 0 (some [[.v (.bool false), .rs kn ksz (keys.map keyC) kc, .rs in' isz (items.map Itm.cells) ic, .rs dn dsz (kids.map kidC) dc]]) ∧ s.nx = 1 ∧ ∀ i (hi : i < kids.length), i < j → kidS kids[i] = true)
              (fun j => kids.length - j) 0 (by simp [t1, hc']) ?_
            rintro j tm hp nx ⟨hj, t5, t1, rfl, rfl, hno⟩
            simp only at t5 t1
            by_cases hlt : j < kids.length
            · have hget : kids[j]? = some kids[j] := List.getElem?_eq_getElem hlt
              have hia : iaddrA 1 (.rs dn dsz (kids.map kidC) dc) (.v (.int .i64 j)) = some (.rp (kidC kids[j])) := iaddr_in hdz (by simp [hget]) rfl
              have hw : IntKind.wrap .i64 ((j : Int) + 1) = (j + 1 : Nat) := by rw [wrap_id] <;> omega
              simp [t5, t1, hlt, -iaddrA_rs, hia, kidC]
              refine WCall_p (f34 _ _ _) ?_
              cases hq : kidS kids[j]
              · simp
                simp [rightS, bodyS, all_false hlt hq]
              · simp [t5, t1, hw]
                refine ⟨j + 1, by omega, by omega, by simp, fun i hi hi2 => ?_⟩
                rcases Nat.lt_or_ge i j with h | h
                · exact hno i hi h
                · have : i = j := by omega
                  subst this; exact hq
            · have : j = kids.length := by omega
              subst this
              simp [t5, t1]
              simp [rightS, hks, bodyS, ha, hb, hc, all_true fun i hi => hno i hi hi]
          · have hc' : items ≠ [] := by rintro rfl; exact hc rfl
            simp [t3, t1, ha2, hw, hb', hc', List.length_pos_iff, -Int.natCast_add]
            simp [rightS, hks, bodyS, ha, hb, hc']
        · have hb' : ¬ (kids.length : Int) = (keys.length + 1 : Nat) := by omega
          simp [t3, t1, ha2, hw, hb', -Int.natCast_add]
          simp [rightS, hks, bodyS, ha, hb]
      · have ha2 : keys = [] := List.eq_nil_of_length_eq_zero (by omega)
        subst ha2
        simp [t3, t1]
        simp [rightS, bodyS]
    · by_cases ha : items.length = keys.length
      · have ha' : (items.length : Int) = keys.length := by omega
        by_cases hb : kids.length = 0
        · have hb' : kids = [] := List.eq_nil_of_length_eq_zero hb
          simp [t3, t1, ha', hb']
          refine W_loopI (I := fun (j : Nat) s => j ≤ items.length ∧ s.tm 4 = .int .i64 j ∧ s.tm 1 = .ptr 0 0 0 ∧
            s.hp = hupd hnil 0 (some [[.v (.bool true), .rs kn ksz (keys.map keyC) kc, .rs in' isz (items.map Itm.cells) ic, .rs dn dsz (kids.map kidC) dc]]) ∧ s.nx = 1 ∧ ∀ i (hi : i < items.length), i < j → itemS items[i] = true)
            (fun j => items.length - j) 0 (by simp [t1, hb']) ?_
          rintro j tm hp nx ⟨hj, t4, t1, rfl, rfl, hno⟩
          simp only at t4 t1
          by_cases hlt : j < items.length
          · have hget : items[j]? = some items[j] := List.getElem?_eq_getElem hlt
            have hia : iaddrA 3 (.rs in' isz (items.map Itm.cells) ic) (.v (.int .i64 j)) = some (.rp items[j].cells) := iaddr_in hiz (by simp [hget]) rfl
            have hw : IntKind.wrap .i64 ((j : Int) + 1) = (j + 1 : Nat) := by rw [wrap_id] <;> omega
            simp [t4, t1, hlt, -iaddrA_rs, hia]
            refine ⟨by simp [Itm.cells], ?_⟩
            simp [Itm.cells]
            refine WCall_p (f33 _ _ _) ?_
            cases hq : itemS items[j]
            · simp
              simp [rightS, bodyS, all_false hlt hq]
            · simp [t4, t1, hw]
              refine ⟨j + 1, by omega, by omega, by simp, fun i hi hi2 => ?_⟩
              rcases Nat.lt_or_ge i j with h | h
              · exact hno i hi h
              · have : i = j := by omega
                subst this; exact hq
          · have : j = items.length := by omega
            subst this
            simp [t4, t1]
            simp [rightS, hks, bodyS, ha, hb, all_true fun i hi => hno i hi hi]
        · have hb' : kids ≠ [] := by rintro rfl; exact hb rfl
          simp [t3, t1, ha', hb', List.length_pos_iff]
          simp [rightS, hks, bodyS, ha, hb']
      · have ha' : ¬ (items.length : Int) = keys.length := by omega
        simp [t3, t1, ha']
        simp [rightS, hks, bodyS, ha]
end Go.Ai
