/- The statements SeqsetHas and SeqsetNorms. -/
import Derived.Test.YtcnaelknemednaaV
namespace Go.Ai
set_option linter.unusedVariables false
set_option linter.unusedSimpArgs false

theorem f4 (l : List Sp) (x : AV) (hx : SlA 2 (l.map cellsP) x) (am : List Int) (y : AV) (hy : SlA 1 (am.map kidC) y) (most : Int) (hp nx) : Ret E 4 [x, .v (.int .i64 most), y] hp nx (.v (.bool true)) hp nx .p := by
  obtain ⟨nil, sz, cap, rfl, hz⟩ := id hx
  obtain ⟨nil2, sz2, cap2, rfl, hz2⟩ := id hy
  refine Ret_pureQ e4 rfl (by simp) ?_ hp nx
  by_cases k1 : 1200 < l.length
  · have k1' : (1200 : Int) < l.length := by omega
    simp [c4, k1']
    exact WCall_p (f7 _ _) (by simp)
  · have k1' : ¬ (1200 : Int) < l.length := by omega
    by_cases k2 : 300 < am.length
    · have k2' : (300 : Int) < am.length := by omega
      simp [c4, k1', k2']
      exact WCall_p (f7 _ _) (by simp)
    · have k2' : ¬ (300 : Int) < am.length := by omega
      obtain ⟨v1, a1, b1⟩ := f13 l _ hx (by omega) am _ hy (by omega) most
      obtain ⟨v2, a2, b2⟩ := f14 l _ hx (by omega) am _ hy (by omega) most
      have hfl : (am.filter fun n => hasS l n most).length ≤ am.length := List.length_filter_le _ _
      have b3 := f12 _ _ v1 v2 a1 a2 (by omega) (by omega)
      simp only [decide_true] at b3
      simp [c4, k1', k2']
      refine WCall_p (b1 _ _) ?_
      simp
      refine WCall_p (b2 _ _) ?_
      simp
      refine WCall_p (b3 _ _) ?_
      simp
      refine W_loopI (I := fun (j : Nat) s => j ≤ am.length ∧ s.tm 30 = .v (.int .i64 j) ∧ s.tm 29 = .v (.int .i64 am.length) ∧ s.tm 28 = .rs nil2 sz2 (am.map kidC) cap2 ∧ s.tm 0 = .rs nil sz (l.map cellsP) cap ∧ s.tm 1 = .v (.int .i64 most) ∧ s.hp = hnil ∧ s.nx = 0) (fun j => am.length - j) 0 (by simp) ?_
      rintro j tm hp nx ⟨hj, h30, h29, h28, h0, h1, rfl, rfl⟩
      simp only at h30 h29 h28 h0 h1
      by_cases hlt : j < am.length
      · have hia : iaddrA 1 (.rs nil2 sz2 (am.map kidC) cap2) (.v (.int .i64 j)) = some (.rp (kidC am[j])) := iaddr_in hz2 (by simp [hlt]) rfl
        have hw : IntKind.wrap .i64 ((j : Int) + 1) = (j + 1 : Nat) := by rw [wrap_id] <;> omega
        generalize am[j] = n at *
        simp [h30, h29, h28, h0, h1, hlt, -iaddrA_rs, hia, kidC]
        refine WCall_p (f15 l _ hx (by omega) n most _ _) ?_
        simp [h0, h1]
        refine WCall_p (f16 l _ hx (by omega) n most _ _) ?_
        simp [h30, h29, h28, h0, h1, hw]
        exact ⟨j + 1, by omega, by omega, by simp⟩
      · have : j = am.length := by omega
        subst this
        simp [h30, h29]
        exact WCall_p (f7 _ _) (by simp)

theorem norm_len (l : List Sp) (most : Int) : (normS l most).length ≤ l.length := by
  rw [normS, joinL_eq]
  have h := foldlB_len (srtS (l.filterMap (clipS most))) []
  rw [srt_len] at h
  have h2 := filterMap_len (clipS most) l
  simp at h ⊢
  omega

theorem f5 (l : List Sp) (x : AV) (hx : SlA 2 (l.map cellsP) x) (am : List Int) (y : AV) (hy : SlA 1 (am.map kidC) y) (most : Int) (hp nx) : Ret E 5 [x, .v (.int .i64 most), y] hp nx (.v (.bool true)) hp nx .p := by
  obtain ⟨nil, sz, cap, rfl, hz⟩ := id hx
  obtain ⟨nil2, sz2, cap2, rfl, hz2⟩ := id hy
  refine Ret_pureQ e5 rfl (by simp) ?_ hp nx
  by_cases k1 : 300 < l.length
  · have k1' : (300 : Int) < l.length := by omega
    simp [c5, k1']
    exact WCall_p (f7 _ _) (by simp)
  · have k1' : ¬ (300 : Int) < l.length := by omega
    by_cases k2 : 300 < am.length
    · have k2' : (300 : Int) < am.length := by omega
      simp [c5, k1', k2']
      exact WCall_p (f7 _ _) (by simp)
    · have k2' : ¬ (300 : Int) < am.length := by omega
      simp [c5, k1', k2']
      refine W_loopI (I := fun (j : Nat) s => j ≤ l.length ∧ s.tm 19 = .v (.int .i64 j) ∧ s.tm 18 = .v (.int .i64 l.length) ∧ s.tm 2 = .rs nil2 sz2 (am.map kidC) cap2 ∧ s.tm 0 = .rs nil sz (l.map cellsP) cap ∧ s.tm 1 = .v (.int .i64 most) ∧ s.hp = hnil ∧ s.nx = 0 ∧ ∀ z ∈ l.take j, 0 ≤ z.1 ∧ 0 ≤ z.2) (fun j => l.length - j) 0 (by simp) ?_
      rintro j tm hp nx ⟨hj, h19, h18, h2, h0, h1, rfl, rfl, hpos⟩
      simp only at h19 h18 h2 h0 h1
      by_cases hlt : j < l.length
      · have hia : iaddrA 2 (.rs nil sz (l.map cellsP) cap) (.v (.int .i64 j)) = some (.rp (cellsP l[j])) := iaddr_in hz (by simp [hlt]) rfl
        have hw : IntKind.wrap .i64 ((j : Int) + 1) = (j + 1 : Nat) := by rw [wrap_id] <;> omega
        have htk : ∀ z ∈ l.take (j + 1), z ∈ l.take j ∨ z = l[j] := by
          intro z hz
          rw [List.take_add_one, List.getElem?_eq_getElem hlt] at hz
          rcases List.mem_append.1 hz with hz | hz
          · exact .inl hz
          · exact .inr (by simpa using hz)
        obtain ⟨a, b, hab⟩ : ∃ a b, l[j] = (a, b) := ⟨_, _, rfl⟩
        rw [hab] at hia htk
        by_cases q1 : a < 0
        · simp [h19, h18, h0, hlt, -iaddrA_rs, hia, cellsP, q1]
          exact WCall_p (f7 _ _) (by simp)
        · by_cases q2 : b < 0
          · simp [h19, h18, h0, hlt, -iaddrA_rs, hia, cellsP, q1, q2]
            exact WCall_p (f7 _ _) (by simp)
          · simp [h19, h18, h0, hlt, -iaddrA_rs, hia, cellsP, q1, q2, hw]
            refine ⟨j + 1, by omega, by omega, by simp, h2, h1, fun u w hz => ?_⟩
            rcases htk (u, w) hz with h | h
            · exact hpos (u, w) h
            · cases h; exact ⟨by omega, by omega⟩
      · have : j = l.length := by omega
        subst this
        simp only [List.take_length] at hpos
        obtain ⟨v1, a1, b1⟩ := f17 l _ hx (by omega) most
        obtain ⟨v2, a2, b2⟩ := f18 l hpos _ hx (by omega) most
        obtain ⟨v3, a3, b3⟩ := f19 am _ hy (by omega)
        obtain ⟨v4, a4, b4⟩ := f20 am _ hy (by omega)
        have n1 := norm_len l most
        have n2 := norm_len (am.filterMap oneS) 0
        have n3 := filterMap_len oneS am
        have b5 := f10 _ _ v1 v2 a1 a2 (by omega) (by omega)
        have b6 := f10 _ _ v3 v4 a3 a4 (by simp only [ofS]; omega) (by omega)
        simp only [decide_true, ofS] at b5 b6
        simp [h19, h18, h0, h1, h2]
        refine WCall_p (b1 _ _) ?_
        simp [h0, h1, h2]
        refine WCall_p (b2 _ _) ?_
        simp
        refine WCall_p (b5 _ _) ?_
        simp [h2]
        refine WCall_p (b3 _ _) ?_
        simp [h2]
        refine WCall_p (b4 _ _) ?_
        simp
        refine WCall_p (b6 _ _) ?_
        simp
        exact WCall_p (f7 _ _) (by simp)
end Go.Ai
